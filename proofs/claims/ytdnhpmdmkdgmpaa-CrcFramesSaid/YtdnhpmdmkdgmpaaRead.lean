/-
  How a varint is read, in plain Lean, and the walks of must and of the thrower readUint. No condition but that the bytes read as such.
-/
import Derived.Test.YtdnhpmdmkdgmpaaRefC
namespace Go.Proofs.Ytdnhpmdmkdgmpaa
open Go.RowKit

def rdU (b : List UInt8) : Nat → Nat → Nat → Except Int (Nat × Nat)
  | 0, _, _ => .error 21
  | f + 1, i, acc => match b[i]? with
    | none => .error 20
    | some x => if i = 9 ∧ 1 < x.toNat then .error 21 else
        if x.toNat < 128 then (if i ≠ 0 ∧ x.toNat = 0 then .error 21 else .ok (acc + x.toNat % 128 * 2 ^ (7 * i), i + 1))
        else rdU b f (i + 1) (acc + x.toNat % 128 * 2 ^ (7 * i))
def readU (b : List UInt8) : Except Int (Nat × Nat) := rdU b 10 0 0

/-- what is thrown -/
def failure (c : Int) : List PanicEntry := [{ v := .iface 97 (.agg #[.int .i64 c]), recovered := false }]

theorem must_true (c : Int) (w : World) : Calls Try.prog 45 #[.bool true, .int .i64 c] w fun e w' => e = .returned (.tuple #[]) ∧ w = w' := by
  go_enter Try.func45, Try.ntmps45
  go_wp2
  go_end0
  exact ⟨rfl, rfl⟩

theorem must_false (c : Int) (w : World) : Calls Try.prog 45 #[.bool false, .int .i64 c] w fun e w' => e = .panicked (failure c) ∧ w = w' := by
  go_enter Try.func45, Try.ntmps45
  go_wp2
  exact ⟨rfl, rfl, rfl⟩

theorem ofInt_u64 (a : Nat) (ha : a < 18446744073709551616) : (BitVec.ofInt 64 (a : Int)).toNat = a := by
  rw [BitVec.ofInt_natCast, BitVec.toNat_ofNat]; exact Nat.mod_eq_of_lt (by omega)
theorem or_u64_nat (a b : Nat) (ha : a < 18446744073709551616) (hb : b < 18446744073709551616) : bits .or .u64 (a : Int) (b : Int) = ((a ||| b : Nat) : Int) := by
  have hx : a ||| b < 2 ^ 64 := Nat.or_lt_two_pow (by omega) (by omega)
  show IntKind.u64.wrap ((BitVec.ofInt 64 (a : Int) ||| BitVec.ofInt 64 (b : Int)).toNat : Int) = _
  rw [BitVec.toNat_or, ofInt_u64 a ha, ofInt_u64 b hb]
  simp [IntKind.wrap, IntKind.bits, IntKind.signed]
  omega

theorem and127_all : ∀ x : Nat, x < 256 → bits BinOp.and IntKind.u8 (x : Int) 127 = ((x % 128 : Nat) : Int) := by decide +kernel
theorem wrap_u64_nat (a : Nat) (h : a < 18446744073709551616) : IntKind.u64.wrap (a : Int) = (a : Int) := by
  simp [IntKind.wrap, IntKind.bits, IntKind.signed]
  omega
/-- one byte more -/
theorem step_u64 (acc i : Nat) (x : UInt8) (ha : acc < 2 ^ (7 * i)) (hi : i ≤ 9) (h9 : i = 9 → x.toNat ≤ 1) :
    bits BinOp.or IntKind.u64 (acc : Int) (IntKind.u64.wrap (IntKind.u64.wrap (bits BinOp.and IntKind.u8 (x.toNat : Int) 127) * 2 ^ (7 * i))) = ((acc + x.toNat % 128 * 2 ^ (7 * i) : Nat) : Int) := by
  have hx := x.toNat_lt
  rw [and127_all _ (by omega), wrap_u64_nat _ (by omega)]
  have hp : (2 : Nat) ^ (7 * i) ≤ 2 ^ 63 := Nat.pow_le_pow_right (by omega) (by omega)
  have h63 : (2 : Nat) ^ 63 = 9223372036854775808 := by decide +kernel
  have hb : x.toNat % 128 * 2 ^ (7 * i) < 18446744073709551616 := by
    by_cases h : i = 9
    · have h1 : x.toNat % 128 ≤ 1 := by have := h9 h; omega
      have := Nat.mul_le_mul h1 hp
      omega
    · have hp2 : (2 : Nat) ^ (7 * i) ≤ 2 ^ 56 := Nat.pow_le_pow_right (by omega) (by omega)
      have h56 : (2 : Nat) ^ 56 = 72057594037927936 := by decide +kernel
      have := Nat.mul_le_mul (show x.toNat % 128 ≤ 127 by omega) hp2
      omega
  have hc : ((x.toNat % 128 : Nat) : Int) * 2 ^ (7 * i) = ((x.toNat % 128 * 2 ^ (7 * i) : Nat) : Int) := by simp
  rw [hc, wrap_u64_nat _ hb, or_u64_nat _ _ (by omega) hb, or_add _ _ _ ha]

theorem step_lt (acc i y : Nat) (ha : acc < 2 ^ (7 * i)) (hy : y < 128) : acc + y * 2 ^ (7 * i) < 2 ^ (7 * (i + 1)) := by
  rw [show 7 * (i + 1) = 7 * i + 7 by omega, Nat.pow_add, show (2 : Nat) ^ 7 = 128 by decide]
  generalize 2 ^ (7 * i) = p at *
  have h1 : y * p ≤ 127 * p := Nat.mul_le_mul_right p (by omega)
  omega

/-- what a reading call tells -/
def Tells (r : Except Int (Nat × Nat)) (e : Ending) : Prop :=
  match r with
  | .ok (v, n) => e = .returned (.tuple #[.int .u64 (v : Int), .int .i64 (n : Int)])
  | .error c => e = .panicked (failure c)

set_option maxRecDepth 100000 in
set_option maxHeartbeats 2000000 in
theorem readUint_any (b : List UInt8) (A : Option Addr) (n c B : Nat) (w : World) (h : Bs w B A n c b) : Calls Try.prog 39 #[.slice A n c] w fun e w' => Tells (readU b) e ∧ w = w' := by
  have hr := h.reach
  have hlen := hide h.len
  go_enter Try.func39, Try.ntmps39
  go_wp2
  go_loop [4, 6] (fun t4 t6 => ∃ (i acc : Nat), i ≤ 10 ∧ t6 = .int .i64 (i : Int) ∧ t4 = .int .u64 (acc : Int) ∧ acc < 2 ^ (7 * i) ∧ rdU b (10 - i) i acc = readU b) (fun _ t6 => 10 - (intOf t6).toNat)
  case atStart => exact ⟨0, 0, by omega, rfl, rfl, by simp, rfl⟩
  case round =>
    obtain ⟨i, acc, hi, rfl, rfl, hacc, he⟩ := hrel
    by_cases h10 : i = 10
    · subst h10
      have hT : Tells (readU b) (.panicked (failure 21)) := by rw [← he]; rfl
      go_wp2
      exact ⟨rfl, hT, rfl⟩
    · have he2 : rdU b (10 - i) i acc = rdU b ((9 - i) + 1) i acc := by rw [show 10 - i = (9 - i) + 1 by omega]
      rw [he2, rdU] at he
      clear he2
      by_cases hin : i < n
      · have hib : i < b.length := by rw [hlen.out]; exact hin
        rw [List.getElem?_eq_getElem hib] at he
        obtain ⟨bk, off, rfl, hbk, hc⟩ := h.at_ (by omega)
        have hci := hc i hib
        have hx := u8_lt b[i]
        generalize b[i] = x at *
        simp only at he
        clear hc
        have hacc2 := hide (step_lt acc i (x.toNat % 128) hacc (Nat.mod_lt _ (by decide)))
        have hstep := fun h9 => step_u64 acc i x hacc (by omega) h9
        generalize acc + x.toNat % 128 * 2 ^ (7 * i) = acc' at *
        clear hacc
        by_cases h9 : i < 9
        · rw [if_neg (by omega)] at he
          have hst := hstep (by omega)
          clear hstep
          by_cases hx8 : x.toNat < 128
          · rw [if_pos hx8] at he
            have He := hide he
            clear he
            go_wp2_with fail
            refine (must_true _ _).mono ?_
            rintro e w' ⟨rfl, rfl⟩
            go_wp2_with fail
            refine (must_true _ _).mono ?_
            rintro e w' ⟨rfl, rfl⟩
            go_wp2_with fail
            · obtain rfl : i = 0 := by omega
              have hT : Tells (readU b) (.returned (.tuple #[.int .u64 (acc' : Int), .int .i64 1])) := by rw [← He.out, if_neg (by omega)]; simp [Tells]
              refine (must_true _ _).mono ?_
              rintro e w' ⟨rfl, rfl⟩
              go_wp2
              go_ret2
              exact ⟨hT, rfl⟩
            · by_cases h0 : i ≠ 0 ∧ x.toNat = 0
              · have hT : Tells (readU b) (.panicked (failure 21)) := by rw [← He.out, if_pos h0]; rfl
                rw [show ((i : Int) == 0 || (x.toNat : Int) != 0) = false by simp; omega]
                refine (must_false _ _).mono ?_
                rintro e w' ⟨rfl, rfl⟩
                exact ⟨rfl, hT, rfl⟩
              · have hT : Tells (readU b) (.returned (.tuple #[.int .u64 (acc' : Int), .int .i64 ((i : Int) + 1)])) := by rw [← He.out, if_neg h0]; simp [Tells]
                rw [show ((i : Int) == 0 || (x.toNat : Int) != 0) = true by simp; omega]
                refine (must_true _ _).mono ?_
                rintro e w' ⟨rfl, rfl⟩
                go_wp2
                go_ret2
                exact ⟨hT, rfl⟩
          · rw [if_neg hx8] at he
            have He := hide he
            clear he
            go_wp2_with fail
            refine (must_true _ _).mono ?_
            rintro e w' ⟨rfl, rfl⟩
            go_wp2_with fail
            refine (must_true _ _).mono ?_
            rintro e w' ⟨rfl, rfl⟩
            go_wp2_with fail
            go_round
            case rel => exact ⟨i + 1, acc', by omega, by simp, rfl, hacc2.out, by rw [show 10 - (i + 1) = 9 - i by omega]; exact He.out⟩
            case measure => simp [intOf]; omega
        · have h99 := hide (show i = 9 by omega)
          by_cases h1 : 1 < x.toNat
          · rw [if_pos ⟨h99.out, h1⟩] at he
            have hT : Tells (readU b) (.panicked (failure 21)) := by rw [← he]; rfl
            have HT := hide hT
            clear he hT hstep
            go_wp2_with fail
            refine (must_true _ _).mono ?_
            rintro e w' ⟨rfl, rfl⟩
            go_wp2_with fail
            rw [show (decide ((i : Int) < 9) || decide ((x.toNat : Int) ≤ 1)) = false by simp; omega]
            refine (must_false _ _).mono ?_
            rintro e w' ⟨rfl, rfl⟩
            exact ⟨rfl, HT.out, rfl⟩
          · rw [if_neg (by omega), if_pos (show x.toNat < 128 by omega)] at he
            have hst := hstep (by omega)
            have He := hide he
            clear he hstep
            have hle : (x.toNat : Int) ≤ 1 := by omega
            have hlt : (x.toNat : Int) < 128 := by omega
            go_wp2_with fail
            refine (must_true _ _).mono ?_
            rintro e w' ⟨rfl, rfl⟩
            go_wp2_with fail
            refine (must_true _ _).mono ?_
            rintro e w' ⟨rfl, rfl⟩
            go_wp2_with fail
            by_cases h0 : x.toNat = 0
            · have hT : Tells (readU b) (.panicked (failure 21)) := by rw [← He.out, if_pos ⟨by omega, h0⟩]; rfl
              rw [show ((i : Int) == 0 || (x.toNat : Int) != 0) = false by simp; omega]
              refine (must_false _ _).mono ?_
              rintro e w' ⟨rfl, rfl⟩
              exact ⟨rfl, hT, rfl⟩
            · have hT : Tells (readU b) (.returned (.tuple #[.int .u64 (acc' : Int), .int .i64 ((i : Int) + 1)])) := by rw [← He.out, if_neg (by omega)]; simp [Tells]
              rw [show ((i : Int) == 0 || (x.toNat : Int) != 0) = true by simp; omega]
              refine (must_true _ _).mono ?_
              rintro e w' ⟨rfl, rfl⟩
              go_wp2
              go_ret2
              exact ⟨hT, rfl⟩
      · have hT : Tells (readU b) (.panicked (failure 20)) := by
          rw [← he, List.getElem?_eq_none (by rw [hlen.out]; omega)]; rfl
        go_wp2_with fail
        refine (must_false _ _).mono ?_
        rintro e w' ⟨rfl, rfl⟩
        exact ⟨rfl, hT, rfl⟩

end Go.Proofs.Ytdnhpmdmkdgmpaa

/-
  The walk of the reference's ReadUint. Condition: the bytes read as such.
-/
import Derived.Test.YtdnhpmdmkdgmpaaReadU
namespace Go.Proofs.Ytdnhpmdmkdgmpaa
open Go.RowKit

/-- one byte more, as the reference spells it -/
theorem step_ref (acc i : Nat) (x : UInt8) (ha : acc < 2 ^ (7 * i)) (hi : i ≤ 9) (h9 : i = 9 → x.toNat ≤ 1) :
    bits BinOp.or IntKind.u64 (acc : Int) (IntKind.u64.wrap ((x.toNat : Int) % 128 * 2 ^ (7 * i))) = ((acc + x.toNat % 128 * 2 ^ (7 * i) : Nat) : Int) := by
  have h := step_u64 acc i x ha hi h9
  rw [and127_all _ (by have := x.toNat_lt; omega), wrap_u64_nat _ (by omega)] at h
  rw [← h]
  simp

set_option maxRecDepth 100000 in
set_option maxHeartbeats 2000000 in
theorem refreadu_any (b : List UInt8) (A : Option Addr) (n c B : Nat) (w : World) (h : Bs w B A n c b) : Calls Try.prog 35 #[.slice A n c] w fun e w' => AnsU (readU b) e ∧ w = w' := by
  have hr := h.reach
  have hlen := hide h.len
  go_enter Try.func35, Try.ntmps35
  go_wp2
  go_loop [5, 6] (fun t5 t6 => ∃ (i acc : Nat), i ≤ 9 ∧ t6 = .int .i64 (i : Int) ∧ t5 = .int .u64 (acc : Int) ∧ acc < 2 ^ (7 * i) ∧ rdU b (10 - i) i acc = readU b) (fun _ t6 => 10 - (intOf t6).toNat)
  case atStart => exact ⟨0, 0, by omega, rfl, rfl, by simp, rfl⟩
  case round =>
    obtain ⟨i, acc, hi, rfl, rfl, hacc, he⟩ := hrel
    have he2 : rdU b (10 - i) i acc = rdU b ((9 - i) + 1) i acc := by rw [show 10 - i = (9 - i) + 1 by omega]
    rw [he2, rdU] at he
    clear he2
    by_cases hin : i < n
    · have hib : i < b.length := by rw [hlen.out]; exact hin
      rw [List.getElem?_eq_getElem hib] at he
      obtain ⟨bk, off, rfl, hbk, hc⟩ := h.at_ (by omega)
      have hci := hc i hib
      have hx := u8_lt b[i]
      generalize b[i] = x at *
      simp only at he
      clear hc
      have hacc2 := hide (step_lt acc i (x.toNat % 128) hacc (Nat.mod_lt _ (by decide)))
      have hstep := fun h9 => step_ref acc i x hacc (by omega) h9
      generalize acc + x.toNat % 128 * 2 ^ (7 * i) = acc' at *
      clear hacc
      have h10 : ¬ (i : Int) = 10 := by omega
      by_cases h9 : i = 9
      · have h99 : (i : Int) = 9 := by omega
        by_cases h1 : 1 < x.toNat
        · rw [if_pos ⟨h9, h1⟩] at he
          have HT := hide (show AnsU (readU b) (.returned (.tuple #[.int .u64 0, .int .i64 0, .int .i64 21])) by rw [← he]; rfl)
          have h1' : (1 : Int) < (x.toNat : Int) := by omega
          clear he hstep
          subst h9
          go_wp2
          go_ret3
          exact ⟨HT.out, rfl⟩
        · rw [if_neg (by omega), if_pos (show x.toNat < 128 by omega)] at he
          have hst := hstep (by omega)
          have h1' : ¬ (1 : Int) < (x.toNat : Int) := by omega
          have hlt : (x.toNat : Int) < 128 := by omega
          clear hstep
          by_cases h0 : x.toNat = 0
          · rw [if_pos ⟨by omega, h0⟩] at he
            have HT := hide (show AnsU (readU b) (.returned (.tuple #[.int .u64 0, .int .i64 0, .int .i64 21])) by rw [← he]; rfl)
            clear he
            subst h9
            have h0' : (x.toNat : Int) = 0 := by omega
            go_wp2
            go_ret3
            exact ⟨HT.out, rfl⟩
          · rw [if_neg (by omega)] at he
            subst h9
            have HT := hide (show AnsU (readU b) (.returned (.tuple #[.int .u64 (acc' : Int), .int .i64 10, .int .i64 0])) by rw [← he]; simp [AnsU])
            clear he
            have e2 : IntKind.u64.wrap ((x.toNat : Int) % 128 * 2 ^ (7 * 9)) = (x.toNat : Int) % 128 * 9223372036854775808 := by simp [IntKind.wrap, IntKind.bits, IntKind.signed]; omega
            rw [e2] at hst
            have h0' : ¬ (x.toNat : Int) = 0 := by omega
            go_wp2
            go_ret3
            exact ⟨HT.out, rfl⟩
      · have h99 : ¬ (i : Int) = 9 := by omega
        rw [if_neg (by omega)] at he
        have hst := hstep (by omega)
        clear hstep
        by_cases hx8 : x.toNat < 128
        · rw [if_pos hx8] at he
          have hlt : (x.toNat : Int) < 128 := by omega
          by_cases h0 : i ≠ 0 ∧ x.toNat = 0
          · rw [if_pos h0] at he
            have HT := hide (show AnsU (readU b) (.returned (.tuple #[.int .u64 0, .int .i64 0, .int .i64 21])) by rw [← he]; rfl)
            clear he
            have h0' : (x.toNat : Int) = 0 := by omega
            have hi0 : (0 : Int) < (i : Int) := by omega
            go_wp2
            go_ret3
            exact ⟨HT.out, rfl⟩
          · rw [if_neg h0] at he
            have HT := hide (show AnsU (readU b) (.returned (.tuple #[.int .u64 (acc' : Int), .int .i64 ((i : Int) + 1), .int .i64 0])) by rw [← he]; simp [AnsU])
            clear he
            by_cases hx0 : x.toNat = 0
            · obtain rfl : i = 0 := by omega
              have h0' : (x.toNat : Int) = 0 := by omega
              rw [h0', show IntKind.u64.wrap ((0 : Int) % 128 * 2 ^ (7 * 0)) = 0 by decide] at hst
              rw [Nat.add_zero] at hci
              go_wp2
              go_ret3
              exact ⟨HT.out, rfl⟩
            · have h0' : ¬ (x.toNat : Int) = 0 := by omega
              go_wp2
              go_ret3
              exact ⟨HT.out, rfl⟩
        · rw [if_neg hx8] at he
          have He := hide he
          clear he
          have hlt : ¬ (x.toNat : Int) < 128 := by omega
          go_wp2
          go_round
          case rel => exact ⟨i + 1, acc', by omega, by simp, rfl, hacc2.out, by rw [show 10 - (i + 1) = 9 - i by omega]; exact He.out⟩
          case measure => simp [intOf]; omega
    · have hT : AnsU (readU b) (.returned (.tuple #[.int .u64 0, .int .i64 0, .int .i64 20])) := by
        rw [← he, List.getElem?_eq_none (by rw [hlen.out]; omega)]; rfl
      have HT := hide hT
      clear hT he
      go_wp2
      go_ret3
      exact ⟨HT.out, rfl⟩

end Go.Proofs.Ytdnhpmdmkdgmpaa

/-
  The table of 256 numbers in memory; the walk of reckon, that fills it. No condition.
-/
import Derived.Test.YtdnhpmdmkdgmpaaCrc
import Derived.Test.YtdnhpmdmkdgmpaaKit
import Derived.Test.YtdnhpmdmkdgmpaaProg
import Derived.Laws.LoneSync
import Derived.Laws.Pointers
import Derived.Laws.BitsAllLaws
import Derived.Laws.Entries
namespace Go.Proofs.Ytdnhpmdmkdgmpaa
open Go.RowKit

theorem wrap_u32 (n : Int) : IntKind.u32.wrap n = n % 4294967296 := by simp [IntKind.wrap, IntKind.bits, IntKind.signed]
theorem ofInt_u32 (a : Nat) (ha : a < 4294967296) : (BitVec.ofInt 32 (a : Int)).toNat = a := by
  rw [BitVec.ofInt_natCast, BitVec.toNat_ofNat]; exact Nat.mod_eq_of_lt (by omega)
theorem xor_u32_nat (a b : Nat) (ha : a < 4294967296) (hb : b < 4294967296) : bits .xor .u32 (a : Int) (b : Int) = ((a ^^^ b : Nat) : Int) := by
  have hx : a ^^^ b < 2 ^ 32 := Nat.xor_lt_two_pow (by omega) (by omega)
  show IntKind.u32.wrap ((BitVec.ofInt 32 (a : Int) ^^^ BitVec.ofInt 32 (b : Int)).toNat : Int) = _
  rw [BitVec.toNat_xor, ofInt_u32 a ha, ofInt_u32 b hb, wrap_u32]
  omega
theorem or_u32_nat (a b : Nat) (ha : a < 4294967296) (hb : b < 4294967296) : bits .or .u32 (a : Int) (b : Int) = ((a ||| b : Nat) : Int) := by
  have hx : a ||| b < 2 ^ 32 := Nat.or_lt_two_pow (by omega) (by omega)
  show IntKind.u32.wrap ((BitVec.ofInt 32 (a : Int) ||| BitVec.ofInt 32 (b : Int)).toNat : Int) = _
  rw [BitVec.toNat_or, ofInt_u32 a ha, ofInt_u32 b hb, wrap_u32]
  omega

theorem and_one (a : Nat) (ha : a < 4294967296) : bits .and .u32 (a : Int) 1 = ((a % 2 : Nat) : Int) := by
  show IntKind.u32.wrap ((BitVec.ofInt 32 (a : Int) &&& BitVec.ofInt 32 ((1 : Nat) : Int)).toNat : Int) = _
  rw [BitVec.toNat_and, ofInt_u32 a ha, ofInt_u32 1 (by omega), wrap_u32, Nat.and_one_is_mod]
  omega

/-- the table at the block g: 'is', the Once's done and state, how often it was made, the first k numbers -/
def Tb (w : World) (g : Nat) (is dn st md : Int) (k : Nat) : Prop :=
  ∃ cs : Array Value, Blk w g 44 cs ∧ cs.size = 261 ∧ cs[0]? = some (.int .i64 is) ∧ cs[1]? = some (.int .u32 dn) ∧ cs[2]? = some (.int .i32 st) ∧ cs[4]? = some (.int .i32 md) ∧ ∀ i, i < k → cs[5 + i]? = some (.int .u32 (tab i : Int))

section
variable {w w' : World} {g : Nat} {is dn st md : Int} {k : Nat}
theorem Tb.lt (h : Tb w g is dn st md k) : g < w.heap.size := by
  obtain ⟨cs, h, _⟩ := h
  exact h.lt
theorem Tb.frozen (h : Tb w g is dn st md k) (i : Nat) : w.frozen? ⟨g, i, none⟩ = false := by
  obtain ⟨cs, h, _⟩ := h
  exact h.frozen i
theorem Tb.c0 (h : Tb w g is dn st md k) : w.cell? ⟨g, 0, none⟩ = some (.int .i64 is) := by
  obtain ⟨cs, h, _, c, _⟩ := h
  rw [h.cell, c]
theorem Tb.c1 (h : Tb w g is dn st md k) : w.cell? ⟨g, 1, none⟩ = some (.int .u32 dn) := by
  obtain ⟨cs, h, _, _, c, _⟩ := h
  rw [h.cell, c]
theorem Tb.c2 (h : Tb w g is dn st md k) : w.cell? ⟨g, 2, none⟩ = some (.int .i32 st) := by
  obtain ⟨cs, h, _, _, _, c, _⟩ := h
  rw [h.cell, c]
theorem Tb.c4 (h : Tb w g is dn st md k) : w.cell? ⟨g, 4, none⟩ = some (.int .i32 md) := by
  obtain ⟨cs, h, _, _, _, _, c, _⟩ := h
  rw [h.cell, c]
theorem Tb.row (h : Tb w g is dn st md k) {i : Nat} (hi : i < k) : w.cell? ⟨g, 5 + i, none⟩ = some (.int .u32 (tab i : Int)) := by
  obtain ⟨cs, h, _, _, _, _, _, c⟩ := h
  rw [h.cell, c i hi]
theorem Tb.any (h : Tb w g is dn st md k) {i : Nat} (hi : i < 261) : ∃ v, w.cell? ⟨g, i, none⟩ = some v := by
  obtain ⟨cs, h, hs, _⟩ := h
  exact ⟨_, by rw [h.cell]; exact Array.getElem?_eq_getElem (show i < cs.size by omega)⟩
theorem Tb.drewN (h : Tb w g is dn st md k) (n : Nat) : Tb (w.drewN n) g is dn st md k := h
theorem Tb.drew (h : Tb w g is dn st md k) : Tb w.drew g is dn st md k := h
theorem Tb.alloc (h : Tb w g is dn st md k) (o : Obj) : Tb (w.alloc o) g is dn st md k := by
  obtain ⟨cs, h, r⟩ := h
  exact ⟨cs, h.alloc o, r⟩
theorem Tb.far (h : Tb w g is dn st md k) {p : Addr} (hp : g ≠ p.block) (u : Value) : Tb (w.setCell p u) g is dn st md k := by
  obtain ⟨cs, h, r⟩ := h
  exact ⟨cs, h.far hp u, r⟩
theorem Tb.below {B : Nat} (h : Tb w g is dn st md k) (hb : Below B w w') (hg : g < B) : Tb w' g is dn st md k := by
  obtain ⟨cs, h, r⟩ := h
  exact ⟨cs, h.below hb hg, r⟩
theorem Tb.grown {row : Option Nat} (h : Tb w g is dn st md k) (hb : w.grownBy w' row) (hg : some g ≠ row) : Tb w' g is dn st md k := by
  obtain ⟨cs, h, r⟩ := h
  exact ⟨cs, h.grown hb hg, r⟩
theorem Tb.put1 (h : Tb w g is dn st md k) (x : Int) : Tb (w.setCell ⟨g, 1, none⟩ (.int .u32 x)) g is x st md k := by
  obtain ⟨cs, h, hs, c0, c1, c2, c4, c⟩ := h
  refine ⟨_, h.put 1 _, by simp [hs], by simp [c0], by simp [hs], by simp [c2], by simp [c4], fun i hi => ?_⟩
  rw [Array.getElem?_setIfInBounds_ne (by omega)]; exact c i hi
theorem Tb.put2 (h : Tb w g is dn st md k) (x : Int) : Tb (w.setCell ⟨g, 2, none⟩ (.int .i32 x)) g is dn x md k := by
  obtain ⟨cs, h, hs, c0, c1, c2, c4, c⟩ := h
  refine ⟨_, h.put 2 _, by simp [hs], by simp [c0], by simp [c1], by simp [hs], by simp [c4], fun i hi => ?_⟩
  rw [Array.getElem?_setIfInBounds_ne (by omega)]; exact c i hi
theorem Tb.put4 (h : Tb w g is dn st md k) (x : Int) : Tb (w.setCell ⟨g, 4, none⟩ (.int .i32 x)) g is dn st x k := by
  obtain ⟨cs, h, hs, c0, c1, c2, c4, c⟩ := h
  refine ⟨_, h.put 4 _, by simp [hs], by simp [c0], by simp [c1], by simp [c2], by simp [hs], fun i hi => ?_⟩
  rw [Array.getElem?_setIfInBounds_ne (by omega)]; exact c i hi
theorem Tb.fill (h : Tb w g is dn st md k) (hk : k < 256) : Tb (w.setCell ⟨g, 5 + k, none⟩ (.int .u32 (tab k : Int))) g is dn st md (k + 1) := by
  obtain ⟨cs, h, hs, c0, c1, c2, c4, c⟩ := h
  refine ⟨_, h.put (5 + k) _, by simp [hs], ?_, ?_, ?_, ?_, fun i hi => ?_⟩
  · rw [Array.getElem?_setIfInBounds_ne (by omega)]; exact c0
  · rw [Array.getElem?_setIfInBounds_ne (by omega)]; exact c1
  · rw [Array.getElem?_setIfInBounds_ne (by omega)]; exact c2
  · rw [Array.getElem?_setIfInBounds_ne (by omega)]; exact c4
  · by_cases e : i = k
    · subst e
      rw [Array.getElem?_setIfInBounds_self_of_lt (by omega)]
    · rw [Array.getElem?_setIfInBounds_ne (by omega)]; exact c i (by omega)
end

theorem grown_set {w w' : World} {g : Nat} (h : w.grownBy w' (some g)) (i : Nat) (v : Value) : w.grownBy (w'.setCell ⟨g, i, none⟩ v) (some g) :=
  ⟨h.os, h.tape, h.output, by simpa using h.size, fun k hk hn => (Below.heap_setCell w' _ v k (fun e => hn (by rw [e]))).trans (h.block k hk hn)⟩
theorem grown_drew {w w' : World} {r : Option Nat} (h : w.grownBy w' r) (n : Nat) : w.grownBy (w'.drewN n) r := ⟨h.os, h.tape, h.output, h.size, h.block⟩

theorem addi32_any (g : Nat) (is dn st : Int) (k : Nat) (w : World) (h : Tb w g is dn st 0 k) :
    Calls Try.prog 48 #[.pointer (some ⟨g, 4, none⟩), .int .i32 1] w fun e w' => e = .returned (.int .i32 1) ∧ w' = w.setCell ⟨g, 4, none⟩ (.int .i32 1) := by
  have hadd := run_call_add (P := Try.prog) Try.func54 (by kernel_rfl) (by kernel_rfl) (by kernel_rfl) .i32 (by kernel_rfl) (y := 1) (s := 1) h.c4 (h.frozen 4) (by simp [go_sem]; rfl)
  go_enter Try.func48, Try.ntmps48
  go_wp2
  go_ret
  exact ⟨rfl, rfl⟩

theorem loadi32_any (g : Nat) (is dn st md : Int) (k : Nat) (w : World) (h : Tb w g is dn st md k) :
    Calls Try.prog 23 #[.pointer (some ⟨g, 4, none⟩)] w fun e w' => e = .returned (.int .i32 md) ∧ w = w' := by
  have hl := run_call_load (P := Try.prog) Try.func36 (by kernel_rfl) (by kernel_rfl) (by kernel_rfl) .i32 (by kernel_rfl) h.c4
  go_enter Try.func23, Try.ntmps23
  go_wp2
  go_ret
  exact ⟨rfl, rfl⟩

/-- the table is filled, and has been counted -/
def Reckoned (w : World) (g : Nat) (is dn st : Int) (e : Ending) (w' : World) : Prop := e = .returned (.tuple #[]) ∧ Tb w' g is dn st 1 256 ∧ w.grownBy w' (some g)

set_option maxRecDepth 100000 in
set_option maxHeartbeats 1000000 in
theorem reckon_any (g : Nat) (is dn st : Int) (w : World) (h : Tb w g is dn st 0 0) :
    Calls Try.prog 41 #[.pointer (some ⟨g, 0, none⟩)] w (Reckoned w g is dn st) := by
  go_enter Try.func41, Try.ntmps41
  go_wp2
  go_loopw [5] (fun t5 wq => ∃ i : Nat, i ≤ 256 ∧ t5 = .int .i64 (i : Int) ∧ Tb wq g is dn st 0 i ∧ w.grownBy wq (some g)) (fun t5 _ => 256 - (intOf t5).toNat)
  case atStart => exact ⟨0, by omega, rfl, h, World.grownBy.refl _ _⟩
  case round =>
    obtain ⟨i, hi, rfl, ht, hg⟩ := hrel
    by_cases hlt : i < 256
    · go_wp2
      go_loopw [3, 10] (fun t3 t10 wq => ∃ j : Nat, j ≤ 8 ∧ t10 = .int .i64 (j : Int) ∧ t3 = .int .u32 ((turns j i : Nat) : Int) ∧ wr = wq) (fun _ t10 _ => 8 - (intOf t10).toNat)
      case atStart => exact ⟨0, by omega, rfl, rfl, rfl⟩
      case round =>
        obtain ⟨j, hj, rfl, rfl, rfl⟩ := hrel
        have hx : turns j i < 4294967296 := turns_lt j (by omega)
        by_cases hj8 : j < 8
        · have hn : turns (j + 1) i = turn1 (turns j i) := rfl
          unfold turn1 at hn
          have hxor := xor_u32_nat (turns j i / 2) 2197175160 (by omega) (by omega)
          generalize turns j i = X at *
          generalize hY : turns (j + 1) i = Y at *
          by_cases h1 : X % 2 = 1
          · rw [if_pos h1] at hn
            have q : (bits .and .u32 (X : Int) 1 == 1) = true := by rw [and_one X hx]; simp [h1]
            go_wp2
            go_roundw
            case rel => exact ⟨j + 1, by omega, by simp, by rw [hY, hn, ← hxor]; simp, trivial⟩
            case measure => simp [intOf]; omega
          · rw [if_neg h1] at hn
            have q : (bits .and .u32 (X : Int) 1 == 1) = false := by rw [and_one X hx, show X % 2 = 0 by omega]; rfl
            go_wp2
            go_roundw
            case rel => exact ⟨j + 1, by omega, by simp, by rw [hY, hn]; simp, trivial⟩
            case measure => simp [intOf]; omega
        · obtain rfl : j = 8 := by omega
          have hst := (ht.any (i := 5 + i) (by omega))
          obtain ⟨v, hv⟩ := hst
          have hf := ht.frozen (5 + i)
          have hb1 : (i : Int) < 256 := by omega
          go_wp2
          go_roundw
          case rel => exact ⟨i + 1, by omega, by simp, ht.fill hlt, grown_set hg _ _⟩
          case measure => simp [intOf]; omega
    · obtain rfl : i = 256 := by omega
      go_wp2_with fail
      refine (addi32_any g is dn st 256 _ ht).mono ?_
      rintro e w' ⟨rfl, rfl⟩
      go_wp2
      go_end0
      exact ⟨rfl, ht.put4 1, grown_set hg _ _⟩

end Go.Proofs.Ytdnhpmdmkdgmpaa

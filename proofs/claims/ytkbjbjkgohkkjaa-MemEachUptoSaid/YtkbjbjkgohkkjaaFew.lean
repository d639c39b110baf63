/-
  The walk of few: whether the pairs are few enough. Condition: the list reads as pairs; its sum wraps not.
-/
import Derived.Test.YtkbjbjkgohkkjaaRPairs
namespace Go.Proofs.Ytkbjbjkgohkkjaa
open Go.RowKit Go.Shelf

def sizeP (fs : List Pr) : Nat := (fs.map fun f => f.1.length + f.2.length).sum
theorem sizeP_take {fs : List Pr} {i : Nat} (hi : i < fs.length) : sizeP (fs.take (i + 1)) = sizeP (fs.take i) + (fs[i].1.length + fs[i].2.length) := by
  unfold sizeP
  rw [List.take_succ_eq_append_getElem hi, List.map_append, List.sum_append]
  simp
theorem sizeP_take_le (fs : List Pr) (i : Nat) : sizeP (fs.take i) ≤ sizeP fs := by
  have : sizeP fs = sizeP (fs.take i) + sizeP (fs.drop i) := by
    unfold sizeP
    rw [← List.sum_append, ← List.map_append, List.take_append_drop]
  omega

/-- a list of pairs, read, at any place of its block (an argument) -/
def ReadA (w : World) (v : Value) (fs : List Pr) : Prop :=
  ∃ A c, v = .slice A fs.length c ∧ ∀ (i : Nat) (hi : i < fs.length), ∃ g off K kl kc V vl vc, A = some ⟨g, off, none⟩ ∧ w.cell? ⟨g, off + i * 2, none⟩ = some (.slice K kl kc) ∧ w.cell? ⟨g, off + i * 2 + 1, none⟩ = some (.slice V vl vc) ∧ Bs w w.heap.size K kl kc fs[i].1 ∧ Bs w w.heap.size V vl vc fs[i].2

set_option maxRecDepth 100000 in
set_option maxHeartbeats 4000000 in
theorem few_any (fs : List Pr) (v : Value) (w : World) (h : ReadA w v fs) (hb : fs.length + sizeP fs ≤ 1000000000000) :
    Calls Try.prog 20 #[v] w fun e w' => e = .returned (.bool (decide (fs.length + sizeP fs ≤ 4000))) ∧ Below w.heap.size w w' := by
  obtain ⟨A, c, rfl, hh⟩ := h
  obtain ⟨n, hn⟩ : ∃ n, fs.length = n := ⟨_, rfl⟩
  have HN := hide hn
  have HH := hide hh
  have HT := hide (fun i => sizeP_take_le fs i)
  rw [hn] at hb ⊢
  clear hn hh
  go_enter Try.func20, Try.ntmps20
  go_wp2
  go_loopw [3, 10] (fun t3 t10 wq => ∃ i : Nat, i ≤ n ∧ t10 = .int .i64 (i : Int) ∧ t3 = .int .i64 ((n + sizeP (fs.take i) : Nat) : Int) ∧ Below w.heap.size w wq) (fun _ t10 _ => n - (intOf t10).toNat)
  case atStart => exact ⟨0, Nat.zero_le _, rfl, rfl, Below.refl _ _⟩
  case round =>
    obtain ⟨i, hi, rfl, rfl, hB⟩ := hrel
    by_cases hlt : i < n
    · have hx : i < fs.length := by have := HN.out; omega
      obtain ⟨g, off, K, kl, kc, V, vl, vc, rfl, c0, c1, b1, b2⟩ := HH.out i hx
      have l1 := b1.len
      have l2 := b2.len
      have Hs := hide (sizeP_take hx)
      have hb2 := HT.out (i + 1)
      rw [Hs.out, l1, l2] at hb2
      have hgl : g < w.heap.size := World.block_lt_of_cell? w ⟨g, off + i * 2, none⟩ c0
      have c0' : wr.cell? ⟨g, off + i * 2, none⟩ = some (.slice K kl kc) := (hB.cell (p := ⟨g, off + i * 2, none⟩) hgl).trans c0
      have c1' : wr.cell? ⟨g, off + i * 2 + 1, none⟩ = some (.slice V vl vc) := (hB.cell (p := ⟨g, off + i * 2 + 1, none⟩) hgl).trans c1
      rw [l1, l2] at Hs
      generalize sizeP (fs.take i) = sz at *
      have i0 : (0 : Int) ≤ (i : Int) := by omega
      have i1 : (i : Int) < (n : Int) := by omega
      obtain ⟨z, hz⟩ : ∃ z : Int, ((n + sz : Nat) : Int) = z := ⟨_, rfl⟩
      have hzb : 0 ≤ z ∧ z + ((kl : Int) + (vl : Int)) ≤ 1000000000000 := by omega
      rw [hz]
      have Hz := hide hz
      have hw1 : IntKind.i64.wrap ((kl : Int) + (vl : Int)) = (kl : Int) + (vl : Int) := by simp [IntKind.wrap, IntKind.bits, IntKind.signed]; omega
      have hw2 : IntKind.i64.wrap (z + ((kl : Int) + (vl : Int))) = z + ((kl : Int) + (vl : Int)) := by simp [IntKind.wrap, IntKind.bits, IntKind.signed]; omega
      have hsz := hB.size
      clear hz c0 c1 b1 b2 l1 l2 hb2
      go_wp2
      go_roundw
      case rel => exact ⟨i + 1, by omega, by simp, by rw [Hs.out]; have := Hz.out; congr 1; omega, hB.alloc hsz _⟩
      case measure => simp [intOf]; omega
    · obtain rfl : n = i := by omega
      rw [List.take_of_length_le (by have := HN.out; omega)]
      have hdz : decide (n + sizeP fs ≤ 4000) = decide (((n + sizeP fs : Nat) : Int) ≤ 4000) := by
        by_cases h4 : n + sizeP fs ≤ 4000
        · rw [decide_eq_true h4, decide_eq_true (by omega)]
        · rw [decide_eq_false h4, decide_eq_false (by omega)]
      have Hdz := hide hdz
      obtain ⟨z, hz⟩ : ∃ z : Int, ((n + sizeP fs : Nat) : Int) = z := ⟨_, rfl⟩
      rw [hz] at Hdz ⊢
      clear hz hdz
      go_wp2
      go_ret
      exact ⟨by rw [Hdz.out]; rfl, hB⟩

end Go.Proofs.Ytkbjbjkgohkkjaa

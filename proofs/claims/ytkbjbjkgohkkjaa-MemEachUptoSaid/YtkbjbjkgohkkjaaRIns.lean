/-
  An append onto a slice that is full to its cap: a new row. It speaks of no program. No condition.
-/
import Derived.Test.YtkbjbjkgohkkjaaFew
import Derived.Laws.Append
namespace Go.Proofs.Ytkbjbjkgohkkjaa
open Go.RowKit Go.Shelf

theorem append_full {P : Program} {t e : TypeId} (ty : TypeId) {z : Value} {bytes : Nat} (ht : P.underlying t = some (.slice e)) (hinfo : (P.info? e).map (fun i => (i.zero, i.size, i.bytes)) = some (some z, 1, bytes)) (hzc : z.cells.size = 1) (hby : bytes ≤ 16)
    {w : World} {base i : Nat} {A : Option Addr} (hb : base ≤ w.heap.size) (olds : List Value) (hl : olds.length = i) (hA : (A = none ∧ i = 0) ∨ ∃ b, A = some b ∧ ∀ j v, olds[j]? = some v → w.cell? (b.add j) = some v)
    (a : Addr) (m c : Nat) (news : List Value) (hm : news.length = m) (hnews : ∀ j v, news[j]? = some v → w.cell? (a.add j) = some v) (h0 : 0 < m) (hbd : i + m ≤ 2000000) :
    ∃ v' w', (Builtin.append_ #[t, t] ty #[.slice A i i, .slice (some a) m c]).run P w = .ok v' w' ∧ w'.ownsRow base e 1 v' (i + m) (olds ++ news) ∧ Below w.heap.size w w' := by
  obtain ⟨i0, hi, hz0, hz1, hz2⟩ := info_parts hinfo
  have hcap : grownCap w (i + m) i e ≤ maxLen := grownCap_le_maxLen _ _ _ _ (by unfold maxLen; omega)
  have hge := grownCap_ge w (i + m) i e
  have hrow : ∀ (cap : Nat), i + m ≤ cap → cap ≤ maxLen → (w.drew.alloc (.cells (olds.toArray ++ news.toArray ++ Builtin.zeroCells z.cells (cap - (i + m))) e)).ownsRow base e 1 (.slice (some ⟨w.heap.size, 0, none⟩) (i + m) cap) (i + m) (olds ++ news) := fun cap h1 h2 => by
    refine ⟨by simp [hl, hm], .inr ⟨w.heap.size, cap, _, rfl, hb, heap_alloc_new w.drew _, h1, h2, ?_, ?_⟩⟩
    · have hz : (Builtin.zeroCells z.cells (cap - (i + m))).size = cap - (i + m) := by simp [Builtin.zeroCells, hzc]
      simp [hl, hm, hz]
      omega
    · rw [Array.toList_append, Array.toList_append, Nat.mul_one]
      exact List.take_left' (by simp [hl, hm])
  have hB : ∀ o : Obj, Below w.heap.size w (w.drew.alloc o) := fun o => (below_drew w).trans ((Below.refl _ w.drew).alloc (Nat.le_refl _) o)
  rcases hA with ⟨rfl, rfl⟩ | ⟨b, rfl, hob⟩
  · have ho : olds = [] := List.eq_nil_of_length_eq_zero hl
    subst ho
    rw [Nat.zero_add] at *
    have hr := run_append_nil (P := P) (w := w) t ty e i0 z ht hi hz0 a m c news (by rw [hz1]; omega) hnews h0 (by omega) (by
      rw [hz2]
      have : m * bytes ≤ 2000000 * 16 := Nat.mul_le_mul (by omega) hby
      omega)
    refine ⟨_, _, hr, ?_, hB _⟩
    have := hrow (grownCap w m 0 e) (by omega) hcap
    simpa using this
  · have hr := run_append_grow (P := P) (w := w) t ty e i0 z ht hi hz0 b i i olds (by rw [hz1]; omega) hob a m c news (by rw [hz1]; omega) hnews (by omega) (by omega) (by
      rw [hz2]
      have h1 := nextslicecap_le (need := i + m) (old := i) (by omega)
      have : Builtin.nextslicecap (i + m) i * bytes ≤ 4000000 * 16 := Nat.mul_le_mul (by omega) hby
      omega)
    exact ⟨_, _, hr, hrow _ hge hcap, hB _⟩

end Go.Proofs.Ytkbjbjkgohkkjaa

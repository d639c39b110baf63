/-
  Arguments opened: a slice of numbers, a slice of structs of two slices of bytes, as the row's reading gives them. No condition.
-/
import Derived.Test.YtkbjbjkgohkkjaaOpenQ
import Derived.Test.YtkbjbjkgohkkjaaFew
import Derived.Deep.SlicePairs
namespace Go.Proofs.Ytkbjbjkgohkkjaa
open Go.ChangeShapes Go.WideShapes Go.ChangeAt Go.RowKit Go.Deep

section
variable {H : Type} {enc : TypeId × Value → H} {P : Program} {W : World} {base : Nat} {held : Bool}

theorem open_nums {t e : TypeId} (ht : P.underlying t = some (.slice e)) (he : P.underlying e = some (.int .i64)) (hc : P.cellsOf e = 1) (hb : P.bytesOf e = 8) {fuel : Nat} {V : Value} {d : DataW H} {p : List MemPlace}
    (h : DataW.trod enc P W base (fun _ => true) held fuel t [V] = some (d, p)) (hz : ∀ n ∈ d.weights P t, n ≤ reachBytes) :
    ∃ A n c zs, V = .slice A n c ∧ Sl W W.heap.size A n c (List.map iv zs) ∧ ∀ z ∈ zs, -9223372036854775808 ≤ z ∧ z ≤ 9223372036854775807 := by
  rcases open_ints ht he hc h with ⟨hcs, _⟩ | ⟨a, len, cap, zs, hcs, _, hl, hm, hzl, hx, hcell, hwz⟩
  · simp at hcs
    subst hcs
    exact ⟨none, 0, 0, [], rfl, Sl.nil _ _ _ _, fun z hz => by cases hz⟩
  · simp at hcs hx
    subst hcs
    obtain ⟨rfl, _⟩ := hx
    simp only [if_true] at hzl
    have hlen : len ≤ 140737488351232 := by
      have := hz (((lits (H := H) .i64 (zs.take len)).length + (lits (H := H) .i64 (zs.drop len)).length) * 8) (by simp [DataW.weights, ht, hb])
      simp [lits, reachBytes, hzl] at this
      omega
    refine ⟨some a, len, cap, zs.take len, rfl, ⟨by simp; omega, hl, hlen, fun hne => ?_⟩, fun z hz' => ?_⟩
    · have hpos : 0 < zs.length := by
        rcases Nat.eq_zero_or_pos zs.length with h0 | h0
        · exact absurd (by simp [List.eq_nil_of_length_eq_zero h0]) hne
        · exact h0
      obtain ⟨b, off, rfl, hcc⟩ := ints_at hcell hpos
      refine ⟨b, off, rfl, ?_, fun j u hu => ?_⟩
      · exact lt_of_cell (hcc 0 hpos)
      · have hj : j < zs.length := by
          rcases Nat.lt_or_ge j zs.length with h' | h'
          · exact h'
          · rw [List.getElem?_eq_none (by simp; omega)] at hu; cases hu
        have hj2 : j < len := by
          rcases Nat.lt_or_ge j len with h' | h'
          · exact h'
          · rw [List.getElem?_eq_none (by simp; omega)] at hu; cases hu
        rw [hcc j hj, ← hu]
        simp only [List.getElem?_map, List.getElem?_take, hj2, if_true, List.getElem?_eq_getElem hj, Option.map_some, iv, List.getD_eq_getElem?_getD, Option.getD_some]
    · have hw := hwz z (List.mem_of_mem_take hz')
      simpa [Lit.wf, IntKind.min, IntKind.max, IntKind.signed, IntKind.bits] using hw

theorem open_bpairs {t e q b : TypeId} {f0 f1 : Field} (ht : P.underlying t = some (.slice e)) (he : P.underlying e = some (.struct #[f0, f1]))
    (ce : P.cellsOf e = 2) (h0 : f0.type = q ∧ f0.offset = 0) (h1 : f1.type = q ∧ f1.offset = 1) (cq : P.cellsOf q = 1)
    (hq : P.underlying q = some (.slice b)) (hb : P.underlying b = some (.int .u8)) (cb : P.cellsOf b = 1) (bb : P.bytesOf b = 1) {fuel : Nat} {V : Value} {d : DataW H} {p : List MemPlace}
    (h : DataW.trod enc P W base (fun _ => true) held fuel t [V] = some (d, p)) (hz : ∀ n ∈ d.weights P t, n ≤ reachBytes) :
    ∃ A n c fs, V = .slice A n c ∧ ReadA W (.slice A n c) fs ∧ fs.length = n := by
  rcases open_slice_pairs ht he ce h0.2 h1.2 (by rw [h0.1]; exact cq) (by rw [h1.1]; exact cq) h with ⟨hcs, _⟩ | ⟨a, len, cap, m, n, V0, V1, D0, D1, P0, P1, hcs, _, hl, hm, hmm, hx, hel⟩
  · simp at hcs
    subst hcs
    exact ⟨none, 0, 0, [], rfl, ⟨none, 0, rfl, fun i hi => by simp at hi⟩, rfl⟩
  · simp at hcs hx
    subst hcs
    obtain ⟨rfl, _⟩ := hx
    simp only [if_true] at hmm
    subst hmm
    have hw : ∀ i, i < len → ∀ x, x ∈ (D0 i).weights P q ∨ x ∈ (D1 i).weights P q → x ≤ reachBytes := fun i hi x hx => hz x (by
      simp only [DataW.weights, ht, List.mem_cons, List.mem_append]
      refine .inr (.inl (weights_all (d := .agg [D0 i, D1 i]) (List.mem_map.2 ⟨i, List.mem_range.2 hi, rfl⟩) x ?_))
      simp only [DataW.weights, he, List.map_cons, List.map_nil, DataW.weightsEach, List.mem_append, h0.1, h1.1]
      rcases hx with hx | hx
      · exact .inl hx
      · exact .inr (.inl hx))
    have hrow : ∀ i, i < len → ∃ (hh : (Option Addr × Nat × Nat) × (Option Addr × Nat × Nat) × Pr), V0 i = sv hh.1 ∧ V1 i = sv hh.2.1 ∧ Bs W W.heap.size hh.1.1 hh.1.2.1 hh.1.2.2 hh.2.2.1 ∧ Bs W W.heap.size hh.2.1.1 hh.2.1.2.1 hh.2.1.2.2 hh.2.2.2 := fun i hi => by
      obtain ⟨_, _, h2, h3⟩ := hel i (by omega)
      rw [h0.1] at h2
      rw [h1.1] at h3
      obtain ⟨A, n', c, ks, e1, e2⟩ := open_bytes hq hb cb bb h2 (fun x hx => hw i hi x (.inl hx))
      obtain ⟨A', n'', c', ks', e1', e2'⟩ := open_bytes hq hb cb bb h3 (fun x hx => hw i hi x (.inr hx))
      exact ⟨((A, n', c), (A', n'', c'), (ks, ks')), e1, e1', e2, e2'⟩
    obtain ⟨QQ, hQQ⟩ := choose_lt (α := (Option Addr × Nat × Nat) × (Option Addr × Nat × Nat) × Pr) (p := fun i hh => V0 i = sv hh.1 ∧ V1 i = sv hh.2.1 ∧ Bs W W.heap.size hh.1.1 hh.1.2.1 hh.1.2.2 hh.2.2.1 ∧ Bs W W.heap.size hh.2.1.1 hh.2.1.2.1 hh.2.1.2.2 hh.2.2.2) hrow
    refine ⟨some a, len, m, (List.range len).map fun i => (QQ i).2.2, rfl, ⟨some a, m, by simp, fun i hi => ?_⟩, by simp⟩
    have hi' : i < len := by simpa using hi
    obtain ⟨bk, off, spot⟩ := a
    have hspot : spot = none := by simpa [Addr.add] using World.cell?_spot (hel 0 (by omega)).1
    subst hspot
    obtain ⟨x0, x1, _⟩ := hel i (by omega)
    obtain ⟨y0, y1, y2, y3⟩ := hQQ i hi'
    rw [Addr.add_lit] at x0 x1
    rw [y0] at x0
    rw [y1] at x1
    refine ⟨bk, off, _, _, _, _, _, _, rfl, x0, x1, ?_, ?_⟩
    · simpa using y2
    · simpa using y3
end

end Go.Proofs.Ytkbjbjkgohkkjaa

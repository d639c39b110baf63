/-
  Arguments opened: a slice of bytes, a slice of slices of bytes, as the row's reading gives them. No condition.
-/
import Derived.Test.YtkbjbjkgohkkjaaKit
import Derived.ProofKit
import Derived.OpenShut
import Derived.SizedLaws
import Derived.Deep.Slices
namespace Go.Proofs.Ytkbjbjkgohkkjaa
open Go.ChangeShapes Go.WideShapes Go.ChangeAt Go.RowKit Go.Deep

theorem lt_of_cell {w : World} {a : Addr} {v : Value} (h : w.cell? a = some v) : a.block < w.heap.size := by
  obtain ⟨o, ho, _⟩ := cells_of_cell h
  exact (Array.getElem?_eq_some_iff.1 ho).1

section
variable {H : Type} {enc : TypeId × Value → H} {P : Program} {W : World} {base : Nat} {held : Bool}

theorem open_bytes {t e : TypeId} (ht : P.underlying t = some (.slice e)) (he : P.underlying e = some (.int .u8)) (hc : P.cellsOf e = 1) (hb : P.bytesOf e = 1) {fuel : Nat} {V : Value} {d : DataW H} {p : List MemPlace}
    (h : DataW.trod enc P W base (fun _ => true) held fuel t [V] = some (d, p)) (hz : ∀ n ∈ d.weights P t, n ≤ reachBytes) : ∃ A n c ks, V = .slice A n c ∧ Bs W W.heap.size A n c ks := by
  rcases open_ints ht he hc h with ⟨hcs, _⟩ | ⟨a, len, cap, zs, hcs, _, hl, hm, hzl, hx, hcell, hwz⟩
  · simp at hcs
    subst hcs
    exact ⟨none, 0, 0, [], rfl, Bs.nil _ _ _ _⟩
  · simp at hcs hx
    subst hcs
    obtain ⟨rfl, _⟩ := hx
    simp only [if_true] at hzl
    have hlen : len ≤ 140737488351232 := by
      have := hz ((lits (H := H) .u8 (zs.take len)).length + (lits (H := H) .u8 (zs.drop len)).length) (by simp [DataW.weights, ht, hb])
      simp [lits, reachBytes, hzl] at this
      omega
    refine ⟨some a, len, cap, (zs.take len).map fun z => UInt8.ofNat z.toNat, rfl, by simp; omega, hl, hlen, fun hne => ?_⟩
    have hpos : 0 < zs.length := by
      rcases Nat.eq_zero_or_pos zs.length with h0 | h0
      · exact absurd (by simp [List.eq_nil_of_length_eq_zero h0]) hne
      · exact h0
    obtain ⟨b, off, rfl, hcc⟩ := ints_at hcell hpos
    refine ⟨b, off, rfl, ?_, fun j u hu => ?_⟩
    · exact lt_of_cell (hcc 0 hpos)
    · have hj : j < zs.length := by
        rcases Nat.lt_or_ge j zs.length with h' | h'
        · exact h'
        · rw [List.getElem?_eq_none (by simp; omega)] at hu; cases hu
      have hj2 : j < len := by
        rcases Nat.lt_or_ge j len with h' | h'
        · exact h'
        · rw [List.getElem?_eq_none (by simp; omega)] at hu; cases hu
      rw [hcc j hj, ← hu]
      have hw := hwz (zs[j]) (List.getElem_mem hj)
      have hbd : 0 ≤ zs[j] ∧ zs[j] ≤ 255 := by simpa [Lit.wf, IntKind.min, IntKind.max, IntKind.signed, IntKind.bits] using hw
      simp only [List.map_map, List.getElem?_map, List.getElem?_take, hj2, if_true, List.getElem?_eq_getElem hj, Option.map_some, Function.comp_def, b8, List.getD_eq_getElem?_getD, Option.getD_some]
      rw [UInt8.toNat_ofNat_of_lt' (show zs[j].toNat < 256 by omega)]
      congr 2
      omega

theorem weights_all {t : TypeId} : ∀ {ds : List (DataW H)} {d : DataW H}, d ∈ ds → ∀ n ∈ d.weights P t, n ∈ DataW.weightsAll P t ds
  | d0 :: ds, d, hd, n, hn => by
    simp only [DataW.weightsAll, List.mem_append]
    rcases List.mem_cons.1 hd with rfl | h
    · exact .inl hn
    · exact .inr (weights_all h n hn)

theorem open_lists {t q e : TypeId} (ht : P.underlying t = some (.slice q)) (hq : P.underlying q = some (.slice e)) (he : P.underlying e = some (.int .u8)) (cq : P.cellsOf q = 1) (hc : P.cellsOf e = 1) (bq : P.bytesOf q = 24) (hb : P.bytesOf e = 1) {fuel : Nat} {V : Value} {d : DataW H} {p : List MemPlace}
    (h : DataW.trod enc P W base (fun _ => true) held fuel t [V] = some (d, p)) (hz : ∀ n ∈ d.weights P t, n ≤ reachBytes) : ∃ A n c kss, V = .slice A n c ∧ Bss W W.heap.size A n c kss ∧ n ≤ 5864062014634 := by
  rcases open_slice1 ht cq h with ⟨hcs, _⟩ | ⟨a, len, cap, m, n, V', D, Pl, hcs, _, hl, hm, hmm, hx, hel⟩
  · simp at hcs
    subst hcs
    exact ⟨none, 0, 0, [], rfl, Bss.nil _ _ _ _, by omega⟩
  · simp at hcs hx
    subst hcs
    obtain ⟨rfl, _⟩ := hx
    simp only [if_true] at hmm
    subst hmm
    have hlen : len ≤ 5864062014634 := by
      have := hz (((List.range len).map D).length + ((List.range (m - len)).map fun j => D (len + j)).length |> (· * 24)) (by simp [DataW.weights, ht, bq])
      simp [reachBytes] at this
      omega
    have hrow : ∀ i, i < len → ∃ (hh : Option Addr × Nat × Nat) , ∃ ks, V' i = sv hh ∧ Bs W W.heap.size hh.1 hh.2.1 hh.2.2 ks := fun i hi => by
      obtain ⟨_, h2⟩ := hel i (by omega)
      obtain ⟨A, n', c, ks, e1, e2⟩ := open_bytes hq he hc hb h2 (fun x hx => hz x (by
        simp only [DataW.weights, ht, List.mem_cons, List.mem_append]
        exact .inr (.inl (weights_all (List.mem_map.2 ⟨i, List.mem_range.2 hi, rfl⟩) x hx))))
      exact ⟨(A, n', c), ks, e1, e2⟩
    obtain ⟨HH, hHH⟩ := choose_lt (α := Option Addr × Nat × Nat) (p := fun i hh => ∃ ks, V' i = sv hh ∧ Bs W W.heap.size hh.1 hh.2.1 hh.2.2 ks) hrow
    obtain ⟨KK, hKK⟩ := choose_lt (α := List UInt8) (p := fun i ks => V' i = sv (HH i) ∧ Bs W W.heap.size (HH i).1 (HH i).2.1 (HH i).2.2 ks) hHH
    refine ⟨some a, len, m, (List.range len).map KK, rfl, ⟨(List.range len).map HH, ⟨by simp, hl, by omega, fun hne => ?_⟩, by simp, fun i hh ks e1 e2 => ?_⟩, hlen⟩
    · have hpos : 0 < len := by
        rcases Nat.eq_zero_or_pos len with h0 | h0
        · subst h0; exact absurd (by simp) hne
        · exact h0
      obtain ⟨b, off, spot⟩ := a
      have hspot : spot = none := by simpa [Addr.add] using World.cell?_spot (hel 0 (by omega)).1
      subst hspot
      refine ⟨b, off, rfl, ?_, fun j u hu => ?_⟩
      · have := lt_of_cell (hel 0 (by omega)).1
        simpa [Addr.add] using this
      · have hj : j < len := by
          rcases Nat.lt_or_ge j len with h' | h'
          · exact h'
          · rw [List.getElem?_eq_none (by simp; omega)] at hu; cases hu
        simp only [List.map_map, List.getElem?_map, List.getElem?_range hj, Option.map_some, Function.comp_def, Option.some.injEq] at hu
        subst hu
        rw [← (hKK j hj).1, ← Addr.add_lit]
        exact (hel j (by omega)).1
    · have hi : i < len := by
        rcases Nat.lt_or_ge i len with h' | h'
        · exact h'
        · rw [List.getElem?_eq_none (by simp; omega)] at e1; cases e1
      simp only [List.getElem?_map, List.getElem?_range hi, Option.map_some, Option.some.injEq] at e1 e2
      subst e1 e2
      exact (hKK i hi).2
end

end Go.Proofs.Ytkbjbjkgohkkjaa

/-
  The bound of the narrower statements: what it says of a slice's length and of a list's lengths together. (Began as the kit's starting text UptoLemmas.lean.)
-/
import Derived.Test.YtkbjbjkgohkkjaaRows
import Derived.Test.YtkbjbjkgohkkjaaOpenR
namespace Go.Proofs.Ytkbjbjkgohkkjaa
open Go.ChangeShapes Go.WideShapes Go.ChangeAt Go.RowKit Go.Deep

theorem bulk_one {H : Type} (d : DataW H) : 1 ≤ Rows.uptoBulk d := by
  cases d with
  | lit l => cases l <;> simp [Rows.uptoBulk]
  | nil => simp [Rows.uptoBulk]
  | ptr d => simp [Rows.uptoBulk]
  | slice elems spare => simp [Rows.uptoBulk]
  | agg parts => simp [Rows.uptoBulk]
  | iface t d => simp [Rows.uptoBulk]
  | map entries => simp [Rows.uptoBulk]
  | held h => simp [Rows.uptoBulk]

theorem bulk_length {H : Type} (l : List (DataW H)) : l.length ≤ Rows.uptoBulkAll l := by
  induction l with
  | nil => simp [Rows.uptoBulkAll]
  | cons x r ih => have := bulk_one x; simp only [Rows.uptoBulkAll, List.length_cons]; omega

theorem bulk_bound {H : Type} {l : List (DataW H)} (hk : Rows.uptoSmall H l = true) : Rows.uptoBulkAll l ≤ 1048576 := by
  simpa [Rows.uptoSmall] using hk

theorem bulk_sum {H : Type} : ∀ (l : List (List UInt8)) (D : Nat → DataW H), (∀ i (h : i < l.length), (l[i]'h).length + 1 ≤ Rows.uptoBulk (D i)) → l.length + (l.map List.length).sum ≤ Rows.uptoBulkAll ((List.range l.length).map D)
  | [], _, _ => by simp
  | x :: r, D, h => by
    have h0 := h 0 (by simp)
    have h1 := bulk_sum r (fun i => D (i + 1)) (fun i hi => h (i + 1) (by simpa using hi))
    simp only [List.getElem_cons_zero] at h0
    rw [List.length_cons, List.range_succ_eq_map, List.map_cons, List.map_cons, List.map_map]
    simp only [Rows.uptoBulkAll, List.map_cons, List.sum_cons]
    have e : (List.range r.length).map (D ∘ Nat.succ) = (List.range r.length).map fun i => D (i + 1) := rfl
    rw [e]
    omega

section
variable {H : Type} {enc : TypeId × Value → H} {P : Program} {W : World} {base : Nat} {held : Bool}

theorem bulk_slice {t q : TypeId} (ht : P.underlying t = some (.slice q)) (cq : P.cellsOf q = 1) {fuel : Nat} {A : Option Addr} {n c : Nat} {d : DataW H} {p : List MemPlace}
    (h : DataW.trod enc P W base (fun _ => true) held fuel t [.slice A n c] = some (d, p)) : n + 1 ≤ Rows.uptoBulk d := by
  rcases open_slice1 ht cq h with ⟨hcs, hx⟩ | ⟨a, len, cap, m, k, V', D, Pl, hcs, _, hl, hm, hmm, hx, hel⟩
  · simp at hcs hx
    obtain ⟨-, rfl, -⟩ := hcs
    obtain ⟨rfl, -⟩ := hx
    simp [Rows.uptoBulk]
  · simp at hcs hx
    obtain ⟨rfl, rfl, rfl⟩ := hcs
    obtain ⟨rfl, _⟩ := hx
    have := bulk_length ((List.range n).map D)
    simp only [Rows.uptoBulk]
    simp only [List.length_map, List.length_range] at this
    omega

theorem bulk_lists {t q e : TypeId} (ht : P.underlying t = some (.slice q)) (hq : P.underlying q = some (.slice e)) (cq : P.cellsOf q = 1) (hc : P.cellsOf e = 1) {fuel : Nat} {A : Option Addr} {n c : Nat} {kss : List (List UInt8)} {d : DataW H} {p : List MemPlace}
    (h : DataW.trod enc P W base (fun _ => true) held fuel t [.slice A n c] = some (d, p)) (hb : Bss W W.heap.size A n c kss) : n + (kss.map List.length).sum ≤ Rows.uptoBulk d := by
  have hn : kss.length = n := hb.len
  rcases open_slice1 ht cq h with ⟨hcs, hx⟩ | ⟨a, len, cap, m, k, V', D, Pl, hcs, _, hl, hm, hmm, hx, hel⟩
  · simp at hcs hx
    obtain ⟨-, rfl, -⟩ := hcs
    obtain rfl := List.eq_nil_of_length_eq_zero hn
    simp
  · simp at hcs hx
    obtain ⟨rfl, rfl, rfl⟩ := hcs
    obtain ⟨rfl, _⟩ := hx
    simp only [if_true] at hmm
    subst hmm
    rcases Nat.eq_zero_or_pos n with h0 | h0
    · subst h0
      obtain rfl := List.eq_nil_of_length_eq_zero hn
      simp
    obtain ⟨b, off, e0, hbb, hcc⟩ := hb.at_ (by omega)
    injection e0 with e0
    subst e0
    have hs := bulk_sum kss D (fun i hi => by
      obtain ⟨Ai, ni, ci, hci, hki⟩ := hcc i hi
      obtain ⟨h1, h2⟩ := hel i (by omega)
      rw [Addr.add_lit] at h1
      rw [hci] at h1
      injection h1 with h1
      rw [← h1] at h2
      have := bulk_slice hq hc h2
      rw [hki.len]
      exact this)
    rw [hn] at hs
    simp only [Rows.uptoBulk]
    omega

theorem bulk_psum {H : Type} : ∀ (l : List Pr) (D : Nat → DataW H), (∀ i (h : i < l.length), (l[i]'h).1.length + (l[i]'h).2.length + 1 ≤ Rows.uptoBulk (D i)) → l.length + sizeP l ≤ Rows.uptoBulkAll ((List.range l.length).map D)
  | [], _, _ => by simp [sizeP]
  | x :: r, D, h => by
    have h0 := h 0 (by simp)
    have h1 := bulk_psum r (fun i => D (i + 1)) (fun i hi => h (i + 1) (by simpa using hi))
    simp only [List.getElem_cons_zero] at h0
    rw [List.length_cons, List.range_succ_eq_map, List.map_cons, List.map_map]
    simp only [Rows.uptoBulkAll, sizeP, List.map_cons, List.sum_cons] at h1 ⊢
    have e : (List.range r.length).map (D ∘ Nat.succ) = (List.range r.length).map fun i => D (i + 1) := rfl
    rw [e]
    omega

theorem bulk_pairs {t e q b : TypeId} {f0 f1 : Field} (ht : P.underlying t = some (.slice e)) (he : P.underlying e = some (.struct #[f0, f1]))
    (ce : P.cellsOf e = 2) (h0 : f0.type = q ∧ f0.offset = 0) (h1 : f1.type = q ∧ f1.offset = 1) (cq : P.cellsOf q = 1) (hq : P.underlying q = some (.slice b)) (cb : P.cellsOf b = 1) {fuel : Nat} {A : Option Addr} {n c : Nat} {fs : List Pr} {d : DataW H} {p : List MemPlace}
    (h : DataW.trod enc P W base (fun _ => true) held fuel t [.slice A n c] = some (d, p)) (hr : ReadA W (.slice A n c) fs) (hn : fs.length = n) : n + sizeP fs ≤ Rows.uptoBulk d := by
  rcases open_slice_pairs ht he ce h0.2 h1.2 (by rw [h0.1]; exact cq) (by rw [h1.1]; exact cq) h with ⟨hcs, hx⟩ | ⟨a, len, cap, m, k, V0, V1, D0, D1, P0, P1, hcs, _, hl, hm, hmm, hx, hel⟩
  · simp at hcs hx
    obtain ⟨-, rfl, -⟩ := hcs
    obtain rfl := List.eq_nil_of_length_eq_zero hn
    simp [sizeP]
  · simp at hcs hx
    obtain ⟨rfl, rfl, rfl⟩ := hcs
    obtain ⟨rfl, _⟩ := hx
    simp only [if_true] at hmm
    subst hmm
    have hs := bulk_psum fs (fun i => DataW.agg [D0 i, D1 i]) (fun i hi => by
      obtain ⟨A', c', e1, hh⟩ := hr
      injection e1 with e1 e2 e3
      subst e1
      obtain ⟨g, off, K, kl, kc, V, vl, vc, e5, c0, c1, b1, b2⟩ := hh i hi
      injection e5 with e5
      subst e5
      obtain ⟨x0, x1, x2, x3⟩ := hel i (by omega)
      rw [Addr.add_lit] at x0 x1
      rw [c0] at x0
      rw [show off + (i * 2 + 1) = off + i * 2 + 1 by omega, c1] at x1
      injection x0 with x0
      injection x1 with x1
      rw [← x0, h0.1] at x2
      rw [← x1, h1.1] at x3
      have y2 := bulk_slice hq cb x2
      have y3 := bulk_slice hq cb x3
      rw [b1.len, b2.len]
      simp only [Rows.uptoBulk, Rows.uptoBulkAll]
      omega)
    rw [hn] at hs
    simp only [Rows.uptoBulk]
    omega
end

end Go.Proofs.Ytkbjbjkgohkkjaa

/-
  The bound of the narrower statements: what it says of a slice's length and of a list's lengths together. (Began as the kit's starting text UptoLemmas.lean.)
-/
import Derived.Test.YtkkjfehnkhhafaaRows
import Derived.Test.YtkkjfehnkhhafaaOpen
namespace Go.Proofs.Ytkkjfehnkhhafaa
open Go.ChangeShapes Go.WideShapes Go.ChangeAt Go.RowKit Go.Deep

theorem bulk_one {H : Type} (d : DataW H) : 1 ≤ Rows.uptoBulk d := by
  cases d with
  | lit l => cases l <;> simp [Rows.uptoBulk]
  | nil => simp [Rows.uptoBulk]
  | ptr d => simp [Rows.uptoBulk]
  | slice elems spare => simp [Rows.uptoBulk]
  | agg parts => simp [Rows.uptoBulk]
  | iface t d => simp [Rows.uptoBulk]
  | map entries => simp [Rows.uptoBulk]
  | held h => simp [Rows.uptoBulk]

theorem bulk_length {H : Type} (l : List (DataW H)) : l.length ≤ Rows.uptoBulkAll l := by
  induction l with
  | nil => simp [Rows.uptoBulkAll]
  | cons x r ih => have := bulk_one x; simp only [Rows.uptoBulkAll, List.length_cons]; omega

theorem bulk_bound {H : Type} {l : List (DataW H)} (hk : Rows.uptoSmall H l = true) : Rows.uptoBulkAll l ≤ 1048576 := by
  simpa [Rows.uptoSmall] using hk

theorem bulk_sum {H : Type} : ∀ (l : List (List UInt8)) (D : Nat → DataW H), (∀ i (h : i < l.length), (l[i]'h).length + 1 ≤ Rows.uptoBulk (D i)) → l.length + (l.map List.length).sum ≤ Rows.uptoBulkAll ((List.range l.length).map D)
  | [], _, _ => by simp
  | x :: r, D, h => by
    have h0 := h 0 (by simp)
    have h1 := bulk_sum r (fun i => D (i + 1)) (fun i hi => h (i + 1) (by simpa using hi))
    simp only [List.getElem_cons_zero] at h0
    rw [List.length_cons, List.range_succ_eq_map, List.map_cons, List.map_cons, List.map_map]
    simp only [Rows.uptoBulkAll, List.map_cons, List.sum_cons]
    have e : (List.range r.length).map (D ∘ Nat.succ) = (List.range r.length).map fun i => D (i + 1) := rfl
    rw [e]
    omega

section
variable {H : Type} {enc : TypeId × Value → H} {P : Program} {W : World} {base : Nat} {held : Bool}

theorem bulk_slice {t q : TypeId} (ht : P.underlying t = some (.slice q)) (cq : P.cellsOf q = 1) {fuel : Nat} {A : Option Addr} {n c : Nat} {d : DataW H} {p : List MemPlace}
    (h : DataW.trod enc P W base (fun _ => true) held fuel t [.slice A n c] = some (d, p)) : n + 1 ≤ Rows.uptoBulk d := by
  rcases open_slice1 ht cq h with ⟨hcs, hx⟩ | ⟨a, len, cap, m, k, V', D, Pl, hcs, _, hl, hm, hmm, hx, hel⟩
  · simp at hcs hx
    obtain ⟨-, rfl, -⟩ := hcs
    obtain ⟨rfl, -⟩ := hx
    simp [Rows.uptoBulk]
  · simp at hcs hx
    obtain ⟨rfl, rfl, rfl⟩ := hcs
    obtain ⟨rfl, _⟩ := hx
    have := bulk_length ((List.range n).map D)
    simp only [Rows.uptoBulk]
    simp only [List.length_map, List.length_range] at this
    omega

theorem bulk_lists {t q e : TypeId} (ht : P.underlying t = some (.slice q)) (hq : P.underlying q = some (.slice e)) (cq : P.cellsOf q = 1) (hc : P.cellsOf e = 1) {fuel : Nat} {A : Option Addr} {n c : Nat} {kss : List (List UInt8)} {d : DataW H} {p : List MemPlace}
    (h : DataW.trod enc P W base (fun _ => true) held fuel t [.slice A n c] = some (d, p)) (hb : Bss W W.heap.size A n c kss) : n + (kss.map List.length).sum ≤ Rows.uptoBulk d := by
  have hn : kss.length = n := hb.len
  rcases open_slice1 ht cq h with ⟨hcs, hx⟩ | ⟨a, len, cap, m, k, V', D, Pl, hcs, _, hl, hm, hmm, hx, hel⟩
  · simp at hcs hx
    obtain ⟨-, rfl, -⟩ := hcs
    obtain rfl := List.eq_nil_of_length_eq_zero hn
    simp
  · simp at hcs hx
    obtain ⟨rfl, rfl, rfl⟩ := hcs
    obtain ⟨rfl, _⟩ := hx
    simp only [if_true] at hmm
    subst hmm
    rcases Nat.eq_zero_or_pos n with h0 | h0
    · subst h0
      obtain rfl := List.eq_nil_of_length_eq_zero hn
      simp
    obtain ⟨b, off, e0, hbb, hcc⟩ := hb.at_ (by omega)
    injection e0 with e0
    subst e0
    have hs := bulk_sum kss D (fun i hi => by
      obtain ⟨Ai, ni, ci, hci, hki⟩ := hcc i hi
      obtain ⟨h1, h2⟩ := hel i (by omega)
      rw [Addr.add_lit] at h1
      rw [hci] at h1
      injection h1 with h1
      rw [← h1] at h2
      have := bulk_slice hq hc h2
      rw [hki.len]
      exact this)
    rw [hn] at hs
    simp only [Rows.uptoBulk]
    omega
end

end Go.Proofs.Ytkkjfehnkhhafaa

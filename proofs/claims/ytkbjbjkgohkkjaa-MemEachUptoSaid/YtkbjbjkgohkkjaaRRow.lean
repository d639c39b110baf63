/-
  An insertion into a row: the cuts, the new element, the two appends; a region whose last operation writes what the others have read. They speak of no program. No condition.
-/
import Derived.Test.YtkbjbjkgohkkjaaInsP
import Derived.Laws.OwnMore
namespace Go.Proofs.Ytkbjbjkgohkkjaa
open Go.RowKit Go.Shelf

/-- a region whose last operation writes what the others have read, outside a round -/
theorem region_last {id : Nat} {P : Program} {ops : Array Oper} (L : Nat) {S : World → Prop} {Q : Exit → Act → World → Prop} {a : Act} {w : World} (hm : P.follows .mixedOrders = true)
    (hS : S w.drew) (h : S w.drew → wpAnyL P .any ops Q S L ops.size (Array.replicate ops.size false) a w.drew) : (Code.region id ops true).wp P Q a w :=
  wp_region_any hm (wpAny_of_last _ _ _ _ (h hS))
theorem wpAnyL_ready {P : Program} {md : Region.Mode} {ops : Array Oper} {Q : Exit → Act → World → Prop} {S : World → Prop} {L fuel i : Nat} {listed : Array Bool} {a : Act} {w : World} {o : Oper} (hr : Region.ready md ops listed = [i]) (ho : ops[i]? = some o)
    (h : ∀ K' : Act → World → Prop, Go.Shut (∀ a w, S w → (S w → wpAnyL P md ops Q S L fuel (listed.setIfInBounds i true) a w) → K' a w) → if Region.wanted o (yielded ops a.tmps) = true then Oper.wp P o a w K' Q else K' (a.put o.dst undef) w) :
    wpAnyL P md ops Q S L (fuel + 1) listed a w := by
  refine ⟨fun h0 => (by rw [hr] at h0; cases h0), fun j hj => ?_⟩
  rw [hr] at hj
  obtain rfl := List.mem_singleton.1 hj
  exact wpOp_step ho (fun K' hK => h K' (fun a w hS hW => hK a w ⟨.inr hS, hW hS⟩))

section
variable {P : Program}
/-- x[:i:i] -/
theorem run_cut3 (t e : TypeId) (ht : P.underlying t = some (.slice e)) (hs : ∀ w : World, (sizeOf e).run P w = .ok 1 w) (A : Option Addr) (n c : Nat) (k k' : IntKind) (i : Int) (h0 : 0 ≤ i) (h1 : i ≤ c) (hA : A = none ∨ ∃ g, A = some ⟨g, 0, none⟩) (w : World) :
    (Instr.slice t (.slice A n c) none (some (.int k i)) (some (.int k' i))).run P w = .ok (.slice A i.toNat i.toNat) w := by
  have hj := run_sliceBound (P := P) (w := w) k' i c .slice3Acap h0 h1
  have hi := run_sliceBound (P := P) (w := w) k i i.toNat .slice3B h0 (by omega)
  rcases hA with rfl | ⟨g, rfl⟩
  · simp [Instr.slice, run_underlying ht, Instr.sliceBounds, hj, hi, hs, Result.andThen]
  · by_cases hz : i.toNat = 0
    · rw [hz] at hi hj
      simp [Instr.slice, run_underlying ht, Instr.sliceBounds, hj, hi, hs, Result.andThen, hz]
    · simp [Instr.slice, run_underlying ht, Instr.sliceBounds, hj, hi, hs, Result.andThen, hz, Addr.add]

/-- the row with a new element at place i: first the element and what lies behind, then what lies ahead with these -/
theorem ins_row {t e : TypeId} (ty : TypeId) {z : Value} {bytes : Nat} (ht : P.underlying t = some (.slice e)) (hinfo : (P.info? e).map (fun i => (i.zero, i.size, i.bytes)) = some (some z, 1, bytes)) (hzc : z.cells.size = 1) (hby : bytes ≤ 16)
    {w : World} {base n : Nat} {V : Value} {xs : List Value} (h : w.ownsRow base e 1 V n xs) (hb : base ≤ w.heap.size) {i : Nat} (hi : i ≤ n) (u : Value) (hu : u.oneCell' = true) (h1 : ∀ x ∈ xs, x.oneCell' = true) (hn : n ≤ 1000000) :
    ∃ A c v2 w2 v3 w3, V = .slice A n c ∧ n ≤ c ∧ (A = none ∨ ∃ g, A = some ⟨g, 0, none⟩) ∧
      (Builtin.append_ #[t, t] ty #[.slice (some ⟨w.heap.size, 0, none⟩) 1 1, .slice (cutA A i c) (n - i) (c - i)]).run P (w.alloc (.cells #[u] e)) = .ok v2 w2 ∧
      (Builtin.append_ #[t, t] ty #[.slice A i i, v2]).run P w2 = .ok v3 w3 ∧ w3.ownsRow base e 1 v3 (n + 1) (xs.take i ++ u :: xs.drop i) ∧
      Below w.heap.size w (w.alloc (.cells #[u] e)) ∧ Below w.heap.size w w2 ∧ Below w.heap.size w w3 ∧ (∃ a m c, v2 = .slice (some a) m c) ∧ ∃ g m c, v3 = .slice (some ⟨g, 0, none⟩) m c ∧ w.heap.size ≤ g := by
  obtain ⟨i0, hi0, hz0, hz1, hz2⟩ := info_parts hinfo
  have hlx := h.1
  rw [Nat.mul_one] at hlx
  have hB1 := (Below.refl w.heap.size w).alloc (Nat.le_refl _) (.cells #[u] e)
  have hs1 : (w.alloc (.cells #[u] e)).heap.size = w.heap.size + 1 := by simp
  have hown : (w.alloc (.cells #[u] e)).ownsRow w.heap.size e 1 (.slice (some ⟨w.heap.size, 0, none⟩) 1 1) 1 [u] :=
    ⟨rfl, .inr ⟨w.heap.size, 1, #[u], rfl, Nat.le_refl _, heap_alloc_new w _, Nat.le_refl _, by unfold maxLen; omega, rfl, rfl⟩⟩
  -- what V looks like
  obtain ⟨A, c, rfl, hnc, hA, hcell⟩ : ∃ A c, V = .slice A n c ∧ n ≤ c ∧ (A = none ∧ n = 0 ∧ c = 0 ∨ ∃ g, A = some ⟨g, 0, none⟩ ∧ g < w.heap.size) ∧ ∀ g, A = some ⟨g, 0, none⟩ → ∀ j v, xs[j]? = some v → w.cell? ⟨g, j, none⟩ = some v := by
    rcases h.2 with ⟨rfl, h0⟩ | ⟨g, cap, cur, rfl, hg, hh, hnc, hr⟩
    · exact ⟨none, 0, by rw [h0], by omega, .inl ⟨rfl, h0, rfl⟩, fun g e => by cases e⟩
    · refine ⟨some ⟨g, 0, none⟩, cap, rfl, hnc, .inr ⟨g, rfl, (Array.getElem?_eq_some_iff.1 hh).1⟩, fun g' e j v hv => ?_⟩
      injection e with e
      injection e with e _ _
      subst e
      have := World.ownsRow.cells h (g := g) rfl j v hv
      rwa [Addr.add_lit, Nat.zero_add] at this
  have hA' : A = none ∨ ∃ g, A = some ⟨g, 0, none⟩ := hA.imp (fun h => h.1) (fun ⟨g, h, _⟩ => ⟨g, h⟩)
  -- the element and what lies behind
  obtain ⟨v2, w2, hr2, ho2, hg2⟩ : ∃ v2 w2, (Builtin.append_ #[t, t] ty #[.slice (some ⟨w.heap.size, 0, none⟩) 1 1, .slice (cutA A i c) (n - i) (c - i)]).run P (w.alloc (.cells #[u] e)) = .ok v2 w2 ∧ w2.ownsRow w.heap.size e 1 v2 (1 + (n - i)) (u :: xs.drop i) ∧
      (w.alloc (.cells #[u] e)).grownBy w2 (some w.heap.size) := by
    rcases hA with ⟨rfl, rfl, rfl⟩ | ⟨g, rfl, hg⟩
    · obtain rfl : i = 0 := by omega
      obtain rfl : xs = [] := List.eq_nil_of_length_eq_zero hlx
      refine ⟨.slice (some ⟨w.heap.size, 0, none⟩) 1 1, w.alloc (.cells #[u] e), ?_, hown, World.grownBy.refl _ _⟩
      simp [cutA, Builtin.append_, run_underlying ht, sizeOf, typeInfo, hi0, Builtin.lenOf, Builtin.firstCells, storeCells]
    · obtain ⟨a, ha, hac⟩ : ∃ a, cutA (some ⟨g, 0, none⟩) i c = some a ∧ ∀ j v, (xs.drop i)[j]? = some v → w.cell? (a.add j) = some v := by
        unfold cutA
        by_cases hci : c = i
        · rw [if_pos hci]
          refine ⟨_, rfl, fun j v hj => ?_⟩
          rw [List.drop_eq_nil_of_le (by omega)] at hj
          cases hj
        · rw [if_neg hci]
          refine ⟨_, rfl, fun j v hj => ?_⟩
          rw [List.getElem?_drop] at hj
          have := hcell g rfl _ v hj
          simp only [Addr.add_lit, Nat.zero_add]
          exact this
      rw [ha]
      obtain ⟨v2, w2, hr2, ho2, hg2, _, _⟩ := run_append_own_at (P := P) (w := w.alloc (.cells #[u] e)) w.heap.size t ty e i0 z 1 bytes ht hi0 hz0 hz1 hz2 hzc (by decide) _ 1 [u] hown a (n - i) (c - i) (xs.drop i) (by rw [List.length_drop, hlx, Nat.mul_one]) (fun j v hj => hB1.cell (p := a.add j) (World.block_lt_of_cell? w _ (hac j v hj)) |>.trans (hac j v hj))
        (fun x hx => h1 x (List.mem_of_mem_drop hx)) (by unfold maxLen; omega) (by
          have : (1 + (n - i)) * bytes ≤ 1000001 * 16 := Nat.mul_le_mul (by omega) hby
          omega) (by omega)
      exact ⟨v2, w2, hr2, ho2, hg2⟩
  have hB2 : Below w.heap.size w w2 := hB1.grown hg2 (by omega) (fun j ej => by injection ej with ej; omega)
  have hs2 := hB2.size
  obtain ⟨g2, cap2, rfl⟩ : ∃ g2 cap2, v2 = .slice (some ⟨g2, 0, none⟩) (1 + (n - i)) cap2 := by
    rcases ho2.2 with ⟨_, h0⟩ | ⟨g, cap, cur, rfl, _⟩
    · omega
    · exact ⟨g, cap, rfl⟩
  -- what lies ahead with these
  obtain ⟨v3, w3, hr3, ho3, hB3⟩ := append_full (P := P) ty ht hinfo hzc hby (w := w2) (base := w2.heap.size) (i := i) (A := A) (Nat.le_refl _) (xs.take i) (by rw [List.length_take]; omega) (by
      rcases hA with ⟨rfl, h0, _⟩ | ⟨g, rfl, hg⟩
      · exact .inl ⟨rfl, by omega⟩
      · refine .inr ⟨_, rfl, fun j v hj => ?_⟩
        rw [List.getElem?_take] at hj
        split at hj
        · have := hcell g rfl j v hj
          rw [Addr.add_lit, Nat.zero_add]
          exact (hB2.cell (p := ⟨g, j, none⟩) hg).trans this
        · cases hj)
    ⟨g2, 0, none⟩ (1 + (n - i)) cap2 (u :: xs.drop i) (by have := ho2.1; simpa using this) (fun j v hj => World.ownsRow.cells ho2 (g := g2) rfl j v hj) (by omega) (by omega)
  obtain ⟨g3, cap3, rfl, hg3⟩ : ∃ g3 cap3, v3 = .slice (some ⟨g3, 0, none⟩) (i + (1 + (n - i))) cap3 ∧ w2.heap.size ≤ g3 := by
    rcases ho3.2 with ⟨_, h0⟩ | ⟨g, cap, cur, rfl, hg, _⟩
    · omega
    · exact ⟨g, cap, rfl, hg⟩
  have e1 : i + (1 + (n - i)) = n + 1 := by omega
  rw [e1] at ho3 hr3
  exact ⟨A, c, _, w2, _, w3, rfl, hnc, hA', hr2, hr3, World.ownsRow.mono ho3 (by omega), hB1, hB2, hB2.trans (hB3.mono hs2), ⟨_, _, _, rfl⟩, _, _, _, rfl, by omega⟩
end

end Go.Proofs.Ytkbjbjkgohkkjaa

/-
  Lists of pairs of byte slices in memory of the call's own, and what append does to them. No condition.
-/
import Derived.Test.YtkbjbjkgohkkjaaTws
namespace Go.Proofs.Ytkbjbjkgohkkjaa
open Go.RowKit Go.Shelf

theorem ownG {W : World} {base size : Nat} {t : TypeId} {v : Value} {n : Nat} {xs : List Value} (h : W.ownsRow base t size v n xs) {g : Nat} (hg : v.ownBlock = some g) : ∃ cs r, W.heap[g]? = some (.cells cs t r) := by
  rcases h.2 with ⟨rfl, _⟩ | ⟨g', cap, cur, rfl, _, hr, _⟩
  · cases hg
  · have e5 : g' = g := Option.some.inj hg
    subst e5
    exact ⟨_, _, hr⟩
theorem own_neG {W : World} {base base' s s' : Nat} {t t' : TypeId} {v v' : Value} {n n' : Nat} {xs xs' : List Value} (hne : t ≠ t') (h : W.ownsRow base t s v n xs) (h' : W.ownsRow base' t' s' v' n' xs') : v.ownBlock = none ∨ v.ownBlock ≠ v'.ownBlock := by
  cases hv : v.ownBlock with
  | none => exact .inl rfl
  | some g =>
    right
    intro e
    obtain ⟨cs, r, h1⟩ := ownG h hv
    obtain ⟨cs', r', h2⟩ := ownG h' e.symm
    rw [h1] at h2
    injection h2 with h2
    injection h2 with _ h3 _
    exact hne h3
theorem of_heapG {W W' : World} {base size : Nat} {t : TypeId} {v : Value} {n : Nat} {xs : List Value} (h : W.ownsRow base t size v n xs) (hh : ∀ g, v.ownBlock = some g → W'.heap[g]? = W.heap[g]?) : W'.ownsRow base t size v n xs := by
  refine ⟨h.1, ?_⟩
  rcases h.2 with h0 | ⟨g, cap, cur, rfl, hb, hr, hr'⟩
  · exact .inl h0
  · exact .inr ⟨g, cap, cur, rfl, hb, (hh g rfl).trans hr, hr'⟩
theorem owns_ltG {W : World} {base size : Nat} {t : TypeId} {v : Value} {n : Nat} {xs : List Value} (h : W.ownsRow base t size v n xs) {g : Nat} (hg : v.ownBlock = some g) : base ≤ g ∧ g < W.heap.size := by
  rcases h.2 with ⟨rfl, _⟩ | ⟨g', cap, cur, rfl, hb, hr, _⟩
  · cases hg
  · have e5 : g' = g := Option.some.inj hg
    subst e5
    exact ⟨hb, (Array.getElem?_eq_some_iff.1 hr).1⟩

abbrev Pr := List UInt8 × List UInt8
/-- a list of pairs in memory of the call's own -/
def MineP (w : World) (base : Nat) (v : Value) (fs : List Pr) : Prop :=
  ∃ hs : List (Hd × Hd), w.ownsRow base 24 2 v hs.length (hs.flatMap fun h => [sv h.1, sv h.2]) ∧ hs.length = fs.length ∧ ∀ (i : Nat) (h : Hd × Hd) (f : Pr), hs[i]? = some h → fs[i]? = some f → Mine 5 w base (sv h.1) f.1 ∧ Mine 5 w base (sv h.2) f.2

section
variable {w w' : World} {base B : Nat} {v : Value} {fs : List Pr}
theorem MineP.nil (w : World) (base : Nat) : MineP w base (.slice none 0 0) [] := ⟨[], ⟨rfl, .inl ⟨rfl, rfl⟩⟩, rfl, fun i h f e1 => by simp at e1⟩
theorem MineP.of_heap (h : MineP w base v fs) (hh : ∀ g cs t r, base ≤ g → w.heap[g]? = some (.cells cs t r) → (t = 24 ∨ t = 5) → w'.heap[g]? = w.heap[g]?) : MineP w' base v fs := by
  obtain ⟨hs, ho, hl, hr⟩ := h
  have hrow : ∀ (u : Value) (ks : List UInt8), Mine 5 w base u ks → Mine 5 w' base u ks := fun u ks hm => hm.of_heap fun g hg => by
    obtain ⟨cs, r, e⟩ := ownsRow_own hm hg
    exact hh g cs 5 r (hm.lt hg).1 e (.inr rfl)
  exact ⟨hs, of_heapG ho (fun g hg => by obtain ⟨cs, r, e⟩ := ownG ho hg; exact hh g cs 24 r (owns_ltG ho hg).1 e (.inl rfl)), hl, fun i h f e1 e2 => ⟨hrow _ _ (hr i h f e1 e2).1, hrow _ _ (hr i h f e1 e2).2⟩⟩
theorem MineP.mono (h : MineP w base v fs) {base' : Nat} (hb : base' ≤ base) : MineP w base' v fs := by
  obtain ⟨hs, ho, hl, hr⟩ := h
  exact ⟨hs, World.ownsRow.mono ho hb, hl, fun i h f e1 e2 => ⟨(hr i h f e1 e2).1.mono hb, (hr i h f e1 e2).2.mono hb⟩⟩
theorem MineP.below (h : MineP w base v fs) (hb : Below B w w') (hB : w.heap.size ≤ B) : MineP w' base v fs := h.of_heap fun g cs t r _ e _ => hb.block g (by have := (Array.getElem?_eq_some_iff.1 e).1; omega)
theorem MineP.alloc (h : MineP w base v fs) (o : Obj) : MineP (w.alloc o) base v fs := h.below ((Below.refl _ w).alloc (Nat.le_refl _) o) (Nat.le_refl _)
theorem MineP.putObj {l : Nat} {o : Obj} (h : MineP w base v fs) (hl : w.heap[l]? = some o) (ho : o.isCells = false) (o' : Obj) : MineP (w.putObj l o') base v fs :=
  h.of_heap fun g cs t r _ e _ => World.putObj_heap_other (fun e' => by
    subst e'
    rw [e] at hl
    cases hl
    cases ho)
theorem MineP.setCell (h : MineP w base v fs) {p : Addr} (hp : p.block < base) (u : Value) : MineP (w.setCell p u) base v fs := h.of_heap fun g cs t r hg _ _ => Below.heap_setCell w p u g (by omega)
theorem MineP.grown (h : MineP w base v fs) {w1 : World} (hg : w.grownBy w1 v.ownBlock) (hb : B ≤ base) (hB : B ≤ w.heap.size) : Below B w w1 := by
  obtain ⟨hs, ho, _⟩ := h
  exact (Below.refl B w).grown hg hB fun j ej => by have := (owns_ltG ho ej).1; omega
theorem MineP.own (h : MineP w base v fs) {g : Nat} (hg : v.ownBlock = some g) : base ≤ g ∧ ∃ cs r, w.heap[g]? = some (.cells cs 24 r) := by
  obtain ⟨hs, ho, _⟩ := h
  exact ⟨(owns_ltG ho hg).1, ownG ho hg⟩
theorem MineP.shape (h : MineP w base v fs) : ∃ A m c, v = .slice A m c := by
  obtain ⟨hs, ho, _⟩ := h
  rcases ho.2 with ⟨rfl, _⟩ | ⟨g, cap, cur, rfl, _⟩
  · exact ⟨_, _, _, rfl⟩
  · exact ⟨_, _, _, rfl⟩
/-- read: its length, and what each element holds -/
theorem MineP.at_ (h : MineP w base v fs) : ∃ A c, v = .slice A fs.length c ∧ fs.length ≤ c ∧ ∀ (i : Nat) (hi : i < fs.length), ∃ g kh vh, A = some ⟨g, 0, none⟩ ∧ base ≤ g ∧ g < w.heap.size ∧ w.cell? ⟨g, 2 * i, none⟩ = some (sv kh) ∧ w.cell? ⟨g, 2 * i + 1, none⟩ = some (sv vh) ∧ Mine 5 w base (sv kh) fs[i].1 ∧ Mine 5 w base (sv vh) fs[i].2 := by
  obtain ⟨hs, ho, hl, hr⟩ := h
  rcases ho.2 with ⟨rfl, h0⟩ | ⟨g, cap, cur, rfl, hb, hh, hnc, hr'⟩
  · refine ⟨none, 0, by rw [show fs.length = 0 by omega], by omega, fun i hi => by omega⟩
  · refine ⟨some ⟨g, 0, none⟩, cap, by rw [hl], by omega, fun i hi => ?_⟩
    have hi' : i < hs.length := by omega
    have hc := World.ownsRow.cells ho (g := g) rfl
    have hfl : ∀ (l : List (Hd × Hd)) (i : Nat) (hi : i < l.length), (l.flatMap fun h => [sv h.1, sv h.2])[2 * i]? = some (sv l[i].1) ∧ (l.flatMap fun h => [sv h.1, sv h.2])[2 * i + 1]? = some (sv l[i].2) := by
      intro l
      induction l with
      | nil => intro i hi; simp at hi
      | cons a l ih =>
        intro i hi
        rcases i with _ | i
        · simp
        · have := ih i (by simpa using hi)
          rw [List.flatMap_cons, show 2 * (i + 1) = 2 * i + 2 by omega]
          simpa using this
    have h1 := hc _ _ (hfl hs i hi').1
    have h2 := hc _ _ (hfl hs i hi').2
    rw [Addr.add_lit, Nat.zero_add] at h1 h2
    have hm := hr i _ _ (List.getElem?_eq_getElem hi') (List.getElem?_eq_getElem hi)
    exact ⟨g, hs[i].1, hs[i].2, rfl, hb, (Array.getElem?_eq_some_iff.1 hh).1, h1, h2, hm.1, hm.2⟩

theorem append_pair {P : Program} {t : TypeId} (ty : TypeId) (ht : P.underlying t = some (.slice 24)) (hinfo : (P.info? 24).map (fun i => (i.zero, i.size, i.bytes)) = some (some (.agg #[.slice none 0 0, .slice none 0 0]), 2, 48))
    (h : MineP w base v fs) (hb : base ≤ w.heap.size) {h1 h2 : Hd} {f : Pr} (hf1 : Mine 5 w base (sv h1) f.1) (hf2 : Mine 5 w base (sv h2) f.2) {g : Nat} (hc0 : w.cell? ⟨g, 0, none⟩ = some (sv h1)) (hc1 : w.cell? ⟨g, 1, none⟩ = some (sv h2)) (hlen : fs.length ≤ 1000000) :
    ∃ v' w', (Builtin.append_ #[t, t] ty #[v, .slice (some ⟨g, 0, none⟩) 1 1]).run P w = .ok v' w' ∧ MineP w' base v' (fs ++ [f]) ∧ w.grownBy w' v.ownBlock := by
  obtain ⟨i0, hi, hz0, hz1, hz2⟩ := info_parts hinfo
  obtain ⟨hs, ho, hl, hrows⟩ := h
  obtain ⟨v', w', hr, hown, hg, _, _⟩ := run_append_own_at (P := P) w base t ty 24 i0 (.agg #[.slice none 0 0, .slice none 0 0]) 2 48 ht hi hz0 hz1 hz2 rfl (by decide) v hs.length (hs.flatMap fun h => [sv h.1, sv h.2]) ho ⟨g, 0, none⟩ 1 1 [sv h1, sv h2] rfl (by
      intro j u hj
      match j, hj with
      | 0, hj => simp at hj; subst hj; exact hc0
      | 1, hj => simp at hj; subst hj; exact hc1) (by intro u hu; simp at hu; rcases hu with rfl | rfl <;> rfl) (by unfold maxLen; omega) (by omega) hb
  have hkeep : ∀ (u : Value) (ks : List UInt8), Mine 5 w base u ks → Mine 5 w' base u ks := fun u ks hm => hm.kept hg (own_neG (by decide) hm ho)
  refine ⟨v', w', hr, ⟨hs ++ [(h1, h2)], ?_, by simp [hl], fun i h f' e1 e2 => ?_⟩, hg⟩
  · rw [List.length_append, List.length_singleton, List.flatMap_append]
    simpa using hown
  · rcases Nat.lt_or_ge i hs.length with hlt | hge
    · rw [List.getElem?_append_left hlt] at e1
      rw [List.getElem?_append_left (by omega)] at e2
      have hm := hrows i h f' e1 e2
      exact ⟨hkeep _ _ hm.1, hkeep _ _ hm.2⟩
    · have hi0 : i = hs.length := by
        rcases Nat.eq_or_lt_of_le hge with h' | h'
        · exact h'.symm
        · rw [List.getElem?_eq_none (by simp; omega)] at e1; cases e1
      subst hi0
      rw [List.getElem?_append_right (Nat.le_refl _)] at e1
      rw [List.getElem?_append_right (by omega)] at e2
      simp at e1
      rw [hl] at e2
      simp at e2
      subst e1 e2
      exact ⟨hkeep _ _ hf1, hkeep _ _ hf2⟩
end
theorem info24 : (Try.prog.info? 24).map (fun i => (i.zero, i.size, i.bytes)) = some (some (.agg #[.slice none 0 0, .slice none 0 0]), 2, 48) := by kernel_rfl

end Go.Proofs.Ytkbjbjkgohkkjaa

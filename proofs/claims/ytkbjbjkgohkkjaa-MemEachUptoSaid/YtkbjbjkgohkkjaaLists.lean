/-
  Lists of slices of bytes in memory of the call's own, and what append does to them. They speak of no program. No condition.
-/
import Derived.Test.YtkbjbjkgohkkjaaKit
namespace Go.Proofs.Ytkbjbjkgohkkjaa
open Go.RowKit

abbrev Hd := Option Addr × Nat × Nat

/-- a list of byte lists in memory of the call's own: tq the element's type, e the bytes' -/
def MineL (tq e : TypeId) (w : World) (base : Nat) (v : Value) (fs : List (List UInt8)) : Prop :=
  ∃ hs : List Hd, w.ownsRow base tq 1 v hs.length (hs.map sv) ∧ hs.length = fs.length ∧ ∀ (i : Nat) (h : Hd) (f : List UInt8), hs[i]? = some h → fs[i]? = some f → Mine e w base (sv h) f

section
variable {tq e : TypeId} {w w' : World} {base B : Nat} {v : Value} {fs : List (List UInt8)}
theorem ownsRow_own {W : World} {base : Nat} {t : TypeId} {v : Value} {n : Nat} {xs : List Value} (h : W.ownsRow base t 1 v n xs) {g : Nat} (hg : v.ownBlock = some g) : ∃ cs r, W.heap[g]? = some (.cells cs t r) := by
  rcases h.2 with ⟨rfl, _⟩ | ⟨g', cap, cur, rfl, _, hr, _⟩
  · cases hg
  · have e5 : g' = g := Option.some.inj hg
    subst e5
    exact ⟨_, _, hr⟩
theorem own_ne {W : World} {base base' : Nat} {t t' : TypeId} {v v' : Value} {n n' : Nat} {xs xs' : List Value} (hne : t ≠ t') (h : W.ownsRow base t 1 v n xs) (h' : W.ownsRow base' t' 1 v' n' xs') : v.ownBlock = none ∨ v.ownBlock ≠ v'.ownBlock := by
  cases hv : v.ownBlock with
  | none => exact .inl rfl
  | some g =>
    right
    intro e
    obtain ⟨cs, r, h1⟩ := ownsRow_own h hv
    obtain ⟨cs', r', h2⟩ := ownsRow_own h' e.symm
    rw [h1] at h2
    injection h2 with h2
    injection h2 with _ h3 _
    exact hne h3
theorem ownsRow_of_heap {W W' : World} {base : Nat} {t : TypeId} {v : Value} {n : Nat} {xs : List Value} (h : W.ownsRow base t 1 v n xs) (hh : ∀ g, v.ownBlock = some g → W'.heap[g]? = W.heap[g]?) : W'.ownsRow base t 1 v n xs := by
  refine ⟨h.1, ?_⟩
  rcases h.2 with h0 | ⟨g, cap, cur, rfl, hb, hr, hr'⟩
  · exact .inl h0
  · exact .inr ⟨g, cap, cur, rfl, hb, (hh g rfl).trans hr, hr'⟩

theorem MineL.nil (tq e : TypeId) (w : World) (base : Nat) : MineL tq e w base (.slice none 0 0) [] := ⟨[], ⟨rfl, .inl ⟨rfl, rfl⟩⟩, rfl, fun i h f e1 => by simp at e1⟩
theorem MineL.mono (h : MineL tq e w base v fs) {base' : Nat} (hb : base' ≤ base) : MineL tq e w base' v fs := by
  obtain ⟨hs, ho, hl, hr⟩ := h
  exact ⟨hs, World.ownsRow.mono ho hb, hl, fun i h f e1 e2 => (hr i h f e1 e2).mono hb⟩
theorem MineL.below (h : MineL tq e w base v fs) (hb : Below B w w') (hB : w.heap.size ≤ B) : MineL tq e w' base v fs := by
  obtain ⟨hs, ho, hl, hr⟩ := h
  exact ⟨hs, ownsRow_of_heap ho (fun g hg => hb.block g (by have := (World.ownsRow.lt ho g hg).2; omega)), hl, fun i h f e1 e2 => (hr i h f e1 e2).below hb hB⟩
theorem MineL.drewN (h : MineL tq e w base v fs) (k : Nat) : MineL tq e (w.drewN k) base v fs := h
theorem MineL.alloc (h : MineL tq e w base v fs) (o : Obj) : MineL tq e (w.alloc o) base v fs := by
  obtain ⟨hs, ho, hl, hr⟩ := h
  exact ⟨hs, World.ownsRow.alloc ho o, hl, fun i h f e1 e2 => (hr i h f e1 e2).alloc o⟩
theorem MineL.setCell (h : MineL tq e w base v fs) {p : Addr} (hp : p.block < base) (u : Value) : MineL tq e (w.setCell p u) base v fs := by
  obtain ⟨hs, ho, hl, hr⟩ := h
  exact ⟨hs, ownsRow_of_heap ho (fun g hg => Below.heap_setCell w p u g (by have := (World.ownsRow.lt ho g hg).1; omega)), hl, fun i h f e1 e2 => (hr i h f e1 e2).setCell hp u⟩
theorem MineL.grown (h : MineL tq e w base v fs) {w1 : World} (hg : w.grownBy w1 v.ownBlock) (hb : B ≤ base) (hB : B ≤ w.heap.size) : Below B w w1 := by
  obtain ⟨hs, ho, _⟩ := h
  exact (Below.refl B w).grown hg hB fun j ej => by have := (World.ownsRow.lt ho j ej).1; omega
theorem MineL.shape (h : MineL tq e w base v fs) : ∃ A m c, v = .slice A m c := by
  obtain ⟨hs, ho, _⟩ := h
  rcases ho.2 with ⟨rfl, _⟩ | ⟨g, cap, cur, rfl, _⟩
  · exact ⟨_, _, _, rfl⟩
  · exact ⟨_, _, _, rfl⟩

/-- such a list reads as a list of byte lists; its length as a letter -/
theorem MineL.bss (h : MineL tq e w base v fs) (hr : fs.length ≤ 140737488351232) (hf : ∀ f ∈ fs, f.length ≤ 140737488351232) :
    ∃ A L c, v = .slice A L c ∧ L = fs.length ∧ Bss w w.heap.size A L c fs := by
  obtain ⟨hs, ho, hl, hrows⟩ := h
  have hrow : ∀ (i : Nat) (h : Hd) (f : List UInt8), hs[i]? = some h → fs[i]? = some f → Bs w w.heap.size h.1 h.2.1 h.2.2 f := fun i h f e1 e2 => by
    obtain ⟨A, c, e3, hb, _⟩ := (hrows i h f e1 e2).bs (hf f (List.mem_of_getElem? e2))
    simp only [sv] at e3
    injection e3 with e4 e5 e6
    rw [e4, e5, e6]
    exact hb
  rcases ho.2 with ⟨rfl, h0⟩ | ⟨g, cap, cur, rfl, hb, hh, hnc, hr'⟩
  · obtain rfl := List.eq_nil_of_length_eq_zero h0
    obtain rfl := List.eq_nil_of_length_eq_zero hl.symm
    exact ⟨none, 0, 0, rfl, rfl, Bss.nil _ _ _ _⟩
  · have hg := World.ownsRow.lt ho g rfl
    refine ⟨some ⟨g, 0, none⟩, hs.length, cap, rfl, hl, hs, ⟨by simp, hnc, by omega, fun _ => ⟨g, 0, rfl, hg.2, fun j u hu => ?_⟩⟩, hl, hrow⟩
    have := World.ownsRow.cells ho (g := g) rfl j u hu
    rw [Addr.add_lit] at this
    exact this

/-- append of one more -/
theorem append_list {P : Program} {t : TypeId} (ty : TypeId) (ht : P.underlying t = some (.slice tq)) (hinfo : (P.info? tq).map (fun i => (i.zero, i.size, i.bytes)) = some (some (.slice none 0 0), 1, 24)) (hne : e ≠ tq)
    (h : MineL tq e w base v fs) (hb : base ≤ w.heap.size) {h0 : Hd} {f : List UInt8} (hf : Mine e w base (sv h0) f) {g : Nat} (hc : w.cell? ⟨g, 0, none⟩ = some (sv h0)) (hlen : fs.length ≤ 1000000) :
    ∃ v' w', (Builtin.append_ #[t, t] ty #[v, .slice (some ⟨g, 0, none⟩) 1 1]).run P w = .ok v' w' ∧ MineL tq e w' base v' (fs ++ [f]) ∧ w.grownBy w' v.ownBlock := by
  obtain ⟨i0, hi, hz0, hz1, hz2⟩ := info_parts hinfo
  obtain ⟨hs, ho, hl, hrows⟩ := h
  obtain ⟨v', w', hr, hown, hg, _, _⟩ := run_append_own_at (P := P) w base t ty tq i0 (.slice none 0 0) 1 24 ht hi hz0 hz1 hz2 rfl (by decide) v hs.length (hs.map sv) ho ⟨g, 0, none⟩ 1 1 [sv h0] rfl (by
      intro j u hj
      match j, hj with
      | 0, hj => simp at hj; subst hj; exact hc) (by intro u hu; simp at hu; subst hu; rfl) (by unfold maxLen; omega) (by omega) hb
  refine ⟨v', w', hr, ⟨hs ++ [h0], ?_, by simp [hl], fun i h f' e1 e2 => ?_⟩, hg⟩
  · rw [List.length_append, List.length_singleton, List.map_append]
    exact hown
  · rcases Nat.lt_or_ge i hs.length with hlt | hge
    · rw [List.getElem?_append_left hlt] at e1
      rw [List.getElem?_append_left (by omega)] at e2
      have hm := hrows i h f' e1 e2
      exact hm.kept hg (own_ne hne hm ho)
    · have hi0 : i = hs.length := by
        rcases Nat.eq_or_lt_of_le hge with h' | h'
        · exact h'.symm
        · rw [List.getElem?_eq_none (by simp; omega)] at e1; cases e1
      subst hi0
      rw [List.getElem?_append_right (Nat.le_refl _)] at e1
      rw [List.getElem?_append_right (by omega)] at e2
      simp at e1
      rw [hl] at e2
      simp at e2
      subst e1 e2
      exact hf.kept hg (own_ne hne hf ho)
theorem MineL.kept (h : MineL tq e w base v fs) {base' n' : Nat} {t' : TypeId} {v' : Value} {xs' : List Value} (h' : w.ownsRow base' t' 1 v' n' xs') (h1 : tq ≠ t') (h2 : e ≠ t') (hg : w.grownBy w' v'.ownBlock) : MineL tq e w' base v fs := by
  obtain ⟨hs, ho, hl, hr⟩ := h
  exact ⟨hs, World.ownsRow.kept ho hg (own_ne h1 ho h'), hl, fun i h f e1 e2 => (hr i h f e1 e2).kept hg (own_ne h2 (hr i h f e1 e2) h')⟩
theorem mine_shape {f : List UInt8} (h : Mine e w base v f) : ∃ A m c, v = .slice A m c := by
  rcases h.2 with ⟨rfl, _⟩ | ⟨g, cap, cur, rfl, _⟩
  · exact ⟨_, _, _, rfl⟩
  · exact ⟨_, _, _, rfl⟩

/-! ### numbers in a row of the call's own -/
def iv (z : Int) : Value := .int .i64 z
def MineI (w : World) (base : Nat) (v : Value) (zs : List Int) : Prop := w.ownsRow base 3 1 v zs.length (zs.map iv)
theorem MineI.nil (w : World) (base : Nat) : MineI w base (.slice none 0 0) [] := ⟨rfl, .inl ⟨rfl, rfl⟩⟩
theorem MineI.below {zs : List Int} (h : MineI w base v zs) (hb : Below B w w') (hB : w.heap.size ≤ B) : MineI w' base v zs :=
  ownsRow_of_heap h (fun g hg => hb.block g (by have := (World.ownsRow.lt h g hg).2; omega))
theorem MineI.alloc {zs : List Int} (h : MineI w base v zs) (o : Obj) : MineI (w.alloc o) base v zs := World.ownsRow.alloc h o
theorem MineI.grown {zs : List Int} (h : MineI w base v zs) {w1 : World} (hg : w.grownBy w1 v.ownBlock) (hb : B ≤ base) (hB : B ≤ w.heap.size) : Below B w w1 :=
  (Below.refl B w).grown hg hB fun j ej => by have := (World.ownsRow.lt h j ej).1; omega
theorem MineI.kept {zs : List Int} (h : MineI w base v zs) {base' n' : Nat} {t' : TypeId} {v' : Value} {xs' : List Value} (h' : w.ownsRow base' t' 1 v' n' xs') (h1 : (3 : TypeId) ≠ t') (hg : w.grownBy w' v'.ownBlock) : MineI w' base v zs :=
  World.ownsRow.kept h hg (own_ne h1 h h')
/-- read as cells; its length as a letter -/
theorem MineI.sl {zs : List Int} (h : MineI w base v zs) (hr : zs.length ≤ 140737488351232) : ∃ A L c, v = .slice A L c ∧ L = zs.length ∧ Sl w w.heap.size A L c (zs.map iv) := by
  rcases h.2 with ⟨rfl, h0⟩ | ⟨g, cap, cur, rfl, hb, hh, hnc, hr'⟩
  · obtain rfl := List.eq_nil_of_length_eq_zero h0
    exact ⟨none, 0, 0, rfl, rfl, Sl.nil _ _ _ _⟩
  · have hg := World.ownsRow.lt h g rfl
    refine ⟨some ⟨g, 0, none⟩, zs.length, cap, rfl, rfl, ⟨by simp, hnc, by omega, fun _ => ⟨g, 0, rfl, hg.2, fun j u hu => ?_⟩⟩⟩
    have := World.ownsRow.cells h (g := g) rfl j u hu
    rw [Addr.add_lit] at this
    exact this
theorem MineI.far {zs : List Int} (h : MineI w base v zs) {G : Nat} (hg : w.grownBy w' (some G)) (hG : G < base) : MineI w' base v zs :=
  World.ownsRow.kept h hg (by
    cases hv : v.ownBlock with
    | none => exact .inl rfl
    | some g => exact .inr (fun e => by have := (World.ownsRow.lt h g hv).1; injection e with e; omega))
theorem Mine.far {f : List UInt8} (h : Mine e w base v f) {G : Nat} (hg : w.grownBy w' (some G)) (hG : G < base) : Mine e w' base v f :=
  h.kept hg (by
    cases hv : v.ownBlock with
    | none => exact .inl rfl
    | some g => exact .inr (fun e => by have := (h.lt hv).1; injection e with e; omega))
theorem MineL.far (h : MineL tq e w base v fs) {G : Nat} (hg : w.grownBy w' (some G)) (hG : G < base) : MineL tq e w' base v fs := by
  obtain ⟨hs, ho, hl, hr⟩ := h
  refine ⟨hs, World.ownsRow.kept ho hg ?_, hl, fun i h f e1 e2 => (hr i h f e1 e2).far hg hG⟩
  cases hv : v.ownBlock with
  | none => exact .inl rfl
  | some g => exact .inr (fun e => by have := (World.ownsRow.lt ho g hv).1; injection e with e; omega)
theorem MineI.sl' {zs : List Int} {A : Option Addr} {L c : Nat} (h : MineI w base (.slice A L c) zs) (hr : zs.length ≤ 140737488351232) : Sl w w.heap.size A L c (zs.map iv) := by
  obtain ⟨A', L', c', e1, _, e2⟩ := h.sl hr
  injection e1 with e3 e4 e5
  subst e3 e4 e5
  exact e2
theorem MineL.bss' {A : Option Addr} {L c : Nat} (h : MineL tq e w base (.slice A L c) fs) (hr : fs.length ≤ 140737488351232) (hf : ∀ f ∈ fs, f.length ≤ 140737488351232) : Bss w w.heap.size A L c fs := by
  obtain ⟨A', L', c', e1, _, e2⟩ := h.bss hr hf
  injection e1 with e3 e4 e5
  subst e3 e4 e5
  exact e2
theorem append_int {P : Program} {t : TypeId} (ty : TypeId) (ht : P.underlying t = some (.slice 3)) (hinfo : (P.info? 3).map (fun i => (i.zero, i.size, i.bytes)) = some (some (.int .i64 0), 1, 8))
    {zs : List Int} (h : MineI w base v zs) (hb : base ≤ w.heap.size) {z : Int} {g : Nat} (hc : w.cell? ⟨g, 0, none⟩ = some (iv z)) (hlen : zs.length ≤ 1000000) :
    ∃ v' w', (Builtin.append_ #[t, t] ty #[v, .slice (some ⟨g, 0, none⟩) 1 1]).run P w = .ok v' w' ∧ MineI w' base v' (zs ++ [z]) ∧ w.grownBy w' v.ownBlock := by
  obtain ⟨i0, hi, hz0, hz1, hz2⟩ := info_parts hinfo
  obtain ⟨v', w', hr, hown, hg, _, _⟩ := run_append_own_at (P := P) w base t ty 3 i0 (.int .i64 0) 1 8 ht hi hz0 hz1 hz2 rfl (by decide) v zs.length (zs.map iv) h ⟨g, 0, none⟩ 1 1 [iv z] rfl (by
      intro j u hj
      match j, hj with
      | 0, hj => simp at hj; subst hj; exact hc) (by intro u hu; simp at hu; subst hu; rfl) (by unfold maxLen; omega) (by omega) hb
  refine ⟨v', w', hr, ?_, hg⟩
  unfold MineI
  rw [List.length_append, List.length_singleton, List.map_append]
  exact hown

end

end Go.Proofs.Ytkbjbjkgohkkjaa

/-
  More words: lists of slices of bytes; bytes in memory of the call's own, and what append does to them. They speak of no program. No condition.
-/
import Derived.Test.YtkbjbjkgohkkjaaMarks
import Derived.WalkSpells
import Derived.WalkLawsBesides
import Derived.Deep.Onto
import Derived.Laws.NewBlocks
import Derived.Lib.MakeNoZero
namespace Go.Proofs.Ytkbjbjkgohkkjaa
open Go.RowKit

/-! ### a slice of slices of bytes -/
def sv (h : Option Addr × Nat × Nat) : Value := .slice h.1 h.2.1 h.2.2
def Bss (w : World) (B : Nat) (A : Option Addr) (n c : Nat) (kss : List (List UInt8)) : Prop :=
  ∃ hs : List (Option Addr × Nat × Nat), Sl w B A n c (hs.map sv) ∧ hs.length = kss.length ∧ ∀ (i : Nat) (h : Option Addr × Nat × Nat) (ks : List UInt8), hs[i]? = some h → kss[i]? = some ks → Bs w B h.1 h.2.1 h.2.2 ks
section
variable {w w' : World} {B B' : Nat} {A : Option Addr} {n c : Nat} {kss : List (List UInt8)}
theorem Bss.len (h : Bss w B A n c kss) : kss.length = n := by
  obtain ⟨hs, hsl, hl, _⟩ := h
  have := hsl.len
  rw [List.length_map] at this
  omega
theorem Bss.cap (h : Bss w B A n c kss) : n ≤ c := by obtain ⟨hs, hsl, _⟩ := h; exact hsl.cap
theorem Bss.nil (w : World) (B : Nat) (A : Option Addr) (c : Nat) : Bss w B A 0 c [] := ⟨[], Sl.nil _ _ _ _, rfl, fun i h ks e => by simp at e⟩
theorem Bss.more (h : Bss w B A n c kss) (hB : B ≤ B') : Bss w B' A n c kss := by
  obtain ⟨hs, hsl, hl, hr⟩ := h
  exact ⟨hs, hsl.more hB, hl, fun i h ks e1 e2 => (hr i h ks e1 e2).more hB⟩
theorem Bss.below (h : Bss w B A n c kss) (hb : Below B w w') : Bss w' B A n c kss := by
  obtain ⟨hs, hsl, hl, hr⟩ := h
  exact ⟨hs, hsl.below hb, hl, fun i h ks e1 e2 => (hr i h ks e1 e2).below hb⟩
theorem Bss.at_ (h : Bss w B A n c kss) (hk : 0 < n) : ∃ b off, A = some ⟨b, off, none⟩ ∧ b < B ∧ ∀ i (hi : i < kss.length), ∃ Ai ni ci, w.cell? ⟨b, off + i, none⟩ = some (.slice Ai ni ci) ∧ Bs w B Ai ni ci kss[i] := by
  obtain ⟨hs, hsl, hl, hr⟩ := h
  obtain ⟨b, off, e, hb, hc⟩ := hsl.at_ hk
  refine ⟨b, off, e, hb, fun i hi => ?_⟩
  have hi' : i < hs.length := by omega
  refine ⟨hs[i].1, hs[i].2.1, hs[i].2.2, ?_, hr i _ _ (List.getElem?_eq_getElem hi') (List.getElem?_eq_getElem hi)⟩
  rw [hc i (by simpa using hi')]
  simp [sv]
end

/-! ### what an operation does -/
theorem wpList_append_run {P : Program} {w w' : World} {ops : Array Oper} {rest : List Oper} {o : Oper} {a : Act} {Q : Exit → Act → World → Prop} (hgd : o.guard = none) (s x : Operand) (t : TypeId)
    (ho : o.op = .call { callee := .builtin .append, args := #[s, x], argTypes := #[t, t] }) (v u r : Value) (hs : a.eval s = v) (hx : a.eval x = u)
    (hr : (Builtin.append_ #[t, t] o.type #[v, u]).run P w = .ok r w') (h : wpList P ops Q rest (a.put o.dst r) w') : wpList P ops Q (o :: rest) a w :=
  wpList_plain hgd fun _ hK => by
    unfold Oper.wp execOp
    simp only [ho, resolve, invoke, builtin, Sem.run_bind, Sem.run_pure, Result.andThen_ok, List.map_toArray, List.map_cons, List.map_nil, hs, hx, hr]
    exact hK _ _ h

/-- a world with new blocks and turned blocks from B on -/
theorem Below.drewN' {B : Nat} {w w' : World} (h : Below B w w') (n : Nat) : Below B w (w'.drewN n) := h.trans ⟨rfl, rfl, rfl, Nat.le_refl _, fun _ _ => rfl⟩

/-! ### a block's cells from its head on -/
def RowAt (w : World) (b : Nat) (xs : List Value) : Prop := ∀ j u, xs[j]? = some u → w.cell? ⟨b, j, none⟩ = some u
theorem RowAt.set {w : World} {b : Nat} {xs : List Value} (h : RowAt w b xs) {p : Addr} (hp : p.block ≠ b) (u : Value) : RowAt (w.setCell p u) b xs :=
  fun j v hv => (World.cell?_setCell_other w p ⟨b, j, none⟩ u (fun e => hp (by rw [e]))).trans (h j v hv)

/-! ### bytes in a row of the call's own -/
def Mine (e : TypeId) (w : World) (base : Nat) (v : Value) (ks : List UInt8) : Prop := w.ownsRow base e 1 v ks.length (ks.map b8)
section
variable {e : TypeId} {w w' : World} {base B : Nat} {v : Value} {ks ys : List UInt8}
theorem Mine.nil (e : TypeId) (w : World) (base : Nat) : Mine e w base (.slice none 0 0) [] := ⟨rfl, .inl ⟨rfl, rfl⟩⟩
theorem Mine.mono (h : Mine e w base v ks) {base' : Nat} (hb : base' ≤ base) : Mine e w base' v ks := World.ownsRow.mono h hb
theorem Mine.made (e : TypeId) (w : World) {base : Nat} (hb : base ≤ w.heap.size) : Mine e (w.alloc (.cells #[] e)) base (.slice (some ⟨w.heap.size, 0, none⟩) 0 0) [] :=
  World.ownsRow_made w #[] 0 hb (Nat.zero_le _) rfl
theorem Mine.bs (h : Mine e w base v ks) (hr : ks.length ≤ 140737488351232) : ∃ A c, v = .slice A ks.length c ∧ Bs w w.heap.size A ks.length c ks ∧ (A = none → ks = []) ∧ ∀ a, A = some a → ∃ g, a = ⟨g, 0, none⟩ ∧ base ≤ g ∧ g < w.heap.size := by
  rcases World.ownsRow.lt h with hlt
  rcases h.2 with ⟨rfl, h0⟩ | ⟨g, cap, cur, rfl, hb, hh, hnc, hr'⟩
  · obtain rfl := List.eq_nil_of_length_eq_zero h0
    exact ⟨none, 0, rfl, Bs.nil _ _ _ _, fun _ => rfl, fun a e => by cases e⟩
  · have hg := hlt g rfl
    refine ⟨some ⟨g, 0, none⟩, cap, rfl, ⟨by simp, hnc, hr, fun _ => ⟨g, 0, rfl, hg.2, fun j u hu => ?_⟩⟩, (fun e => by cases e), fun a e => ⟨g, by injection e with e; exact e.symm, hg⟩⟩
    have := World.ownsRow.cells h (g := g) rfl j u hu
    rw [Addr.add_lit] at this
    exact this
/-- .. its length as a letter -/
theorem Mine.bsL (h : Mine e w base v ks) (hr : ks.length ≤ 140737488351232) : ∃ A L c, v = .slice A L c ∧ L = ks.length ∧ Bs w w.heap.size A L c ks := by
  obtain ⟨A, c, e1, e2, _⟩ := h.bs hr
  exact ⟨A, _, c, e1, rfl, e2⟩
theorem Mine.kept {row : Option Nat} (h : Mine e w base v ks) (hg : w.grownBy w' row) (hne : v.ownBlock = none ∨ v.ownBlock ≠ row) : Mine e w' base v ks := World.ownsRow.kept h hg hne
theorem Mine.alloc (h : Mine e w base v ks) (o : Obj) : Mine e (w.alloc o) base v ks := World.ownsRow.alloc h o
theorem Mine.drewN (h : Mine e w base v ks) (n : Nat) : Mine e (w.drewN n) base v ks := h
theorem Mine.of_heap (h : Mine e w base v ks) (hh : ∀ g, v.ownBlock = some g → w'.heap[g]? = w.heap[g]?) : Mine e w' base v ks := by
  refine ⟨h.1, ?_⟩
  rcases h.2 with ⟨rfl, h0⟩ | ⟨g, cap, cur, rfl, hb, hr, hr'⟩
  · exact .inl ⟨rfl, h0⟩
  · exact .inr ⟨g, cap, cur, rfl, hb, (hh g rfl).trans hr, hr'⟩
theorem Mine.lt (h : Mine e w base v ks) {g : Nat} (hg : v.ownBlock = some g) : base ≤ g ∧ g < w.heap.size := World.ownsRow.lt h g hg
theorem Mine.below (h : Mine e w base v ks) (hb : Below B w w') (hB : w.heap.size ≤ B) : Mine e w' base v ks :=
  h.of_heap fun g hg => hb.block g (by have := h.lt hg; omega)
theorem Mine.setCell (h : Mine e w base v ks) {p : Addr} (hp : p.block < base) (u : Value) : Mine e (w.setCell p u) base v ks :=
  h.of_heap fun g hg => Below.heap_setCell w p u g (by have := h.lt hg; omega)

/-- behind an append onto a row of the call's own: what lay below lies as it lay -/
theorem Mine.grown (h : Mine e w base v ks) {w1 : World} (hg : w.grownBy w1 v.ownBlock) (hb : B ≤ base) (hB : B ≤ w.heap.size) : Below B w w1 :=
  (Below.refl B w).grown hg hB fun j ej => by have := h.lt ej; omega

section
variable {P : Program}
theorem append_mine {t : TypeId} (ty : TypeId) (ht : P.underlying t = some (.slice e)) (hinfo : (P.info? e).map (fun i => (i.zero, i.size, i.bytes)) = some (some (.int .u8 0), 1, 1))
    (h : Mine e w base v ys) (hb : base ≤ w.heap.size) {A : Option Addr} {n c : Nat} (hk : Bs w B A n c ks) (hlen : ys.length + n ≤ 140737488351232) :
    ∃ v' w', (Builtin.append_ #[t, t] ty #[v, .slice A n c]).run P w = .ok v' w' ∧ Mine e w' base v' (ys ++ ks) ∧ w.grownBy w' v.ownBlock ∧ (v'.ownBlock = v.ownBlock ∨ v'.ownBlock = some w.heap.size) := by
  obtain ⟨i0, hi, hz0, hz1, hz2⟩ := info_parts hinfo
  have hl := hk.len
  cases A with
  | none =>
    have hn0 : n = 0 := by
      rcases Nat.eq_zero_or_pos n with h0 | h0
      · exact h0
      · obtain ⟨b, off, e, _⟩ := hk.at_ h0; cases e
    subst hn0
    obtain rfl := List.eq_nil_of_length_eq_zero hl
    refine ⟨v, w, ?_, by rw [List.append_nil]; exact h, World.grownBy.refl _ _, .inl rfl⟩
    rcases h.2 with ⟨rfl, h0⟩ | ⟨g, cap, cur, rfl, _, _, hnc, _⟩
    · simp [Builtin.append_, run_underlying ht, sizeOf, typeInfo, hi, Builtin.lenOf, Builtin.firstCells]
    · simp [Builtin.append_, run_underlying ht, sizeOf, typeInfo, hi, Builtin.lenOf, Builtin.firstCells, hnc, storeCells]
  | some a =>
    have hc : ∀ j u, (ks.map b8)[j]? = some u → w.cell? (a.add j) = some u := by
      intro j u hj
      obtain ⟨b, off, e, hb, hcc⟩ := (Sl.row hk) (by intro e; rw [e] at hj; cases hj)
      injection e with e
      subst e
      rw [Addr.add_lit]
      exact hcc j u hj
    obtain ⟨v', w', hr, hown, hg, _, h5⟩ := run_append_own_at (P := P) w base t ty e i0 (.int .u8 0) 1 1 ht hi hz0 hz1 hz2 rfl (by decide) v ys.length (ys.map b8) h a n c (ks.map b8) (by simp [hl]) hc (by intro u hu; obtain ⟨x, _, rfl⟩ := List.mem_map.1 hu; rfl) (by unfold maxLen; omega) (by omega) hb
    refine ⟨v', w', hr, ?_, hg, h5⟩
    unfold Mine
    rw [List.length_append, hl, List.map_append]
    exact hown
end
end

/-- a byte just laid -/
theorem bs_new (w : World) (t : TypeId) (x : UInt8) (z : Int) (hz : z = (x.toNat : Int)) : Bs (w.alloc (.cells #[.int .u8 z] t)) (w.heap.size + 1) (some ⟨w.heap.size, 0, none⟩) 1 1 [x] := by
  subst hz
  refine ⟨rfl, Nat.le_refl _, by omega, fun _ => ⟨w.heap.size, 0, rfl, by omega, fun j u hu => ?_⟩⟩
  match j, hu with
  | 0, hu =>
    simp [b8] at hu
    subst hu
    exact (Blk.new w t #[.int .u8 (x.toNat : Int)]).cell 0

end Go.Proofs.Ytkbjbjkgohkkjaa

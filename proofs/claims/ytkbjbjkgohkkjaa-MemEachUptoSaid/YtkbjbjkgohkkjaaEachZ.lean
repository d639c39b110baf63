/-
  What the law MemEach keeps through its rounds: both tables, its boxes; what writes into one box, or into free bytes, does to it. No condition but what each law asks.
-/
import Derived.Test.YtkbjbjkgohkkjaaEachT
namespace Go.Proofs.Ytkbjbjkgohkkjaa
open Go.RowKit Go.Shelf

section
variable {w w' : World} {T base : Nat} {tws : List Int} {ns : List Nd} {cnt : Nat} {sl : Bool} {hd : Nw} {ms : List Nw}
/-- block g is not the row of the towers as drawn -/
def NotTw (W : World) (T g : Nat) : Prop := ∀ v, W.cell? ⟨T, 1, none⟩ = some v → v.ownBlock ≠ some g
theorem NotTw.cell {W W' : World} {g : Nat} (h : NotTw W T g) (hc : W'.cell? ⟨T, 1, none⟩ = W.cell? ⟨T, 1, none⟩) : NotTw W' T g := fun v hv => h v (hc ▸ hv)
theorem Tm.not_tw (h : Tm w T base tws ns cnt sl hd ms) {g : Nat} (hg : w.heap.size ≤ g) : NotTw w T g := fun v hv e => by
  obtain ⟨tv, hb, hm⟩ := h.tab
  have h1 : w.cell? ⟨T, 1, none⟩ = some tv := hb.cell 1
  rw [h1] at hv
  injection hv with hv
  subst hv
  have := (World.ownsRow.lt hm g e).2
  omega
/-- a cell of numbers written that is not the towers' -/
theorem Tm.ibox (h : Tm w T base tws ns cnt sl hd ms) {g : Nat} {cs : Array Value} (hb : Blk w g 3 cs) (hn : NotTw w T g) (i : Nat) (u : Value) : Tm (w.setCell ⟨g, i, none⟩ u) T base tws ns cnt sl hd ms := by
  obtain ⟨tv, hbt, hm⟩ := h.tab
  have hT : T ≠ g := fun e => by
    subst e
    have := kind_ne hb hbt
    cases this
  refine ⟨⟨tv, hbt.far (by simpa using hT) u, ownsRow_of_heap hm fun k hk => Below.heap_setCell w _ u k (fun e => ?_)⟩, h.sl.keep fun k hk => Below.heap_setCell w _ u k (fun e => ?_), h.low⟩
  · have e : k = g := e
    subst e
    exact hn tv (hbt.cell 1) hk
  · have e : k = g := e
    subst e
    exact h.sl.not_foot hb (by decide) (by decide) (by decide) hk
theorem Tm.putObj (h : Tm w T base tws ns cnt sl hd ms) {l : Nat} {o : Obj} (hl : w.heap[l]? = some o) (ho : o.isCells = false) (o' : Obj) : Tm (w.putObj l o') T base tws ns cnt sl hd ms :=
  h.keep fun g _ _ hc => World.putObj_heap_other (fun e => by
    subst e
    obtain ⟨cs, t, r, hh, _⟩ := h.kind hc
    rw [hh] at hl
    injection hl with hl
    subst hl
    cases ho)
theorem cell_putObj {l g i : Nat} {t : TypeId} {cs : Array Value} {o : Obj} (h : Blk w g t cs) (hl : w.heap[l]? = some o) (ho : o.isCells = false) (o' : Obj) : (w.putObj l o').cell? ⟨g, i, none⟩ = w.cell? ⟨g, i, none⟩ :=
  ((blk_putObj h hl ho o').cell i).trans (h.cell i).symm
end

structure PZ (w : World) (tw : Value) (tws : List Int) (s : List Nd × Nat) (T R base : Nat) (hd : Nw) (ms : List Nw) (kv vv tv : Value) (CB Q0 RB X Y : Nat) (fv : Value) (W : World) : Prop where
  tm : ∃ c, c ≤ CB ∧ Tm W T base tws s.1 c false hd ms
  rt : Rt W R base tw kv vv tv s.1 s.2
  bel : Below w.heap.size w W
  q0 : Boxed W Q0 4 (.bool false)
  rb : Boxed W RB 64 (.pointer (some ⟨R, 0, none⟩))
  x : Boxed W X 26 (.pointer (some ⟨T, 0, none⟩))
  y : Boxed W Y 22 fv

section
variable {w W W' : World} {tw : Value} {tws : List Int} {s : List Nd × Nat} {T R base : Nat} {hd : Nw} {ms : List Nw} {kv vv tv : Value} {CB Q0 RB X Y : Nat} {fv : Value}
theorem PZ.more {CB' : Nat} (h : PZ w tw tws s T R base hd ms kv vv tv CB Q0 RB X Y fv W) (hc : CB ≤ CB') : PZ w tw tws s T R base hd ms kv vv tv CB' Q0 RB X Y fv W := by
  obtain ⟨c, h1, h2⟩ := h.tm
  exact ⟨⟨c, by omega, h2⟩, h.rt, h.bel, h.q0, h.rb, h.x, h.y⟩
theorem PZ.below (h : PZ w tw tws s T R base hd ms kv vv tv CB Q0 RB X Y fv W) (hb : Below W.heap.size W W') : PZ w tw tws s T R base hd ms kv vv tv CB Q0 RB X Y fv W' := by
  obtain ⟨c, h1, h2⟩ := h.tm
  exact ⟨⟨c, h1, h2.below hb (Nat.le_refl _)⟩, h.rt.below hb (Nat.le_refl _), h.bel.trans (hb.mono h.bel.size), Blk.below h.q0 hb h.q0.lt, Blk.below h.rb hb h.rb.lt, Blk.below h.x hb h.x.lt, Blk.below h.y hb h.y.lt⟩
theorem PZ.box_ne (h : PZ w tw tws s T R base hd ms kv vv tv CB Q0 RB X Y fv W) {g : Nat} {t : TypeId} {v : Value} (hb : Boxed W g t v) (ht : t ≠ 47) : g ≠ T := fun e => by
  obtain ⟨c, _, h2⟩ := h.tm
  obtain ⟨u, hbt, _⟩ := h2.tab
  subst e
  exact ht (kind_ne hb hbt)
theorem PZ.blk_ne (h : PZ w tw tws s T R base hd ms kv vv tv CB Q0 RB X Y fv W) {g : Nat} {t : TypeId} {cs : Array Value} (hb : Blk W g t cs) (ht : t ≠ 47) : g ≠ T := fun e => by
  obtain ⟨c, _, h2⟩ := h.tm
  obtain ⟨u, hbt, _⟩ := h2.tab
  subst e
  exact ht (kind_ne hb hbt)
/-- the iterator's own steps -/
theorem PZ.it (h : PZ w tw tws s T R base hd ms kv vv tv CB Q0 RB X Y fv W) {CB' : Nat} (hI : ItE T base tws s.1 false hd ms CB' W W') (hT : w.heap.size ≤ T) : PZ w tw tws s T R base hd ms kv vv tv CB' Q0 RB X Y fv W' := by
  obtain ⟨hg, hc, _⟩ := hI
  obtain ⟨c, _, h2⟩ := h.tm
  have hx : ∀ {g t v}, Boxed W g t v → t ≠ 47 → Boxed W' g t v := fun {g t v} hb ht => Blk.grown hb hg (fun e => by injection e with e; exact h.box_ne hb ht e)
  exact ⟨hc, h.rt.grown_t h2 hg, h.bel.grown hg h.bel.size (fun j ej => by injection ej with ej; omega), hx h.q0 (by decide), hx h.rb (by decide), hx h.x (by decide), hx h.y (by decide)⟩
theorem PZ.putObj (h : PZ w tw tws s T R base hd ms kv vv tv CB Q0 RB X Y fv W) {l : Nat} {o : Obj} (hS : w.heap.size ≤ l) (hl : W.heap[l]? = some o) (ho : o.isCells = false) (o' : Obj) : PZ w tw tws s T R base hd ms kv vv tv CB Q0 RB X Y fv (W.putObj l o') := by
  obtain ⟨c, h1, h2⟩ := h.tm
  exact ⟨⟨c, h1, h2.putObj hl ho o'⟩, h.rt.keep (fun g cs t r e _ => World.putObj_heap_other (fun e' => by
      subst e'
      rw [e] at hl
      injection hl with hl
      subst hl
      cases ho)), below_putObj h.bel hS o', blk_putObj h.q0 hl ho o', blk_putObj h.rb hl ho o', blk_putObj h.x hl ho o', blk_putObj h.y hl ho o'⟩
theorem PZ.box_far {g : Nat} {t t' : TypeId} {v u : Value} {cs : Array Value} {i : Nat} (hb : Boxed W g t v) {g' : Nat} (hb' : Blk W g' t' cs) (hne : t ≠ t') : Boxed (W.setCell ⟨g', i, none⟩ u) g t v :=
  Blk.far hb (fun e => by
    have e : g = g' := e
    subst e
    exact hne (kind_ne hb hb')) u
/-- bytes written that are free -/
theorem PZ.zed (h : PZ w tw tws s T R base hd ms kv vv tv CB Q0 RB X Y fv W) {g : Nat} {cs : Array Value} (hb : Blk W g 5 cs) (hf : ¬ Foot hd ms g) (hS : w.heap.size ≤ g) (i : Nat) (u : Value) : PZ w tw tws s T R base hd ms kv vv tv CB Q0 RB X Y fv (W.setCell ⟨g, i, none⟩ u) := by
  obtain ⟨c, h1, h2⟩ := h.tm
  exact ⟨⟨c, h1, h2.zed hb hf i u⟩, h.rt.zed hb i u, h.bel.setCell (p := ⟨g, i, none⟩) hS u, PZ.box_far h.q0 hb (by decide), PZ.box_far h.rb hb (by decide), PZ.box_far h.x hb (by decide), PZ.box_far h.y hb (by decide)⟩
theorem PZ.tab_far {g : Nat} {cs : Array Value} {v u : Value} (h : Blk W R 72 cs) (hb : Boxed W g 3 v) : Blk (W.setCell ⟨g, 0, none⟩ u) R 72 cs :=
  h.far (fun e => by
    have e : R = g := e
    subst e
    have := kind_ne h hb
    cases this) u
/-- the counter's box written -/
theorem PZ.ibox (h : PZ w tw tws s T R base hd ms kv vv tv CB Q0 RB X Y fv W) {g : Nat} {v : Value} (hb : Boxed W g 3 v) (hn : NotTw W T g) (ht : tv.ownBlock ≠ some g) (hS : w.heap.size ≤ g) (u : Value) : PZ w tw tws s T R base hd ms kv vv tv CB Q0 RB X Y fv (W.setCell ⟨g, 0, none⟩ u) := by
  obtain ⟨c, h1, h2⟩ := h.tm
  have keep : ∀ {t n : Nat} {b : Nat} {r : Value} {xs : List Value}, t ≠ 3 → W.ownsRow b t 1 r n xs → (W.setCell ⟨g, 0, none⟩ u).ownsRow b t 1 r n xs := fun {t n b r xs} hne hr => of_heapG hr (fun k hk => Below.heap_setCell W _ u k (fun e => by
    have e : k = g := e
    subst e
    obtain ⟨cs, f, hh⟩ := ownG hr hk
    exact hne (kind_ne hh hb)))
  refine ⟨⟨c, h1, h2.ibox hb hn 0 u⟩, ⟨PZ.tab_far h.rt.tab hb, keep (by decide) h.rt.keys, keep (by decide) h.rt.vals, ?_⟩, h.bel.setCell (p := ⟨g, 0, none⟩) hS u, PZ.box_far h.q0 hb (by decide), PZ.box_far h.rb hb (by decide), PZ.box_far h.x hb (by decide), PZ.box_far h.y hb (by decide)⟩
  exact of_heapG h.rt.tall (fun k hk => Below.heap_setCell W _ u k (fun e => by
    have e : k = g := e
    subst e
    exact ht hk))
end

theorem Rt.kat {w : World} {R base n sc cnt : Nat} {tw vv tv : Value} {SA : Option Addr} {ns : List Nd} (h : Rt w R base tw (.slice SA n sc) vv tv ns cnt) {i : Nat} (hi : i < ns.length) : ∃ b, SA = some ⟨b, 0, none⟩ ∧ w.cell? ⟨b, i, none⟩ = some (strV ns[i].k) := by
  obtain ⟨A, c, e, hh⟩ := h.kslice
  injection e with e1 _ _
  subst e1
  exact hh i hi
theorem Rt.vat {w : World} {R base n sc cnt : Nat} {tw kv tv : Value} {SA : Option Addr} {ns : List Nd} (h : Rt w R base tw kv (.slice SA n sc) tv ns cnt) {i : Nat} (hi : i < ns.length) : ∃ b, SA = some ⟨b, 0, none⟩ ∧ w.cell? ⟨b, i, none⟩ = some (strV ns[i].v) := by
  obtain ⟨A, c, e, hh⟩ := h.vslice
  injection e with e1 _ _
  subst e1
  exact hh i hi
theorem NotTw.putObj {W : World} {T g base c l : Nat} {tws : List Int} {ns : List Nd} {sl : Bool} {hd : Nw} {ms : List Nw} {o : Obj} (h : NotTw W T g) (ht : Tm W T base tws ns c sl hd ms) (hl : W.heap[l]? = some o) (ho : o.isCells = false) (o' : Obj) : NotTw (W.putObj l o') T g := by
  obtain ⟨tv, hb, _⟩ := ht.tab
  exact h.cell (cell_putObj hb hl ho o')
theorem NotTw.set {W : World} {T g g' i : Nat} (h : NotTw W T g) (hg : g' ≠ T) (u : Value) : NotTw (W.setCell ⟨g', i, none⟩ u) T g :=
  h.cell (World.cell?_setCell_other _ _ _ _ (fun e => by injection e with e; first | exact hg e.symm | exact hg e))
/-- bytes that are read stay when a block that is no cells turns -/
theorem bs_putObj {W : World} {B l : Nat} {A : Option Addr} {n c : Nat} {ks : List UInt8} {o : Obj} (h : Bs W B A n c ks) (hl : W.heap[l]? = some o) (ho : o.isCells = false) (o' : Obj) : Bs (W.putObj l o') B A n c ks :=
  ⟨Sl.len h, Sl.cap h, Sl.reach h, fun hn => by
    obtain ⟨b, off, e, hb, hc⟩ := Sl.row h hn
    refine ⟨b, off, e, hb, fun j u hu => ?_⟩
    have h1 := hc j u hu
    refine (World.cell?_of_block (w := W) (World.putObj_heap_other (fun e' => ?_))).trans h1
    have e' : b = l := e'
    subst e'
    obtain ⟨o2, ho2, hc2⟩ := cells_of_cell h1
    simp only at ho2
    rw [hl] at ho2
    injection ho2 with ho2
    subst ho2
    rw [ho] at hc2
    cases hc2⟩
theorem EachV.putObj {lo : Nat} {hd : Nw} {ms : List Nw} {ns : List Nd} {i : Nat} {W : World} {x : Value × Value} {l : Nat} {o : Obj} (h : EachV lo hd ms ns i W x) (hl : W.heap[l]? = some o) (ho : o.isCells = false) (o' : Obj) : EachV lo hd ms ns i (W.putObj l o') x := by
  obtain ⟨hi, A, L, c, B, M, d, e, h1, h2, h3⟩ := h
  refine ⟨hi, A, L, c, B, M, d, e, (bs_putObj h1 hl ho o').more (by simp), (bs_putObj h2 hl ho o').more (by simp), fun h0 => ?_⟩
  obtain ⟨g, cs, e1, hb, hn, hf, hlo⟩ := h3 h0
  exact ⟨g, cs, e1, blk_putObj hb hl ho o', hn, hf, hlo⟩
/-- the counter, read off a world -/
def iOf (g : Nat) (W : World) : Nat := match W.cell? ⟨g, 0, none⟩ with | some (.int _ z) => z.toNat | _ => 0
theorem iOf_box {W : World} {g : Nat} {t : TypeId} {k : IntKind} {z : Int} (h : Boxed W g t (.int k z)) : iOf g W = z.toNat := by
  have := Boxed.cell h
  simp [iOf, this]
theorem iOf_set {W : World} {g : Nat} {t : TypeId} {v : Value} (h : Boxed W g t v) (k : IntKind) (z : Int) : iOf g (W.setCell ⟨g, 0, none⟩ (.int k z)) = z.toNat := iOf_box (Blk.put h 0 (.int k z))

end Go.Proofs.Ytkbjbjkgohkkjaa

/-
  A loop over the reader's Each: the iterator writes the reader between the rounds. Condition: the reader's bytes are fields, one behind the other; the rounds end normally.
-/
import Derived.Test.YtdlbhppoknbnlaaRefF
namespace Go.Proofs.Ytdlbhppoknbnlaa
open Go.RowKit Go.Shelf

theorem bs_putObj {w : World} {B l : Nat} {A : Option Addr} {n c : Nat} {ks : List UInt8} {o : Obj} (h : Bs w B A n c ks) (hl : w.heap[l]? = some o) (ho : o.isCells = false) (o' : Obj) : Bs (w.putObj l o') B A n c ks :=
  ⟨Sl.len h, Sl.cap h, Sl.reach h, fun hne => by
    obtain ⟨b, off, e, hb, hc⟩ := Sl.row h hne
    refine ⟨b, off, e, hb, fun j u hu => ?_⟩
    have h1 := hc j u hu
    refine (World.cell?_of_block (World.putObj_heap_other (fun eb => ?_))).trans h1
    obtain ⟨o2, h2, h3⟩ := cells_of_cell h1
    have eb' : b = l := eb
    subst eb'
    rw [show w.heap[b]? = _ from hl] at h2
    cases h2
    rw [ho] at h3
    cases h3⟩

/-- how a round's body ends: normally; the reader, its bytes and the iterator's variable as they were -/
def eachPost (B R X : Nat) (I : World → Prop) (W : World) : Exit → Act → World → Prop
  | .normal, _, W' => KeepsFrom B W W' ∧ Below (R + 1) W W' ∧ W'.heap[X]? = W.heap[X]? ∧ I W'
  | .ret, _, _ => False
  | .exit _, _, _ => False
  | .goto _, _, _ => False
  | .panic _, _, _ => False
  | .outgrown, _, _ => False

theorem wpIn_each {n : Nat} {g : Operand} {ps : Array Tmp} {assign body : Code} {Q : Exit → Act → World → Prop} {a : Act} {w : World} (h1 : 2 ≤ n)
    (fs : List (List UInt8)) (hfs : ∀ f ∈ fs, f.length ≤ 1048576) (R X N c : Nat) (A : Option Addr)
    (hg : a.eval g = .func (.func 70) #[] #[.pointer (some ⟨X, 0, none⟩)])
    (hRX : R < X) (hXw : X < w.heap.size) (hN : (encF fs).length = N) (hNr : N ≤ 1000000000) (hfn : fs.length ≤ 1000000)
    (hX : Boxed w X 47 (.pointer (some ⟨R, 0, none⟩))) (hr : Rdr w R A N c 0 0) (hb : Bs w R A N c (encF fs))
    (hps : ps.size = 2)
    (I : Nat → World → Prop) (hI : ∀ i W W' row, I i W → W.grownBy W' row → (∀ r, row = some r → r = R ∨ (w.heap.size ≤ r ∧ ∃ o : Obj, W.heap[r]? = some o ∧ o.isCells = false)) → I i W') (h0 : I 0 w)
    (a₁ : Nat → Value → Act)
    (hassign : ∀ (l i : Nat) (v : Value) (W : World) (K : Act → World → Prop), K (a₁ i v) W →
      assign.wpIn (Fence.wide.inRound l) (n - 1 - 1) Try.prog (Exit.then K (fun _ _ _ => False)) { tmps := (ps.zip #[.int .i64 (i : Int), v]).foldl (fun t (p, v) => t.setIfInBounds p v) a.tmps, defers := [] } W)
    (hbody : ∀ (l i : Nat) (W : World) (A' : Option Addr) (L' c' : Nat), (hi : i < fs.length) → I i W → Bs W W.heap.size A' L' c' fs[i] →
      body.wpIn (Fence.wide.inRound l) (n - 1 - 1) Try.prog (eachPost w.heap.size R X (I (i + 1)) W) (a₁ i (.slice A' L' c')) W)
    (hdone : ∀ (D : Nat) (W : World), w.heap.size ≤ D → I fs.length W → Rdr W R A N c (N : Int) 0 → W.heap[D]? = some (.deferred (some [])) → Q .normal { a with defers := { target := .collected D, args := #[] } :: a.defers } W) :
    (Code.rangeFunc g ps assign body).wpIn Fence.wide n Try.prog Q a w := by
  refine wpIn_rangeFunc ?_
  intro fn hfn'
  rw [show Fence.wide.round = none from rfl]
  obtain ⟨rec, hrec⟩ : ∃ rec : LoopState → Option Code → Loop, rec = fun st pe => { state := st, pending := pe, fn, tmps := a.tmps, params := ps, assign, body, defers := w.heap.size } := ⟨_, rfl⟩
  obtain ⟨W1, hW1⟩ : ∃ W1, (w.alloc (.deferred (some []))).alloc (.loop (rec .ready none)) = W1 := ⟨_, rfl⟩
  have hL1 : W1.heap[w.heap.size + 1]? = some (.loop (rec .ready none)) := by
    rw [← hW1]
    have := World.alloc_heap_new (w.alloc (.deferred (some []))) (.loop (rec .ready none))
    rwa [World.size_alloc] at this
  have hD1 : W1.heap[w.heap.size]? = some (.deferred (some [])) := by
    rw [← hW1]
    exact (Below.heap_alloc _ _ _ (by simp)).trans (World.alloc_heap_new w _)
  have hB1 : Below w.heap.size w W1 := by
    rw [← hW1]
    exact ((Below.refl _ w).alloc (Nat.le_refl _) _).alloc (by simp) _
  have hI1 : I 0 W1 := hI 0 w W1 none h0 ⟨hB1.os, hB1.tape, hB1.output, hB1.size, fun k hk _ => hB1.block k hk⟩ (fun r e => by cases e)
  have hX1 : Boxed W1 X 47 (.pointer (some ⟨R, 0, none⟩)) := Blk.below hX hB1 hXw
  have hr1 := hr.below hB1 (by omega)
  have hb1 := hb.below (hB1.mono (by omega))
  have eg : ∀ args w, (callFunc 70 args).run Try.prog w = .ok (.enter 70 args) w := fun args w => by simp [callFunc, Try.func70, Try.f70, go_sem]
  refine ⟨w.heap.size + 1, [{ target := .collected w.heap.size, args := #[] }], W1, { target := .fn (.func 70) #[.pointer (some ⟨X, 0, none⟩)], args := #[.func (.yield (w.heap.size + 1)) #[] #[]] }, W1, 70,
    #[.func (.yield (w.heap.size + 1)) #[] #[]] ++ #[.pointer (some ⟨X, 0, none⟩)], W1, ?_, ?_, ?_, ?_, fun _ => by omega, ?_⟩
  · rw [← hW1, hrec]; exact run_enterLoop_outer _ _ _ _ _
  · simp only [resolve, hg]
    simp [go_sem]
  · intro f' hf'
    trivial
  · simp [invoke, go_sem, eg]
  · refine (each70_in (n - 1) (w.heap.size + 1) (by omega) fs hfs R X N c A
      (fun i W => I i W ∧ W.heap[w.heap.size + 1]? = some (.loop (rec .ready none)) ∧ W.heap[w.heap.size]? = some (.deferred (some [])))
      (fun i W W' ⟨hi, hl, hd⟩ hgr => ⟨hI i W W' _ hi hgr (fun r e => by cases e; exact .inl rfl), (hgr.block _ (Array.getElem?_eq_some_iff.1 hl).1 (by simp; omega)).trans hl, (hgr.block _ (Array.getElem?_eq_some_iff.1 hd).1 (by simp; omega)).trans hd⟩)
      hRX hN hNr hfn ?_ W1 hX1 hr1 hb1 ⟨hI1, hL1, hD1⟩).mono ?_
    · rintro i W A' L' c' hi ⟨hiI, hl, hd⟩ hbs
      have hlt : w.heap.size + 1 < W.heap.size := (Array.getElem?_eq_some_iff.1 hl).1
      have hy := run_yield (P := Try.prog) (args := #[.int .i64 (i : Int), .slice A' L' c']) hl (by rw [hrec]; exact hps.symm)
      rw [hrec] at hy
      refine ⟨fn, _, assign, body, hy, roundIn_of_wpIn hfn' (hassign _ i _ W _ ⟨_, run_beginRound hl (by rw [hrec]), ?_⟩)⟩
      have hB2 : Below (R + 1) W (W.putObj (w.heap.size + 1) (.loop { rec .ready none with state := .busy })) := belowK_b (w := w) (by omega) W _ _ _ (by omega) hl rfl rfl
      have hX2 : (W.putObj (w.heap.size + 1) (.loop { rec .ready none with state := .busy })).heap[X]? = W.heap[X]? := World.putObj_heap_other (by omega)
      have hl2 : (W.putObj (w.heap.size + 1) (.loop { rec .ready none with state := .busy })).heap[w.heap.size + 1]? = some (.loop { rec .ready none with state := .busy }) := World.putObj_heap_same hlt
      have hd2 : (W.putObj (w.heap.size + 1) (.loop { rec .ready none with state := .busy })).heap[w.heap.size]? = some (.deferred (some [])) := (World.putObj_heap_other (by omega)).trans hd
      have hI2 := hI i W (W.putObj (w.heap.size + 1) (.loop { rec .ready none with state := .busy })) _ hiI (grownBy_putObj' W _ _) (fun r e => by cases e; exact .inr ⟨by omega, _, hl, rfl⟩)
      have hbs2 : Bs (W.putObj (w.heap.size + 1) (.loop { rec .ready none with state := .busy })) (W.putObj (w.heap.size + 1) (.loop { rec .ready none with state := .busy })).heap.size A' L' c' fs[i] := (bs_putObj hbs hl rfl _).more (by simp)
      refine wpIn_mono (hbody _ i _ A' L' c' hi hI2 hbs2) ?_
      rintro e a3 W3 hp
      cases e with
      | normal =>
        obtain ⟨hk3, hB3, hX3, hi3⟩ := hp
        have hl3 := hk3.same _ _ (by omega) hl2 rfl
        have hend := run_endRound (P := Try.prog) none hl3
        rw [hrec] at hend hl3
        have hB4 : Below (R + 1) W3 (W3.putObj (w.heap.size + 1) (.loop (rec .ready none))) := belowK_b (w := w) (by omega) W3 _ _ _ (by omega) hl3 rfl rfl
        rw [hrec] at hB4
        refine ⟨_, _, hend, rfl, ⟨hI (i + 1) W3 _ _ hi3 (grownBy_putObj' W3 _ _) (fun r e => by cases e; exact .inr ⟨by omega, _, hl3, rfl⟩), ?_, ?_⟩, (hB2.trans hB3).trans hB4, ?_⟩
        · rw [hrec]; exact World.putObj_heap_same (Array.getElem?_eq_some_iff.1 hl3).1
        · exact (World.putObj_heap_other (by omega)).trans (hk3.same _ _ (Nat.le_refl _) hd2 rfl)
        · exact (World.putObj_heap_other (by omega)).trans (hX3.trans hX2)
      | ret => exact hp.elim
      | exit id => exact hp.elim
      | goto t => exact hp.elim
      | panic ch => exact hp.elim
      | outgrown => exact hp.elim
    · rintro e W2 ⟨⟨v, rfl⟩, ⟨hi, hl, hd⟩, hrf, _⟩
      have hend := run_endLoop (P := Try.prog) hl (by rw [hrec]; simp)
      rw [hrec] at hend hl
      exact ⟨none, _, hend, hdone _ _ (Nat.le_refl _) (hI _ W2 _ _ hi (grownBy_putObj' W2 _ _) (fun r e => by cases e; exact .inr ⟨by omega, _, hl, rfl⟩)) (Blk.below hrf (belowK_b (n₀ := R + 1) (w := w) (by omega) W2 _ _ _ (by omega) hl rfl rfl) (by omega)) ((World.putObj_heap_other (by omega)).trans hd)⟩

end Go.Proofs.Ytdlbhppoknbnlaa

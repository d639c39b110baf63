/-
  The walk of codec.Fields. Condition: the slice reads as lists of bytes, each of at most 2^20, at most 2^16 of them.
-/
import Derived.Test.YtdlbhppoknbnlaaIter
namespace Go.Proofs.Ytdlbhppoknbnlaa
open Go.RowKit Go.Shelf

attribute [local go_sem] Oper.semAt_some

theorem wpListIn_append_run {F : Fence} {n : Nat} {P : Program} {w w' : World} {ops : Array Oper} {rest : List Oper} {o : Oper} {a : Act} {Q : Exit → Act → World → Prop} (hgd : o.guard = none) (s x : Operand) (t : TypeId)
    (ho : o.op = .call { callee := .builtin .append, args := #[s, x], argTypes := #[t, t] }) (v u r : Value) (hs : a.eval s = v) (hx : a.eval x = u)
    (hr : (Builtin.append_ #[t, t] o.type #[v, u]).run P w = .ok r w') (h : wpListIn F n P ops Q rest (a.put o.dst r) w') : wpListIn F n P ops Q (o :: rest) a w := by
  refine wpListIn_plain hgd fun K hK' => ?_
  unfold Oper.wpIn
  refine ⟨?_, ?_⟩
  · simp [Oper.about, ho, resolve, Target.leads, Sem.run_pure]
  · rw [Oper.semAt_plain F _ _ (by rw [ho]; intro c hc'; cases hc')]
    simp [execOp, ho, resolve, invoke, builtin, hs, hx, hr, Result.andThen]
    exact hK' _ _ h

theorem mine_ne_boxed {e t : TypeId} (hne : e ≠ t) {W : World} {base T : Nat} {v u : Value} {ks : List UInt8} (hm : Mine e W base v ks) (hT : Boxed W T t u) : some T ≠ v.ownBlock := by
  intro e'
  rcases hm.2 with ⟨e4, _⟩ | ⟨g4, cp4, cur4, e4, _, hr4, _⟩
  · rw [e4] at e'; cases e'
  · rw [e4] at e'
    have e5 : T = g4 := Option.some.inj e'
    subst e5
    unfold Boxed at hT
    rw [hT] at hr4
    injection hr4 with hr4
    injection hr4 with h1 h2
    exact hne h2.symm

/-- an element: its header, and the bytes that it reads as -/
abbrev El (w : World) := { p : Hd × List UInt8 // Bs w w.heap.size p.1.1 p.1.2.1 p.1.2.2 p.2 ∧ p.2.length ≤ 1048576 }
def fieldsB (kss : List (List UInt8)) : List UInt8 := uvar kss.length ++ (kss.map fun ks => uvar ks.length ++ ks).flatten

theorem els_of {w : World} {A : Option Addr} {n c : Nat} {kss : List (List UInt8)} (h : Bss w w.heap.size A n c kss) (hs : ∀ ks ∈ kss, ks.length ≤ 1048576) :
    ∃ (xs : List (El w)) (B2 : Nat), xs.length = n ∧ xs.map (fun x => x.1.2) = kss ∧ (0 < n → B2 < w.heap.size) ∧ ∀ k (hk : k < xs.length), ∃ off, A = some ⟨B2, off, none⟩ ∧ w.cell? ⟨B2, off + k, none⟩ = some (sv xs[k].1.1) := by
  have hn := h.len
  obtain ⟨hs', hsl, hl, hr⟩ := h
  refine ⟨(List.range n).attach.map fun i => ⟨(hs'[i.1]'(by have := List.mem_range.1 i.2; omega), kss[i.1]'(by have := List.mem_range.1 i.2; omega)), hr i.1 _ _ (List.getElem?_eq_getElem _) (List.getElem?_eq_getElem _), hs _ (List.getElem_mem _)⟩, ?_⟩
  rcases Nat.eq_zero_or_pos n with h0 | h0
  · subst h0
    refine ⟨0, by simp, ?_, by omega, fun k hk => by simp at hk⟩
    obtain rfl := List.eq_nil_of_length_eq_zero hn
    simp
  · obtain ⟨b, off, rfl, hb, hc⟩ := hsl.at_ h0
    refine ⟨b, by simp, ?_, fun _ => hb, fun k hk => ⟨off, rfl, ?_⟩⟩
    · apply List.ext_getElem
      · simp [hn]
      · intro i h1 h2
        simp
    · have hk' : k < n := by simpa using hk
      rw [hc k (by simp; omega)]
      simp

def accB {w : World} (n : Nat) (pre : List (El w)) : List UInt8 := uvar n ++ (pre.map fun x => uvar x.1.2.length ++ x.1.2).flatten
theorem accB_snoc {w : World} (n : Nat) (pre : List (El w)) (x : El w) : accB n (pre ++ [x]) = accB n pre ++ (uvar x.1.2.length ++ x.1.2) := by simp [accB]
theorem accB_all {w : World} (xs : List (El w)) (kss : List (List UInt8)) (h : xs.map (fun x => x.1.2) = kss) : accB kss.length xs = fieldsB kss := by
  subst h
  simp [accB, fieldsB, Function.comp_def]
theorem accB_len {w : World} (n : Nat) (hn : (uvar n).length ≤ 10) : ∀ (pre : List (El w)), (accB n pre).length ≤ 10 + pre.length * 1048586
  | [] => by simp [accB]; omega
  | x :: r => by
    have ih := accB_len n hn r
    have h1 := x.2.2
    have h2 := uvar_len10 x.1.2.length (by omega)
    simp only [accB, List.length_append, List.map_cons, List.flatten_cons, List.length_cons] at *
    omega

/-- the bytes so far, in the box T -/
def Acc {w : World} (base T n : Nat) (pre : List (El w)) (W : World) : Prop := ∃ v, Boxed W T 24 v ∧ Mine 5 W base v (accB n pre)
theorem acc_own {w : World} (base T n : Nat) : Own (Acc (w := w) base T n) := fun s X Y row hs hg hrow => by
  obtain ⟨v, hb, hm⟩ := hs
  refine ⟨v, hb.kept hg (fun e' => by obtain ⟨o, ho, hc⟩ := hrow T e'.symm; rw [show X.heap[T]? = _ from hb] at ho; cases ho; cases hc), hm.of_heap fun g hgo => hg.block g (hm.lt hgo).2 (fun e' => ?_)⟩
  obtain ⟨o, ho, hc⟩ := hrow g e'.symm
  rcases hm.2 with ⟨rfl, _⟩ | ⟨g', cap, cur, rfl, _, hr, _⟩
  · cases hgo
  · cases hgo
    rw [hr] at ho
    cases ho
    cases hc

set_option maxRecDepth 100000 in
set_option maxHeartbeats 2000000 in
theorem fields_any (kss : List (List UInt8)) (A : Option Addr) (n c : Nat) (w : World) (h : Bss w w.heap.size A n c kss) (hn : n ≤ 65536) (hks : ∀ ks ∈ kss, ks.length ≤ 1048576) :
    Calls Try.prog 21 #[.slice A n c] w (GivesE w 0 (fieldsB kss)) := by
  obtain ⟨xs, B2, hxl, hxm, hB2, hrow⟩ := els_of h hks
  refine (callsIn_wide (n := 9)).1 ?_
  refine callsIn_of_wp_marks Try.func21 rfl trivial ?_ rfl
  simp only [Try.ntmps21, List.size_toArray, List.length_cons, List.length_nil, Nat.reduceAdd, Nat.reduceSub, Array.replicate_succ, Array.replicate_zero, List.push_toArray, List.append_toArray, List.nil_append, List.cons_append]
  have f10 : Fence.wide.fn 10 := trivial
  have f58 : Fence.wide.fn 58 := trivial
  have hul := uvar_len10 n (by omega)
  gi_wp2_with (first
    | (gi_at_call 10; refine (callsIn_wide.2 (uint_any n (by omega) _)).mono ?_; rintro e w1 ⟨v1, rfl, hm1, hB1⟩; obtain ⟨MA, mc, rfl, hmb⟩ := Mine.bs hm1 (by omega))
    | (gi_at_call 58; refine (callsIn_wide.2 (valuesF_any A n c _)).mono ?_; rintro e w2 ⟨rfl, rfl⟩))
  have hs0 : ((w.alloc (.cells #[.slice none 0 0] 24)).alloc (.cells #[.int .i64 0] 28)).heap.size = w.heap.size + 1 + 1 := by simp
  have x0 : Boxed w1 w.heap.size 24 (.slice none 0 0) := Blk.below ((Blk.new w 24 #[.slice none 0 0]).alloc (.cells #[.int .i64 0] 28)) hB1 (by omega)
  have x1 : Boxed w1 (w.heap.size + 1) 28 (.int .i64 0) := by
    have := Blk.new (w.alloc (.cells #[.slice none 0 0] 24)) 28 #[.int .i64 0]
    rw [World.size_alloc] at this
    exact Blk.below this hB1 (by omega)
  rw [hs0] at hm1 hB1
  have hs1 := hB1.size
  rw [hs0] at hs1
  have hBw : Below w.heap.size w w1 := (((Below.refl _ w).alloc (Nat.le_refl _) _).alloc (by simp) _).trans (hB1.mono (by omega))
  have hm2 := (hm1.alloc (.cells #[.slice MA (uvar n).length mc] 24)).alloc (.cells #[.slice A n c] 41)
  have y0 := Blk.alloc (Blk.alloc x0 (.cells #[.slice MA (uvar n).length mc] 24)) (.cells #[.slice A n c] 41)
  have y1 := Blk.alloc (Blk.alloc x1 (.cells #[.slice MA (uvar n).length mc] 24)) (.cells #[.slice A n c] 41)
  have y2 := (Blk.new w1 24 #[.slice MA (uvar n).length mc]).alloc (.cells #[.slice A n c] 41)
  have y3 := Blk.new (w1.alloc (.cells #[.slice MA (uvar n).length mc] 24)) 41 #[.slice A n c]
  rw [World.size_alloc] at y3
  have hBW := (hBw.alloc hBw.size (.cells #[.slice MA (uvar n).length mc] 24)).alloc (by have := hBw.size; simp; omega) (.cells #[.slice A n c] 41)
  have hsz : ((w1.alloc (.cells #[.slice MA (uvar n).length mc] 24)).alloc (.cells #[.slice A n c] 41)).heap.size = w1.heap.size + 1 + 1 := by simp
  generalize ((w1.alloc (.cells #[.slice MA (uvar n).length mc] 24)).alloc (.cells #[.slice A n c] 41)) = W0 at *
  have hB2' : B2 < W0.heap.size ∨ n = 0 := by
    rcases Nat.eq_zero_or_pos n with h0 | h0
    · exact .inr h0
    · have := hB2 h0; left; omega
  obtain ⟨B3, hB3, hB3w, hrow3⟩ : ∃ B3, B3 < W0.heap.size ∧ (0 < n → B3 < w.heap.size) ∧ ∀ k (hk : k < xs.length), ∃ off, A = some ⟨B3, off, none⟩ ∧ W0.cell? ⟨B3, off + k, none⟩ = some (sv xs[k].1.1) := by
    rcases Nat.eq_zero_or_pos n with h0 | h0
    · exact ⟨0, by omega, by omega, fun k hk => by omega⟩
    · have hb2 := hB2 h0
      refine ⟨B2, by omega, fun _ => hb2, fun k hk => ?_⟩
      obtain ⟨off, e, hc⟩ := hrow k hk
      exact ⟨off, e, (hBW.cell (p := ⟨B2, off + k, none⟩) hb2).trans hc⟩
  have hcap := h.cap
  clear hrow hB2 hB2' hB1 x0 x1 hm1 hmb
  refine wpIn_rangeFunc_ownG (n := 9) rfl (by omega) (gf := 77) (lb := #[.pointer (some ⟨w1.heap.size + 1, 0, none⟩)]) rfl trivial (enters_of Try.func77 (by kernel_rfl) rfl)
    (values_stops (fun x : El w => x.1.1) (9 - 1) (by omega) (w1.heap.size + 1) B3 xs A n c hxl (by omega) hcap W0 (by omega) hB3 (y3.cell 0) hrow3)
    keepAt_t (keepAt_b (by omega) hB3) (Below.refl _ _) (fun _ => rfl)
    (fun pre W => (((Acc (w := w) (w.heap.size + 1 + 1) w1.heap.size n pre W ∧ Boxed W w.heap.size 24 (.slice none 0 0)) ∧ Boxed W (w.heap.size + 1) 28 (.int .i64 0)) ∧ Boxed W (w1.heap.size + 1) 41 (.slice A n c)) ∧ Below w.heap.size w W)
    (fun _ _ _ => False)
    (OwnFrom.and (OwnFrom.and (OwnFrom.and (OwnFrom.and (Own.from (acc_own _ _ _) _) (Own.from (boxed_own _ _ _) _)) (Own.from (boxed_own _ _ _) _)) (Own.from (boxed_own _ _ _) _)) (ownFrom_below (Nat.le_refl _) (by omega)))
    (fun _ _ _ _ _ hs _ _ => hs)
    ⟨⟨⟨⟨⟨_, y2, by simpa [accB] using hm2⟩, y0⟩, y1⟩, y3⟩, hBW⟩
    (fun x => { tmps := #[.slice A n c, undef, .pointer (some ⟨w.heap.size, 0, none⟩), .pointer (some ⟨w.heap.size + 1, 0, none⟩), .pointer (some ⟨w1.heap.size, 0, none⟩), sv x.1.1, undef, undef, .slice A n c,
      .int .i64 (n : Int), .bool (decide (65536 < (n : Int))), .slice A n c, .int .i64 (n : Int), .int .u64 (n : Int), .slice MA (uvar n).length mc, .slice A n c,
      .func (.func 77) #[] #[.pointer (some ⟨w1.heap.size + 1, 0, none⟩)], sv x.1.1, undef, undef, undef, undef, undef, undef, undef, undef, undef, undef, undef, undef], defers := [] })
    ?assign ?body ?done ?stop
  case assign =>
    intro l x W K hK
    simp only [encH]
    gi_wp2
    exact hK
  case body =>
    rintro l pre ⟨⟨⟨Ai, ni, ci⟩, ks⟩, hbs, hkl⟩ W ⟨⟨⟨⟨⟨v, hT, hm⟩, hb0⟩, hb1⟩, hb3⟩, hBw'⟩ hpre
    have hB3w' := hB3w (by omega)
    have hpl : pre.length ≤ 65536 := by omega
    have hkl' : ks.length ≤ 1048576 := hkl
    have hul2 := uvar_len10 ks.length (by omega)
    have hl := accB_len n hul pre
    have hsW := hBw'.size
    have hTl := hT.lt
    have f19 : Fence.wide.fn 19 := trivial
    obtain ⟨VA, vc, rfl, _⟩ := Mine.bs hm (by omega)
    have hnl := hide (show Bs w w.heap.size Ai ni ci ks from hbs).len
    have hcall := field_any ks Ai ni ci w.heap.size W ((show Bs w w.heap.size Ai ni ci ks from hbs).below hBw') hsW
    have e1 : fieldE ni = 0 := by unfold fieldE; rw [if_neg (by rw [← hnl.out]; omega)]
    have e2 : fieldB ks = uvar ks.length ++ ks := by unfold fieldB; rw [if_neg (by omega)]
    rw [e1, e2] at hcall
    have Hcall := hide hcall
    clear hcall e1 e2 hrow3 hks hxm hxl hpre
    simp only [sv]
    have cT : W.cell? ⟨w1.heap.size, 0, none⟩ = some (.slice VA (accB n pre).length vc) := hT.cell
    gi_wp2_with (first
      | (gi_at_call 19; refine ((callsIn_wide.2 Hcall.out).inRound l).mono ?_; rintro e W1 ⟨v1, rfl, hmf, hBf⟩; obtain ⟨FA, FL, fcp, rfl, hFL, hfb⟩ := Mine.bsL hmf (by rw [List.length_append]; omega)
         rw [List.length_append] at hFL
         have hsf := hBf.size
         have hm1 := hm.below hBf (Nat.le_refl _)
         obtain ⟨v3, W3, hrun, hm3, hg3, _⟩ := append_mine (P := Try.prog) 24 Try.underlying24 info5 hm1 (by omega) hfb (by omega)
         obtain ⟨VB, VL, vc3, rfl, hVL, _⟩ := Mine.bsL hm3 (by simp only [List.length_append]; omega)
         have hB3' : Below (w.heap.size + 1 + 1) W1 W3 := hm1.grown hg3 (Nat.le_refl _) (by omega)
         have hT1 : Boxed W1 w1.heap.size 24 (.slice VA (accB n pre).length vc) := Blk.below hT hBf hTl
         have cT1 : W1.cell? ⟨w1.heap.size, 0, none⟩ = some (.slice VA (accB n pre).length vc) := hT1.cell
         have hT3 : Boxed W3 w1.heap.size 24 (.slice VA (accB n pre).length vc) := hT1.kept hg3 (mine_ne_boxed (by decide) hm1 hT1)
         have cT3 : W3.cell? ⟨w1.heap.size, 0, none⟩ = some (.slice VA (accB n pre).length vc) := hT3.cell
         have fT3 : W3.frozen? ⟨w1.heap.size, 0, none⟩ = false := hT3.frozen
         clear hFL hVL)
      | (gi_at_builtin; refine wpListIn_append_run rfl _ _ 24 rfl _ _ _ rfl rfl hrun ?_))
    have hB13 : Below w.heap.size w W3 := (hBw'.trans (hBf.mono hsW)).trans (hB3'.mono (by omega))
    have hs13 := hB3'.size
    have hacc : accB n (pre ++ [⟨((Ai, ni, ci), ks), hbs, hkl⟩]) = accB n pre ++ (uvar ks.length ++ ks) := accB_snoc n pre _
    have g0 : W1.grownBy W3 (Value.slice VA (accB n pre).length vc).ownBlock := hg3
    have hq0 : Boxed W3 w.heap.size 24 (.slice none 0 0) := by
      have hx : Boxed W1 w.heap.size 24 (.slice none 0 0) := Blk.below hb0 hBf (by omega)
      exact hx.kept g0 (mine_ne_boxed (by decide) hm1 hx)
    have hq1 : Boxed W3 (w.heap.size + 1) 28 (.int .i64 0) := by
      have hx : Boxed W1 (w.heap.size + 1) 28 (.int .i64 0) := Blk.below hb1 hBf (by omega)
      exact hx.kept g0 (mine_ne_boxed (by decide) hm1 hx)
    have hx3 : Boxed W1 (w1.heap.size + 1) 41 (.slice A n c) := Blk.below hb3 hBf hb3.lt
    have hq3 : Boxed W3 (w1.heap.size + 1) 41 (.slice A n c) := hx3.kept g0 (mine_ne_boxed (by decide) hm1 hx3)
    have hko : KeepsOthers W W3 := (KeepsOthers.of_grownBy (grown_of_below hBf none) (fun j o e _ => by cases e)).trans (KeepsOthers.of_grownBy g0 (fun j o e ho => by
      rcases hm1.2 with ⟨e4, _⟩ | ⟨g4, cp4, cur4, e4, _, hr4, _⟩
      · rw [e4] at e; cases e
      · rw [e4] at e
        have e5 : g4 = j := Option.some.inj e
        subst e5
        rw [hr4] at ho
        cases ho
        rfl))
    have hmf3 : Mine 5 (W3.setCell ⟨w1.heap.size, 0, none⟩ (.slice VB VL vc3)) (w.heap.size + 1 + 1) (.slice VB VL vc3) (accB n pre ++ (uvar ks.length ++ ks)) :=
      hm3.of_heap fun g hgo => Below.heap_setCell W3 _ _ g (fun e => by
        have := mine_ne_boxed (by decide) hm3 hT3
        rw [hgo] at this
        exact this (by rw [e]))
    refine ⟨(hko.trans (KeepsOthers.setCell _ _ _)).from _, ⟨?_, ?_⟩, ⟨⟨⟨⟨⟨.slice VB VL vc3, hT3.set _, ?_⟩, ?_⟩, ?_⟩, ?_⟩, hB13.setCell (p := ⟨w1.heap.size, 0, none⟩) (by simp; omega) _⟩⟩
    · refine (Below.heap_setCell W3 _ _ _ (by simp)).trans ?_
      have e1 : W3.heap[w1.heap.size + 1]? = _ := hq3
      have e2 : W.heap[w1.heap.size + 1]? = _ := hb3
      rw [e1, e2]
    · refine (Below.heap_setCell W3 _ _ _ (by simp; omega)).trans ((hB3'.block _ (by omega)).trans (hBf.block _ (by omega)))
    · rw [hacc]; exact hmf3
    · exact Blk.far hq0 (by simp; omega) _
    · exact Blk.far hq1 (by simp; omega) _
    · exact Blk.far hq3 (by simp) _
  case done =>
    rintro D ys W hD rfl ⟨⟨⟨⟨⟨v, hT, hm⟩, hb0⟩, hb1⟩, hb3⟩, hBw'⟩ hK
    have hac := accB_all ys kss hxm
    rw [h.len] at hac
    have hl := accB_len n hul ys
    obtain ⟨VA, VL, vc, rfl, hVL, _⟩ := Mine.bsL hm (by omega)
    rw [hac] at hm hVL
    have cT : W.cell? ⟨w1.heap.size, 0, none⟩ = some (.slice VA VL vc) := hT.cell
    have c0 := hb0.cell
    have f0 := hb0.frozen
    have c1 := hb1.cell
    have f1 := hb1.frozen
    have hgD : ∀ g, (Value.slice VA VL vc).ownBlock = some g → g ≠ D := by
      intro g hgo e
      subst e
      rcases hm.2 with ⟨e4, _⟩ | ⟨g4, cp4, cur4, e4, _, hr4, _⟩
      · rw [e4] at hgo; cases hgo
      · rw [e4] at hgo
        have e5 : g4 = g := Option.some.inj hgo
        subst e5
        rw [hK] at hr4
        cases hr4
    have hVL' := hide hVL
    clear hVL
    gi_wp2
    have q0 : Boxed ((W.setCell ⟨w.heap.size, 0, none⟩ (.slice VA VL vc)).setCell ⟨w.heap.size + 1, 0, none⟩ (.int .i64 0)) w.heap.size 24 (.slice VA VL vc) := Blk.far (hb0.set _) (by simp) _
    have q1' : Boxed (W.setCell ⟨w.heap.size, 0, none⟩ (.slice VA VL vc)) (w.heap.size + 1) 28 (.int .i64 0) := Blk.far hb1 (by simp) _
    have q1 := q1'.set (.int .i64 0)
    have hK' := ((KeepsOthers.setCell W ⟨w.heap.size, 0, none⟩ (.slice VA VL vc)).trans (KeepsOthers.setCell _ ⟨w.heap.size + 1, 0, none⟩ (.int .i64 0))).same D _ hK rfl
    have hBf : Below w.heap.size w ((W.setCell ⟨w.heap.size, 0, none⟩ (.slice VA VL vc)).setCell ⟨w.heap.size + 1, 0, none⟩ (.int .i64 0)) := (hBw'.setCell (p := ⟨w.heap.size, 0, none⟩) (by simp) _).setCell (p := ⟨w.heap.size + 1, 0, none⟩) (by simp) _
    have hmf : Mine 5 ((W.setCell ⟨w.heap.size, 0, none⟩ (.slice VA VL vc)).setCell ⟨w.heap.size + 1, 0, none⟩ (.int .i64 0)) (w.heap.size + 1 + 1) (.slice VA VL vc) (fieldsB kss) := (hm.setCell (p := ⟨w.heap.size, 0, none⟩) (by simp; omega) _).setCell (p := ⟨w.heap.size + 1, 0, none⟩) (by simp) _
    generalize (W.setCell ⟨w.heap.size, 0, none⟩ (.slice VA VL vc)).setCell ⟨w.heap.size + 1, 0, none⟩ (.int .i64 0) = W5 at *
    refine ⟨by simp, .inl ⟨_, _, rfl, run_takeDeferred hK', ?_⟩⟩
    have hc5 := cell_kept q0.cell (grownBy_putObj' _ D (.deferred none)) (fun r e => by cases e; exact ⟨_, hK', rfl⟩)
    have hc6 := cell_kept q1.cell (grownBy_putObj' _ D (.deferred none)) (fun r e => by cases e; exact ⟨_, hK', rfl⟩)
    refine ⟨.tuple #[.slice VA VL vc, .int .i64 0], ?_, .slice VA VL vc, rfl, ?_, ?_⟩
    · simp [results, Try.f21, go_sem, hc5, hc6]
    · exact (hmf.of_heap fun g hgo => World.putObj_heap_other (hgD g hgo)).mono (by omega)
    · exact hBf.trans (belowK_b (w := w) (Nat.le_refl _) _ D _ _ (by omega) hK' rfl rfl)
  case stop =>
    rintro D c' pre W _ _ hh _
    exact hh.elim

end Go.Proofs.Ytdlbhppoknbnlaa

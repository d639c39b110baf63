/-
  The walk of the law MemEach: it answers true. Condition: the towers read as numbers, the list as pairs, the key as bytes; all together not more than the bound. (The drawn regions printed by gen_meach.py.)
-/
import Derived.Test.YtkbjbjkgohkkjaaEachZ
import Derived.Test.YtkbjbjkgohkkjaaNone
namespace Go.Proofs.Ytkbjbjkgohkkjaa
open Go.RowKit Go.Shelf

attribute [local go_sem] Oper.semAt_some

theorem run_eql_func (f : Fn) (a c : Array Value) (w : World) : (binOp .eql 60 (.func f a c) .nilFunc).run Try.prog w = .ok (.bool false) w := by
  have h : ∀ d : Nat, (Op.equalIn (d + 1) 60 (.func f a c) .nilFunc).run Try.prog w = .ok false w := fun d => by
    simp [Op.equalIn, run_underlying Try.underlying60]
  simp only [binOp]
  simp [Op.equal, Op.maxDepth, h 9999]

set_option maxRecDepth 100000 in
set_option maxHeartbeats 16000000 in
theorem meach_any (tws : List Int) (TA : Option Addr) (tn tc' : Nat) (fs : List Pr) (LA : Option Addr) (ln lc : Nat) (fk : Key) (FA : Option Addr) (fn fc : Nat) (w : World) (ht : Sl w w.heap.size TA tn tc' (tws.map iv)) (hz : ∀ z ∈ tws, -9223372036854775808 ≤ z ∧ z ≤ 9223372036854775807)
    (hl : ReadA w (.slice LA ln lc) fs) (hln : fs.length = ln) (hk : Bs w w.heap.size FA fn fc fk) (hb : ln + sizeP fs ≤ 1048576) (hkb : fn ≤ 1048576) :
    Calls Try.prog 6 #[.slice TA tn tc', .slice LA ln lc, .slice FA fn fc] w fun e w' => e = .returned (.bool true) ∧ Below w.heap.size w w' := by
  have Ht := hide ht
  have Hz := hide hz
  have Hl := hide hl
  have Hln := hide hln
  have Hb := hide hb
  have Hk := hide hk
  clear ht hz hl hln hb hk hkb
  refine (callsIn_wide (n := 9)).1 ?_
  refine callsIn_of_wp_marks Try.func6 rfl trivial ?_ rfl
  simp only [Try.ntmps6, List.size_toArray, List.length_cons, List.length_nil, Nat.reduceAdd, Nat.reduceSub, Array.replicate_succ, Array.replicate_zero, List.push_toArray, List.append_toArray, List.nil_append, List.cons_append]
  have f8 : Fence.wide.fn 8 := trivial
  have f12 : Fence.wide.fn 12 := trivial
  have f19 : Fence.wide.fn 19 := trivial
  have f20 : Fence.wide.fn 20 := trivial
  have f21 : Fence.wide.fn 21 := trivial
  have f22 : Fence.wide.fn 22 := trivial
  have f23 : Fence.wide.fn 23 := trivial
  have hef := run_eql_func
  have q0 := Blk.new w 4 #[.bool false]
  have hB0 := (Below.refl w.heap.size w).alloc (Nat.le_refl _) (.cells #[.bool false] 4)
  gi_wp2_with fail
  obtain ⟨w0, hw0⟩ : ∃ w0, w.alloc (.cells #[.bool false] 4) = w0 := ⟨_, rfl⟩
  rw [hw0] at q0 hB0 ⊢
  obtain ⟨S, hS⟩ : ∃ S, w.heap.size = S := ⟨_, rfl⟩
  rw [hS] at q0 ⊢
  refine (callsIn_wide.2 (awake_any w0)).mono ?_
  rintro e w1 ⟨rfl, hB1⟩
  have q1 := Blk.below q0 hB1 q0.lt
  have hb1 := hB0.trans (hB1.mono hB0.size)
  gi_wp2_with fail
  refine (callsIn_wide.2 (few_any fs _ w1 (Hl.out.below hb1) (by have := Hb.out; have := Hln.out; omega))).mono ?_
  rintro e w2 ⟨rfl, hB2⟩
  have q2 : Boxed w2 S 4 (.bool false) := Blk.below q1 hB2 q1.lt
  have HB2 := hide (hb1.trans (hB2.mono hb1.size))
  have HS := hide hS
  have c2 := q2.cell
  have g2 := q2.frozen
  have hr2 := (Blk.put q2 0 (.bool true)).cell 0
  have hrB := HB2.out.setCell (p := ⟨S, 0, none⟩) (by rw [hS]; exact Nat.le_refl _) (.bool true)
  clear hB0 hB1 hB2 q0 q1 hb1 hw0 hS
  by_cases hf : fs.length + sizeP fs ≤ 4000
  · rw [decide_eq_true hf]
    have Hf := hide hf
    clear hf
    by_cases h1000 : 1000 < tn
    · have h1 : (1000 : Int) < (tn : Int) := by omega
      gi_wp2
      refine ⟨.bool true, ?_, rfl, ?_⟩
      · simp [results, Try.f6, go_sem, hr2]
      · exact hrB
    · have h1 : ¬ (1000 : Int) < (tn : Int) := by omega
      by_cases h2000 : 1000 < fn
      · have h2 : (1000 : Int) < (fn : Int) := by omega
        gi_wp2
        refine ⟨.bool true, ?_, rfl, ?_⟩
        · simp [results, Try.f6, go_sem, hr2]
        · exact hrB
      · have h2 : ¬ (1000 : Int) < (fn : Int) := by omega
        have htn : tn ≤ 1000000 := by omega
        have Hb1 := hide (both_any tws TA tn tc' fs LA ln lc w2 ((Ht.out.below HB2.out).more HB2.out.size) Hz.out htn (Hl.out.below HB2.out) Hln.out Hf.out)
        have Hq2 := hide q2
        clear htn hr2 hrB q2 c2 g2
        gi_wp2_with fail
        refine (callsIn_wide.2 Hb1.out).mono ?_
        rintro e w3 ⟨T, R, base, rfl, hd, ms, kv, vv, tv, hB⟩
        have HB3 := hide (HB2.out.trans (hB.bel.mono HB2.out.size))
        have q3 : Boxed w3 S 4 (.bool false) := Blk.below Hq2.out hB.bel Hq2.out.lt
        obtain ⟨p1, p2, p3, p4⟩ := puts_all tws Hf.out
        obtain ⟨s, hs⟩ : ∃ s, putsP tws fs = s := ⟨_, rfl⟩
        rw [hs] at p1 p2 p3 p4 hB
        have Hq := hide (And.intro p1 (And.intro p2 p4))
        have Hcb := hide (cntN_bound p3 fk)
        have HB := hide hB
        have Hlow := hide (show w.heap.size ≤ base ∧ base ≤ R ∧ base ≤ T from ⟨Nat.le_trans HB2.out.size hB.low.1, hB.low.2, hB.tm.low⟩)
        clear hB Hb1 p1 p2 p3 p4 hs h1 h2 h1000 h2000
        gi_wp2_with fail
        have rb4 := Blk.new w3 64 #[.pointer (some ⟨R, 0, none⟩)]
        have hB4 := (Below.refl _ w3).alloc (Nat.le_refl _) (.cells #[.pointer (some ⟨R, 0, none⟩)] 64)
        have hs4 : (w3.alloc (.cells #[.pointer (some ⟨R, 0, none⟩)] 64)).heap.size = w3.heap.size + 1 := by simp
        obtain ⟨w4, hw4⟩ : ∃ w4, w3.alloc (.cells #[.pointer (some ⟨R, 0, none⟩)] 64) = w4 := ⟨_, rfl⟩
        obtain ⟨RB, hRB⟩ : ∃ RB, w3.heap.size = RB := ⟨_, rfl⟩
        rw [hw4] at rb4 hB4 hs4 ⊢
        rw [hRB] at rb4 hs4 ⊢
        refine (callsIn_wide.2 (each_val (.pointer (some ⟨T, 0, none⟩)) FA fn fc w4 ⟨_, rfl⟩)).mono ?_
        rintro e w5 ⟨rfl, hw5⟩
        have x5 := (Blk.new w4 26 #[.pointer (some ⟨T, 0, none⟩)]).alloc (.cells #[.slice FA fn fc] 22)
        have y5 := Blk.new (w4.alloc (.cells #[.pointer (some ⟨T, 0, none⟩)] 26)) 22 #[.slice FA fn fc]
        rw [World.size_alloc] at y5
        have hB5 := ((Below.refl _ w4).alloc (Nat.le_refl _) (.cells #[.pointer (some ⟨T, 0, none⟩)] 26)).alloc (by simp) (.cells #[.slice FA fn fc] 22)
        rw [← hw5] at x5 y5 hB5
        rw [hs4] at x5 y5 ⊢
        have hB35 : Below w3.heap.size w3 w5 := hB4.trans (hB5.mono (by omega))
        have hz5 : PZ w (.slice TA tn tc') tws s T R base hd ms kv vv tv 200000000 S RB (RB + 1) (RB + 1 + 1) (.slice FA fn fc) w5 :=
          ⟨⟨s.2, Hq.out.2.2, HB.out.tm.below hB35 (Nat.le_refl _)⟩, HB.out.rt.below hB35 (Nat.le_refl _), HB3.out.trans (hB35.mono HB3.out.size), Blk.below q3 hB35 q3.lt, Blk.below rb4 hB5 rb4.lt, x5, y5⟩
        have Hz5 := hide hz5
        have HRB := hide (show T < RB ∧ R < RB ∧ RB + 1 + 1 < w5.heap.size from ⟨by rw [← hRB]; exact HB.out.tm.lt, by rw [← hRB]; exact HB.out.rt.tab.lt, y5.lt⟩)
        have Htall := hide (show ∀ g, tv.ownBlock = some g → g < RB from fun g hg => by rw [← hRB]; exact (owns_ltG HB.out.rt.tall hg).2)
        clear hw4 hw5 x5 y5 hB5 hB35 hz5 rb4 hB4 q3 hs4 hRB
        gi_wp2
        have hST : S ≤ T := by have := HS.out; have := Hlow.out; omega
        have hwT : w.heap.size ≤ T := by have := Hlow.out; omega
        have hw5 : w.heap.size ≤ w5.heap.size := Hz5.out.bel.size
        have HAT := hide (show 0 < fn → ∀ a, FA = some a → a.block ≠ T from fun h0 a e e' => by
          obtain ⟨b, o, e2, hb, _⟩ := Hk.out.at_ h0
          rw [e2] at e
          injection e with e
          subst e
          simp only at e'
          omega)
        have HCb := hide (show cntN s.1 fk ≤ 50000 by have := Hq.out; have := Hcb.out; omega)
        have HwT := hide hwT
        have HST := hide hST
        have Hw5 := hide hw5
        clear hST hwT hw5
        refine wpIn_rangeFunc_B (α := Value × Value) (n := 9) 0 (by omega) (gf := 42) (lb := #[.pointer (some ⟨RB + 1, 0, none⟩), .pointer (some ⟨RB + 1 + 1, 0, none⟩)]) rfl (enters_of Try.func42 (by kernel_rfl) rfl)
          (s.1.length - fnd s.1 fk) (ItE T base tws s.1 false hd ms 200060000) (KpE T base tws s.1 false hd ms) eenc (fun i W x => EachV S hd ms s.1 (fnd s.1 fk + i) W x) (fun _ _ => rfl)
          (fun l J Jx W hW hJ _ hY h0 => by
            have hz := Hz5.out.below hW
            obtain ⟨c, hc, htm⟩ := hz.tm
            exact each42_in 8 l (by omega) T (RB + 1) (RB + 1 + 1) S base 200060000 tws s.1 c false hd ms fk FA fn fc J Jx HST.out hJ hY W htm ((Hk.out.below hz.bel).more hz.bel.size) HAT.out (by have := HCb.out; omega) (by omega) hz.x hz.y h0)
          (fun h k => fun c hc => k c (h c hc)) (fun W l o o' _ ho hc => fun c h => h.putObj ho hc o')
          (fun U V hg k o hk ho _ => (hg.1.block k (Array.getElem?_eq_some_iff.1 ho).1 (fun e => by injection e with e; have := HRB.out; omega)).trans ho)
          (PZ w (.slice TA tn tc') tws s T R base hd ms kv vv tv 200060000 S RB (RB + 1) (RB + 1 + 1) (.slice FA fn fc))
          (fun U V hU hg => hU.it hg HwT.out)
          (fun W l o o' hW hl ho hc => hW.putObj (by have := Hw5.out; omega) ho hc o')
          (fun i W x l o o' hV _ ho hc => hV.putObj ho hc o')
          (fun o o' => (Hz5.out.more (by omega)).below (((Below.refl _ w5).alloc (Nat.le_refl _) o).alloc (by simp) o')) ?a1 ?assign ?body ?exit ?done
        case assign =>
          intro l i x W K hK
          simp only [eenc]
          gi_wp2
          exact hK
        case body =>
          intro l i x W hi hW hV
          gi_wp2
          exact ⟨KeepsFrom.refl _ _, rfl, hW⟩
        case exit =>
          intro a W h
          refine wpIn_exit ?_
          simpa only [Exit.inBlock, if_true] using h
        case done =>
          rintro D1 W6 hD1 hz6 hK6
          have Hz6 := hide hz6
          have HK6 := hide hK6
          clear hz6 hK6
          gi_wp2_with fail
          obtain ⟨IB, hIB⟩ : ∃ IB, W6.heap.size = IB := ⟨_, rfl⟩
          have hB7 := (Below.refl _ W6).alloc (Nat.le_refl _) (.cells #[.int .i64 0] 3)
          have i7 := Blk.new W6 3 #[.int .i64 0]
          have hs7 : (W6.alloc (.cells #[.int .i64 0] 3)).heap.size = W6.heap.size + 1 := by simp
          obtain ⟨W7, hW7⟩ : ∃ W7, W6.alloc (.cells #[.int .i64 0] 3) = W7 := ⟨_, rfl⟩
          rw [hW7] at hB7 i7 hs7 ⊢
          rw [hIB] at i7 ⊢
          have hz7 := Hz6.out.below hB7
          have hn7 : NotTw W7 T IB := by
            obtain ⟨c, _, htm⟩ := Hz6.out.tm
            exact (htm.not_tw (g := IB) (by omega)).cell (hB7.cell (p := ⟨T, 1, none⟩) htm.lt)
          have hd7 : W7.heap[D1]? = some (.deferred (some [])) := (hB7.block D1 (Array.getElem?_eq_some_iff.1 HK6.out).1).trans HK6.out
          have Htv := hide (show tv.ownBlock ≠ some IB from fun e => by
            have h1 := Htall.out _ e
            have h2 := Hz6.out.y.lt
            omega)
          have HIB := hide (show RB + 1 + 1 < IB ∧ S ≤ IB ∧ w.heap.size ≤ IB ∧ D1 < IB ∧ w5.heap.size ≤ D1 from ⟨by have := Hz6.out.y.lt; omega, by have := Hz6.out.q0.lt; omega, by have := Hz6.out.bel.size; omega, by have := (Array.getElem?_eq_some_iff.1 HK6.out).1; omega, hD1⟩)
          have Hz7 := hide hz7
          have Hi7 := hide (show Boxed W7 IB 3 (.int .i64 0) from i7)
          have Hn7 := hide hn7
          have Hd7 := hide hd7
          obtain ⟨SA, sc, hkv, -⟩ := Hz6.out.rt.kslice
          obtain ⟨VA, vc, hvv, -⟩ := Hz6.out.rt.vslice
          subst hkv hvv
          obtain ⟨N, hN⟩ : ∃ N, s.1.length = N := ⟨_, rfl⟩
          have HN := hide hN
          have Hle := hide (show fnd s.1 fk ≤ N by rw [← hN]; exact fnd_le _ _)
          clear hB7 i7 hs7 hW7 hz7 hn7 hd7 hIB hN
          gi_loopw [53] (fun t53 wq => ∃ i : Nat, i ≤ fnd s.1 fk ∧ PZ w (.slice TA tn tc') tws s T R base hd ms (.slice SA s.1.length sc) (.slice VA s.1.length vc) tv 200060000 S RB (RB + 1) (RB + 1 + 1) (.slice FA fn fc) wq ∧ Boxed wq IB 3 (.int .i64 (i : Int)) ∧ NotTw wq T IB ∧ wq.heap[D1]? = some (.deferred (some []))) (fun t53 wq => fnd s.1 fk - iOf IB wq)
          case atStart => exact ⟨0, Nat.zero_le _, Hz7.out, Hi7.out, Hn7.out, Hd7.out⟩
          case round =>
            obtain ⟨i, hi, hz, hib, hnt, hd1⟩ := hrel
            have hio := iOf_box hib
            have cI := hib.cell
            have cR := hz.rb.cell
            have cK : wr.cell? ⟨R, 1, none⟩ = some (.slice SA N sc) := by rw [← HN.out]; exact hz.rt.tab.cell 1
            have hst : StrAt FA fn fc fk wr.drew := strAt ((Hk.out.below hz.bel).drewN 1)
            have Hzd := hide (hz.below (below_drew wr))
            have Hid := hide (show Boxed wr.drew IB 3 (.int .i64 (i : Int)) from hib)
            have Hnd := hide (show NotTw wr.drew T IB from hnt)
            have Hdd := hide (show wr.drew.heap[D1]? = some (.deferred (some [])) from hd1)
            have hi4 : i ≤ 4000 := by have := Hle.out; have := HN.out; have := Hq.out; omega
            have Hiw := hide (show IntKind.i64.wrap ((i : Int) + 1) = (i : Int) + 1 by simp [IntKind.wrap, IntKind.bits, IntKind.signed]; omega)
            have i0 : (0 : Int) ≤ (i : Int) := by omega
            by_cases hlt : i < N
            · have hlt' : i < s.1.length := by have := HN.out; omega
              have i1 : (i : Int) < (N : Int) := by omega
              obtain ⟨bS, rfl, hcS⟩ := hz.rt.kat hlt'
              unfold strV at hcS
              by_cases hF : i < fnd s.1 fk
              · have hkl : Op.bytesLess s.1[i].k fk = true := fnd_before hF
                generalize s.1[i].k = ki at *
                have hSS : wr.drew.cell? ⟨IB, 0, none⟩ = some (.int .i64 (i : Int)) ∧ wr.drew.cell? ⟨RB, 0, none⟩ = some (.pointer (some ⟨R, 0, none⟩)) ∧ wr.drew.cell? ⟨R, 1, none⟩ = some (.slice (some ⟨bS, 0, none⟩) N sc) ∧ wr.drew.cell? ⟨bS, i, none⟩ = some (.string ⟨ki.toArray⟩) ∧ StrAt FA fn fc fk wr.drew := ⟨cI, cR, cK, hcS, hst⟩
                have HF := hide hF
                have Hio := hide hio
                clear hz hib hnt hd1 hio cI cR cK hcS hst hF hi
                gi_wp2
                refine region_wide_to (S := fun W' => W'.cell? ⟨IB, 0, none⟩ = some (.int .i64 (i : Int)) ∧ W'.cell? ⟨RB, 0, none⟩ = some (.pointer (some ⟨R, 0, none⟩)) ∧ W'.cell? ⟨R, 1, none⟩ = some (.slice (some ⟨bS, 0, none⟩) N sc) ∧ W'.cell? ⟨bS, i, none⟩ = some (.string ⟨ki.toArray⟩) ∧ StrAt FA fn fc fk W') (by kernel_rfl) (by kernel_rfl) (hSS) (fun hHeld => ?_)
                refine wpAnyH_take (i := 0) (v := ?_) rfl (by kernel_rfl) (by kernel_rfl) (by kernel_rfl) (fun _ _ _ h => by cases h.1) (Or.inl ⟨by kernel_rfl, ?_⟩) (by assumption) ?_
                rotate_left
                · (intro w hSw; (try dsimp only at hSw); go_simp; try with_reducible rfl)
                (try simp only [Act.put, List.getElem_toArray, List.getElem_cons_succ, List.getElem_cons_zero, List.setIfInBounds_toArray, List.set_cons_zero, List.set_cons_succ])
                refine wpAnyH_take (i := 1) (v := ?_) rfl (by kernel_rfl) (by kernel_rfl) (by kernel_rfl) (fun _ _ _ h => by cases h.1) (Or.inl ⟨by kernel_rfl, ?_⟩) (by assumption) ?_
                rotate_left
                · (intro w hSw; (try dsimp only at hSw); go_simp; try with_reducible rfl)
                (try simp only [Act.put, List.getElem_toArray, List.getElem_cons_succ, List.getElem_cons_zero, List.setIfInBounds_toArray, List.set_cons_zero, List.set_cons_succ])
                refine wpAnyH_take (i := 2) (v := ?_) rfl (by kernel_rfl) (by kernel_rfl) (by kernel_rfl) (fun _ _ _ h => by cases h.1) (Or.inl ⟨by kernel_rfl, ?_⟩) (by assumption) ?_
                rotate_left
                · (intro w hSw; (try dsimp only at hSw); go_simp; try with_reducible rfl)
                (try simp only [Act.put, List.getElem_toArray, List.getElem_cons_succ, List.getElem_cons_zero, List.setIfInBounds_toArray, List.set_cons_zero, List.set_cons_succ])
                refine wpAnyH_take (i := 3) (v := ?_) rfl (by kernel_rfl) (by kernel_rfl) (by kernel_rfl) (fun _ _ _ h => by cases h.1) (Or.inl ⟨by kernel_rfl, ?_⟩) (by assumption) ?_
                rotate_left
                · (intro w hSw; (try dsimp only at hSw); go_simp; try with_reducible rfl)
                (try simp only [Act.put, List.getElem_toArray, List.getElem_cons_succ, List.getElem_cons_zero, List.setIfInBounds_toArray, List.set_cons_zero, List.set_cons_succ])
                refine wpAnyH_take (i := 4) (v := ?_) rfl (by kernel_rfl) (by kernel_rfl) (by kernel_rfl) (fun _ _ _ h => by cases h.1) (Or.inl ⟨by kernel_rfl, ?_⟩) (by assumption) ?_
                rotate_left
                · (intro w hSw; (try dsimp only at hSw); go_simp; try with_reducible rfl)
                (try simp only [Act.put, List.getElem_toArray, List.getElem_cons_succ, List.getElem_cons_zero, List.setIfInBounds_toArray, List.set_cons_zero, List.set_cons_succ])
                refine wpAnyH_take (i := 5) (v := ?_) rfl (by kernel_rfl) (by kernel_rfl) (by kernel_rfl) (fun _ _ _ h => by cases h.1) (Or.inl ⟨by kernel_rfl, ?_⟩) (by assumption) ?_
                rotate_left
                · (intro w hSw; (try dsimp only at hSw); go_simp; try with_reducible rfl)
                (try simp only [Act.put, List.getElem_toArray, List.getElem_cons_succ, List.getElem_cons_zero, List.setIfInBounds_toArray, List.set_cons_zero, List.set_cons_succ])
                refine wpAnyH_take (i := 6) (v := ?_) rfl (by kernel_rfl) (by kernel_rfl) (by kernel_rfl) (fun _ _ _ h => by cases h.1) (Or.inl ⟨by kernel_rfl, ?_⟩) (by assumption) ?_
                rotate_left
                · (intro w hSw; (try dsimp only at hSw); go_simp; try with_reducible rfl)
                (try simp only [Act.put, List.getElem_toArray, List.getElem_cons_succ, List.getElem_cons_zero, List.setIfInBounds_toArray, List.set_cons_zero, List.set_cons_succ])
                refine wpAnyH_take (i := 7) (v := ?_) rfl (by kernel_rfl) (by kernel_rfl) (by kernel_rfl) (fun _ _ _ h => by cases h.1) (Or.inl ⟨by kernel_rfl, ?_⟩) (by assumption) ?_
                rotate_left
                · (intro w hSw; (try dsimp only at hSw); go_simp; try with_reducible rfl)
                (try simp only [Act.put, List.getElem_toArray, List.getElem_cons_succ, List.getElem_cons_zero, List.setIfInBounds_toArray, List.set_cons_zero, List.set_cons_succ])
                refine wpAnyH_take (i := 8) (v := ?_) rfl (by kernel_rfl) (by kernel_rfl) (by kernel_rfl) (fun _ _ _ h => by cases h.1) (Or.inl ⟨by kernel_rfl, ?_⟩) (by assumption) ?_
                rotate_left
                · (intro w hSw; (try dsimp only at hSw); go_simp; try with_reducible rfl)
                (try simp only [Act.put, List.getElem_toArray, List.getElem_cons_succ, List.getElem_cons_zero, List.setIfInBounds_toArray, List.set_cons_zero, List.set_cons_succ])
                refine wpAnyH_take (i := 9) (v := ?_) rfl (by kernel_rfl) (by kernel_rfl) (by kernel_rfl) (fun _ _ _ h => by cases h.1) (Or.inl ⟨by kernel_rfl, ?_⟩) (by assumption) ?_
                rotate_left
                · (intro w hSw; (try dsimp only at hSw); go_simp; try with_reducible rfl)
                (try simp only [Act.put, List.getElem_toArray, List.getElem_cons_succ, List.getElem_cons_zero, List.setIfInBounds_toArray, List.set_cons_zero, List.set_cons_succ])
                refine wpAnyH_take (i := 10) (v := ?_) rfl (by kernel_rfl) (by kernel_rfl) (by kernel_rfl) (fun _ _ _ h => by cases h.1) (Or.inl ⟨by kernel_rfl, ?_⟩) (by assumption) ?_
                rotate_left
                · (intro w hSw; (try dsimp only at hSw); go_simp; try with_reducible rfl)
                (try simp only [Act.put, List.getElem_toArray, List.getElem_cons_succ, List.getElem_cons_zero, List.setIfInBounds_toArray, List.set_cons_zero, List.set_cons_succ])
                refine wpAnyH_take (i := 11) (v := ?_) rfl (by kernel_rfl) (by kernel_rfl) (by kernel_rfl) (fun _ _ _ h => by cases h.1) (Or.inl ⟨by kernel_rfl, ?_⟩) (by assumption) ?_
                rotate_left
                · (intro w hSw; (try dsimp only at hSw); go_simp; try with_reducible rfl)
                (try simp only [Act.put, List.getElem_toArray, List.getElem_cons_succ, List.getElem_cons_zero, List.setIfInBounds_toArray, List.set_cons_zero, List.set_cons_succ])
                refine wpAnyH_take (i := 12) (v := ?_) rfl (by kernel_rfl) (by kernel_rfl) (by kernel_rfl) (fun _ _ _ h => by cases h.1) (Or.inl ⟨by kernel_rfl, ?_⟩) (by assumption) ?_
                rotate_left
                · (intro w hSw; (try dsimp only at hSw); go_simp; try with_reducible rfl)
                (try simp only [Act.put, List.getElem_toArray, List.getElem_cons_succ, List.getElem_cons_zero, List.setIfInBounds_toArray, List.set_cons_zero, List.set_cons_succ])
                refine wpAnyH_take (i := 13) (v := ?_) rfl (by kernel_rfl) (by kernel_rfl) (by kernel_rfl) (fun _ _ _ h => by cases h.1) (Or.inl ⟨by kernel_rfl, ?_⟩) (by assumption) ?_
                rotate_left
                · (intro w hSw; (try dsimp only at hSw); go_simp; try with_reducible rfl)
                (try simp only [Act.put, List.getElem_toArray, List.getElem_cons_succ, List.getElem_cons_zero, List.setIfInBounds_toArray, List.set_cons_zero, List.set_cons_succ])
                refine wpAnyH_take (i := 14) (v := ?_) rfl (by kernel_rfl) (by kernel_rfl) (by kernel_rfl) (fun _ _ _ h => by cases h.1) (Or.inl ⟨by kernel_rfl, ?_⟩) (by assumption) ?_
                rotate_left
                · (intro w hSw; (try dsimp only at hSw); go_simp; try with_reducible rfl)
                (try simp only [Act.put, List.getElem_toArray, List.getElem_cons_succ, List.getElem_cons_zero, List.setIfInBounds_toArray, List.set_cons_zero, List.set_cons_succ])
                refine wpAnyH_take (i := 15) (v := ?_) rfl (by kernel_rfl) (by kernel_rfl) (by kernel_rfl) (fun _ _ _ h => by cases h.1) (Or.inl ⟨by kernel_rfl, ?_⟩) (by assumption) ?_
                rotate_left
                · (intro w hSw; (try dsimp only at hSw); go_simp; try with_reducible rfl)
                (try simp only [Act.put, List.getElem_toArray, List.getElem_cons_succ, List.getElem_cons_zero, List.setIfInBounds_toArray, List.set_cons_zero, List.set_cons_succ])
                refine wpAnyH_take (i := 16) (v := ?_) rfl (by kernel_rfl) (by kernel_rfl) (by kernel_rfl) (fun _ _ _ h => by cases h.1) (Or.inl ⟨by kernel_rfl, ?_⟩) (by assumption) ?_
                rotate_left
                · (intro w hSw; (try dsimp only at hSw); go_simp; try with_reducible rfl)
                (try simp only [Act.put, List.getElem_toArray, List.getElem_cons_succ, List.getElem_cons_zero, List.setIfInBounds_toArray, List.set_cons_zero, List.set_cons_succ])
                refine wpAnyH_take (i := 17) (v := ?_) rfl (by kernel_rfl) (by kernel_rfl) (by kernel_rfl) (fun _ _ _ h => by cases h.1) (Or.inl ⟨by kernel_rfl, ?_⟩) (by assumption) ?_
                rotate_left
                · (intro w hSw; (try dsimp only at hSw); go_simp; try with_reducible rfl)
                (try simp only [Act.put, List.getElem_toArray, List.getElem_cons_succ, List.getElem_cons_zero, List.setIfInBounds_toArray, List.set_cons_zero, List.set_cons_succ])
                refine wpAnyH_take (i := 18) (v := ?_) rfl (by kernel_rfl) (by kernel_rfl) (by kernel_rfl) (fun _ _ _ h => by cases h.1) (Or.inl ⟨by kernel_rfl, ?_⟩) (by assumption) ?_
                rotate_left
                · (intro w hSw; (try dsimp only at hSw); go_simp; try with_reducible rfl)
                (try simp only [Act.put, List.getElem_toArray, List.getElem_cons_succ, List.getElem_cons_zero, List.setIfInBounds_toArray, List.set_cons_zero, List.set_cons_succ])
                refine wpAnyH_done (by kernel_rfl) ?_ _
                refine ⟨rfl, ?_⟩
                obtain ⟨wd, hwd⟩ : ∃ wd, wr.drew = wd := ⟨_, rfl⟩
                rw [hwd] at Hzd Hid Hnd Hdd ⊢
                have cI := Hid.out.cell
                have cF := Hid.out.frozen
                have hiw := Hiw.out
                clear hSS hHeld hwd
                gi_wp2
                go_roundw
                case rel =>
                  exact ⟨i + 1, by have := HF.out; omega, Hzd.out.ibox Hid.out Hnd.out Htv.out HIB.out.2.2.1 _, by simpa using Blk.put Hid.out 0 (.int .i64 ((i : Int) + 1)),
                    Hnd.out.set (Hzd.out.box_ne Hid.out (by decide)) _, (KeepsOthers.setCell wd ⟨IB, 0, none⟩ _).same D1 _ Hdd.out rfl⟩
                case measure =>
                  rw [iOf_set Hid.out, Hio.out]
                  have := HF.out
                  omega
              · have hiF : i = fnd s.1 fk := by omega
                have hkl : Op.bytesLess s.1[i].k fk = false := by
                  subst hiF
                  exact fnd_at hlt'
                generalize s.1[i].k = ki at *
                have hSS : wr.drew.cell? ⟨IB, 0, none⟩ = some (.int .i64 (i : Int)) ∧ wr.drew.cell? ⟨RB, 0, none⟩ = some (.pointer (some ⟨R, 0, none⟩)) ∧ wr.drew.cell? ⟨R, 1, none⟩ = some (.slice (some ⟨bS, 0, none⟩) N sc) ∧ wr.drew.cell? ⟨bS, i, none⟩ = some (.string ⟨ki.toArray⟩) ∧ StrAt FA fn fc fk wr.drew := ⟨cI, cR, cK, hcS, hst⟩
                have HiF := hide hiF
                clear hz hib hnt hd1 hio cI cR cK hcS hst hiF hi hF
                gi_wp2
                refine region_wide_to (S := fun W' => W'.cell? ⟨IB, 0, none⟩ = some (.int .i64 (i : Int)) ∧ W'.cell? ⟨RB, 0, none⟩ = some (.pointer (some ⟨R, 0, none⟩)) ∧ W'.cell? ⟨R, 1, none⟩ = some (.slice (some ⟨bS, 0, none⟩) N sc) ∧ W'.cell? ⟨bS, i, none⟩ = some (.string ⟨ki.toArray⟩) ∧ StrAt FA fn fc fk W') (by kernel_rfl) (by kernel_rfl) (hSS) (fun hHeld => ?_)
                refine wpAnyH_take (i := 0) (v := ?_) rfl (by kernel_rfl) (by kernel_rfl) (by kernel_rfl) (fun _ _ _ h => by cases h.1) (Or.inl ⟨by kernel_rfl, ?_⟩) (by assumption) ?_
                rotate_left
                · (intro w hSw; (try dsimp only at hSw); go_simp; try with_reducible rfl)
                (try simp only [Act.put, List.getElem_toArray, List.getElem_cons_succ, List.getElem_cons_zero, List.setIfInBounds_toArray, List.set_cons_zero, List.set_cons_succ])
                refine wpAnyH_take (i := 1) (v := ?_) rfl (by kernel_rfl) (by kernel_rfl) (by kernel_rfl) (fun _ _ _ h => by cases h.1) (Or.inl ⟨by kernel_rfl, ?_⟩) (by assumption) ?_
                rotate_left
                · (intro w hSw; (try dsimp only at hSw); go_simp; try with_reducible rfl)
                (try simp only [Act.put, List.getElem_toArray, List.getElem_cons_succ, List.getElem_cons_zero, List.setIfInBounds_toArray, List.set_cons_zero, List.set_cons_succ])
                refine wpAnyH_take (i := 2) (v := ?_) rfl (by kernel_rfl) (by kernel_rfl) (by kernel_rfl) (fun _ _ _ h => by cases h.1) (Or.inl ⟨by kernel_rfl, ?_⟩) (by assumption) ?_
                rotate_left
                · (intro w hSw; (try dsimp only at hSw); go_simp; try with_reducible rfl)
                (try simp only [Act.put, List.getElem_toArray, List.getElem_cons_succ, List.getElem_cons_zero, List.setIfInBounds_toArray, List.set_cons_zero, List.set_cons_succ])
                refine wpAnyH_take (i := 3) (v := ?_) rfl (by kernel_rfl) (by kernel_rfl) (by kernel_rfl) (fun _ _ _ h => by cases h.1) (Or.inl ⟨by kernel_rfl, ?_⟩) (by assumption) ?_
                rotate_left
                · (intro w hSw; (try dsimp only at hSw); go_simp; try with_reducible rfl)
                (try simp only [Act.put, List.getElem_toArray, List.getElem_cons_succ, List.getElem_cons_zero, List.setIfInBounds_toArray, List.set_cons_zero, List.set_cons_succ])
                refine wpAnyH_take (i := 4) (v := ?_) rfl (by kernel_rfl) (by kernel_rfl) (by kernel_rfl) (fun _ _ _ h => by cases h.1) (Or.inl ⟨by kernel_rfl, ?_⟩) (by assumption) ?_
                rotate_left
                · (intro w hSw; (try dsimp only at hSw); go_simp; try with_reducible rfl)
                (try simp only [Act.put, List.getElem_toArray, List.getElem_cons_succ, List.getElem_cons_zero, List.setIfInBounds_toArray, List.set_cons_zero, List.set_cons_succ])
                refine wpAnyH_take (i := 5) (v := ?_) rfl (by kernel_rfl) (by kernel_rfl) (by kernel_rfl) (fun _ _ _ h => by cases h.1) (Or.inl ⟨by kernel_rfl, ?_⟩) (by assumption) ?_
                rotate_left
                · (intro w hSw; (try dsimp only at hSw); go_simp; try with_reducible rfl)
                (try simp only [Act.put, List.getElem_toArray, List.getElem_cons_succ, List.getElem_cons_zero, List.setIfInBounds_toArray, List.set_cons_zero, List.set_cons_succ])
                refine wpAnyH_take (i := 6) (v := ?_) rfl (by kernel_rfl) (by kernel_rfl) (by kernel_rfl) (fun _ _ _ h => by cases h.1) (Or.inl ⟨by kernel_rfl, ?_⟩) (by assumption) ?_
                rotate_left
                · (intro w hSw; (try dsimp only at hSw); go_simp; try with_reducible rfl)
                (try simp only [Act.put, List.getElem_toArray, List.getElem_cons_succ, List.getElem_cons_zero, List.setIfInBounds_toArray, List.set_cons_zero, List.set_cons_succ])
                refine wpAnyH_take (i := 7) (v := ?_) rfl (by kernel_rfl) (by kernel_rfl) (by kernel_rfl) (fun _ _ _ h => by cases h.1) (Or.inl ⟨by kernel_rfl, ?_⟩) (by assumption) ?_
                rotate_left
                · (intro w hSw; (try dsimp only at hSw); go_simp; try with_reducible rfl)
                (try simp only [Act.put, List.getElem_toArray, List.getElem_cons_succ, List.getElem_cons_zero, List.setIfInBounds_toArray, List.set_cons_zero, List.set_cons_succ])
                refine wpAnyH_take (i := 8) (v := ?_) rfl (by kernel_rfl) (by kernel_rfl) (by kernel_rfl) (fun _ _ _ h => by cases h.1) (Or.inl ⟨by kernel_rfl, ?_⟩) (by assumption) ?_
                rotate_left
                · (intro w hSw; (try dsimp only at hSw); go_simp; try with_reducible rfl)
                (try simp only [Act.put, List.getElem_toArray, List.getElem_cons_succ, List.getElem_cons_zero, List.setIfInBounds_toArray, List.set_cons_zero, List.set_cons_succ])
                refine wpAnyH_take (i := 9) (v := ?_) rfl (by kernel_rfl) (by kernel_rfl) (by kernel_rfl) (fun _ _ _ h => by cases h.1) (Or.inl ⟨by kernel_rfl, ?_⟩) (by assumption) ?_
                rotate_left
                · (intro w hSw; (try dsimp only at hSw); go_simp; try with_reducible rfl)
                (try simp only [Act.put, List.getElem_toArray, List.getElem_cons_succ, List.getElem_cons_zero, List.setIfInBounds_toArray, List.set_cons_zero, List.set_cons_succ])
                refine wpAnyH_take (i := 10) (v := ?_) rfl (by kernel_rfl) (by kernel_rfl) (by kernel_rfl) (fun _ _ _ h => by cases h.1) (Or.inl ⟨by kernel_rfl, ?_⟩) (by assumption) ?_
                rotate_left
                · (intro w hSw; (try dsimp only at hSw); go_simp; try with_reducible rfl)
                (try simp only [Act.put, List.getElem_toArray, List.getElem_cons_succ, List.getElem_cons_zero, List.setIfInBounds_toArray, List.set_cons_zero, List.set_cons_succ])
                refine wpAnyH_take (i := 11) (v := ?_) rfl (by kernel_rfl) (by kernel_rfl) (by kernel_rfl) (fun _ _ _ h => by cases h.1) (Or.inl ⟨by kernel_rfl, ?_⟩) (by assumption) ?_
                rotate_left
                · (intro w hSw; (try dsimp only at hSw); go_simp; try with_reducible rfl)
                (try simp only [Act.put, List.getElem_toArray, List.getElem_cons_succ, List.getElem_cons_zero, List.setIfInBounds_toArray, List.set_cons_zero, List.set_cons_succ])
                refine wpAnyH_take (i := 12) (v := ?_) rfl (by kernel_rfl) (by kernel_rfl) (by kernel_rfl) (fun _ _ _ h => by cases h.1) (Or.inl ⟨by kernel_rfl, ?_⟩) (by assumption) ?_
                rotate_left
                · (intro w hSw; (try dsimp only at hSw); go_simp; try with_reducible rfl)
                (try simp only [Act.put, List.getElem_toArray, List.getElem_cons_succ, List.getElem_cons_zero, List.setIfInBounds_toArray, List.set_cons_zero, List.set_cons_succ])
                refine wpAnyH_take (i := 13) (v := ?_) rfl (by kernel_rfl) (by kernel_rfl) (by kernel_rfl) (fun _ _ _ h => by cases h.1) (Or.inl ⟨by kernel_rfl, ?_⟩) (by assumption) ?_
                rotate_left
                · (intro w hSw; (try dsimp only at hSw); go_simp; try with_reducible rfl)
                (try simp only [Act.put, List.getElem_toArray, List.getElem_cons_succ, List.getElem_cons_zero, List.setIfInBounds_toArray, List.set_cons_zero, List.set_cons_succ])
                refine wpAnyH_take (i := 14) (v := ?_) rfl (by kernel_rfl) (by kernel_rfl) (by kernel_rfl) (fun _ _ _ h => by cases h.1) (Or.inl ⟨by kernel_rfl, ?_⟩) (by assumption) ?_
                rotate_left
                · (intro w hSw; (try dsimp only at hSw); go_simp; try with_reducible rfl)
                (try simp only [Act.put, List.getElem_toArray, List.getElem_cons_succ, List.getElem_cons_zero, List.setIfInBounds_toArray, List.set_cons_zero, List.set_cons_succ])
                refine wpAnyH_take (i := 15) (v := ?_) rfl (by kernel_rfl) (by kernel_rfl) (by kernel_rfl) (fun _ _ _ h => by cases h.1) (Or.inl ⟨by kernel_rfl, ?_⟩) (by assumption) ?_
                rotate_left
                · (intro w hSw; (try dsimp only at hSw); go_simp; try with_reducible rfl)
                (try simp only [Act.put, List.getElem_toArray, List.getElem_cons_succ, List.getElem_cons_zero, List.setIfInBounds_toArray, List.set_cons_zero, List.set_cons_succ])
                refine wpAnyH_take (i := 16) (v := ?_) rfl (by kernel_rfl) (by kernel_rfl) (by kernel_rfl) (fun _ _ _ h => by cases h.1) (Or.inl ⟨by kernel_rfl, ?_⟩) (by assumption) ?_
                rotate_left
                · (intro w hSw; (try dsimp only at hSw); go_simp; try with_reducible rfl)
                (try simp only [Act.put, List.getElem_toArray, List.getElem_cons_succ, List.getElem_cons_zero, List.setIfInBounds_toArray, List.set_cons_zero, List.set_cons_succ])
                refine wpAnyH_take (i := 17) (v := ?_) rfl (by kernel_rfl) (by kernel_rfl) (by kernel_rfl) (fun _ _ _ h => by cases h.1) (Or.inl ⟨by kernel_rfl, ?_⟩) (by assumption) ?_
                rotate_left
                · (intro w hSw; (try dsimp only at hSw); go_simp; try with_reducible rfl)
                (try simp only [Act.put, List.getElem_toArray, List.getElem_cons_succ, List.getElem_cons_zero, List.setIfInBounds_toArray, List.set_cons_zero, List.set_cons_succ])
                refine wpAnyH_take (i := 18) (v := ?_) rfl (by kernel_rfl) (by kernel_rfl) (by kernel_rfl) (fun _ _ _ h => by cases h.1) (Or.inl ⟨by kernel_rfl, ?_⟩) (by assumption) ?_
                rotate_left
                · (intro w hSw; (try dsimp only at hSw); go_simp; try with_reducible rfl)
                (try simp only [Act.put, List.getElem_toArray, List.getElem_cons_succ, List.getElem_cons_zero, List.setIfInBounds_toArray, List.set_cons_zero, List.set_cons_succ])
                refine wpAnyH_done (by kernel_rfl) ?_ _
                refine ⟨rfl, ?_⟩
                clear hSS hHeld
                obtain ⟨wd, hwd⟩ : ∃ wd, wr.drew = wd := ⟨_, rfl⟩
                rw [hwd] at Hzd Hid Hnd Hdd ⊢
                clear hwd
                gi_wp2
                refine wpIn_rangeFunc_W (α := Value × Value) (n := 9) (by omega) (gf := 42) (lb := #[.pointer (some ⟨RB + 1, 0, none⟩), .pointer (some ⟨RB + 1 + 1, 0, none⟩)]) rfl (enters_of Try.func42 (by kernel_rfl) rfl)
                  (s.1.length - fnd s.1 fk) (ItE T base tws s.1 false hd ms 200120000) (KpE T base tws s.1 false hd ms) eenc (fun i W x => EachV S hd ms s.1 (fnd s.1 fk + i) W x) (fun _ _ => rfl)
                  (fun l J Jx W hW hJ _ hY h0 => by
                    have hz := Hzd.out.below hW
                    obtain ⟨c, hc, htm⟩ := hz.tm
                    exact each42_in 8 l (by omega) T (RB + 1) (RB + 1 + 1) S base 200120000 tws s.1 c false hd ms fk FA fn fc J Jx HST.out hJ hY W htm ((Hk.out.below hz.bel).more hz.bel.size) HAT.out (by have := HCb.out; omega) (by omega) hz.x hz.y h0)
                  (fun h k => fun c hc => k c (h c hc)) (fun W l o o' _ ho hc => fun c h => h.putObj ho hc o')
                  (fun U V hg k o hk ho _ => (hg.1.block k (Array.getElem?_eq_some_iff.1 ho).1 (fun e => by injection e with e; have := HRB.out; have := Hid.out.lt; have := HIB.out; omega)).trans ho)
                  (fun j W => PZ w (.slice TA tn tc') tws s T R base hd ms (.slice (some ⟨bS, 0, none⟩) s.1.length sc) (.slice VA s.1.length vc) tv 200120000 S RB (RB + 1) (RB + 1 + 1) (.slice FA fn fc) W ∧ Boxed W IB 3 (.int .i64 ((fnd s.1 fk + j : Nat) : Int)) ∧ NotTw W T IB ∧ W.heap[D1]? = some (.deferred (some []))) (fun _ _ _ => False)
                  (fun j U V ⟨h1, h2, h3, h4⟩ hg => ⟨h1.it hg HwT.out, Blk.grown h2 hg.1 (fun e => by injection e with e; exact h1.box_ne h2 (by decide) e), h3.cell hg.2.2, (hg.1.block D1 (Array.getElem?_eq_some_iff.1 h4).1 (fun e => by injection e with e; have := HRB.out; have := HIB.out; omega)).trans h4⟩)
                  (fun _ _ _ _ h _ => h)
                  (fun j W l o o' ⟨h1, h2, h3, h4⟩ hl ho hc => ⟨h1.putObj (by have := Hzd.out.bel.size; omega) ho hc o', blk_putObj h2 ho hc o', (by obtain ⟨c, _, htm⟩ := h1.tm; exact h3.putObj htm ho hc o'), (World.putObj_heap_other (fun e => by have := (Array.getElem?_eq_some_iff.1 Hdd.out).1; omega)).trans h4⟩)
                  (fun _ _ _ _ _ _ h _ _ _ => h)
                  (fun i W x l o o' hV _ ho hc => hV.putObj ho hc o')
                  (fun o o' => by
                    have hB2 := ((Below.refl _ wd).alloc (Nat.le_refl _) o).alloc (by simp) o'
                    refine ⟨(Hzd.out.more (by omega)).below hB2, ?_, ?_, (hB2.block D1 (Array.getElem?_eq_some_iff.1 Hdd.out).1).trans Hdd.out⟩
                    · rw [Nat.add_zero, ← HiF.out]
                      exact Blk.below Hid.out hB2 Hid.out.lt
                    · obtain ⟨c, _, htm⟩ := Hzd.out.tm
                      exact Hnd.out.cell (hB2.cell (p := ⟨T, 1, none⟩) htm.lt)) ?a2 ?assign2 ?body2 ?done2 ?stop2
                case assign2 =>
                  intro l i x W K hK
                  simp only [eenc]
                  gi_wp2
                  exact hK
                case stop2 =>
                  rintro D c i W _ _ hh _
                  exact hh.elim
                case body2 =>
                  rintro l j ⟨x1, x2⟩ W hj ⟨hz, hib, hnt, hd1⟩ ⟨hFi, A, L, c, B, M, d, hx, hb1, hb2, hfr⟩
                  injection hx with hx1 hx2
                  subst hx1 hx2
                  obtain ⟨m, hm⟩ : ∃ m, fnd s.1 fk + j = m := ⟨_, rfl⟩
                  have Hm := hide hm
                  simp only [hm] at hib hFi hb1 hb2
                  obtain ⟨bS', e1, hcS⟩ := hz.rt.kat hFi
                  obtain ⟨bV, e2, hcV⟩ := hz.rt.vat hFi
                  have hmN : m < N := by have := HN.out; omega
                  have hm4 : m ≤ 4000 := by have := HN.out; have := Hq.out; omega
                  have cK : W.cell? ⟨R, 1, none⟩ = some (.slice (some ⟨bS', 0, none⟩) N sc) := by
                    have h1 : W.cell? ⟨R, 1, none⟩ = some (.slice (some ⟨bS, 0, none⟩) s.1.length sc) := hz.rt.tab.cell 1
                    rw [h1, e1, HN.out]
                  have cV : W.cell? ⟨R, 2, none⟩ = some (.slice (some ⟨bV, 0, none⟩) N vc) := by
                    have h1 : W.cell? ⟨R, 2, none⟩ = some (.slice VA s.1.length vc) := hz.rt.tab.cell 2
                    rw [h1, e2, HN.out]
                  unfold strV at hcS hcV
                  have hs1 : StrAt A L c s.1[m].k W.drew := strAt (hb1.drewN 1)
                  have hs2 : StrAt B M d s.1[m].v W.drew := strAt (hb2.drewN 1)
                  have hL : L ≤ 140737488351232 := hb1.reach
                  generalize s.1[m].k = km at *
                  generalize s.1[m].v = vm at *
                  have hSS : W.drew.cell? ⟨IB, 0, none⟩ = some (.int .i64 (m : Int)) ∧ W.drew.cell? ⟨RB, 0, none⟩ = some (.pointer (some ⟨R, 0, none⟩)) ∧ W.drew.cell? ⟨R, 1, none⟩ = some (.slice (some ⟨bS', 0, none⟩) N sc) ∧ W.drew.cell? ⟨bS', m, none⟩ = some (.string ⟨km.toArray⟩) ∧ W.drew.cell? ⟨R, 2, none⟩ = some (.slice (some ⟨bV, 0, none⟩) N vc) ∧ W.drew.cell? ⟨bV, m, none⟩ = some (.string ⟨vm.toArray⟩) ∧ StrAt A L c km W.drew ∧ StrAt B M d vm W.drew := ⟨hib.cell, hz.rb.cell, cK, hcS, cV, hcV, hs1, hs2⟩
                  have Hzm := hide (hz.below (below_drew W))
                  have Him := hide (show Boxed W.drew IB 3 (.int .i64 (m : Int)) from hib)
                  have Hnm := hide (show NotTw W.drew T IB from hnt)
                  have Hdm := hide (show W.drew.heap[D1]? = some (.deferred (some [])) from hd1)
                  have Hfm := hide (show Free S hd ms W.drew A L from hfr)
                  have m0 : (0 : Int) ≤ (m : Int) := by omega
                  have m1 : (m : Int) < (N : Int) := by omega
                  have m2 : ¬ N ≤ m := by omega
                  have Hmw := hide (show IntKind.i64.wrap ((m : Int) + 1) = (m : Int) + 1 by simp [IntKind.wrap, IntKind.bits, IntKind.signed]; omega)
                  have HL := hide hL
                  clear hz hib hnt hd1 hfr hb1 hb2 hcS hcV cK cV hs1 hs2 e1 e2 hm hFi hL
                  gi_wp2
                  refine region_round_to (S := fun W' => W'.cell? ⟨IB, 0, none⟩ = some (.int .i64 (m : Int)) ∧ W'.cell? ⟨RB, 0, none⟩ = some (.pointer (some ⟨R, 0, none⟩)) ∧ W'.cell? ⟨R, 1, none⟩ = some (.slice (some ⟨bS', 0, none⟩) N sc) ∧ W'.cell? ⟨bS', m, none⟩ = some (.string ⟨km.toArray⟩) ∧ W'.cell? ⟨R, 2, none⟩ = some (.slice (some ⟨bV, 0, none⟩) N vc) ∧ W'.cell? ⟨bV, m, none⟩ = some (.string ⟨vm.toArray⟩) ∧ StrAt A L c km W' ∧ StrAt B M d vm W') (by kernel_rfl) (by kernel_rfl) (hSS) (fun hHeld => ?_)
                  refine wpAnyH_take (i := 0) (v := ?_) rfl (by kernel_rfl) (by kernel_rfl) (by kernel_rfl) (fun _ _ _ h => by cases h.1) (Or.inl ⟨by kernel_rfl, ?_⟩) (by assumption) ?_
                  rotate_left
                  · (intro w hSw; (try dsimp only at hSw); go_simp; try with_reducible rfl)
                  (try simp only [Act.put, List.getElem_toArray, List.getElem_cons_succ, List.getElem_cons_zero, List.setIfInBounds_toArray, List.set_cons_zero, List.set_cons_succ])
                  refine wpAnyH_take (i := 1) (v := ?_) rfl (by kernel_rfl) (by kernel_rfl) (by kernel_rfl) (fun _ _ _ h => by cases h.1) (Or.inl ⟨by kernel_rfl, ?_⟩) (by assumption) ?_
                  rotate_left
                  · (intro w hSw; (try dsimp only at hSw); go_simp; try with_reducible rfl)
                  (try simp only [Act.put, List.getElem_toArray, List.getElem_cons_succ, List.getElem_cons_zero, List.setIfInBounds_toArray, List.set_cons_zero, List.set_cons_succ])
                  refine wpAnyH_take (i := 2) (v := ?_) rfl (by kernel_rfl) (by kernel_rfl) (by kernel_rfl) (fun _ _ _ h => by cases h.1) (Or.inl ⟨by kernel_rfl, ?_⟩) (by assumption) ?_
                  rotate_left
                  · (intro w hSw; (try dsimp only at hSw); go_simp; try with_reducible rfl)
                  (try simp only [Act.put, List.getElem_toArray, List.getElem_cons_succ, List.getElem_cons_zero, List.setIfInBounds_toArray, List.set_cons_zero, List.set_cons_succ])
                  refine wpAnyH_take (i := 3) (v := ?_) rfl (by kernel_rfl) (by kernel_rfl) (by kernel_rfl) (fun _ _ _ h => by cases h.1) (Or.inl ⟨by kernel_rfl, ?_⟩) (by assumption) ?_
                  rotate_left
                  · (intro w hSw; (try dsimp only at hSw); go_simp; try with_reducible rfl)
                  (try simp only [Act.put, List.getElem_toArray, List.getElem_cons_succ, List.getElem_cons_zero, List.setIfInBounds_toArray, List.set_cons_zero, List.set_cons_succ])
                  refine wpAnyH_take (i := 4) (v := ?_) rfl (by kernel_rfl) (by kernel_rfl) (by kernel_rfl) (fun _ _ _ h => by cases h.1) (Or.inl ⟨by kernel_rfl, ?_⟩) (by assumption) ?_
                  rotate_left
                  · (intro w hSw; (try dsimp only at hSw); go_simp; try with_reducible rfl)
                  (try simp only [Act.put, List.getElem_toArray, List.getElem_cons_succ, List.getElem_cons_zero, List.setIfInBounds_toArray, List.set_cons_zero, List.set_cons_succ])
                  refine wpAnyH_take (i := 5) (v := ?_) rfl (by kernel_rfl) (by kernel_rfl) (by kernel_rfl) (fun _ _ _ h => by cases h.1) (Or.inl ⟨by kernel_rfl, ?_⟩) (by assumption) ?_
                  rotate_left
                  · (intro w hSw; (try dsimp only at hSw); go_simp; try with_reducible rfl)
                  (try simp only [Act.put, List.getElem_toArray, List.getElem_cons_succ, List.getElem_cons_zero, List.setIfInBounds_toArray, List.set_cons_zero, List.set_cons_succ])
                  refine wpAnyH_take (i := 6) (v := ?_) rfl (by kernel_rfl) (by kernel_rfl) (by kernel_rfl) (fun _ _ _ h => by cases h.1) (Or.inl ⟨by kernel_rfl, ?_⟩) (by assumption) ?_
                  rotate_left
                  · (intro w hSw; (try dsimp only at hSw); go_simp; try with_reducible rfl)
                  (try simp only [Act.put, List.getElem_toArray, List.getElem_cons_succ, List.getElem_cons_zero, List.setIfInBounds_toArray, List.set_cons_zero, List.set_cons_succ])
                  refine wpAnyH_take (i := 7) (v := ?_) rfl (by kernel_rfl) (by kernel_rfl) (by kernel_rfl) (fun _ _ _ h => by cases h.1) (Or.inl ⟨by kernel_rfl, ?_⟩) (by assumption) ?_
                  rotate_left
                  · (intro w hSw; (try dsimp only at hSw); go_simp; try with_reducible rfl)
                  (try simp only [Act.put, List.getElem_toArray, List.getElem_cons_succ, List.getElem_cons_zero, List.setIfInBounds_toArray, List.set_cons_zero, List.set_cons_succ])
                  refine wpAnyH_take (i := 8) (v := ?_) rfl (by kernel_rfl) (by kernel_rfl) (by kernel_rfl) (fun _ _ _ h => by cases h.1) (Or.inl ⟨by kernel_rfl, ?_⟩) (by assumption) ?_
                  rotate_left
                  · (intro w hSw; (try dsimp only at hSw); go_simp; try with_reducible rfl)
                  (try simp only [Act.put, List.getElem_toArray, List.getElem_cons_succ, List.getElem_cons_zero, List.setIfInBounds_toArray, List.set_cons_zero, List.set_cons_succ])
                  refine wpAnyH_take (i := 9) (v := ?_) rfl (by kernel_rfl) (by kernel_rfl) (by kernel_rfl) (fun _ _ _ h => by cases h.1) (Or.inl ⟨by kernel_rfl, ?_⟩) (by assumption) ?_
                  rotate_left
                  · (intro w hSw; (try dsimp only at hSw); go_simp; try with_reducible rfl)
                  (try simp only [Act.put, List.getElem_toArray, List.getElem_cons_succ, List.getElem_cons_zero, List.setIfInBounds_toArray, List.set_cons_zero, List.set_cons_succ])
                  refine wpAnyH_take (i := 10) (v := ?_) rfl (by kernel_rfl) (by kernel_rfl) (by kernel_rfl) (fun _ _ _ h => by cases h.1) (Or.inl ⟨by kernel_rfl, ?_⟩) (by assumption) ?_
                  rotate_left
                  · (intro w hSw; (try dsimp only at hSw); go_simp; try with_reducible rfl)
                  (try simp only [Act.put, List.getElem_toArray, List.getElem_cons_succ, List.getElem_cons_zero, List.setIfInBounds_toArray, List.set_cons_zero, List.set_cons_succ])
                  refine wpAnyH_take (i := 11) (v := ?_) rfl (by kernel_rfl) (by kernel_rfl) (by kernel_rfl) (fun _ _ _ h => by cases h.1) (Or.inl ⟨by kernel_rfl, ?_⟩) (by assumption) ?_
                  rotate_left
                  · (intro w hSw; (try dsimp only at hSw); go_simp; try with_reducible rfl)
                  (try simp only [Act.put, List.getElem_toArray, List.getElem_cons_succ, List.getElem_cons_zero, List.setIfInBounds_toArray, List.set_cons_zero, List.set_cons_succ])
                  refine wpAnyH_take (i := 12) (v := ?_) rfl (by kernel_rfl) (by kernel_rfl) (by kernel_rfl) (fun _ _ _ h => by cases h.1) (Or.inl ⟨by kernel_rfl, ?_⟩) (by assumption) ?_
                  rotate_left
                  · (intro w hSw; (try dsimp only at hSw); go_simp; try with_reducible rfl)
                  (try simp only [Act.put, List.getElem_toArray, List.getElem_cons_succ, List.getElem_cons_zero, List.setIfInBounds_toArray, List.set_cons_zero, List.set_cons_succ])
                  refine wpAnyH_take (i := 13) (v := ?_) rfl (by kernel_rfl) (by kernel_rfl) (by kernel_rfl) (fun _ _ _ h => by cases h.1) (Or.inl ⟨by kernel_rfl, ?_⟩) (by assumption) ?_
                  rotate_left
                  · (intro w hSw; (try dsimp only at hSw); go_simp; try with_reducible rfl)
                  (try simp only [Act.put, List.getElem_toArray, List.getElem_cons_succ, List.getElem_cons_zero, List.setIfInBounds_toArray, List.set_cons_zero, List.set_cons_succ])
                  refine wpAnyH_take (i := 14) (v := ?_) rfl (by kernel_rfl) (by kernel_rfl) (by kernel_rfl) (fun _ _ _ h => by cases h.1) (Or.inl ⟨by kernel_rfl, ?_⟩) (by assumption) ?_
                  rotate_left
                  · (intro w hSw; (try dsimp only at hSw); go_simp; try with_reducible rfl)
                  (try simp only [Act.put, List.getElem_toArray, List.getElem_cons_succ, List.getElem_cons_zero, List.setIfInBounds_toArray, List.set_cons_zero, List.set_cons_succ])
                  refine wpAnyH_take (i := 15) (v := ?_) rfl (by kernel_rfl) (by kernel_rfl) (by kernel_rfl) (fun _ _ _ h => by cases h.1) (Or.inl ⟨by kernel_rfl, ?_⟩) (by assumption) ?_
                  rotate_left
                  · (intro w hSw; (try dsimp only at hSw); go_simp; try with_reducible rfl)
                  (try simp only [Act.put, List.getElem_toArray, List.getElem_cons_succ, List.getElem_cons_zero, List.setIfInBounds_toArray, List.set_cons_zero, List.set_cons_succ])
                  refine wpAnyH_take (i := 16) (v := ?_) rfl (by kernel_rfl) (by kernel_rfl) (by kernel_rfl) (fun _ _ _ h => by cases h.1) (Or.inl ⟨by kernel_rfl, ?_⟩) (by assumption) ?_
                  rotate_left
                  · (intro w hSw; (try dsimp only at hSw); go_simp; try with_reducible rfl)
                  (try simp only [Act.put, List.getElem_toArray, List.getElem_cons_succ, List.getElem_cons_zero, List.setIfInBounds_toArray, List.set_cons_zero, List.set_cons_succ])
                  refine wpAnyH_take (i := 17) (v := ?_) rfl (by kernel_rfl) (by kernel_rfl) (by kernel_rfl) (fun _ _ _ h => by cases h.1) (Or.inl ⟨by kernel_rfl, ?_⟩) (by assumption) ?_
                  rotate_left
                  · (intro w hSw; (try dsimp only at hSw); go_simp; try with_reducible rfl)
                  (try simp only [Act.put, List.getElem_toArray, List.getElem_cons_succ, List.getElem_cons_zero, List.setIfInBounds_toArray, List.set_cons_zero, List.set_cons_succ])
                  refine wpAnyH_take (i := 18) (v := ?_) rfl (by kernel_rfl) (by kernel_rfl) (by kernel_rfl) (fun _ _ _ h => by cases h.1) (Or.inl ⟨by kernel_rfl, ?_⟩) (by assumption) ?_
                  rotate_left
                  · (intro w hSw; (try dsimp only at hSw); go_simp; try with_reducible rfl)
                  (try simp only [Act.put, List.getElem_toArray, List.getElem_cons_succ, List.getElem_cons_zero, List.setIfInBounds_toArray, List.set_cons_zero, List.set_cons_succ])
                  refine wpAnyH_take (i := 19) (v := ?_) rfl (by kernel_rfl) (by kernel_rfl) (by kernel_rfl) (fun _ _ _ h => by cases h.1) (Or.inl ⟨by kernel_rfl, ?_⟩) (by assumption) ?_
                  rotate_left
                  · (intro w hSw; (try dsimp only at hSw); go_simp; try with_reducible rfl)
                  (try simp only [Act.put, List.getElem_toArray, List.getElem_cons_succ, List.getElem_cons_zero, List.setIfInBounds_toArray, List.set_cons_zero, List.set_cons_succ])
                  refine wpAnyH_take (i := 20) (v := ?_) rfl (by kernel_rfl) (by kernel_rfl) (by kernel_rfl) (fun _ _ _ h => by cases h.1) (Or.inl ⟨by kernel_rfl, ?_⟩) (by assumption) ?_
                  rotate_left
                  · (intro w hSw; (try dsimp only at hSw); go_simp; try with_reducible rfl)
                  (try simp only [Act.put, List.getElem_toArray, List.getElem_cons_succ, List.getElem_cons_zero, List.setIfInBounds_toArray, List.set_cons_zero, List.set_cons_succ])
                  refine wpAnyH_take (i := 21) (v := ?_) rfl (by kernel_rfl) (by kernel_rfl) (by kernel_rfl) (fun _ _ _ h => by cases h.1) (Or.inl ⟨by kernel_rfl, ?_⟩) (by assumption) ?_
                  rotate_left
                  · (intro w hSw; (try dsimp only at hSw); go_simp; try with_reducible rfl)
                  (try simp only [Act.put, List.getElem_toArray, List.getElem_cons_succ, List.getElem_cons_zero, List.setIfInBounds_toArray, List.set_cons_zero, List.set_cons_succ])
                  refine wpAnyH_take (i := 22) (v := ?_) rfl (by kernel_rfl) (by kernel_rfl) (by kernel_rfl) (fun _ _ _ h => by cases h.1) (Or.inl ⟨by kernel_rfl, ?_⟩) (by assumption) ?_
                  rotate_left
                  · (intro w hSw; (try dsimp only at hSw); go_simp; try with_reducible rfl)
                  (try simp only [Act.put, List.getElem_toArray, List.getElem_cons_succ, List.getElem_cons_zero, List.setIfInBounds_toArray, List.set_cons_zero, List.set_cons_succ])
                  refine wpAnyH_take (i := 23) (v := ?_) rfl (by kernel_rfl) (by kernel_rfl) (by kernel_rfl) (fun _ _ _ h => by cases h.1) (Or.inl ⟨by kernel_rfl, ?_⟩) (by assumption) ?_
                  rotate_left
                  · (intro w hSw; (try dsimp only at hSw); go_simp; try with_reducible rfl)
                  (try simp only [Act.put, List.getElem_toArray, List.getElem_cons_succ, List.getElem_cons_zero, List.setIfInBounds_toArray, List.set_cons_zero, List.set_cons_succ])
                  refine wpAnyH_take (i := 24) (v := ?_) rfl (by kernel_rfl) (by kernel_rfl) (by kernel_rfl) (fun _ _ _ h => by cases h.1) (Or.inl ⟨by kernel_rfl, ?_⟩) (by assumption) ?_
                  rotate_left
                  · (intro w hSw; (try dsimp only at hSw); go_simp; try with_reducible rfl)
                  (try simp only [Act.put, List.getElem_toArray, List.getElem_cons_succ, List.getElem_cons_zero, List.setIfInBounds_toArray, List.set_cons_zero, List.set_cons_succ])
                  refine wpAnyH_take (i := 25) (v := ?_) rfl (by kernel_rfl) (by kernel_rfl) (by kernel_rfl) (fun _ _ _ h => by cases h.1) (Or.inl ⟨by kernel_rfl, ?_⟩) (by assumption) ?_
                  rotate_left
                  · (intro w hSw; (try dsimp only at hSw); go_simp; try with_reducible rfl)
                  (try simp only [Act.put, List.getElem_toArray, List.getElem_cons_succ, List.getElem_cons_zero, List.setIfInBounds_toArray, List.set_cons_zero, List.set_cons_succ])
                  refine wpAnyH_take (i := 26) (v := ?_) rfl (by kernel_rfl) (by kernel_rfl) (by kernel_rfl) (fun _ _ _ h => by cases h.1) (Or.inl ⟨by kernel_rfl, ?_⟩) (by assumption) ?_
                  rotate_left
                  · (intro w hSw; (try dsimp only at hSw); go_simp; try with_reducible rfl)
                  (try simp only [Act.put, List.getElem_toArray, List.getElem_cons_succ, List.getElem_cons_zero, List.setIfInBounds_toArray, List.set_cons_zero, List.set_cons_succ])
                  refine wpAnyH_take (i := 27) (v := ?_) rfl (by kernel_rfl) (by kernel_rfl) (by kernel_rfl) (fun _ _ _ h => by cases h.1) (Or.inl ⟨by kernel_rfl, ?_⟩) (by assumption) ?_
                  rotate_left
                  · (intro w hSw; (try dsimp only at hSw); go_simp; try with_reducible rfl)
                  (try simp only [Act.put, List.getElem_toArray, List.getElem_cons_succ, List.getElem_cons_zero, List.setIfInBounds_toArray, List.set_cons_zero, List.set_cons_succ])
                  refine wpAnyH_take (i := 28) (v := ?_) rfl (by kernel_rfl) (by kernel_rfl) (by kernel_rfl) (fun _ _ _ h => by cases h.1) (Or.inl ⟨by kernel_rfl, ?_⟩) (by assumption) ?_
                  rotate_left
                  · (intro w hSw; (try dsimp only at hSw); go_simp; try with_reducible rfl)
                  (try simp only [Act.put, List.getElem_toArray, List.getElem_cons_succ, List.getElem_cons_zero, List.setIfInBounds_toArray, List.set_cons_zero, List.set_cons_succ])
                  refine wpAnyH_take (i := 29) (v := ?_) rfl (by kernel_rfl) (by kernel_rfl) (by kernel_rfl) (fun _ _ _ h => by cases h.1) (Or.inl ⟨by kernel_rfl, ?_⟩) (by assumption) ?_
                  rotate_left
                  · (intro w hSw; (try dsimp only at hSw); go_simp; try with_reducible rfl)
                  (try simp only [Act.put, List.getElem_toArray, List.getElem_cons_succ, List.getElem_cons_zero, List.setIfInBounds_toArray, List.set_cons_zero, List.set_cons_succ])
                  refine wpAnyH_take (i := 30) (v := ?_) rfl (by kernel_rfl) (by kernel_rfl) (by kernel_rfl) (fun _ _ _ h => by cases h.1) (Or.inl ⟨by kernel_rfl, ?_⟩) (by assumption) ?_
                  rotate_left
                  · (intro w hSw; (try dsimp only at hSw); go_simp; try with_reducible rfl)
                  (try simp only [Act.put, List.getElem_toArray, List.getElem_cons_succ, List.getElem_cons_zero, List.setIfInBounds_toArray, List.set_cons_zero, List.set_cons_succ])
                  refine wpAnyH_done (by kernel_rfl) ?_ _
                  refine ⟨rfl, ?_⟩
                  clear hSS hHeld
                  gi_wp2
                  gi_loopw [104] (fun t104 wq => ∃ q : Nat, q ≤ L ∧ t104 = .int .i64 (q : Int) ∧ PZ w (.slice TA tn tc') tws s T R base hd ms (.slice (some ⟨bS, 0, none⟩) s.1.length sc) (.slice VA s.1.length vc) tv 200120000 S RB (RB + 1) (RB + 1 + 1) (.slice FA fn fc) wq ∧ Boxed wq IB 3 (.int .i64 (m : Int)) ∧ NotTw wq T IB ∧ wq.heap[D1]? = some (.deferred (some [])) ∧ Free S hd ms wq A L ∧ KeepsOthers W wq ∧ KpE T base tws s.1 false hd ms W wq) (fun t104 _ => L - (intOf t104).toNat)
                  case atStart => exact ⟨0, Nat.zero_le _, rfl, Hzm.out, Him.out, Hnm.out, Hdm.out, Hfm.out, KeepsOthers.drew W, fun c h => h.drewN 1⟩
                  case round =>
                    obtain ⟨q, hq, rfl, hz, hib, hnt, hd1, hfr, hko, hkp⟩ := hrel
                    by_cases hql : q < L
                    · obtain ⟨g3, cs3, rfl, hb3, hn3, hf3, hl3⟩ := hfr (by omega)
                      have gi : wr.cell? ⟨g3, q, none⟩ = some (cs3[q]'(by omega)) := by rw [hb3.cell, Array.getElem?_eq_getElem (by omega)]
                      have gf := hb3.frozen q
                      have q0 : (0 : Int) ≤ (q : Int) := by omega
                      have q1 : (q : Int) < (L : Int) := by omega
                      have hqw : IntKind.i64.wrap ((q : Int) + 1) = (q : Int) + 1 := by
                        have := HL.out
                        simp [IntKind.wrap, IntKind.bits, IntKind.signed]
                        omega
                      have r1 := hide (hz.zed hb3 hf3 (by have := HS.out; omega) q (.int .u8 122))
                      have r2 := hide (show Boxed (wr.setCell ⟨g3, q, none⟩ (.int .u8 122)) IB 3 (.int .i64 (m : Int)) from PZ.box_far hib hb3 (by decide))
                      have r3 := hide (hnt.set (i := q) (hz.blk_ne hb3 (by decide)) (.int .u8 122))
                      have r4 := hide ((KeepsOthers.setCell wr ⟨g3, q, none⟩ (.int .u8 122)).same D1 _ hd1 rfl)
                      have r5 := hide (hfr.set hb3 q (.int .u8 122))
                      have r6 := hide (hko.trans (KeepsOthers.setCell wr ⟨g3, q, none⟩ (.int .u8 122)))
                      have r7 := hide (show KpE T base tws s.1 false hd ms W (wr.setCell ⟨g3, q, none⟩ (.int .u8 122)) from fun c h => (hkp c h).zed hb3 hf3 q _)
                      clear hz hib hnt hd1 hfr hko hkp hb3 hf3
                      gi_wp2
                      go_roundw
                      case rel => exact ⟨q + 1, by omega, by simp, r1.out, r2.out, r3.out, r4.out, r5.out, r6.out, r7.out⟩
                      case measure => simp [intOf]; omega
                    · obtain rfl : q = L := by omega
                      have cI := hib.cell
                      have cF := hib.frozen
                      have hmw := Hmw.out
                      have r1 := hide (hz.ibox hib hnt Htv.out HIB.out.2.2.1 (.int .i64 ((m : Int) + 1)))
                      have r2 := hide (show Boxed (wr.setCell ⟨IB, 0, none⟩ (.int .i64 ((m : Int) + 1))) IB 3 (.int .i64 ((m : Int) + 1)) from Blk.put hib 0 (.int .i64 ((m : Int) + 1)))
                      have r3 := hide (hnt.set (i := 0) (hz.box_ne hib (by decide)) (.int .i64 ((m : Int) + 1)))
                      have r4 := hide ((KeepsOthers.setCell wr ⟨IB, 0, none⟩ (.int .i64 ((m : Int) + 1))).same D1 _ hd1 rfl)
                      have r6 := hide (hko.trans (KeepsOthers.setCell wr ⟨IB, 0, none⟩ (.int .i64 ((m : Int) + 1))))
                      have r7 := hide (show KpE T base tws s.1 false hd ms W (wr.setCell ⟨IB, 0, none⟩ (.int .i64 ((m : Int) + 1))) from fun c h => (hkp c h).ibox hib hnt 0 _)
                      clear hz hib hnt hd1 hfr hko hkp
                      gi_wp2
                      refine ⟨r6.out.from _, r7.out, r1.out, ?_, r3.out, r4.out⟩
                      rw [show ((fnd s.1 fk + (j + 1) : Nat) : Int) = (m : Int) + 1 by have := Hm.out; omega]
                      exact r2.out
                case done2 =>
                  rintro D2 W hD2 ⟨hz, hib, hnt, hd1⟩ hK2
                  rw [show ((fnd s.1 fk + (s.1.length - fnd s.1 fk) : Nat) : Int) = (N : Int) by have := HN.out; have := Hle.out; omega] at hib
                  obtain ⟨c, hc, htm⟩ := hz.tm
                  have cK : W.cell? ⟨R, 1, none⟩ = some (.slice (some ⟨bS, 0, none⟩) N sc) := by
                    have h1 : W.cell? ⟨R, 1, none⟩ = some (.slice (some ⟨bS, 0, none⟩) s.1.length sc) := hz.rt.tab.cell 1
                    rw [h1, HN.out]
                  have HC := hide (fun (V : World) (hb : Below W.heap.size W V) => (⟨(Blk.below hib hb hib.lt).cell 0, (Blk.below hz.rb hb hz.rb.lt).cell 0, (hb.cell (p := ⟨R, 1, none⟩) hz.rt.tab.lt).trans cK⟩ : V.cell? ⟨IB, 0, none⟩ = some (.int .i64 (N : Int)) ∧ V.cell? ⟨RB, 0, none⟩ = some (.pointer (some ⟨R, 0, none⟩)) ∧ V.cell? ⟨R, 1, none⟩ = some (.slice (some ⟨bS, 0, none⟩) N sc)))
                  have n1 : S ≠ IB := fun e => by
                    have h1 := hz.q0
                    rw [e] at h1
                    have := kind_ne h1 hib
                    cases this
                  have n2 : S ≠ RB := fun e => by
                    have h1 := hz.q0
                    rw [e] at h1
                    have := kind_ne h1 hz.rb
                    cases this
                  have n3 : S ≠ R := fun e => by
                    have h1 := hz.q0
                    rw [e] at h1
                    have := kind_ne h1 hz.rt.tab
                    cases this
                  have HQI := hide (And.intro n1 (And.intro n2 n3))
                  clear n1 n2 n3
                  have Hz := hide hz
                  have Htm := hide htm
                  have Hd1 := hide hd1
                  have HK2 := hide hK2
                  have Hsh := hide htm.sl.short
                  clear hz hib hnt hd1 hK2 htm cK hc
                  gi_wp2
                  refine region_wide_to (S := fun W' => W'.cell? ⟨IB, 0, none⟩ = some (.int .i64 (N : Int)) ∧ W'.cell? ⟨RB, 0, none⟩ = some (.pointer (some ⟨R, 0, none⟩)) ∧ W'.cell? ⟨R, 1, none⟩ = some (.slice (some ⟨bS, 0, none⟩) N sc)) (by kernel_rfl) (by kernel_rfl) (HC.out _ (below_drew W)) (fun hHeld => ?_)
                  refine wpAnyH_take (i := 0) (v := ?_) rfl (by kernel_rfl) (by kernel_rfl) (by kernel_rfl) (fun _ _ _ h => by cases h.1) (Or.inl ⟨by kernel_rfl, ?_⟩) (by assumption) ?_
                  rotate_left
                  · (intro w hSw; (try dsimp only at hSw); go_simp; try with_reducible rfl)
                  (try simp only [Act.put, List.getElem_toArray, List.getElem_cons_succ, List.getElem_cons_zero, List.setIfInBounds_toArray, List.set_cons_zero, List.set_cons_succ])
                  refine wpAnyH_take (i := 1) (v := ?_) rfl (by kernel_rfl) (by kernel_rfl) (by kernel_rfl) (fun _ _ _ h => by cases h.1) (Or.inl ⟨by kernel_rfl, ?_⟩) (by assumption) ?_
                  rotate_left
                  · (intro w hSw; (try dsimp only at hSw); go_simp; try with_reducible rfl)
                  (try simp only [Act.put, List.getElem_toArray, List.getElem_cons_succ, List.getElem_cons_zero, List.setIfInBounds_toArray, List.set_cons_zero, List.set_cons_succ])
                  refine wpAnyH_take (i := 2) (v := ?_) rfl (by kernel_rfl) (by kernel_rfl) (by kernel_rfl) (fun _ _ _ h => by cases h.1) (Or.inl ⟨by kernel_rfl, ?_⟩) (by assumption) ?_
                  rotate_left
                  · (intro w hSw; (try dsimp only at hSw); go_simp; try with_reducible rfl)
                  (try simp only [Act.put, List.getElem_toArray, List.getElem_cons_succ, List.getElem_cons_zero, List.setIfInBounds_toArray, List.set_cons_zero, List.set_cons_succ])
                  refine wpAnyH_take (i := 3) (v := ?_) rfl (by kernel_rfl) (by kernel_rfl) (by kernel_rfl) (fun _ _ _ h => by cases h.1) (Or.inl ⟨by kernel_rfl, ?_⟩) (by assumption) ?_
                  rotate_left
                  · (intro w hSw; (try dsimp only at hSw); go_simp; try with_reducible rfl)
                  (try simp only [Act.put, List.getElem_toArray, List.getElem_cons_succ, List.getElem_cons_zero, List.setIfInBounds_toArray, List.set_cons_zero, List.set_cons_succ])
                  refine wpAnyH_take (i := 4) (v := ?_) rfl (by kernel_rfl) (by kernel_rfl) (by kernel_rfl) (fun _ _ _ h => by cases h.1) (Or.inl ⟨by kernel_rfl, ?_⟩) (by assumption) ?_
                  rotate_left
                  · (intro w hSw; (try dsimp only at hSw); go_simp; try with_reducible rfl)
                  (try simp only [Act.put, List.getElem_toArray, List.getElem_cons_succ, List.getElem_cons_zero, List.setIfInBounds_toArray, List.set_cons_zero, List.set_cons_succ])
                  refine wpAnyH_take (i := 5) (v := ?_) rfl (by kernel_rfl) (by kernel_rfl) (by kernel_rfl) (fun _ _ _ h => by cases h.1) (Or.inl ⟨by kernel_rfl, ?_⟩) (by assumption) ?_
                  rotate_left
                  · (intro w hSw; (try dsimp only at hSw); go_simp; try with_reducible rfl)
                  (try simp only [Act.put, List.getElem_toArray, List.getElem_cons_succ, List.getElem_cons_zero, List.setIfInBounds_toArray, List.set_cons_zero, List.set_cons_succ])
                  refine wpAnyH_take (i := 6) (v := ?_) rfl (by kernel_rfl) (by kernel_rfl) (by kernel_rfl) (fun _ _ _ h => by cases h.1) (Or.inl ⟨by kernel_rfl, ?_⟩) (by assumption) ?_
                  rotate_left
                  · (intro w hSw; (try dsimp only at hSw); go_simp; try with_reducible rfl)
                  (try simp only [Act.put, List.getElem_toArray, List.getElem_cons_succ, List.getElem_cons_zero, List.setIfInBounds_toArray, List.set_cons_zero, List.set_cons_succ])
                  refine wpAnyH_take (i := 7) (v := ?_) rfl (by kernel_rfl) (by kernel_rfl) (by kernel_rfl) (fun _ _ _ h => by cases h.1) (Or.inl ⟨by kernel_rfl, ?_⟩) (by assumption) ?_
                  rotate_left
                  · (intro w hSw; (try dsimp only at hSw); go_simp; try with_reducible rfl)
                  (try simp only [Act.put, List.getElem_toArray, List.getElem_cons_succ, List.getElem_cons_zero, List.setIfInBounds_toArray, List.set_cons_zero, List.set_cons_succ])
                  refine wpAnyH_take (i := 8) (v := ?_) rfl (by kernel_rfl) (by kernel_rfl) (by kernel_rfl) (fun _ _ _ h => by cases h.1) (Or.inl ⟨by kernel_rfl, ?_⟩) (by assumption) ?_
                  rotate_left
                  · (intro w hSw; (try dsimp only at hSw); go_simp; try with_reducible rfl)
                  (try simp only [Act.put, List.getElem_toArray, List.getElem_cons_succ, List.getElem_cons_zero, List.setIfInBounds_toArray, List.set_cons_zero, List.set_cons_succ])
                  refine wpAnyH_take (i := 10) (v := ?_) rfl (by kernel_rfl) (by kernel_rfl) (by kernel_rfl) (fun _ _ _ h => by cases h.1) (Or.inl ⟨by kernel_rfl, ?_⟩) (by assumption) ?_
                  rotate_left
                  · (intro w hSw; (try dsimp only at hSw); go_simp; try with_reducible rfl)
                  (try simp only [Act.put, List.getElem_toArray, List.getElem_cons_succ, List.getElem_cons_zero, List.setIfInBounds_toArray, List.set_cons_zero, List.set_cons_succ])
                  refine wpAnyH_ready (rs := [9]) (by kernel_rfl) (by simp) (AllReadyH.cons rfl (fun K hK => ?_) AllReadyH.nil)
                  go_simp
                  refine Calls.mono (pairs_walk T base tws s.1 c false hd ms W.drew (Htm.out.drewN 1) (by have := Hq.out; omega)) ?_
                  rintro e w10 ⟨⟨v10, rfl, hm10⟩, hB10⟩
                  have Hm10 := hide (MineP.read hm10 (kv_short Hsh.out))
                  have HB10 := hide ((below_drew W).trans hB10)
                  clear hm10 hB10
                  refine hK.out _ _ (HC.out _ HB10.out) (fun hHeld => ?_)
                  clear hK K
                  (try simp only [Act.put, List.getElem_toArray, List.getElem_cons_succ, List.getElem_cons_zero, List.setIfInBounds_toArray, List.set_cons_zero, List.set_cons_succ])
                  refine wpAnyH_ready (rs := [11]) (by kernel_rfl) (by simp) (AllReadyH.cons rfl (fun K hK => ?_) AllReadyH.nil)
                  go_simp
                  refine Calls.mono (rpairs_any R base _ _ _ tv s.1 s.2 w10 (Hz.out.rt.below HB10.out (Nat.le_refl _)) (by have := Hq.out; omega)) ?_
                  rintro e w11 ⟨⟨v11, rfl, hm11⟩, hB11⟩
                  have Hm11 := hide (MineQ.read hm11 (kv_short Hsh.out))
                  have Hm1011 := hide (Hm10.out.below hB11)
                  have HB11 := hide (HB10.out.trans (hB11.mono HB10.out.size))
                  clear hm11 hB11
                  refine hK.out _ _ (HC.out _ HB11.out) (fun hHeld => ?_)
                  clear hK K
                  (try simp only [Act.put, List.getElem_toArray, List.getElem_cons_succ, List.getElem_cons_zero, List.setIfInBounds_toArray, List.set_cons_zero, List.set_cons_succ])
                  refine wpAnyH_ready (rs := [12]) (by kernel_rfl) (by simp) (AllReadyH.cons rfl (fun K hK => ?_) AllReadyH.nil)
                  go_simp
                  refine Calls.mono (same_any _ _ v10 v11 w11 Hm1011.out Hm11.out (by have := Hq.out; rw [List.length_map]; omega)) ?_
                  rintro e w12 ⟨rfl, mm, hw12⟩
                  have HB12 := hide (show Below W.heap.size W w12 by rw [hw12]; exact Below.drewN' HB11.out mm)
                  have Hq12 := hide (show Boxed w12 S 4 (.bool false) from Blk.below Hz.out.q0 HB12.out Hz.out.q0.lt)
                  have c12 := Hq12.out.cell
                  have f12' := Hq12.out.frozen
                  clear hw12
                  rw [decide_eq_true rfl]
                  refine hK.out _ _ (HC.out _ HB12.out) (fun hHeld => ?_)
                  clear hK K
                  (try simp only [Act.put, List.getElem_toArray, List.getElem_cons_succ, List.getElem_cons_zero, List.setIfInBounds_toArray, List.set_cons_zero, List.set_cons_succ])
                  refine wpAnyH_take (i := 13) (v := ?_) rfl (by kernel_rfl) (by kernel_rfl) (by kernel_rfl) (fun _ _ _ h => by cases h.1) (Or.inl ⟨by kernel_rfl, ?_⟩) (by assumption) ?_
                  rotate_left
                  · (intro w hSw; (try dsimp only at hSw); go_simp; try with_reducible rfl)
                  (try simp only [Act.put, List.getElem_toArray, List.getElem_cons_succ, List.getElem_cons_zero, List.setIfInBounds_toArray, List.set_cons_zero, List.set_cons_succ])
                  refine wpAnyH_ready (rs := [14]) (by kernel_rfl) (by simp) (AllReadyH.cons rfl (fun K hK => ?_) AllReadyH.nil)
                  go_simp
                  refine hK.out _ _ (⟨(World.cell?_setCell_other _ _ _ _ (fun e => by injection e with e; first | exact HQI.out.1 e | exact HQI.out.1 e.symm)).trans (HC.out _ HB12.out).1, (World.cell?_setCell_other _ _ _ _ (fun e => by injection e with e; first | exact HQI.out.2.1 e | exact HQI.out.2.1 e.symm)).trans (HC.out _ HB12.out).2.1, (World.cell?_setCell_other _ _ _ _ (fun e => by injection e with e; first | exact HQI.out.2.2 e | exact HQI.out.2.2 e.symm)).trans (HC.out _ HB12.out).2.2⟩) (fun hHeld => ?_)
                  clear hK K
                  (try simp only [Act.put, List.getElem_toArray, List.getElem_cons_succ, List.getElem_cons_zero, List.setIfInBounds_toArray, List.set_cons_zero, List.set_cons_succ])
                  refine wpAnyH_done (by kernel_rfl) ?_ _
                  refine ⟨rfl, ?_⟩
                  gi_wp2
                  have hk2 := (KeepsOthers.setCell w12 ⟨S, 0, none⟩ (.bool true)).same D2 _ ((HB12.out.block D2 (Array.getElem?_eq_some_iff.1 HK2.out).1).trans HK2.out) rfl
                  have hk1 := (KeepsOthers.setCell w12 ⟨S, 0, none⟩ (.bool true)).same D1 _ ((HB12.out.block D1 (Array.getElem?_eq_some_iff.1 Hd1.out).1).trans Hd1.out) rfl
                  have zt : Boxed (w12.setCell ⟨S, 0, none⟩ (.bool true)) S 4 (.bool true) := Blk.put Hq12.out 0 (.bool true)
                  have hbf : Below w.heap.size w (w12.setCell ⟨S, 0, none⟩ (.bool true)) := (Hz.out.bel.trans (HB12.out.mono Hz.out.bel.size)).setCell (p := ⟨S, 0, none⟩) (by rw [HS.out]; exact Nat.le_refl _) _
                  generalize w12.setCell ⟨S, 0, none⟩ (.bool true) = Wf at *
                  have hD12 : D1 ≠ D2 := by have := (Array.getElem?_eq_some_iff.1 Hdd.out).1; omega
                  have hD1w : w.heap.size ≤ D1 := by have := HIB.out; have := Hw5.out; omega
                  have hD2w : w.heap.size ≤ D2 := by have := Hzd.out.bel.size; omega
                  refine ⟨by simp, .inl ⟨_, _, rfl, run_takeDeferred hk2, ?_⟩⟩
                  have hk1y : (Wf.putObj D2 (.deferred none)).heap[D1]? = some (.deferred (some [])) := (World.putObj_heap_other hD12).trans hk1
                  refine ⟨by simp, .inl ⟨_, _, rfl, run_takeDeferred hk1y, ?_⟩⟩
                  have zt2 := blk_putObj (blk_putObj zt hk2 rfl (.deferred none)) hk1y rfl (.deferred none)
                  have hc5 := Boxed.cell zt2
                  refine ⟨.bool true, ?_, rfl, ?_⟩
                  · simp [results, Try.f6, go_sem, hc5]
                  · exact below_putObj (below_putObj hbf hD2w _) hD1w _
            · have hiN : i = N := by have := Hle.out; omega
              have hlt2 : ¬ (i : Int) < (N : Int) := by omega
              have HiF := hide (show i = fnd s.1 fk by have := Hle.out; omega)
              have hSS : wr.drew.cell? ⟨IB, 0, none⟩ = some (.int .i64 (i : Int)) ∧ wr.drew.cell? ⟨RB, 0, none⟩ = some (.pointer (some ⟨R, 0, none⟩)) ∧ wr.drew.cell? ⟨R, 1, none⟩ = some (.slice SA N sc) := ⟨cI, cR, cK⟩
              clear hz hib hnt hd1 hio cI cR cK hst hi hiN
              gi_wp2
              refine region_wide_to (S := fun W' => W'.cell? ⟨IB, 0, none⟩ = some (.int .i64 (i : Int)) ∧ W'.cell? ⟨RB, 0, none⟩ = some (.pointer (some ⟨R, 0, none⟩)) ∧ W'.cell? ⟨R, 1, none⟩ = some (.slice SA N sc)) (by kernel_rfl) (by kernel_rfl) (hSS) (fun hHeld => ?_)
              refine wpAnyH_take (i := 0) (v := ?_) rfl (by kernel_rfl) (by kernel_rfl) (by kernel_rfl) (fun _ _ _ h => by cases h.1) (Or.inl ⟨by kernel_rfl, ?_⟩) (by assumption) ?_
              rotate_left
              · (intro w hSw; (try dsimp only at hSw); go_simp; try with_reducible rfl)
              (try simp only [Act.put, List.getElem_toArray, List.getElem_cons_succ, List.getElem_cons_zero, List.setIfInBounds_toArray, List.set_cons_zero, List.set_cons_succ])
              refine wpAnyH_take (i := 1) (v := ?_) rfl (by kernel_rfl) (by kernel_rfl) (by kernel_rfl) (fun _ _ _ h => by cases h.1) (Or.inl ⟨by kernel_rfl, ?_⟩) (by assumption) ?_
              rotate_left
              · (intro w hSw; (try dsimp only at hSw); go_simp; try with_reducible rfl)
              (try simp only [Act.put, List.getElem_toArray, List.getElem_cons_succ, List.getElem_cons_zero, List.setIfInBounds_toArray, List.set_cons_zero, List.set_cons_succ])
              refine wpAnyH_take (i := 2) (v := ?_) rfl (by kernel_rfl) (by kernel_rfl) (by kernel_rfl) (fun _ _ _ h => by cases h.1) (Or.inl ⟨by kernel_rfl, ?_⟩) (by assumption) ?_
              rotate_left
              · (intro w hSw; (try dsimp only at hSw); go_simp; try with_reducible rfl)
              (try simp only [Act.put, List.getElem_toArray, List.getElem_cons_succ, List.getElem_cons_zero, List.setIfInBounds_toArray, List.set_cons_zero, List.set_cons_succ])
              refine wpAnyH_take (i := 3) (v := ?_) rfl (by kernel_rfl) (by kernel_rfl) (by kernel_rfl) (fun _ _ _ h => by cases h.1) (Or.inl ⟨by kernel_rfl, ?_⟩) (by assumption) ?_
              rotate_left
              · (intro w hSw; (try dsimp only at hSw); go_simp; try with_reducible rfl)
              (try simp only [Act.put, List.getElem_toArray, List.getElem_cons_succ, List.getElem_cons_zero, List.setIfInBounds_toArray, List.set_cons_zero, List.set_cons_succ])
              refine wpAnyH_take (i := 4) (v := ?_) rfl (by kernel_rfl) (by kernel_rfl) (by kernel_rfl) (fun _ _ _ h => by cases h.1) (Or.inl ⟨by kernel_rfl, ?_⟩) (by assumption) ?_
              rotate_left
              · (intro w hSw; (try dsimp only at hSw); go_simp; try with_reducible rfl)
              (try simp only [Act.put, List.getElem_toArray, List.getElem_cons_succ, List.getElem_cons_zero, List.setIfInBounds_toArray, List.set_cons_zero, List.set_cons_succ])
              refine wpAnyH_take (i := 5) (v := ?_) rfl (by kernel_rfl) (by kernel_rfl) (by kernel_rfl) (fun _ _ _ h => by cases h.1) (Or.inl ⟨by kernel_rfl, ?_⟩) (by assumption) ?_
              rotate_left
              · (intro w hSw; (try dsimp only at hSw); go_simp; try with_reducible rfl)
              (try simp only [Act.put, List.getElem_toArray, List.getElem_cons_succ, List.getElem_cons_zero, List.setIfInBounds_toArray, List.set_cons_zero, List.set_cons_succ])
              refine wpAnyH_take (i := 6) (v := ?_) rfl (by kernel_rfl) (by kernel_rfl) (by kernel_rfl) (fun _ _ _ h => by cases h.1) (Or.inl ⟨by kernel_rfl, ?_⟩) (by assumption) ?_
              rotate_left
              · (intro w hSw; (try dsimp only at hSw); go_simp; try with_reducible rfl)
              (try simp only [Act.put, List.getElem_toArray, List.getElem_cons_succ, List.getElem_cons_zero, List.setIfInBounds_toArray, List.set_cons_zero, List.set_cons_succ])
              refine wpAnyH_take (i := 7) (v := ?_) rfl (by kernel_rfl) (by kernel_rfl) (by kernel_rfl) (fun _ _ _ h => by cases h.1) (Or.inl ⟨by kernel_rfl, ?_⟩) (by assumption) ?_
              rotate_left
              · (intro w hSw; (try dsimp only at hSw); go_simp; try with_reducible rfl)
              (try simp only [Act.put, List.getElem_toArray, List.getElem_cons_succ, List.getElem_cons_zero, List.setIfInBounds_toArray, List.set_cons_zero, List.set_cons_succ])
              refine wpAnyH_take (i := 8) (v := undef) rfl (by kernel_rfl) (by kernel_rfl) (by kernel_rfl) (fun _ _ _ h => by cases h.1) (Or.inr ⟨by kernel_rfl, rfl⟩) (by assumption) ?_
              (try simp only [Act.put, List.getElem_toArray, List.getElem_cons_succ, List.getElem_cons_zero, List.setIfInBounds_toArray, List.set_cons_zero, List.set_cons_succ])
              refine wpAnyH_take (i := 9) (v := undef) rfl (by kernel_rfl) (by kernel_rfl) (by kernel_rfl) (fun _ _ _ h => by cases h.1) (Or.inr ⟨by kernel_rfl, rfl⟩) (by assumption) ?_
              (try simp only [Act.put, List.getElem_toArray, List.getElem_cons_succ, List.getElem_cons_zero, List.setIfInBounds_toArray, List.set_cons_zero, List.set_cons_succ])
              refine wpAnyH_take (i := 10) (v := undef) rfl (by kernel_rfl) (by kernel_rfl) (by kernel_rfl) (fun _ _ _ h => by cases h.1) (Or.inr ⟨by kernel_rfl, rfl⟩) (by assumption) ?_
              (try simp only [Act.put, List.getElem_toArray, List.getElem_cons_succ, List.getElem_cons_zero, List.setIfInBounds_toArray, List.set_cons_zero, List.set_cons_succ])
              refine wpAnyH_take (i := 11) (v := undef) rfl (by kernel_rfl) (by kernel_rfl) (by kernel_rfl) (fun _ _ _ h => by cases h.1) (Or.inr ⟨by kernel_rfl, rfl⟩) (by assumption) ?_
              (try simp only [Act.put, List.getElem_toArray, List.getElem_cons_succ, List.getElem_cons_zero, List.setIfInBounds_toArray, List.set_cons_zero, List.set_cons_succ])
              refine wpAnyH_take (i := 12) (v := undef) rfl (by kernel_rfl) (by kernel_rfl) (by kernel_rfl) (fun _ _ _ h => by cases h.1) (Or.inr ⟨by kernel_rfl, rfl⟩) (by assumption) ?_
              (try simp only [Act.put, List.getElem_toArray, List.getElem_cons_succ, List.getElem_cons_zero, List.setIfInBounds_toArray, List.set_cons_zero, List.set_cons_succ])
              refine wpAnyH_take (i := 13) (v := undef) rfl (by kernel_rfl) (by kernel_rfl) (by kernel_rfl) (fun _ _ _ h => by cases h.1) (Or.inr ⟨by kernel_rfl, rfl⟩) (by assumption) ?_
              (try simp only [Act.put, List.getElem_toArray, List.getElem_cons_succ, List.getElem_cons_zero, List.setIfInBounds_toArray, List.set_cons_zero, List.set_cons_succ])
              refine wpAnyH_take (i := 14) (v := undef) rfl (by kernel_rfl) (by kernel_rfl) (by kernel_rfl) (fun _ _ _ h => by cases h.1) (Or.inr ⟨by kernel_rfl, rfl⟩) (by assumption) ?_
              (try simp only [Act.put, List.getElem_toArray, List.getElem_cons_succ, List.getElem_cons_zero, List.setIfInBounds_toArray, List.set_cons_zero, List.set_cons_succ])
              refine wpAnyH_take (i := 15) (v := undef) rfl (by kernel_rfl) (by kernel_rfl) (by kernel_rfl) (fun _ _ _ h => by cases h.1) (Or.inr ⟨by kernel_rfl, rfl⟩) (by assumption) ?_
              (try simp only [Act.put, List.getElem_toArray, List.getElem_cons_succ, List.getElem_cons_zero, List.setIfInBounds_toArray, List.set_cons_zero, List.set_cons_succ])
              refine wpAnyH_take (i := 16) (v := undef) rfl (by kernel_rfl) (by kernel_rfl) (by kernel_rfl) (fun _ _ _ h => by cases h.1) (Or.inr ⟨by kernel_rfl, rfl⟩) (by assumption) ?_
              (try simp only [Act.put, List.getElem_toArray, List.getElem_cons_succ, List.getElem_cons_zero, List.setIfInBounds_toArray, List.set_cons_zero, List.set_cons_succ])
              refine wpAnyH_take (i := 17) (v := undef) rfl (by kernel_rfl) (by kernel_rfl) (by kernel_rfl) (fun _ _ _ h => by cases h.1) (Or.inr ⟨by kernel_rfl, rfl⟩) (by assumption) ?_
              (try simp only [Act.put, List.getElem_toArray, List.getElem_cons_succ, List.getElem_cons_zero, List.setIfInBounds_toArray, List.set_cons_zero, List.set_cons_succ])
              refine wpAnyH_take (i := 18) (v := ?_) rfl (by kernel_rfl) (by kernel_rfl) (by kernel_rfl) (fun _ _ _ h => by cases h.1) (Or.inl ⟨by kernel_rfl, ?_⟩) (by assumption) ?_
              rotate_left
              · (intro w hSw; (try dsimp only at hSw); go_simp; try with_reducible rfl)
              (try simp only [Act.put, List.getElem_toArray, List.getElem_cons_succ, List.getElem_cons_zero, List.setIfInBounds_toArray, List.set_cons_zero, List.set_cons_succ])
              refine wpAnyH_done (by kernel_rfl) ?_ _
              refine ⟨rfl, ?_⟩
              clear hSS hHeld
              obtain ⟨wd, hwd⟩ : ∃ wd, wr.drew = wd := ⟨_, rfl⟩
              rw [hwd] at Hzd Hid Hnd Hdd ⊢
              clear hwd
              gi_wp2
              refine wpIn_rangeFunc_W (α := Value × Value) (n := 9) (by omega) (gf := 42) (lb := #[.pointer (some ⟨RB + 1, 0, none⟩), .pointer (some ⟨RB + 1 + 1, 0, none⟩)]) rfl (enters_of Try.func42 (by kernel_rfl) rfl)
                (s.1.length - fnd s.1 fk) (ItE T base tws s.1 false hd ms 200120000) (KpE T base tws s.1 false hd ms) eenc (fun i W x => EachV S hd ms s.1 (fnd s.1 fk + i) W x) (fun _ _ => rfl)
                (fun l J Jx W hW hJ _ hY h0 => by
                  have hz := Hzd.out.below hW
                  obtain ⟨c, hc, htm⟩ := hz.tm
                  exact each42_in 8 l (by omega) T (RB + 1) (RB + 1 + 1) S base 200120000 tws s.1 c false hd ms fk FA fn fc J Jx HST.out hJ hY W htm ((Hk.out.below hz.bel).more hz.bel.size) HAT.out (by have := HCb.out; omega) (by omega) hz.x hz.y h0)
                (fun h k => fun c hc => k c (h c hc)) (fun W l o o' _ ho hc => fun c h => h.putObj ho hc o')
                (fun U V hg k o hk ho _ => (hg.1.block k (Array.getElem?_eq_some_iff.1 ho).1 (fun e => by injection e with e; have := HRB.out; have := Hid.out.lt; have := HIB.out; omega)).trans ho)
                (fun j W => PZ w (.slice TA tn tc') tws s T R base hd ms (.slice SA s.1.length sc) (.slice VA s.1.length vc) tv 200120000 S RB (RB + 1) (RB + 1 + 1) (.slice FA fn fc) W ∧ Boxed W IB 3 (.int .i64 ((fnd s.1 fk + j : Nat) : Int)) ∧ NotTw W T IB ∧ W.heap[D1]? = some (.deferred (some []))) (fun _ _ _ => False)
                (fun j U V ⟨h1, h2, h3, h4⟩ hg => ⟨h1.it hg HwT.out, Blk.grown h2 hg.1 (fun e => by injection e with e; exact h1.box_ne h2 (by decide) e), h3.cell hg.2.2, (hg.1.block D1 (Array.getElem?_eq_some_iff.1 h4).1 (fun e => by injection e with e; have := HRB.out; have := HIB.out; omega)).trans h4⟩)
                (fun _ _ _ _ h _ => h)
                (fun j W l o o' ⟨h1, h2, h3, h4⟩ hl ho hc => ⟨h1.putObj (by have := Hzd.out.bel.size; omega) ho hc o', blk_putObj h2 ho hc o', (by obtain ⟨c, _, htm⟩ := h1.tm; exact h3.putObj htm ho hc o'), (World.putObj_heap_other (fun e => by have := (Array.getElem?_eq_some_iff.1 Hdd.out).1; omega)).trans h4⟩)
                (fun _ _ _ _ _ _ h _ _ _ => h)
                (fun i W x l o o' hV _ ho hc => hV.putObj ho hc o')
                (fun o o' => by
                  have hB2 := ((Below.refl _ wd).alloc (Nat.le_refl _) o).alloc (by simp) o'
                  refine ⟨(Hzd.out.more (by omega)).below hB2, ?_, ?_, (hB2.block D1 (Array.getElem?_eq_some_iff.1 Hdd.out).1).trans Hdd.out⟩
                  · rw [Nat.add_zero, ← HiF.out]
                    exact Blk.below Hid.out hB2 Hid.out.lt
                  · obtain ⟨c, _, htm⟩ := Hzd.out.tm
                    exact Hnd.out.cell (hB2.cell (p := ⟨T, 1, none⟩) htm.lt)) ?a3 ?assign3 ?body3 ?done3 ?stop3
              case assign3 =>
                intro l i x W K hK
                simp only [eenc]
                gi_wp2
                exact hK
              case stop3 =>
                rintro D c i W _ _ hh _
                exact hh.elim
              case body3 =>
                rintro l j ⟨x1, x2⟩ W hj ⟨hz, hib, hnt, hd1⟩ ⟨hFi, A, L, c, B, M, d, hx, hb1, hb2, hfr⟩
                injection hx with hx1 hx2
                subst hx1 hx2
                obtain ⟨m, hm⟩ : ∃ m, fnd s.1 fk + j = m := ⟨_, rfl⟩
                have Hm := hide hm
                simp only [hm] at hib hFi hb1 hb2
                obtain ⟨bS', e1, hcS⟩ := hz.rt.kat hFi
                obtain ⟨bV, e2, hcV⟩ := hz.rt.vat hFi
                have hmN : m < N := by have := HN.out; omega
                have hm4 : m ≤ 4000 := by have := HN.out; have := Hq.out; omega
                have cK : W.cell? ⟨R, 1, none⟩ = some (.slice (some ⟨bS', 0, none⟩) N sc) := by
                  have h1 : W.cell? ⟨R, 1, none⟩ = some (.slice SA s.1.length sc) := hz.rt.tab.cell 1
                  rw [h1, e1, HN.out]
                have cV : W.cell? ⟨R, 2, none⟩ = some (.slice (some ⟨bV, 0, none⟩) N vc) := by
                  have h1 : W.cell? ⟨R, 2, none⟩ = some (.slice VA s.1.length vc) := hz.rt.tab.cell 2
                  rw [h1, e2, HN.out]
                unfold strV at hcS hcV
                have hs1 : StrAt A L c s.1[m].k W.drew := strAt (hb1.drewN 1)
                have hs2 : StrAt B M d s.1[m].v W.drew := strAt (hb2.drewN 1)
                have hL : L ≤ 140737488351232 := hb1.reach
                generalize s.1[m].k = km at *
                generalize s.1[m].v = vm at *
                have hSS : W.drew.cell? ⟨IB, 0, none⟩ = some (.int .i64 (m : Int)) ∧ W.drew.cell? ⟨RB, 0, none⟩ = some (.pointer (some ⟨R, 0, none⟩)) ∧ W.drew.cell? ⟨R, 1, none⟩ = some (.slice (some ⟨bS', 0, none⟩) N sc) ∧ W.drew.cell? ⟨bS', m, none⟩ = some (.string ⟨km.toArray⟩) ∧ W.drew.cell? ⟨R, 2, none⟩ = some (.slice (some ⟨bV, 0, none⟩) N vc) ∧ W.drew.cell? ⟨bV, m, none⟩ = some (.string ⟨vm.toArray⟩) ∧ StrAt A L c km W.drew ∧ StrAt B M d vm W.drew := ⟨hib.cell, hz.rb.cell, cK, hcS, cV, hcV, hs1, hs2⟩
                have Hzm := hide (hz.below (below_drew W))
                have Him := hide (show Boxed W.drew IB 3 (.int .i64 (m : Int)) from hib)
                have Hnm := hide (show NotTw W.drew T IB from hnt)
                have Hdm := hide (show W.drew.heap[D1]? = some (.deferred (some [])) from hd1)
                have Hfm := hide (show Free S hd ms W.drew A L from hfr)
                have m0 : (0 : Int) ≤ (m : Int) := by omega
                have m1 : (m : Int) < (N : Int) := by omega
                have m2 : ¬ N ≤ m := by omega
                have Hmw := hide (show IntKind.i64.wrap ((m : Int) + 1) = (m : Int) + 1 by simp [IntKind.wrap, IntKind.bits, IntKind.signed]; omega)
                have HL := hide hL
                clear hz hib hnt hd1 hfr hb1 hb2 hcS hcV cK cV hs1 hs2 e1 e2 hm hFi hL
                gi_wp2
                refine region_round_to (S := fun W' => W'.cell? ⟨IB, 0, none⟩ = some (.int .i64 (m : Int)) ∧ W'.cell? ⟨RB, 0, none⟩ = some (.pointer (some ⟨R, 0, none⟩)) ∧ W'.cell? ⟨R, 1, none⟩ = some (.slice (some ⟨bS', 0, none⟩) N sc) ∧ W'.cell? ⟨bS', m, none⟩ = some (.string ⟨km.toArray⟩) ∧ W'.cell? ⟨R, 2, none⟩ = some (.slice (some ⟨bV, 0, none⟩) N vc) ∧ W'.cell? ⟨bV, m, none⟩ = some (.string ⟨vm.toArray⟩) ∧ StrAt A L c km W' ∧ StrAt B M d vm W') (by kernel_rfl) (by kernel_rfl) (hSS) (fun hHeld => ?_)
                refine wpAnyH_take (i := 0) (v := ?_) rfl (by kernel_rfl) (by kernel_rfl) (by kernel_rfl) (fun _ _ _ h => by cases h.1) (Or.inl ⟨by kernel_rfl, ?_⟩) (by assumption) ?_
                rotate_left
                · (intro w hSw; (try dsimp only at hSw); go_simp; try with_reducible rfl)
                (try simp only [Act.put, List.getElem_toArray, List.getElem_cons_succ, List.getElem_cons_zero, List.setIfInBounds_toArray, List.set_cons_zero, List.set_cons_succ])
                refine wpAnyH_take (i := 1) (v := ?_) rfl (by kernel_rfl) (by kernel_rfl) (by kernel_rfl) (fun _ _ _ h => by cases h.1) (Or.inl ⟨by kernel_rfl, ?_⟩) (by assumption) ?_
                rotate_left
                · (intro w hSw; (try dsimp only at hSw); go_simp; try with_reducible rfl)
                (try simp only [Act.put, List.getElem_toArray, List.getElem_cons_succ, List.getElem_cons_zero, List.setIfInBounds_toArray, List.set_cons_zero, List.set_cons_succ])
                refine wpAnyH_take (i := 2) (v := ?_) rfl (by kernel_rfl) (by kernel_rfl) (by kernel_rfl) (fun _ _ _ h => by cases h.1) (Or.inl ⟨by kernel_rfl, ?_⟩) (by assumption) ?_
                rotate_left
                · (intro w hSw; (try dsimp only at hSw); go_simp; try with_reducible rfl)
                (try simp only [Act.put, List.getElem_toArray, List.getElem_cons_succ, List.getElem_cons_zero, List.setIfInBounds_toArray, List.set_cons_zero, List.set_cons_succ])
                refine wpAnyH_take (i := 3) (v := ?_) rfl (by kernel_rfl) (by kernel_rfl) (by kernel_rfl) (fun _ _ _ h => by cases h.1) (Or.inl ⟨by kernel_rfl, ?_⟩) (by assumption) ?_
                rotate_left
                · (intro w hSw; (try dsimp only at hSw); go_simp; try with_reducible rfl)
                (try simp only [Act.put, List.getElem_toArray, List.getElem_cons_succ, List.getElem_cons_zero, List.setIfInBounds_toArray, List.set_cons_zero, List.set_cons_succ])
                refine wpAnyH_take (i := 4) (v := ?_) rfl (by kernel_rfl) (by kernel_rfl) (by kernel_rfl) (fun _ _ _ h => by cases h.1) (Or.inl ⟨by kernel_rfl, ?_⟩) (by assumption) ?_
                rotate_left
                · (intro w hSw; (try dsimp only at hSw); go_simp; try with_reducible rfl)
                (try simp only [Act.put, List.getElem_toArray, List.getElem_cons_succ, List.getElem_cons_zero, List.setIfInBounds_toArray, List.set_cons_zero, List.set_cons_succ])
                refine wpAnyH_take (i := 5) (v := ?_) rfl (by kernel_rfl) (by kernel_rfl) (by kernel_rfl) (fun _ _ _ h => by cases h.1) (Or.inl ⟨by kernel_rfl, ?_⟩) (by assumption) ?_
                rotate_left
                · (intro w hSw; (try dsimp only at hSw); go_simp; try with_reducible rfl)
                (try simp only [Act.put, List.getElem_toArray, List.getElem_cons_succ, List.getElem_cons_zero, List.setIfInBounds_toArray, List.set_cons_zero, List.set_cons_succ])
                refine wpAnyH_take (i := 6) (v := ?_) rfl (by kernel_rfl) (by kernel_rfl) (by kernel_rfl) (fun _ _ _ h => by cases h.1) (Or.inl ⟨by kernel_rfl, ?_⟩) (by assumption) ?_
                rotate_left
                · (intro w hSw; (try dsimp only at hSw); go_simp; try with_reducible rfl)
                (try simp only [Act.put, List.getElem_toArray, List.getElem_cons_succ, List.getElem_cons_zero, List.setIfInBounds_toArray, List.set_cons_zero, List.set_cons_succ])
                refine wpAnyH_take (i := 7) (v := ?_) rfl (by kernel_rfl) (by kernel_rfl) (by kernel_rfl) (fun _ _ _ h => by cases h.1) (Or.inl ⟨by kernel_rfl, ?_⟩) (by assumption) ?_
                rotate_left
                · (intro w hSw; (try dsimp only at hSw); go_simp; try with_reducible rfl)
                (try simp only [Act.put, List.getElem_toArray, List.getElem_cons_succ, List.getElem_cons_zero, List.setIfInBounds_toArray, List.set_cons_zero, List.set_cons_succ])
                refine wpAnyH_take (i := 8) (v := ?_) rfl (by kernel_rfl) (by kernel_rfl) (by kernel_rfl) (fun _ _ _ h => by cases h.1) (Or.inl ⟨by kernel_rfl, ?_⟩) (by assumption) ?_
                rotate_left
                · (intro w hSw; (try dsimp only at hSw); go_simp; try with_reducible rfl)
                (try simp only [Act.put, List.getElem_toArray, List.getElem_cons_succ, List.getElem_cons_zero, List.setIfInBounds_toArray, List.set_cons_zero, List.set_cons_succ])
                refine wpAnyH_take (i := 9) (v := ?_) rfl (by kernel_rfl) (by kernel_rfl) (by kernel_rfl) (fun _ _ _ h => by cases h.1) (Or.inl ⟨by kernel_rfl, ?_⟩) (by assumption) ?_
                rotate_left
                · (intro w hSw; (try dsimp only at hSw); go_simp; try with_reducible rfl)
                (try simp only [Act.put, List.getElem_toArray, List.getElem_cons_succ, List.getElem_cons_zero, List.setIfInBounds_toArray, List.set_cons_zero, List.set_cons_succ])
                refine wpAnyH_take (i := 10) (v := ?_) rfl (by kernel_rfl) (by kernel_rfl) (by kernel_rfl) (fun _ _ _ h => by cases h.1) (Or.inl ⟨by kernel_rfl, ?_⟩) (by assumption) ?_
                rotate_left
                · (intro w hSw; (try dsimp only at hSw); go_simp; try with_reducible rfl)
                (try simp only [Act.put, List.getElem_toArray, List.getElem_cons_succ, List.getElem_cons_zero, List.setIfInBounds_toArray, List.set_cons_zero, List.set_cons_succ])
                refine wpAnyH_take (i := 11) (v := ?_) rfl (by kernel_rfl) (by kernel_rfl) (by kernel_rfl) (fun _ _ _ h => by cases h.1) (Or.inl ⟨by kernel_rfl, ?_⟩) (by assumption) ?_
                rotate_left
                · (intro w hSw; (try dsimp only at hSw); go_simp; try with_reducible rfl)
                (try simp only [Act.put, List.getElem_toArray, List.getElem_cons_succ, List.getElem_cons_zero, List.setIfInBounds_toArray, List.set_cons_zero, List.set_cons_succ])
                refine wpAnyH_take (i := 12) (v := ?_) rfl (by kernel_rfl) (by kernel_rfl) (by kernel_rfl) (fun _ _ _ h => by cases h.1) (Or.inl ⟨by kernel_rfl, ?_⟩) (by assumption) ?_
                rotate_left
                · (intro w hSw; (try dsimp only at hSw); go_simp; try with_reducible rfl)
                (try simp only [Act.put, List.getElem_toArray, List.getElem_cons_succ, List.getElem_cons_zero, List.setIfInBounds_toArray, List.set_cons_zero, List.set_cons_succ])
                refine wpAnyH_take (i := 13) (v := ?_) rfl (by kernel_rfl) (by kernel_rfl) (by kernel_rfl) (fun _ _ _ h => by cases h.1) (Or.inl ⟨by kernel_rfl, ?_⟩) (by assumption) ?_
                rotate_left
                · (intro w hSw; (try dsimp only at hSw); go_simp; try with_reducible rfl)
                (try simp only [Act.put, List.getElem_toArray, List.getElem_cons_succ, List.getElem_cons_zero, List.setIfInBounds_toArray, List.set_cons_zero, List.set_cons_succ])
                refine wpAnyH_take (i := 14) (v := ?_) rfl (by kernel_rfl) (by kernel_rfl) (by kernel_rfl) (fun _ _ _ h => by cases h.1) (Or.inl ⟨by kernel_rfl, ?_⟩) (by assumption) ?_
                rotate_left
                · (intro w hSw; (try dsimp only at hSw); go_simp; try with_reducible rfl)
                (try simp only [Act.put, List.getElem_toArray, List.getElem_cons_succ, List.getElem_cons_zero, List.setIfInBounds_toArray, List.set_cons_zero, List.set_cons_succ])
                refine wpAnyH_take (i := 15) (v := ?_) rfl (by kernel_rfl) (by kernel_rfl) (by kernel_rfl) (fun _ _ _ h => by cases h.1) (Or.inl ⟨by kernel_rfl, ?_⟩) (by assumption) ?_
                rotate_left
                · (intro w hSw; (try dsimp only at hSw); go_simp; try with_reducible rfl)
                (try simp only [Act.put, List.getElem_toArray, List.getElem_cons_succ, List.getElem_cons_zero, List.setIfInBounds_toArray, List.set_cons_zero, List.set_cons_succ])
                refine wpAnyH_take (i := 16) (v := ?_) rfl (by kernel_rfl) (by kernel_rfl) (by kernel_rfl) (fun _ _ _ h => by cases h.1) (Or.inl ⟨by kernel_rfl, ?_⟩) (by assumption) ?_
                rotate_left
                · (intro w hSw; (try dsimp only at hSw); go_simp; try with_reducible rfl)
                (try simp only [Act.put, List.getElem_toArray, List.getElem_cons_succ, List.getElem_cons_zero, List.setIfInBounds_toArray, List.set_cons_zero, List.set_cons_succ])
                refine wpAnyH_take (i := 17) (v := ?_) rfl (by kernel_rfl) (by kernel_rfl) (by kernel_rfl) (fun _ _ _ h => by cases h.1) (Or.inl ⟨by kernel_rfl, ?_⟩) (by assumption) ?_
                rotate_left
                · (intro w hSw; (try dsimp only at hSw); go_simp; try with_reducible rfl)
                (try simp only [Act.put, List.getElem_toArray, List.getElem_cons_succ, List.getElem_cons_zero, List.setIfInBounds_toArray, List.set_cons_zero, List.set_cons_succ])
                refine wpAnyH_take (i := 18) (v := ?_) rfl (by kernel_rfl) (by kernel_rfl) (by kernel_rfl) (fun _ _ _ h => by cases h.1) (Or.inl ⟨by kernel_rfl, ?_⟩) (by assumption) ?_
                rotate_left
                · (intro w hSw; (try dsimp only at hSw); go_simp; try with_reducible rfl)
                (try simp only [Act.put, List.getElem_toArray, List.getElem_cons_succ, List.getElem_cons_zero, List.setIfInBounds_toArray, List.set_cons_zero, List.set_cons_succ])
                refine wpAnyH_take (i := 19) (v := ?_) rfl (by kernel_rfl) (by kernel_rfl) (by kernel_rfl) (fun _ _ _ h => by cases h.1) (Or.inl ⟨by kernel_rfl, ?_⟩) (by assumption) ?_
                rotate_left
                · (intro w hSw; (try dsimp only at hSw); go_simp; try with_reducible rfl)
                (try simp only [Act.put, List.getElem_toArray, List.getElem_cons_succ, List.getElem_cons_zero, List.setIfInBounds_toArray, List.set_cons_zero, List.set_cons_succ])
                refine wpAnyH_take (i := 20) (v := ?_) rfl (by kernel_rfl) (by kernel_rfl) (by kernel_rfl) (fun _ _ _ h => by cases h.1) (Or.inl ⟨by kernel_rfl, ?_⟩) (by assumption) ?_
                rotate_left
                · (intro w hSw; (try dsimp only at hSw); go_simp; try with_reducible rfl)
                (try simp only [Act.put, List.getElem_toArray, List.getElem_cons_succ, List.getElem_cons_zero, List.setIfInBounds_toArray, List.set_cons_zero, List.set_cons_succ])
                refine wpAnyH_take (i := 21) (v := ?_) rfl (by kernel_rfl) (by kernel_rfl) (by kernel_rfl) (fun _ _ _ h => by cases h.1) (Or.inl ⟨by kernel_rfl, ?_⟩) (by assumption) ?_
                rotate_left
                · (intro w hSw; (try dsimp only at hSw); go_simp; try with_reducible rfl)
                (try simp only [Act.put, List.getElem_toArray, List.getElem_cons_succ, List.getElem_cons_zero, List.setIfInBounds_toArray, List.set_cons_zero, List.set_cons_succ])
                refine wpAnyH_take (i := 22) (v := ?_) rfl (by kernel_rfl) (by kernel_rfl) (by kernel_rfl) (fun _ _ _ h => by cases h.1) (Or.inl ⟨by kernel_rfl, ?_⟩) (by assumption) ?_
                rotate_left
                · (intro w hSw; (try dsimp only at hSw); go_simp; try with_reducible rfl)
                (try simp only [Act.put, List.getElem_toArray, List.getElem_cons_succ, List.getElem_cons_zero, List.setIfInBounds_toArray, List.set_cons_zero, List.set_cons_succ])
                refine wpAnyH_take (i := 23) (v := ?_) rfl (by kernel_rfl) (by kernel_rfl) (by kernel_rfl) (fun _ _ _ h => by cases h.1) (Or.inl ⟨by kernel_rfl, ?_⟩) (by assumption) ?_
                rotate_left
                · (intro w hSw; (try dsimp only at hSw); go_simp; try with_reducible rfl)
                (try simp only [Act.put, List.getElem_toArray, List.getElem_cons_succ, List.getElem_cons_zero, List.setIfInBounds_toArray, List.set_cons_zero, List.set_cons_succ])
                refine wpAnyH_take (i := 24) (v := ?_) rfl (by kernel_rfl) (by kernel_rfl) (by kernel_rfl) (fun _ _ _ h => by cases h.1) (Or.inl ⟨by kernel_rfl, ?_⟩) (by assumption) ?_
                rotate_left
                · (intro w hSw; (try dsimp only at hSw); go_simp; try with_reducible rfl)
                (try simp only [Act.put, List.getElem_toArray, List.getElem_cons_succ, List.getElem_cons_zero, List.setIfInBounds_toArray, List.set_cons_zero, List.set_cons_succ])
                refine wpAnyH_take (i := 25) (v := ?_) rfl (by kernel_rfl) (by kernel_rfl) (by kernel_rfl) (fun _ _ _ h => by cases h.1) (Or.inl ⟨by kernel_rfl, ?_⟩) (by assumption) ?_
                rotate_left
                · (intro w hSw; (try dsimp only at hSw); go_simp; try with_reducible rfl)
                (try simp only [Act.put, List.getElem_toArray, List.getElem_cons_succ, List.getElem_cons_zero, List.setIfInBounds_toArray, List.set_cons_zero, List.set_cons_succ])
                refine wpAnyH_take (i := 26) (v := ?_) rfl (by kernel_rfl) (by kernel_rfl) (by kernel_rfl) (fun _ _ _ h => by cases h.1) (Or.inl ⟨by kernel_rfl, ?_⟩) (by assumption) ?_
                rotate_left
                · (intro w hSw; (try dsimp only at hSw); go_simp; try with_reducible rfl)
                (try simp only [Act.put, List.getElem_toArray, List.getElem_cons_succ, List.getElem_cons_zero, List.setIfInBounds_toArray, List.set_cons_zero, List.set_cons_succ])
                refine wpAnyH_take (i := 27) (v := ?_) rfl (by kernel_rfl) (by kernel_rfl) (by kernel_rfl) (fun _ _ _ h => by cases h.1) (Or.inl ⟨by kernel_rfl, ?_⟩) (by assumption) ?_
                rotate_left
                · (intro w hSw; (try dsimp only at hSw); go_simp; try with_reducible rfl)
                (try simp only [Act.put, List.getElem_toArray, List.getElem_cons_succ, List.getElem_cons_zero, List.setIfInBounds_toArray, List.set_cons_zero, List.set_cons_succ])
                refine wpAnyH_take (i := 28) (v := ?_) rfl (by kernel_rfl) (by kernel_rfl) (by kernel_rfl) (fun _ _ _ h => by cases h.1) (Or.inl ⟨by kernel_rfl, ?_⟩) (by assumption) ?_
                rotate_left
                · (intro w hSw; (try dsimp only at hSw); go_simp; try with_reducible rfl)
                (try simp only [Act.put, List.getElem_toArray, List.getElem_cons_succ, List.getElem_cons_zero, List.setIfInBounds_toArray, List.set_cons_zero, List.set_cons_succ])
                refine wpAnyH_take (i := 29) (v := ?_) rfl (by kernel_rfl) (by kernel_rfl) (by kernel_rfl) (fun _ _ _ h => by cases h.1) (Or.inl ⟨by kernel_rfl, ?_⟩) (by assumption) ?_
                rotate_left
                · (intro w hSw; (try dsimp only at hSw); go_simp; try with_reducible rfl)
                (try simp only [Act.put, List.getElem_toArray, List.getElem_cons_succ, List.getElem_cons_zero, List.setIfInBounds_toArray, List.set_cons_zero, List.set_cons_succ])
                refine wpAnyH_take (i := 30) (v := ?_) rfl (by kernel_rfl) (by kernel_rfl) (by kernel_rfl) (fun _ _ _ h => by cases h.1) (Or.inl ⟨by kernel_rfl, ?_⟩) (by assumption) ?_
                rotate_left
                · (intro w hSw; (try dsimp only at hSw); go_simp; try with_reducible rfl)
                (try simp only [Act.put, List.getElem_toArray, List.getElem_cons_succ, List.getElem_cons_zero, List.setIfInBounds_toArray, List.set_cons_zero, List.set_cons_succ])
                refine wpAnyH_done (by kernel_rfl) ?_ _
                refine ⟨rfl, ?_⟩
                clear hSS hHeld
                gi_wp2
                gi_loopw [104] (fun t104 wq => ∃ q : Nat, q ≤ L ∧ t104 = .int .i64 (q : Int) ∧ PZ w (.slice TA tn tc') tws s T R base hd ms (.slice SA s.1.length sc) (.slice VA s.1.length vc) tv 200120000 S RB (RB + 1) (RB + 1 + 1) (.slice FA fn fc) wq ∧ Boxed wq IB 3 (.int .i64 (m : Int)) ∧ NotTw wq T IB ∧ wq.heap[D1]? = some (.deferred (some [])) ∧ Free S hd ms wq A L ∧ KeepsOthers W wq ∧ KpE T base tws s.1 false hd ms W wq) (fun t104 _ => L - (intOf t104).toNat)
                case atStart => exact ⟨0, Nat.zero_le _, rfl, Hzm.out, Him.out, Hnm.out, Hdm.out, Hfm.out, KeepsOthers.drew W, fun c h => h.drewN 1⟩
                case round =>
                  obtain ⟨q, hq, rfl, hz, hib, hnt, hd1, hfr, hko, hkp⟩ := hrel
                  by_cases hql : q < L
                  · obtain ⟨g3, cs3, rfl, hb3, hn3, hf3, hl3⟩ := hfr (by omega)
                    have gi : wr.cell? ⟨g3, q, none⟩ = some (cs3[q]'(by omega)) := by rw [hb3.cell, Array.getElem?_eq_getElem (by omega)]
                    have gf := hb3.frozen q
                    have q0 : (0 : Int) ≤ (q : Int) := by omega
                    have q1 : (q : Int) < (L : Int) := by omega
                    have hqw : IntKind.i64.wrap ((q : Int) + 1) = (q : Int) + 1 := by
                      have := HL.out
                      simp [IntKind.wrap, IntKind.bits, IntKind.signed]
                      omega
                    have r1 := hide (hz.zed hb3 hf3 (by have := HS.out; omega) q (.int .u8 122))
                    have r2 := hide (show Boxed (wr.setCell ⟨g3, q, none⟩ (.int .u8 122)) IB 3 (.int .i64 (m : Int)) from PZ.box_far hib hb3 (by decide))
                    have r3 := hide (hnt.set (i := q) (hz.blk_ne hb3 (by decide)) (.int .u8 122))
                    have r4 := hide ((KeepsOthers.setCell wr ⟨g3, q, none⟩ (.int .u8 122)).same D1 _ hd1 rfl)
                    have r5 := hide (hfr.set hb3 q (.int .u8 122))
                    have r6 := hide (hko.trans (KeepsOthers.setCell wr ⟨g3, q, none⟩ (.int .u8 122)))
                    have r7 := hide (show KpE T base tws s.1 false hd ms W (wr.setCell ⟨g3, q, none⟩ (.int .u8 122)) from fun c h => (hkp c h).zed hb3 hf3 q _)
                    clear hz hib hnt hd1 hfr hko hkp hb3 hf3
                    gi_wp2
                    go_roundw
                    case rel => exact ⟨q + 1, by omega, by simp, r1.out, r2.out, r3.out, r4.out, r5.out, r6.out, r7.out⟩
                    case measure => simp [intOf]; omega
                  · obtain rfl : q = L := by omega
                    have cI := hib.cell
                    have cF := hib.frozen
                    have hmw := Hmw.out
                    have r1 := hide (hz.ibox hib hnt Htv.out HIB.out.2.2.1 (.int .i64 ((m : Int) + 1)))
                    have r2 := hide (show Boxed (wr.setCell ⟨IB, 0, none⟩ (.int .i64 ((m : Int) + 1))) IB 3 (.int .i64 ((m : Int) + 1)) from Blk.put hib 0 (.int .i64 ((m : Int) + 1)))
                    have r3 := hide (hnt.set (i := 0) (hz.box_ne hib (by decide)) (.int .i64 ((m : Int) + 1)))
                    have r4 := hide ((KeepsOthers.setCell wr ⟨IB, 0, none⟩ (.int .i64 ((m : Int) + 1))).same D1 _ hd1 rfl)
                    have r6 := hide (hko.trans (KeepsOthers.setCell wr ⟨IB, 0, none⟩ (.int .i64 ((m : Int) + 1))))
                    have r7 := hide (show KpE T base tws s.1 false hd ms W (wr.setCell ⟨IB, 0, none⟩ (.int .i64 ((m : Int) + 1))) from fun c h => (hkp c h).ibox hib hnt 0 _)
                    clear hz hib hnt hd1 hfr hko hkp
                    gi_wp2
                    refine ⟨r6.out.from _, r7.out, r1.out, ?_, r3.out, r4.out⟩
                    rw [show ((fnd s.1 fk + (j + 1) : Nat) : Int) = (m : Int) + 1 by have := Hm.out; omega]
                    exact r2.out
              case done3 =>
                rintro D2 W hD2 ⟨hz, hib, hnt, hd1⟩ hK2
                rw [show ((fnd s.1 fk + (s.1.length - fnd s.1 fk) : Nat) : Int) = (N : Int) by have := HN.out; have := Hle.out; omega] at hib
                obtain ⟨c, hc, htm⟩ := hz.tm
                have cK : W.cell? ⟨R, 1, none⟩ = some (.slice SA N sc) := by
                  have h1 : W.cell? ⟨R, 1, none⟩ = some (.slice SA s.1.length sc) := hz.rt.tab.cell 1
                  rw [h1, HN.out]
                have HC := hide (fun (V : World) (hb : Below W.heap.size W V) => (⟨(Blk.below hib hb hib.lt).cell 0, (Blk.below hz.rb hb hz.rb.lt).cell 0, (hb.cell (p := ⟨R, 1, none⟩) hz.rt.tab.lt).trans cK⟩ : V.cell? ⟨IB, 0, none⟩ = some (.int .i64 (N : Int)) ∧ V.cell? ⟨RB, 0, none⟩ = some (.pointer (some ⟨R, 0, none⟩)) ∧ V.cell? ⟨R, 1, none⟩ = some (.slice SA N sc)))
                have n1 : S ≠ IB := fun e => by
                  have h1 := hz.q0
                  rw [e] at h1
                  have := kind_ne h1 hib
                  cases this
                have n2 : S ≠ RB := fun e => by
                  have h1 := hz.q0
                  rw [e] at h1
                  have := kind_ne h1 hz.rb
                  cases this
                have n3 : S ≠ R := fun e => by
                  have h1 := hz.q0
                  rw [e] at h1
                  have := kind_ne h1 hz.rt.tab
                  cases this
                have HQI := hide (And.intro n1 (And.intro n2 n3))
                clear n1 n2 n3
                have Hz := hide hz
                have Htm := hide htm
                have Hd1 := hide hd1
                have HK2 := hide hK2
                have Hsh := hide htm.sl.short
                clear hz hib hnt hd1 hK2 htm cK hc
                gi_wp2
                refine region_wide_to (S := fun W' => W'.cell? ⟨IB, 0, none⟩ = some (.int .i64 (N : Int)) ∧ W'.cell? ⟨RB, 0, none⟩ = some (.pointer (some ⟨R, 0, none⟩)) ∧ W'.cell? ⟨R, 1, none⟩ = some (.slice SA N sc)) (by kernel_rfl) (by kernel_rfl) (HC.out _ (below_drew W)) (fun hHeld => ?_)
                refine wpAnyH_take (i := 0) (v := ?_) rfl (by kernel_rfl) (by kernel_rfl) (by kernel_rfl) (fun _ _ _ h => by cases h.1) (Or.inl ⟨by kernel_rfl, ?_⟩) (by assumption) ?_
                rotate_left
                · (intro w hSw; (try dsimp only at hSw); go_simp; try with_reducible rfl)
                (try simp only [Act.put, List.getElem_toArray, List.getElem_cons_succ, List.getElem_cons_zero, List.setIfInBounds_toArray, List.set_cons_zero, List.set_cons_succ])
                refine wpAnyH_take (i := 1) (v := ?_) rfl (by kernel_rfl) (by kernel_rfl) (by kernel_rfl) (fun _ _ _ h => by cases h.1) (Or.inl ⟨by kernel_rfl, ?_⟩) (by assumption) ?_
                rotate_left
                · (intro w hSw; (try dsimp only at hSw); go_simp; try with_reducible rfl)
                (try simp only [Act.put, List.getElem_toArray, List.getElem_cons_succ, List.getElem_cons_zero, List.setIfInBounds_toArray, List.set_cons_zero, List.set_cons_succ])
                refine wpAnyH_take (i := 2) (v := ?_) rfl (by kernel_rfl) (by kernel_rfl) (by kernel_rfl) (fun _ _ _ h => by cases h.1) (Or.inl ⟨by kernel_rfl, ?_⟩) (by assumption) ?_
                rotate_left
                · (intro w hSw; (try dsimp only at hSw); go_simp; try with_reducible rfl)
                (try simp only [Act.put, List.getElem_toArray, List.getElem_cons_succ, List.getElem_cons_zero, List.setIfInBounds_toArray, List.set_cons_zero, List.set_cons_succ])
                refine wpAnyH_take (i := 3) (v := ?_) rfl (by kernel_rfl) (by kernel_rfl) (by kernel_rfl) (fun _ _ _ h => by cases h.1) (Or.inl ⟨by kernel_rfl, ?_⟩) (by assumption) ?_
                rotate_left
                · (intro w hSw; (try dsimp only at hSw); go_simp; try with_reducible rfl)
                (try simp only [Act.put, List.getElem_toArray, List.getElem_cons_succ, List.getElem_cons_zero, List.setIfInBounds_toArray, List.set_cons_zero, List.set_cons_succ])
                refine wpAnyH_take (i := 4) (v := ?_) rfl (by kernel_rfl) (by kernel_rfl) (by kernel_rfl) (fun _ _ _ h => by cases h.1) (Or.inl ⟨by kernel_rfl, ?_⟩) (by assumption) ?_
                rotate_left
                · (intro w hSw; (try dsimp only at hSw); go_simp; try with_reducible rfl)
                (try simp only [Act.put, List.getElem_toArray, List.getElem_cons_succ, List.getElem_cons_zero, List.setIfInBounds_toArray, List.set_cons_zero, List.set_cons_succ])
                refine wpAnyH_take (i := 5) (v := ?_) rfl (by kernel_rfl) (by kernel_rfl) (by kernel_rfl) (fun _ _ _ h => by cases h.1) (Or.inl ⟨by kernel_rfl, ?_⟩) (by assumption) ?_
                rotate_left
                · (intro w hSw; (try dsimp only at hSw); go_simp; try with_reducible rfl)
                (try simp only [Act.put, List.getElem_toArray, List.getElem_cons_succ, List.getElem_cons_zero, List.setIfInBounds_toArray, List.set_cons_zero, List.set_cons_succ])
                refine wpAnyH_take (i := 6) (v := ?_) rfl (by kernel_rfl) (by kernel_rfl) (by kernel_rfl) (fun _ _ _ h => by cases h.1) (Or.inl ⟨by kernel_rfl, ?_⟩) (by assumption) ?_
                rotate_left
                · (intro w hSw; (try dsimp only at hSw); go_simp; try with_reducible rfl)
                (try simp only [Act.put, List.getElem_toArray, List.getElem_cons_succ, List.getElem_cons_zero, List.setIfInBounds_toArray, List.set_cons_zero, List.set_cons_succ])
                refine wpAnyH_take (i := 7) (v := ?_) rfl (by kernel_rfl) (by kernel_rfl) (by kernel_rfl) (fun _ _ _ h => by cases h.1) (Or.inl ⟨by kernel_rfl, ?_⟩) (by assumption) ?_
                rotate_left
                · (intro w hSw; (try dsimp only at hSw); go_simp; try with_reducible rfl)
                (try simp only [Act.put, List.getElem_toArray, List.getElem_cons_succ, List.getElem_cons_zero, List.setIfInBounds_toArray, List.set_cons_zero, List.set_cons_succ])
                refine wpAnyH_take (i := 8) (v := ?_) rfl (by kernel_rfl) (by kernel_rfl) (by kernel_rfl) (fun _ _ _ h => by cases h.1) (Or.inl ⟨by kernel_rfl, ?_⟩) (by assumption) ?_
                rotate_left
                · (intro w hSw; (try dsimp only at hSw); go_simp; try with_reducible rfl)
                (try simp only [Act.put, List.getElem_toArray, List.getElem_cons_succ, List.getElem_cons_zero, List.setIfInBounds_toArray, List.set_cons_zero, List.set_cons_succ])
                refine wpAnyH_take (i := 10) (v := ?_) rfl (by kernel_rfl) (by kernel_rfl) (by kernel_rfl) (fun _ _ _ h => by cases h.1) (Or.inl ⟨by kernel_rfl, ?_⟩) (by assumption) ?_
                rotate_left
                · (intro w hSw; (try dsimp only at hSw); go_simp; try with_reducible rfl)
                (try simp only [Act.put, List.getElem_toArray, List.getElem_cons_succ, List.getElem_cons_zero, List.setIfInBounds_toArray, List.set_cons_zero, List.set_cons_succ])
                refine wpAnyH_ready (rs := [9]) (by kernel_rfl) (by simp) (AllReadyH.cons rfl (fun K hK => ?_) AllReadyH.nil)
                go_simp
                refine Calls.mono (pairs_walk T base tws s.1 c false hd ms W.drew (Htm.out.drewN 1) (by have := Hq.out; omega)) ?_
                rintro e w10 ⟨⟨v10, rfl, hm10⟩, hB10⟩
                have Hm10 := hide (MineP.read hm10 (kv_short Hsh.out))
                have HB10 := hide ((below_drew W).trans hB10)
                clear hm10 hB10
                refine hK.out _ _ (HC.out _ HB10.out) (fun hHeld => ?_)
                clear hK K
                (try simp only [Act.put, List.getElem_toArray, List.getElem_cons_succ, List.getElem_cons_zero, List.setIfInBounds_toArray, List.set_cons_zero, List.set_cons_succ])
                refine wpAnyH_ready (rs := [11]) (by kernel_rfl) (by simp) (AllReadyH.cons rfl (fun K hK => ?_) AllReadyH.nil)
                go_simp
                refine Calls.mono (rpairs_any R base _ _ _ tv s.1 s.2 w10 (Hz.out.rt.below HB10.out (Nat.le_refl _)) (by have := Hq.out; omega)) ?_
                rintro e w11 ⟨⟨v11, rfl, hm11⟩, hB11⟩
                have Hm11 := hide (MineQ.read hm11 (kv_short Hsh.out))
                have Hm1011 := hide (Hm10.out.below hB11)
                have HB11 := hide (HB10.out.trans (hB11.mono HB10.out.size))
                clear hm11 hB11
                refine hK.out _ _ (HC.out _ HB11.out) (fun hHeld => ?_)
                clear hK K
                (try simp only [Act.put, List.getElem_toArray, List.getElem_cons_succ, List.getElem_cons_zero, List.setIfInBounds_toArray, List.set_cons_zero, List.set_cons_succ])
                refine wpAnyH_ready (rs := [12]) (by kernel_rfl) (by simp) (AllReadyH.cons rfl (fun K hK => ?_) AllReadyH.nil)
                go_simp
                refine Calls.mono (same_any _ _ v10 v11 w11 Hm1011.out Hm11.out (by have := Hq.out; rw [List.length_map]; omega)) ?_
                rintro e w12 ⟨rfl, mm, hw12⟩
                have HB12 := hide (show Below W.heap.size W w12 by rw [hw12]; exact Below.drewN' HB11.out mm)
                have Hq12 := hide (show Boxed w12 S 4 (.bool false) from Blk.below Hz.out.q0 HB12.out Hz.out.q0.lt)
                have c12 := Hq12.out.cell
                have f12' := Hq12.out.frozen
                clear hw12
                rw [decide_eq_true rfl]
                refine hK.out _ _ (HC.out _ HB12.out) (fun hHeld => ?_)
                clear hK K
                (try simp only [Act.put, List.getElem_toArray, List.getElem_cons_succ, List.getElem_cons_zero, List.setIfInBounds_toArray, List.set_cons_zero, List.set_cons_succ])
                refine wpAnyH_take (i := 13) (v := ?_) rfl (by kernel_rfl) (by kernel_rfl) (by kernel_rfl) (fun _ _ _ h => by cases h.1) (Or.inl ⟨by kernel_rfl, ?_⟩) (by assumption) ?_
                rotate_left
                · (intro w hSw; (try dsimp only at hSw); go_simp; try with_reducible rfl)
                (try simp only [Act.put, List.getElem_toArray, List.getElem_cons_succ, List.getElem_cons_zero, List.setIfInBounds_toArray, List.set_cons_zero, List.set_cons_succ])
                refine wpAnyH_ready (rs := [14]) (by kernel_rfl) (by simp) (AllReadyH.cons rfl (fun K hK => ?_) AllReadyH.nil)
                go_simp
                refine hK.out _ _ (⟨(World.cell?_setCell_other _ _ _ _ (fun e => by injection e with e; first | exact HQI.out.1 e | exact HQI.out.1 e.symm)).trans (HC.out _ HB12.out).1, (World.cell?_setCell_other _ _ _ _ (fun e => by injection e with e; first | exact HQI.out.2.1 e | exact HQI.out.2.1 e.symm)).trans (HC.out _ HB12.out).2.1, (World.cell?_setCell_other _ _ _ _ (fun e => by injection e with e; first | exact HQI.out.2.2 e | exact HQI.out.2.2 e.symm)).trans (HC.out _ HB12.out).2.2⟩) (fun hHeld => ?_)
                clear hK K
                (try simp only [Act.put, List.getElem_toArray, List.getElem_cons_succ, List.getElem_cons_zero, List.setIfInBounds_toArray, List.set_cons_zero, List.set_cons_succ])
                refine wpAnyH_done (by kernel_rfl) ?_ _
                refine ⟨rfl, ?_⟩
                gi_wp2
                have hk2 := (KeepsOthers.setCell w12 ⟨S, 0, none⟩ (.bool true)).same D2 _ ((HB12.out.block D2 (Array.getElem?_eq_some_iff.1 HK2.out).1).trans HK2.out) rfl
                have hk1 := (KeepsOthers.setCell w12 ⟨S, 0, none⟩ (.bool true)).same D1 _ ((HB12.out.block D1 (Array.getElem?_eq_some_iff.1 Hd1.out).1).trans Hd1.out) rfl
                have zt : Boxed (w12.setCell ⟨S, 0, none⟩ (.bool true)) S 4 (.bool true) := Blk.put Hq12.out 0 (.bool true)
                have hbf : Below w.heap.size w (w12.setCell ⟨S, 0, none⟩ (.bool true)) := (Hz.out.bel.trans (HB12.out.mono Hz.out.bel.size)).setCell (p := ⟨S, 0, none⟩) (by rw [HS.out]; exact Nat.le_refl _) _
                generalize w12.setCell ⟨S, 0, none⟩ (.bool true) = Wf at *
                have hD12 : D1 ≠ D2 := by have := (Array.getElem?_eq_some_iff.1 Hdd.out).1; omega
                have hD1w : w.heap.size ≤ D1 := by have := HIB.out; have := Hw5.out; omega
                have hD2w : w.heap.size ≤ D2 := by have := Hzd.out.bel.size; omega
                refine ⟨by simp, .inl ⟨_, _, rfl, run_takeDeferred hk2, ?_⟩⟩
                have hk1y : (Wf.putObj D2 (.deferred none)).heap[D1]? = some (.deferred (some [])) := (World.putObj_heap_other hD12).trans hk1
                refine ⟨by simp, .inl ⟨_, _, rfl, run_takeDeferred hk1y, ?_⟩⟩
                have zt2 := blk_putObj (blk_putObj zt hk2 rfl (.deferred none)) hk1y rfl (.deferred none)
                have hc5 := Boxed.cell zt2
                refine ⟨.bool true, ?_, rfl, ?_⟩
                · simp [results, Try.f6, go_sem, hc5]
                · exact below_putObj (below_putObj hbf hD2w _) hD1w _
  · rw [decide_eq_false hf]
    gi_wp2
    refine ⟨.bool true, ?_, rfl, ?_⟩
    · simp [results, Try.f6, go_sem, hr2]
    · exact hrB

end Go.Proofs.Ytkbjbjkgohkkjaa

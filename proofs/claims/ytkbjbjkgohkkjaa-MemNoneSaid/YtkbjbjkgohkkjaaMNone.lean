/-
  The walk of the law MemNone: it answers true. Condition: the argument is two slices.
-/
import Derived.Test.YtkbjbjkgohkkjaaNone
namespace Go.Proofs.Ytkbjbjkgohkkjaa
open Go.RowKit Go.Shelf

attribute [local go_sem] Oper.semAt_some

theorem Boxed.set {w : World} {g : Nat} {t : TypeId} {v : Value} (h : Boxed w g t v) (u : Value) : Boxed (w.setCell ⟨g, 0, none⟩ u) g t u := Blk.put h 0 u

theorem run_neq_func (f : Fn) (a c : Array Value) (w : World) : (binOp .neq 60 (.func f a c) .nilFunc).run Try.prog w = .ok (.bool true) w := by
  have h : ∀ d : Nat, (Op.equalIn (d + 1) 60 (.func f a c) .nilFunc).run Try.prog w = .ok false w := fun d => by
    simp [Op.equalIn, run_underlying Try.underlying60]
  simp only [binOp]
  simp [Op.equal, Op.maxDepth, h 9999]

set_option maxRecDepth 100000 in
set_option maxHeartbeats 8000000 in
theorem mnone_any (A : Option Addr) (n c : Nat) (A2 : Option Addr) (n2 c2 : Nat) (w : World) :
    Calls Try.prog 3 #[.agg #[.slice A n c, .slice A2 n2 c2]] w fun e w' => e = .returned (.bool true) ∧ Below w.heap.size w w' := by
  refine (callsIn_wide (n := 9)).1 ?_
  refine callsIn_of_wp_marks Try.func3 rfl trivial ?_ rfl
  simp only [Try.ntmps3, List.size_toArray, List.length_cons, List.length_nil, Nat.reduceAdd, Nat.reduceSub, Array.replicate_succ, Array.replicate_zero, List.push_toArray, List.append_toArray, List.nil_append, List.cons_append]
  have f8 : Fence.wide.fn 8 := trivial
  have f9 : Fence.wide.fn 9 := trivial
  have f10 : Fence.wide.fn 10 := trivial
  have f11 : Fence.wide.fn 11 := trivial
  have f12 : Fence.wide.fn 12 := trivial
  have f13 : Fence.wide.fn 13 := trivial
  have f14 : Fence.wide.fn 14 := trivial
  have f15 : Fence.wide.fn 15 := trivial
  have f16 : Fence.wide.fn 16 := trivial
  have f17 : Fence.wide.fn 17 := trivial
  have f18 : Fence.wide.fn 18 := trivial
  have f19 : Fence.wide.fn 19 := trivial
  have hef := run_neq_func
  have hbP := Blk.alloc (Blk.new w 24 #[.slice A n c, .slice A2 n2 c2]) (.cells #[.bool false] 4)
  have hbR := Blk.new (w.alloc (.cells #[.slice A n c, .slice A2 n2 c2] 24)) 4 #[.bool false]
  have hB0 := ((Below.refl _ w).alloc (Nat.le_refl _) (.cells #[.slice A n c, .slice A2 n2 c2] 24)).alloc (by simp) (.cells #[.bool false] 4)
  have hs0 : ((w.alloc (.cells #[.slice A n c, .slice A2 n2 c2] 24)).alloc (.cells #[.bool false] 4)).heap.size = w.heap.size + 1 + 1 := by simp
  rw [show (w.alloc (.cells #[.slice A n c, .slice A2 n2 c2] 24)).heap.size = w.heap.size + 1 by simp] at hbR
  gi_wp2_with fail
  generalize (w.alloc (.cells #[.slice A n c, .slice A2 n2 c2] 24)).alloc (.cells #[.bool false] 4) = w0 at *
  obtain ⟨S, hS⟩ : ∃ S, w.heap.size = S := ⟨_, rfl⟩
  rw [hS] at hbP hbR hB0 hs0 ⊢
  refine (callsIn_wide.2 (awake_any w0)).mono ?_
  rintro e w1 ⟨rfl, hB1⟩
  have hP1 : Blk w1 S 24 #[.slice A n c, .slice A2 n2 c2] := hbP.below hB1 (by omega)
  have hR1 : Boxed w1 (S + 1) 4 (.bool false) := Blk.below hbR hB1 (by omega)
  have hb1 := hB0.trans (hB1.mono (by omega))
  have hs1 := hB1.size
  clear hbP hbR hB0 hB1
  gi_wp2
  obtain ⟨Z, hZ⟩ : ∃ Z : Array Value, #[.int .i64 0, .slice none 0 0, .pointer none, .int .i64 0, .int .i64 0, .int .i64 0, .int .i64 0, .int .u32 0, .int .i32 0, .int .u32 0, .int .u32 0] = Z := ⟨_, rfl⟩
  rw [hZ]
  have hT := Blk.alloc (Blk.new w1 47 Z) (.cells #[.pointer none, .pointer (some ⟨w1.heap.size, 0, none⟩)] 26)
  have hL := Blk.new (w1.alloc (.cells Z 47)) 26 #[.pointer none, .pointer (some ⟨w1.heap.size, 0, none⟩)]
  rw [show (w1.alloc (.cells Z 47)).heap.size = w1.heap.size + 1 by simp] at hL
  have hP2 := Blk.alloc (Blk.alloc hP1 (.cells Z 47)) (.cells #[.pointer none, .pointer (some ⟨w1.heap.size, 0, none⟩)] 26)
  have hR2 := Blk.alloc (Blk.alloc hR1 (.cells Z 47)) (.cells #[.pointer none, .pointer (some ⟨w1.heap.size, 0, none⟩)] 26)
  have hb2 := (hb1.alloc (by omega) (.cells Z 47)).alloc (by simp; omega) (.cells #[.pointer none, .pointer (some ⟨w1.heap.size, 0, none⟩)] 26)
  have hs2 : ((w1.alloc (.cells Z 47)).alloc (.cells #[.pointer none, .pointer (some ⟨w1.heap.size, 0, none⟩)] 26)).heap.size = w1.heap.size + 1 + 1 := by simp
  generalize (w1.alloc (.cells Z 47)).alloc (.cells #[.pointer none, .pointer (some ⟨w1.heap.size, 0, none⟩)] 26) = w2 at *
  obtain ⟨G, hG⟩ : ∃ G, w1.heap.size = G := ⟨_, rfl⟩
  rw [hG] at hT hL hs1 hs2 ⊢
  have cT := hT.cell 0
  rw [← hZ] at cT
  have hno : NoTb w2 (.pointer (some ⟨G, 0, none⟩)) := .inr ⟨G, rfl, cT⟩
  have hM := Nat.le_of_eq hs2.symm
  have hMw : w2.heap.size ≤ w2.heap.size := Nat.le_refl _
  have hB2 := Below.refl w2.heap.size w2
  clear hP1 hR1 hb1 hG hZ cT
  have cP0 := hP2.cell 0
  have cP1 := hP2.cell 1
  have cL0 := hL.cell 0
  have cL1 := hL.cell 1
  refine wpIn_loop_rounds 3 ?_
  have hno0 : ∀ W : World, NoTb W (.pointer none) := fun W => .inl rfl
  obtain ⟨M, hMd⟩ : ∃ M, w2.heap.size = M := ⟨_, rfl⟩
  rw [hMd] at hB2 hs2
  have HP2 := hide hP2
  have HR2 := hide hR2
  have HL2 := hide hL
  have Hb2 := hide hb2
  have Hno0 := hide hno0
  have HnoT := hide hno
  clear hP2 hR2 hL hT hb2 hno0 hno cP0 cP1 cL0 cL1 hM hMw
  have kP0 := hide (fun (W : World) (h : Below M w2 W) => (HP2.out.below h (by omega)).cell 0)
  have kP1 := hide (fun (W : World) (h : Below M w2 W) => (HP2.out.below h (by omega)).cell 1)
  have cL0 := HL2.out.cell 0
  have cPa := kP0.out _ hB2
  rw [roundsIn_succ]
  gi_wp2_with fail
  refine (callsIn_wide.2 (get_none (.pointer none) A n c w2 (Hno0.out _))).mono ?_
  rintro e w' ⟨rfl, rfl⟩
  gi_wp2_with fail
  refine (callsIn_wide.2 (first_none (.pointer none) A n c w2 (Hno0.out _))).mono ?_
  rintro e Wb ⟨rfl, hBb⟩
  have hWb := hB2.trans (hBb.mono (by omega))
  have hszb := hBb.size
  have hWc := hWb.alloc (by omega) (.cells #[.slice none 0 0, .slice none 0 0] 24)
  have cP0 := kP0.out _ hWb
  have cP1 := kP1.out _ hWb
  have cP0' := kP0.out _ hWc
  have cP1' := kP1.out _ hWc
  clear hBb cPa
  gi_wp2_with fail
  have hszc : M ≤ (Wb.alloc (.cells #[.slice none 0 0, .slice none 0 0] 24)).heap.size := by simp; omega
  generalize Wb.alloc (.cells #[.slice none 0 0, .slice none 0 0] 24) = Wc at *
  refine (callsIn_wide.2 (put_none (.pointer none) A A2 n c n2 c2 Wc (Hno0.out _))).mono ?_
  rintro e w' ⟨rfl, rfl⟩
  gi_wp2_with fail
  refine (callsIn_wide.2 (pairs_none (.pointer none) Wc (Hno0.out _))).mono ?_
  rintro e Wd ⟨rfl, hBd⟩
  have hWd := hWc.trans (hBd.mono hszc)
  have hszd := hBd.size
  gi_wp2_with fail
  refine (callsIn_wide.2 (len_none (.pointer none) Wd (Hno0.out _))).mono ?_
  rintro e w' ⟨rfl, rfl⟩
  gi_wp2_with fail
  refine (callsIn_wide.2 (size_none (.pointer none) Wd (Hno0.out _))).mono ?_
  rintro e w' ⟨rfl, rfl⟩
  gi_wp2_with fail
  refine (callsIn_wide.2 (towers_none (.pointer none) Wd (Hno0.out _))).mono ?_
  rintro e We ⟨rfl, hBe⟩
  have hWe := hWd.trans (hBe.mono (by omega))
  have hsze := hBe.size
  gi_wp2_with fail
  refine (callsIn_wide.2 (steps_none (.pointer none) We (Hno0.out _))).mono ?_
  rintro e w' ⟨rfl, rfl⟩
  gi_wp2_with fail
  refine (callsIn_wide.2 (seal_none (.pointer none) We (Hno0.out _))).mono ?_
  rintro e Wf ⟨rfl, hBf⟩
  have hWf := hWe.trans (hBf.mono (by omega))
  have hszf := hBf.size
  gi_wp2_with fail
  refine (callsIn_wide.2 (sealed_none (.pointer none) Wf (Hno0.out _))).mono ?_
  rintro e w' ⟨rfl, rfl⟩
  have cPf := kP0.out _ hWf
  clear cP0 cP1 cP0' cP1' hWb hWc hWd hWe hBd hBe hBf
  gi_wp2_with fail
  refine (callsIn_wide.2 (each_val (.pointer none) A n c Wf ⟨_, rfl⟩)).mono ?_
  rintro e w' ⟨rfl, rfl⟩
  gi_wp2
  have hWg := (hWf.alloc (by omega) (.cells #[(.pointer none)] 26)).alloc (by simp; omega) (.cells #[.slice A n c] 22)
  have hX := Blk.alloc (Blk.new Wf 26 #[(.pointer none)]) (.cells #[.slice A n c] 22)
  have hszg : ((Wf.alloc (.cells #[(.pointer none)] 26)).alloc (.cells #[.slice A n c] 22)).heap.size = Wf.heap.size + 1 + 1 := by simp
  generalize (Wf.alloc (.cells #[(.pointer none)] 26)).alloc (.cells #[.slice A n c] 22) = Wg at *
  have hFf : M ≤ Wf.heap.size := by omega
  clear hWf cPf
  refine wpIn_rangeFunc_W (α := Unit) (n := 9) (by omega) (gf := 42) (lb := #[.pointer (some ⟨Wf.heap.size, 0, none⟩), .pointer (some ⟨Wf.heap.size + 1, 0, none⟩)]) rfl (enters_of Try.func42 (by kernel_rfl) rfl)
    0 (fun U V => U = V) (fun _ _ => True) (fun _ _ => #[undef, undef]) (fun _ _ _ => True) (by intro _ _; rfl)
    (fun l J Jx W hWl hJ _ hY h0 => (each42_none 8 l (by omega) Wf.heap.size (Wf.heap.size + 1) (.pointer none) W (Hno0.out _) (Blk.below hX hWl (by omega)) (J 0) h0).mono (fun e W' hh => ⟨hh.1, .inl hh.2⟩))
    (fun _ _ => trivial) (fun _ _ _ _ _ _ _ => trivial)
    (fun U V hg k o hk ho _ => by subst hg; exact ho)
    (fun _ W => Below M w2 W) (fun _ _ _ => False)
    (fun i U V hU hg => by subst hg; exact hU) (fun _ _ _ _ h _ => h)
    (fun i W l o o' hB2 hl ho hc => below_putObj hB2 (by omega) o')
    (fun _ _ _ _ _ _ h _ _ _ => h)
    (fun _ _ _ _ _ _ h _ _ _ => h)
    (fun o o' => (hWg.alloc (by omega) o).alloc (by simp; omega) o') ?a1 ?assign ?body ?done ?stop
  case assign =>
    intro l i x W K hK
    gi_wp2
    exact hK
  case body =>
    rintro l i ⟨⟩ W hi
    omega
  case stop =>
    rintro D c i W _ _ hh _
    exact hh.elim
  rintro D1 V1 hD1 hV1 hK1
  clear hWg hX
  gi_wp2
  clear kP0 kP1
  obtain ⟨M1, hM1⟩ : ∃ M1, V1.heap.size = M1 := ⟨_, rfl⟩
  have hM01 : M ≤ M1 := by rw [← hM1, ← hMd]; exact hV1.size
  have hB21 := Below.refl M1 V1
  have kP0 := hide (fun (W : World) (h : Below M1 V1 W) => (HP2.out.below (hV1.trans (h.mono hM01)) (by omega)).cell 0)
  have kP1 := hide (fun (W : World) (h : Below M1 V1 W) => (HP2.out.below (hV1.trans (h.mono hM01)) (by omega)).cell 1)
  have kno := hide (fun (W : World) (h : Below M1 V1 W) => HnoT.out.below (hV1.trans (h.mono hM01)) (by omega))
  have cL1 := (HL2.out.below hV1 (by omega)).cell 1
  have cPa := kP0.out _ hB21
  rw [roundsIn_succ]
  gi_wp2_with fail
  refine (callsIn_wide.2 (get_none (.pointer (some ⟨G, 0, none⟩)) A n c V1 (kno.out V1 hB21))).mono ?_
  rintro e w' ⟨rfl, rfl⟩
  gi_wp2_with fail
  refine (callsIn_wide.2 (first_none (.pointer (some ⟨G, 0, none⟩)) A n c V1 (kno.out V1 hB21))).mono ?_
  rintro e Wb ⟨rfl, hBb⟩
  have hWb := hB21.trans (hBb.mono (by omega))
  have hszb := hBb.size
  have hWc := hWb.alloc (by omega) (.cells #[.slice none 0 0, .slice none 0 0] 24)
  have cP0 := kP0.out _ hWb
  have cP1 := kP1.out _ hWb
  have cP0' := kP0.out _ hWc
  have cP1' := kP1.out _ hWc
  clear hBb cPa
  gi_wp2_with fail
  have hszc : M1 ≤ (Wb.alloc (.cells #[.slice none 0 0, .slice none 0 0] 24)).heap.size := by simp; omega
  generalize Wb.alloc (.cells #[.slice none 0 0, .slice none 0 0] 24) = Wc at *
  refine (callsIn_wide.2 (put_none (.pointer (some ⟨G, 0, none⟩)) A A2 n c n2 c2 Wc (kno.out Wc hWc))).mono ?_
  rintro e w' ⟨rfl, rfl⟩
  gi_wp2_with fail
  refine (callsIn_wide.2 (pairs_none (.pointer (some ⟨G, 0, none⟩)) Wc (kno.out Wc hWc))).mono ?_
  rintro e Wd ⟨rfl, hBd⟩
  have hWd := hWc.trans (hBd.mono hszc)
  have hszd := hBd.size
  gi_wp2_with fail
  refine (callsIn_wide.2 (len_none (.pointer (some ⟨G, 0, none⟩)) Wd (kno.out Wd hWd))).mono ?_
  rintro e w' ⟨rfl, rfl⟩
  gi_wp2_with fail
  refine (callsIn_wide.2 (size_none (.pointer (some ⟨G, 0, none⟩)) Wd (kno.out Wd hWd))).mono ?_
  rintro e w' ⟨rfl, rfl⟩
  gi_wp2_with fail
  refine (callsIn_wide.2 (towers_none (.pointer (some ⟨G, 0, none⟩)) Wd (kno.out Wd hWd))).mono ?_
  rintro e We ⟨rfl, hBe⟩
  have hWe := hWd.trans (hBe.mono (by omega))
  have hsze := hBe.size
  gi_wp2_with fail
  refine (callsIn_wide.2 (steps_none (.pointer (some ⟨G, 0, none⟩)) We (kno.out We hWe))).mono ?_
  rintro e w' ⟨rfl, rfl⟩
  gi_wp2_with fail
  refine (callsIn_wide.2 (seal_none (.pointer (some ⟨G, 0, none⟩)) We (kno.out We hWe))).mono ?_
  rintro e Wf ⟨rfl, hBf⟩
  have hWf := hWe.trans (hBf.mono (by omega))
  have hszf := hBf.size
  gi_wp2_with fail
  refine (callsIn_wide.2 (sealed_none (.pointer (some ⟨G, 0, none⟩)) Wf (kno.out Wf hWf))).mono ?_
  rintro e w' ⟨rfl, rfl⟩
  have cPf := kP0.out _ hWf
  clear cP0 cP1 cP0' cP1' hWb hWc hWd hWe hBd hBe hBf
  gi_wp2_with fail
  refine (callsIn_wide.2 (each_val (.pointer (some ⟨G, 0, none⟩)) A n c Wf ⟨_, rfl⟩)).mono ?_
  rintro e w' ⟨rfl, rfl⟩
  gi_wp2
  have hWg := (hWf.alloc (by omega) (.cells #[(.pointer (some ⟨G, 0, none⟩))] 26)).alloc (by simp; omega) (.cells #[.slice A n c] 22)
  have hX := Blk.alloc (Blk.new Wf 26 #[(.pointer (some ⟨G, 0, none⟩))]) (.cells #[.slice A n c] 22)
  have hszg : ((Wf.alloc (.cells #[(.pointer (some ⟨G, 0, none⟩))] 26)).alloc (.cells #[.slice A n c] 22)).heap.size = Wf.heap.size + 1 + 1 := by simp
  generalize (Wf.alloc (.cells #[(.pointer (some ⟨G, 0, none⟩))] 26)).alloc (.cells #[.slice A n c] 22) = Wg at *
  have hFf : M1 ≤ Wf.heap.size := by omega
  clear hWf cPf
  refine wpIn_rangeFunc_W (α := Unit) (n := 9) (by omega) (gf := 42) (lb := #[.pointer (some ⟨Wf.heap.size, 0, none⟩), .pointer (some ⟨Wf.heap.size + 1, 0, none⟩)]) rfl (enters_of Try.func42 (by kernel_rfl) rfl)
    0 (fun U V => U = V) (fun _ _ => True) (fun _ _ => #[undef, undef]) (fun _ _ _ => True) (by intro _ _; rfl)
    (fun l J Jx W hWl hJ _ hY h0 => (each42_none 8 l (by omega) Wf.heap.size (Wf.heap.size + 1) (.pointer (some ⟨G, 0, none⟩)) W (kno.out W (hWg.trans (hWl.mono (by omega)))) (Blk.below hX hWl (by omega)) (J 0) h0).mono (fun e W' hh => ⟨hh.1, .inl hh.2⟩))
    (fun _ _ => trivial) (fun _ _ _ _ _ _ _ => trivial)
    (fun U V hg k o hk ho _ => by subst hg; exact ho)
    (fun _ W => Below M1 V1 W) (fun _ _ _ => False)
    (fun i U V hU hg => by subst hg; exact hU) (fun _ _ _ _ h _ => h)
    (fun i W l o o' hB21 hl ho hc => below_putObj hB21 (by omega) o')
    (fun _ _ _ _ _ _ h _ _ _ => h)
    (fun _ _ _ _ _ _ h _ _ _ => h)
    (fun o o' => (hWg.alloc (by omega) o).alloc (by simp; omega) o') ?b1 ?assign2 ?body2 ?done2 ?stop2
  case assign2 =>
    intro l i x W K hK
    gi_wp2
    exact hK
  case body2 =>
    rintro l i ⟨⟩ W hi
    omega
  case stop2 =>
    rintro D c i W _ _ hh _
    exact hh.elim
  rintro D2 V2 hD2 hV2 hK2
  clear hWg hX
  gi_wp2
  have hd1 := (Array.getElem?_eq_some_iff.1 hK1).1
  have hK1' : V2.heap[D1]? = some (.deferred (some [])) := (hV2.block D1 (by omega)).trans hK1
  have hd2 := (Array.getElem?_eq_some_iff.1 hK2).1
  have hV := hV1.trans (hV2.mono hM01)
  have zW : Boxed V2 (S + 1) 4 (.bool false) := Blk.below HR2.out hV (by omega)
  have hBw : Below S w V2 := Hb2.out.trans (hV.mono (by omega))
  have k4 := zW.cell
  have g4 := zW.frozen
  rw [roundsIn_succ]
  gi_wp2
  have zt := zW.set (.bool true)
  have hK2x := (KeepsOthers.setCell V2 ⟨S + 1, 0, none⟩ (.bool true)).same D2 _ hK2 rfl
  have hK1x := (KeepsOthers.setCell V2 ⟨S + 1, 0, none⟩ (.bool true)).same D1 _ hK1' rfl
  have hBf := hBw.setCell (p := ⟨S + 1, 0, none⟩) (by simp) (.bool true)
  have hD12 : D1 ≠ D2 := by omega
  generalize V2.setCell ⟨S + 1, 0, none⟩ (.bool true) = Wf at *
  refine ⟨by simp, .inl ⟨_, _, rfl, run_takeDeferred hK2x, ?_⟩⟩
  have hK1y : (Wf.putObj D2 (.deferred none)).heap[D1]? = some (.deferred (some [])) := (World.putObj_heap_other hD12).trans hK1x
  refine ⟨by simp, .inl ⟨_, _, rfl, run_takeDeferred hK1y, ?_⟩⟩
  have zt2 := blk_putObj (blk_putObj zt hK2x rfl (.deferred none)) hK1y rfl (.deferred none)
  have hc5 := Boxed.cell zt2
  refine ⟨.bool true, ?_, rfl, ?_⟩
  · simp [results, Try.f3, go_sem, hc5]
  · rw [hS]
    exact below_putObj (below_putObj hBf (by omega) _) (by omega) _

end Go.Proofs.Ytkbjbjkgohkkjaa

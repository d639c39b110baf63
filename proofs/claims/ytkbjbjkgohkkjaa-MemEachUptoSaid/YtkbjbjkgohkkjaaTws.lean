/-
  The walk of Towers: how high the nodes' towers are. Condition: the table lies in memory as a skip list does; or nobody made it. (The drawn region printed by gen_tws.py.)
-/
import Derived.Test.YtkbjbjkgohkkjaaAll
namespace Go.Proofs.Ytkbjbjkgohkkjaa
open Go.RowKit Go.Shelf

attribute [local go_sem] Oper.semAt_some

def tallN (ns : List Nd) (i : Nat) : List Int := (ns.take i).map fun d => (d.t : Int)
set_option maxRecDepth 10000 in
theorem tallN_len {ns : List Nd} {i : Nat} (hi : i ≤ ns.length) : (tallN ns i).length = i := by unfold tallN; rw [List.length_map, List.length_take]; omega
/-- an append, within a region that draws its order -/
theorem step_append {P : Program} {ops : Array Oper} {o : Oper} {a : Act} {w w' : World} {K : Act → World → Prop} {Q : Exit → Act → World → Prop} {s x : Operand} {t : TypeId} {v u r : Value} (hw : Region.wanted o (yielded ops a.tmps) = true)
    (ho : o.op = .call { callee := .builtin .append, args := #[s, x], argTypes := #[t, t] }) (hs : a.eval s = v) (hx : a.eval x = u) (hr : (Builtin.append_ #[t, t] o.type #[v, u]).run P w = .ok r w') (h : K (a.put o.dst r) w') :
    if Region.wanted o (yielded ops a.tmps) = true then Oper.wp P o a w K Q else K (a.put o.dst undef) w := by
  rw [if_pos hw]
  unfold Oper.wp execOp
  simp only [ho, resolve, invoke, builtin, Sem.run_bind, Sem.run_pure, Result.andThen_ok, List.map_toArray, List.map_cons, List.map_nil, hs, hx, hr]
  exact h
theorem tallN_succ {ns : List Nd} {i : Nat} (hi : i < ns.length) : tallN ns (i + 1) = tallN ns i ++ [(ns[i].t : Int)] := by
  unfold tallN
  rw [List.take_succ_eq_append_getElem hi, List.map_append]
  rfl

theorem row_putObj {W : World} {base : Nat} {t : TypeId} {v : Value} {n l : Nat} {xs : List Value} {o : Obj} (h : W.ownsRow base t 1 v n xs) (hl : W.heap[l]? = some o) (ho : o.isCells = false) (o' : Obj) : (W.putObj l o').ownsRow base t 1 v n xs :=
  ownsRow_of_heap h fun g hg => World.putObj_heap_other (fun e => by
    subst e
    obtain ⟨cs, r, h2⟩ := ownsRow_own h hg
    rw [h2] at hl
    cases hl
    cases ho)
theorem blk_putObj {W : World} {g l : Nat} {t : TypeId} {cs : Array Value} {o : Obj} (h : Blk W g t cs) (hl : W.heap[l]? = some o) (ho : o.isCells = false) (o' : Obj) : Blk (W.putObj l o') g t cs :=
  (World.putObj_heap_other (fun e => by
    subst e
    have h2 : W.heap[g]? = _ := h
    rw [h2] at hl
    cases hl
    cases ho)).trans h
theorem below_putObj {W W' : World} {B l : Nat} (h : Below B W W') (hl : B ≤ l) (o' : Obj) : Below B W (W'.putObj l o') :=
  h.trans ⟨rfl, rfl, rfl, by simp, fun k hk => World.putObj_heap_other (by omega)⟩

theorem NoTb.below {w w' : World} {v : Value} {B : Nat} (h : NoTb w v) (hb : Below B w w') (hB : w.heap.size ≤ B) : NoTb w' v := by
  rcases h with rfl | ⟨g, rfl, h⟩
  · exact .inl rfl
  · exact .inr ⟨g, rfl, (hb.cell (p := ⟨g, 0, none⟩) (by have := World.block_lt_of_cell? w ⟨g, 0, none⟩ h; simp only at this; simp only; omega)).trans h⟩
/-- what the rounds keep: so many towers told -/
def TwI (w : World) (S X L B : Nat) (T : Nat) (ns : List Nd) (i : Nat) (W : World) : Prop :=
  Below S w W ∧ Boxed W X 26 (.pointer (some ⟨T, 0, none⟩)) ∧ ∃ v, Boxed W L 27 v ∧ MineI W B v (tallN ns i)

set_option maxRecDepth 100000 in
set_option maxHeartbeats 4000000 in
theorem towers_walk (T base : Nat) (tw : List Int) (ns : List Nd) (cnt : Nat) (sl : Bool) (hd : Nw) (ms : List Nw) (w : World) (h : Tm w T base tw ns cnt sl hd ms) (hn : ns.length ≤ 1000000) :
    Calls Try.prog 15 #[.pointer (some ⟨T, 0, none⟩)] w fun e w' => (∃ v, e = .returned v ∧ MineI w' w.heap.size v (ns.map fun d => (d.t : Int))) ∧ Below w.heap.size w w' := by
  refine (callsIn_wide (n := 9)).1 ?_
  refine callsIn_of_wp_marks Try.func15 rfl trivial ?_ rfl
  simp only [Try.ntmps15, List.size_toArray, List.length_cons, List.length_nil, Nat.reduceAdd, Nat.reduceSub, Array.replicate_succ, Array.replicate_zero, List.push_toArray, List.append_toArray, List.nil_append, List.cons_append]
  have f38 : Fence.wide.fn 38 := trivial
  have hbL := Blk.new w 27 #[.slice none 0 0]
  have hB0 := (Below.refl _ w).alloc (Nat.le_refl _) (.cells #[.slice none 0 0] 27)
  have hs0 : (w.alloc (.cells #[.slice none 0 0] 27)).heap.size = w.heap.size + 1 := by simp
  gi_wp2_with fail
  generalize w.alloc (.cells #[.slice none 0 0] 27) = w0 at *
  refine (callsIn_wide.2 (all_val (.pointer (some ⟨T, 0, none⟩)) w0 ⟨_, rfl⟩)).mono ?_
  rintro e w' ⟨rfl, rfl⟩
  have hbX := Blk.new w0 26 #[.pointer (some ⟨T, 0, none⟩)]
  have hbL1 := Blk.alloc hbL (.cells #[.pointer (some ⟨T, 0, none⟩)] 26)
  have hB1 := hB0.alloc (by omega) (.cells #[.pointer (some ⟨T, 0, none⟩)] 26)
  have hs1 : (w0.alloc (.cells #[.pointer (some ⟨T, 0, none⟩)] 26)).heap.size = w0.heap.size + 1 := by simp
  rw [hs0] at hbX hs1 ⊢
  generalize w0.alloc (.cells #[.pointer (some ⟨T, 0, none⟩)] 26) = w1 at *
  obtain ⟨S, hS⟩ : ∃ S, w.heap.size = S := ⟨_, rfl⟩
  rw [hS] at hbL hbL1 hB0 hB1 hs0 hs1 hbX ⊢
  clear hB0 hbL hs0
  gi_wp2
  refine wpIn_rangeFunc_W (n := 9) (by omega) (gf := 51) (lb := #[.pointer (some ⟨S + 1, 0, none⟩)]) rfl (enters_of Try.func51 (by kernel_rfl) rfl)
    ns.length (fun U V => U = V) (KpA S (S + 1)) (aenc ms) (fun _ _ _ => True) (fun _ _ => rfl)
    (fun l J Jx W hW hJ _ hY h0 => all51_in 8 l (by omega) T (S + 1) S base tw ns cnt sl hd ms w hS h J Jx (fun i W x hi hj => hY i W x hi hj trivial) W (hB1.trans (hW.mono (by omega))) (Blk.below hbX hW (by omega)) h0)
    (fun h k => h.trans k) (fun W l o o' hl _ _ => ⟨⟨rfl, rfl, rfl, by simp, fun k hk => World.putObj_heap_other (by omega)⟩, World.putObj_heap_other (by omega)⟩)
    (fun U V hg k o hk ho _ => by subst hg; exact ho)
    (TwI w S (S + 1) S (S + 2) T ns) (fun _ _ _ => False)
    (fun i U V hU hg => by subst hg; exact hU) (fun _ _ _ _ h _ => h)
    (fun i W l o o' hW hl ho hc => ⟨below_putObj hW.1 (by omega) o', blk_putObj hW.2.1 ho hc o', by obtain ⟨v, h1, h2⟩ := hW.2.2; exact ⟨v, blk_putObj h1 ho hc o', row_putObj h2 ho hc o'⟩⟩)
    (fun _ _ _ _ _ _ h _ _ _ => h)
    (fun _ _ _ _ _ _ h _ _ _ => h)
    (fun o o' => ⟨(hB1.alloc (by omega) o).alloc (by simp; omega) o', (Blk.alloc (Blk.alloc hbX o) o'), _, (Blk.alloc (Blk.alloc hbL1 o) o'), MineI.nil _ _⟩) ?a1 ?assign ?body ?done ?stop
  case assign =>
    intro l i x W K hK
    simp only [aenc]
    gi_wp2
    exact hK
  case body =>
    rintro l i ⟨⟩ W hi ⟨hBW, hXW, v, hLW, hmW⟩ hV
    have htW := h.below hBW (by omega)
    obtain ⟨x, hx⟩ := htW.sl.at_ (q := i + 1) (by omega)
    have hx' : ms[i]? = some x := by simpa using hx
    have k2 : W.cell? ⟨x.b, 2, none⟩ = some (.slice (some ⟨x.x, 0, none⟩) (tl ns (i + 1)) (tl ns (i + 1))) := (htW.sl.node (i + 1) x hx).cell 2
    rw [tl_succ hi] at k2
    rw [pN_some hx']
    obtain ⟨tq, htq⟩ : ∃ tq, ns[i].t = tq := ⟨_, rfl⟩
    rw [htq] at k2
    have Hsucc := hide (tallN_succ hi)
    rw [htq] at Hsucc
    have hlen := tallN_len (ns := ns) (i := i) (by omega)
    obtain ⟨A, m, c, rfl⟩ : ∃ A m c, v = .slice A m c := by
      rcases hmW.2 with ⟨rfl, _⟩ | ⟨g, cap, cur, rfl, _⟩
      · exact ⟨_, _, _, rfl⟩
      · exact ⟨_, _, _, rfl⟩
    have hsW := hBW.size
    have hlX := hXW.lt
    have hxl : x.b < S := by have := h.sl.foot_lt (Foot.b (hd := hd) (ms := ms) (List.mem_of_getElem? hx)); omega
    have kL := hLW.cell
    have fL := hLW.frozen
    have hHS : W.drew.cell? ⟨x.b, 2, none⟩ = some (.slice (some ⟨x.x, 0, none⟩) tq tq) := k2
    have mA := MineI.alloc (w := W.drew) hmW (.cells #[.int .i64 (tq : Int)] 3)
    have hLA := Blk.alloc (w := W.drew) hLW (.cells #[.int .i64 (tq : Int)] 3)
    have hXA := Blk.alloc (w := W.drew) hXW (.cells #[.int .i64 (tq : Int)] 3)
    have hBA : Below S w (W.drew.alloc (.cells #[.int .i64 (tq : Int)] 3)) := (Below.drewN' hBW 1).alloc (by rw [← hS]; exact hsW) _
    obtain ⟨v', W3, hrun, hm3, hg3⟩ := append_int (P := Try.prog) 27 Try.underlying27 info3 mA (by simp; omega) (z := (tq : Int)) ((Blk.new W.drew 3 #[.int .i64 (tq : Int)]).cell 0) (by omega)
    obtain ⟨A', m', c', rfl⟩ : ∃ A' m' c', v' = .slice A' m' c' := by
      rcases hm3.2 with ⟨rfl, _⟩ | ⟨g, cap, cur, rfl, _⟩
      · exact ⟨_, _, _, rfl⟩
      · exact ⟨_, _, _, rfl⟩
    have hHA : (W.drew.alloc (.cells #[.int .i64 (tq : Int)] 3)).cell? ⟨x.b, 2, none⟩ = some (.slice (some ⟨x.x, 0, none⟩) tq tq) := (hBA.cell (p := ⟨x.b, 2, none⟩) hxl).trans (by rw [← hBW.cell (p := ⟨x.b, 2, none⟩) hxl]; exact k2)
    have hB3 := hBA.trans (MineI.grown mA hg3 (B := S) (by omega) (by simp; omega))
    have hne : ∀ b, b < S + 2 → (Value.slice A m c).ownBlock ≠ some b := fun b hb e => by have := (World.ownsRow.lt mA b e).1; omega
    have hL3 : Blk W3 S 27 #[.slice A m c] := hLA.grown hg3 (fun e => hne S (by omega) e.symm)
    have hX3 : Blk W3 (S + 1) 26 _ := hXA.grown hg3 (fun e => hne (S + 1) (by omega) e.symm)
    have hHC : W3.cell? ⟨x.b, 2, none⟩ = some (.slice (some ⟨x.x, 0, none⟩) tq tq) := (hB3.cell (p := ⟨x.b, 2, none⟩) hxl).trans (by rw [← hBW.cell (p := ⟨x.b, 2, none⟩) hxl]; exact k2)
    have hHD : (W3.setCell ⟨S, 0, none⟩ (.slice A' m' c')).cell? ⟨x.b, 2, none⟩ = some (.slice (some ⟨x.x, 0, none⟩) tq tq) := (World.cell?_setCell_other _ _ _ _ (fun e => by have := congrArg Addr.block e; simp at this; omega)).trans hHC
    have kLA : (W.alloc (.cells #[.int .i64 (tq : Int)] 3)).cell? ⟨S, 0, none⟩ = some (.slice A m c) := hLA.cell 0
    have kL3 := hL3.cell 0
    have fL3 := hL3.frozen 0
    have hko : KeepsOthers W W3 := ((KeepsOthers.drew W).trans (KeepsOthers.alloc _ _)).trans (KeepsOthers.of_grownBy hg3 (fun j o ej ho => by
      obtain ⟨cs, r, h2⟩ := ownsRow_own mA ej
      rw [h2] at ho
      cases ho
      rfl))
    have Hend : ∀ ac : Act, postW w1.heap.size (KpA S (S + 1)) (TwI w S (S + 1) S (S + 2) T ns) (fun _ _ _ => False) (i + 1) W .normal ac (W3.setCell ⟨S, 0, none⟩ (.slice A' m' c')) := fun ac => by
      have hBn := hB3.setCell (p := ⟨S, 0, none⟩) (Nat.le_refl _) (.slice A' m' c')
      have hX4 : Blk (W3.setCell ⟨S, 0, none⟩ (.slice A' m' c')) (S + 1) 26 _ := hX3.far (p := ⟨S, 0, none⟩) (by simp) _
      have hWn : Below S W (W3.setCell ⟨S, 0, none⟩ (.slice A' m' c')) := ⟨hBn.os.trans hBW.os.symm, hBn.tape.trans hBW.tape.symm, hBn.output.trans hBW.output.symm, by have := hko.size; simpa using this, fun k hk => (hBn.block k hk).trans (hBW.block k hk).symm⟩
      refine ⟨(hko.trans (KeepsOthers.setCell _ _ _)).from _, ⟨hWn, hX4.trans hXW.symm⟩, hBn, hX4, _, hL3.put 0 _, ?_⟩
      rw [Hsucc.out]
      exact ownsRow_of_heap hm3 (fun g hg => Below.heap_setCell _ _ _ _ (fun e => by have := (World.ownsRow.lt hm3 g hg).1; have e' : g = S := e; omega))
    have Hend := hide Hend
    have Hrun := hide hrun
    clear mA hLA hXA hBA hm3 hg3 hrun hL3 hX3 hko hB3 hlen
    gi_wp2
    refine region_round_to (S := fun W' => W'.cell? ⟨x.b, 2, none⟩ = some (.slice (some ⟨x.x, 0, none⟩) tq tq)) (by kernel_rfl) (by kernel_rfl) hHS (fun hHeld => ?_)
    refine wpAnyH_take (i := 1) (v := ?_) rfl (by kernel_rfl) (by kernel_rfl) (by kernel_rfl) (fun _ _ _ h => by cases h.1) (Or.inl ⟨by kernel_rfl, ?_⟩) (by assumption) ?_
    rotate_left
    · (intro w hSw; (try dsimp only at hSw); go_simp; try with_reducible rfl)
    (try simp only [Act.put, List.getElem_toArray, List.getElem_cons_succ, List.getElem_cons_zero, List.setIfInBounds_toArray, List.set_cons_zero, List.set_cons_succ])
    refine wpAnyH_take (i := 2) (v := ?_) rfl (by kernel_rfl) (by kernel_rfl) (by kernel_rfl) (fun _ _ _ h => by cases h.1) (Or.inl ⟨by kernel_rfl, ?_⟩) (by assumption) ?_
    rotate_left
    · (intro w hSw; (try dsimp only at hSw); go_simp; try with_reducible rfl)
    (try simp only [Act.put, List.getElem_toArray, List.getElem_cons_succ, List.getElem_cons_zero, List.setIfInBounds_toArray, List.set_cons_zero, List.set_cons_succ])
    refine wpAnyH_take (i := 3) (v := ?_) rfl (by kernel_rfl) (by kernel_rfl) (by kernel_rfl) (fun _ _ _ h => by cases h.1) (Or.inl ⟨by kernel_rfl, ?_⟩) (by assumption) ?_
    rotate_left
    · (intro w hSw; (try dsimp only at hSw); go_simp; try with_reducible rfl)
    (try simp only [Act.put, List.getElem_toArray, List.getElem_cons_succ, List.getElem_cons_zero, List.setIfInBounds_toArray, List.set_cons_zero, List.set_cons_succ])
    refine wpAnyH_take (i := 4) (v := ?_) rfl (by kernel_rfl) (by kernel_rfl) (by kernel_rfl) (fun _ _ _ h => by cases h.1) (Or.inl ⟨by kernel_rfl, ?_⟩) (by assumption) ?_
    rotate_left
    · (intro w hSw; (try dsimp only at hSw); go_simp; try with_reducible rfl)
    (try simp only [Act.put, List.getElem_toArray, List.getElem_cons_succ, List.getElem_cons_zero, List.setIfInBounds_toArray, List.set_cons_zero, List.set_cons_succ])
    refine wpAnyH_take (i := 5) (v := ?_) rfl (by kernel_rfl) (by kernel_rfl) (by kernel_rfl) (fun _ _ _ h => by cases h.1) (Or.inl ⟨by kernel_rfl, ?_⟩) (by assumption) ?_
    rotate_left
    · (intro w hSw; (try dsimp only at hSw); go_simp; try with_reducible rfl)
    (try simp only [Act.put, List.getElem_toArray, List.getElem_cons_succ, List.getElem_cons_zero, List.setIfInBounds_toArray, List.set_cons_zero, List.set_cons_succ])
    refine wpAnyH_ready (rs := [0, 6]) (by kernel_rfl) (by simp) (AllReadyH.cons rfl (fun K hK => ?_) (AllReadyH.cons rfl (fun K hK => ?_) AllReadyH.nil))
    go_simp
    refine hK.out _ _ (hHS) (fun hHeld => ?_)
    clear hK K
    (try simp only [Act.put, List.getElem_toArray, List.getElem_cons_succ, List.getElem_cons_zero, List.setIfInBounds_toArray, List.set_cons_zero, List.set_cons_succ])
    refine wpAnyH_ready (rs := [6]) (by kernel_rfl) (by simp) (AllReadyH.cons rfl (fun K hK => ?_) AllReadyH.nil)
    go_simp
    refine hK.out _ _ (hHA) (fun hHeld => ?_)
    clear hK K
    (try simp only [Act.put, List.getElem_toArray, List.getElem_cons_succ, List.getElem_cons_zero, List.setIfInBounds_toArray, List.set_cons_zero, List.set_cons_succ])
    refine wpAnyH_ready (rs := [7]) (by kernel_rfl) (by simp) (AllReadyH.cons rfl (fun K hK => ?_) AllReadyH.nil)
    refine step_append (by kernel_rfl) rfl rfl rfl Hrun.out ?_
    refine hK.out _ _ (hHC) (fun hHeld => ?_)
    clear hK K
    (try simp only [Act.put, List.getElem_toArray, List.getElem_cons_succ, List.getElem_cons_zero, List.setIfInBounds_toArray, List.set_cons_zero, List.set_cons_succ])
    refine wpAnyH_ready (rs := [8]) (by kernel_rfl) (by simp) (AllReadyH.cons rfl (fun K hK => ?_) AllReadyH.nil)
    go_simp
    refine hK.out _ _ (hHD) (fun hHeld => ?_)
    clear hK K
    (try simp only [Act.put, List.getElem_toArray, List.getElem_cons_succ, List.getElem_cons_zero, List.setIfInBounds_toArray, List.set_cons_zero, List.set_cons_succ])
    refine wpAnyH_done (by kernel_rfl) ?_ _
    rotate_left
    go_simp
    refine hK.out _ _ (hHA) (fun hHeld => ?_)
    clear hK K
    (try simp only [Act.put, List.getElem_toArray, List.getElem_cons_succ, List.getElem_cons_zero, List.setIfInBounds_toArray, List.set_cons_zero, List.set_cons_succ])
    refine wpAnyH_ready (rs := [0]) (by kernel_rfl) (by simp) (AllReadyH.cons rfl (fun K hK => ?_) AllReadyH.nil)
    go_simp
    refine hK.out _ _ (hHA) (fun hHeld => ?_)
    clear hK K
    (try simp only [Act.put, List.getElem_toArray, List.getElem_cons_succ, List.getElem_cons_zero, List.setIfInBounds_toArray, List.set_cons_zero, List.set_cons_succ])
    refine wpAnyH_ready (rs := [7]) (by kernel_rfl) (by simp) (AllReadyH.cons rfl (fun K hK => ?_) AllReadyH.nil)
    refine step_append (by kernel_rfl) rfl rfl rfl Hrun.out ?_
    refine hK.out _ _ (hHC) (fun hHeld => ?_)
    clear hK K
    (try simp only [Act.put, List.getElem_toArray, List.getElem_cons_succ, List.getElem_cons_zero, List.setIfInBounds_toArray, List.set_cons_zero, List.set_cons_succ])
    refine wpAnyH_ready (rs := [8]) (by kernel_rfl) (by simp) (AllReadyH.cons rfl (fun K hK => ?_) AllReadyH.nil)
    go_simp
    refine hK.out _ _ (hHD) (fun hHeld => ?_)
    clear hK K
    (try simp only [Act.put, List.getElem_toArray, List.getElem_cons_succ, List.getElem_cons_zero, List.setIfInBounds_toArray, List.set_cons_zero, List.set_cons_succ])
    refine wpAnyH_done (by kernel_rfl) ?_ _
    rotate_left
    · refine ⟨rfl, ?_⟩
      gi_wp2
      exact Hend.out _
    · refine ⟨rfl, ?_⟩
      gi_wp2
      exact Hend.out _
  case done =>
    rintro D W hD ⟨hBW, hXW, v, hLW, hmW⟩ hK
    have kL := hLW.cell
    obtain ⟨A, m, c, rfl⟩ : ∃ A m c, v = .slice A m c := by
      rcases hmW.2 with ⟨rfl, _⟩ | ⟨g, cap, cur, rfl, _⟩
      · exact ⟨_, _, _, rfl⟩
      · exact ⟨_, _, _, rfl⟩
    gi_wp2
    refine ⟨by simp, .inl ⟨_, _, rfl, run_takeDeferred hK, ?_⟩⟩
    refine ⟨.slice A m c, by simp [results, Try.f15, go_sem], ⟨_, rfl, ?_⟩, by rw [hS]; exact below_putObj hBW (l := D) (by omega) _⟩
    have := row_putObj hmW hK rfl (.deferred none)
    have e : tallN ns ns.length = ns.map fun d => (d.t : Int) := by unfold tallN; rw [List.take_length]
    rw [← e]
    exact World.ownsRow.mono this (by omega)
  case stop =>
    rintro D c i W _ _ hh _
    exact hh.elim

set_option maxRecDepth 100000 in
set_option maxHeartbeats 4000000 in
/-- .. of no table: none -/
theorem towers_none (v : Value) (w : World) (hv : NoTb w v) :
    Calls Try.prog 15 #[v] w fun e w' => e = .returned (.slice none 0 0) ∧ Below w.heap.size w w' := by
  obtain ⟨p, rfl⟩ := hv.ptr
  refine (callsIn_wide (n := 9)).1 ?_
  refine callsIn_of_wp_marks Try.func15 rfl trivial ?_ rfl
  simp only [Try.ntmps15, List.size_toArray, List.length_cons, List.length_nil, Nat.reduceAdd, Nat.reduceSub, Array.replicate_succ, Array.replicate_zero, List.push_toArray, List.append_toArray, List.nil_append, List.cons_append]
  have f38 : Fence.wide.fn 38 := trivial
  have hbL := Blk.new w 27 #[.slice none 0 0]
  have hB0 := (Below.refl _ w).alloc (Nat.le_refl _) (.cells #[.slice none 0 0] 27)
  have hs0 : (w.alloc (.cells #[.slice none 0 0] 27)).heap.size = w.heap.size + 1 := by simp
  gi_wp2_with fail
  generalize w.alloc (.cells #[.slice none 0 0] 27) = w0 at *
  refine (callsIn_wide.2 (all_val (.pointer p) w0 ⟨_, rfl⟩)).mono ?_
  rintro e w' ⟨rfl, rfl⟩
  have hbX := Blk.new w0 26 #[.pointer p]
  have hbL1 := Blk.alloc hbL (.cells #[.pointer p] 26)
  have hB1 := hB0.alloc (by omega) (.cells #[.pointer p] 26)
  have hs1 : (w0.alloc (.cells #[.pointer p] 26)).heap.size = w0.heap.size + 1 := by simp
  rw [hs0] at hbX hs1 ⊢
  generalize w0.alloc (.cells #[.pointer p] 26) = w1 at *
  obtain ⟨S, hS⟩ : ∃ S, w.heap.size = S := ⟨_, rfl⟩
  rw [hS] at hbL hbL1 hB0 hB1 hs0 hs1 hbX ⊢
  clear hB0 hbL hs0
  gi_wp2
  refine wpIn_rangeFunc_W (α := Unit) (n := 9) (by omega) (gf := 51) (lb := #[.pointer (some ⟨S + 1, 0, none⟩)]) rfl (enters_of Try.func51 (by kernel_rfl) rfl)
    0 (fun U V => U = V) (KpA S (S + 1)) (aenc []) (fun _ _ _ => True) (fun _ _ => rfl)
    (fun l J Jx W hW hJ _ hY h0 => (all51_none 8 l (by omega) (S + 1) (.pointer p) W (hv.below (hB1.trans (hW.mono (by omega))) (by omega)) (Blk.below hbX hW (by omega)) (J 0) h0).mono (fun e W' hh => ⟨hh.1, .inl hh.2⟩))
    (fun h k => h.trans k) (fun W l o o' hl _ _ => ⟨⟨rfl, rfl, rfl, by simp, fun k hk => World.putObj_heap_other (by omega)⟩, World.putObj_heap_other (by omega)⟩)
    (fun U V hg k o hk ho _ => by subst hg; exact ho)
    (fun _ W => Below S w W ∧ Boxed W S 27 (.slice none 0 0)) (fun _ _ _ => False)
    (fun i U V hU hg => by subst hg; exact hU) (fun _ _ _ _ h _ => h)
    (fun i W l o o' hW hl ho hc => ⟨below_putObj hW.1 (by omega) o', blk_putObj hW.2 ho hc o'⟩)
    (fun _ _ _ _ _ _ h _ _ _ => h)
    (fun _ _ _ _ _ _ h _ _ _ => h)
    (fun o o' => ⟨(hB1.alloc (by omega) o).alloc (by simp; omega) o', (Blk.alloc (Blk.alloc hbL1 o) o')⟩) ?a1 ?assign ?body ?done ?stop
  case assign =>
    intro l i x W K hK
    simp only [aenc]
    gi_wp2
    exact hK
  case body =>
    rintro l i ⟨⟩ W hi
    omega
  case done =>
    rintro D W hD ⟨hBW, hLW⟩ hK
    have kL := hLW.cell
    gi_wp2
    refine ⟨by simp, .inl ⟨_, _, rfl, run_takeDeferred hK, ?_⟩⟩
    exact ⟨.slice none 0 0, by simp [results, Try.f15, go_sem], rfl, by rw [hS]; exact below_putObj hBW (l := D) (by omega) _⟩
  case stop =>
    rintro D c i W _ _ hh _
    exact hh.elim

end Go.Proofs.Ytkbjbjkgohkkjaa

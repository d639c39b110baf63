/-
  The walk of Pairs: the pairs in new memory. Condition: the table lies in memory as a skip list does. (The drawn region printed by gen_prs.py.)
-/
import Derived.Test.YtkbjbjkgohkkjaaLiP
namespace Go.Proofs.Ytkbjbjkgohkkjaa
open Go.RowKit Go.Shelf

attribute [local go_sem] Oper.semAt_some

def pairN (ns : List Nd) (i : Nat) : List Pr := (ns.take i).map fun d => (d.k, d.v)
set_option maxRecDepth 10000 in
theorem pairN_len {ns : List Nd} {i : Nat} (hi : i ≤ ns.length) : (pairN ns i).length = i := by unfold pairN; rw [List.length_map, List.length_take]; omega
theorem pairN_succ {ns : List Nd} {i : Nat} (hi : i < ns.length) : pairN ns (i + 1) = pairN ns i ++ [(ns[i].k, ns[i].v)] := by
  unfold pairN
  rw [List.take_succ_eq_append_getElem hi, List.map_append]
  rfl

/-- what the rounds keep: so many pairs told -/
def PrI (w : World) (S X L B : Nat) (T : Nat) (ns : List Nd) (i : Nat) (W : World) : Prop :=
  Below S w W ∧ Boxed W X 26 (.pointer (some ⟨T, 0, none⟩)) ∧ ∃ v, Boxed W L 55 v ∧ MineP W B v (pairN ns i)

set_option maxRecDepth 100000 in
set_option maxHeartbeats 4000000 in
theorem pairs_walk (T base : Nat) (tw : List Int) (ns : List Nd) (cnt : Nat) (sl : Bool) (hd : Nw) (ms : List Nw) (w : World) (h : Tm w T base tw ns cnt sl hd ms) (hn : ns.length ≤ 1000000) :
    Calls Try.prog 12 #[.pointer (some ⟨T, 0, none⟩)] w fun e w' => (∃ v, e = .returned v ∧ MineP w' w.heap.size v (ns.map fun d => (d.k, d.v))) ∧ Below w.heap.size w w' := by
  refine (callsIn_wide (n := 9)).1 ?_
  refine callsIn_of_wp_marks Try.func12 rfl trivial ?_ rfl
  simp only [Try.ntmps12, List.size_toArray, List.length_cons, List.length_nil, Nat.reduceAdd, Nat.reduceSub, Array.replicate_succ, Array.replicate_zero, List.push_toArray, List.append_toArray, List.nil_append, List.cons_append]
  have f38 : Fence.wide.fn 38 := trivial
  have hbL := Blk.new w 55 #[.slice none 0 0]
  have hB0 := (Below.refl _ w).alloc (Nat.le_refl _) (.cells #[.slice none 0 0] 55)
  have hs0 : (w.alloc (.cells #[.slice none 0 0] 55)).heap.size = w.heap.size + 1 := by simp
  gi_wp2_with fail
  generalize w.alloc (.cells #[.slice none 0 0] 55) = w0 at *
  refine (callsIn_wide.2 (all_val (.pointer (some ⟨T, 0, none⟩)) w0 ⟨_, rfl⟩)).mono ?_
  rintro e w' ⟨rfl, rfl⟩
  have hbX := Blk.new w0 26 #[.pointer (some ⟨T, 0, none⟩)]
  have hbL1 := Blk.alloc hbL (.cells #[.pointer (some ⟨T, 0, none⟩)] 26)
  have hB1 := hB0.alloc (by omega) (.cells #[.pointer (some ⟨T, 0, none⟩)] 26)
  have hs1 : (w0.alloc (.cells #[.pointer (some ⟨T, 0, none⟩)] 26)).heap.size = w0.heap.size + 1 := by simp
  rw [hs0] at hbX hs1 ⊢
  generalize w0.alloc (.cells #[.pointer (some ⟨T, 0, none⟩)] 26) = w1 at *
  obtain ⟨S, hS⟩ : ∃ S, w.heap.size = S := ⟨_, rfl⟩
  rw [hS] at hbL hbL1 hB0 hB1 hs0 hs1 hbX ⊢
  clear hB0 hbL hs0
  gi_wp2
  refine wpIn_rangeFunc_W (n := 9) (by omega) (gf := 51) (lb := #[.pointer (some ⟨S + 1, 0, none⟩)]) rfl (enters_of Try.func51 (by kernel_rfl) rfl)
    ns.length (fun U V => U = V) (KpA S (S + 1)) (aenc ms) (fun _ _ _ => True) (fun _ _ => rfl)
    (fun l J Jx W hW hJ _ hY h0 => all51_in 8 l (by omega) T (S + 1) S base tw ns cnt sl hd ms w hS h J Jx (fun i W x hi hj => hY i W x hi hj trivial) W (hB1.trans (hW.mono (by omega))) (Blk.below hbX hW (by omega)) h0)
    (fun h k => h.trans k) (fun W l o o' hl _ _ => ⟨⟨rfl, rfl, rfl, by simp, fun k hk => World.putObj_heap_other (by omega)⟩, World.putObj_heap_other (by omega)⟩)
    (fun U V hg k o hk ho _ => by subst hg; exact ho)
    (PrI w S (S + 1) S (S + 2) T ns) (fun _ _ _ => False)
    (fun i U V hU hg => by subst hg; exact hU) (fun _ _ _ _ h _ => h)
    (fun i W l o o' hW hl ho hc => ⟨below_putObj hW.1 (by omega) o', blk_putObj hW.2.1 ho hc o', by obtain ⟨v, h1, h2⟩ := hW.2.2; exact ⟨v, blk_putObj h1 ho hc o', h2.putObj ho hc o'⟩⟩)
    (fun _ _ _ _ _ _ h _ _ _ => h)
    (fun _ _ _ _ _ _ h _ _ _ => h)
    (fun o o' => ⟨(hB1.alloc (by omega) o).alloc (by simp; omega) o', (Blk.alloc (Blk.alloc hbX o) o'), _, (Blk.alloc (Blk.alloc hbL1 o) o'), MineP.nil _ _⟩) ?a1 ?assign ?body ?done ?stop
  case assign =>
    intro l i x W K hK
    simp only [aenc]
    gi_wp2
    exact hK
  case body =>
    rintro l i ⟨⟩ W hi ⟨hBW, hXW, v, hLW, hmW⟩ hV
    have htW := h.below hBW (by omega)
    obtain ⟨x, hx⟩ := htW.sl.at_ (q := i + 1) (by omega)
    have hx' : ms[i]? = some x := by simpa using hx
    have hsh := htW.sl.short _ (List.getElem_mem hi)
    obtain ⟨KA, KL, kc, ekv, hKL, hkb⟩ := Mine.bsL (htW.sl.kv _ _ _ hx' (List.getElem?_eq_getElem hi)) (by omega)
    obtain ⟨VA, VL, vc, evv, hVL, hvb⟩ := Mine.bsL (htW.sl.vv _ _ _ hx' (List.getElem?_eq_getElem hi)) (by omega)
    have n0 : W.cell? ⟨x.b, 0, none⟩ = some (.slice KA KL kc) := by rw [← ekv]; exact (htW.sl.node _ x hx).cell 0
    have n1 : W.cell? ⟨x.b, 1, none⟩ = some (.slice VA VL vc) := by rw [← evv]; exact (htW.sl.node _ x hx).cell 1
    rw [pN_some hx']
    have Hsucc := hide (pairN_succ hi)
    have hlen := pairN_len (ns := ns) (i := i) (by omega)
    obtain ⟨A, m, c, rfl⟩ := hmW.shape
    have hsW := hBW.size
    have hlX := hXW.lt
    have kL := hLW.cell
    have fL := hLW.frozen
    generalize ns[i].k = kk at *
    generalize ns[i].v = vv at *
    clear hKL hVL
    gi_wp2
    refine region_round_to (S := fun _ => True) (by kernel_rfl) (by kernel_rfl) trivial (fun hHeld => ?_)
    refine wpAnyH_take (i := 1) (v := ?_) rfl (by kernel_rfl) (by kernel_rfl) (by kernel_rfl) (fun _ _ _ h => by cases h.1) (Or.inl ⟨by kernel_rfl, ?_⟩) (by assumption) ?_
    rotate_left
    · (intro w hSw; (try dsimp only at hSw); go_simp; try with_reducible rfl)
    (try simp only [Act.put, List.getElem_toArray, List.getElem_cons_succ, List.getElem_cons_zero, List.setIfInBounds_toArray, List.set_cons_zero, List.set_cons_succ])
    refine wpAnyH_ready (rs := [0, 2]) (by kernel_rfl) (by simp) (AllReadyH.cons rfl (fun K hK => ?_) (AllReadyH.cons rfl (fun K hK => ?_) AllReadyH.nil))
    go_simp
    refine hK.out _ _ (trivial) (fun hHeld => ?_)
    clear hK K
    (try simp only [Act.put, List.getElem_toArray, List.getElem_cons_succ, List.getElem_cons_zero, List.setIfInBounds_toArray, List.set_cons_zero, List.set_cons_succ])
    refine wpAnyH_ready (rs := [2]) (by kernel_rfl) (by simp) (AllReadyH.cons rfl (fun K hK => ?_) AllReadyH.nil)
    go_simp
    refine Calls.mono (pair_any x.b kk vv KA VA KL kc VL vc W.drew n0 n1 (hkb.drewN 1) (hvb.drewN 1)) ?_
    rintro e w2 ⟨kv, vv', rfl, hmk, hmv, hB2⟩
    obtain ⟨A3, L3, c3, rfl⟩ := mine_shape hmk
    obtain ⟨A4, L4, c4, rfl⟩ := mine_shape hmv
    have hs2 : W.heap.size ≤ w2.heap.size := hB2.size
    have hB2' : Below W.heap.size W w2 := (below_drew W).trans hB2
    have hL2 : Boxed w2 S 55 (.slice A m c) := Blk.below hLW hB2' hLW.lt
    have hX2 : Boxed w2 (S + 1) 26 (.pointer (some ⟨T, 0, none⟩)) := Blk.below hXW hB2' hXW.lt
    have mA := (hmW.below hB2' (Nat.le_refl _)).alloc (.cells #[.slice A3 L3 c3, .slice A4 L4 c4] 24)
    have kA := (hmk.mono (base' := S + 2) (show S + 2 ≤ W.heap.size by omega)).alloc (.cells #[.slice A3 L3 c3, .slice A4 L4 c4] 24)
    have vA := (hmv.mono (base' := S + 2) (show S + 2 ≤ W.heap.size by omega)).alloc (.cells #[.slice A3 L3 c3, .slice A4 L4 c4] 24)
    have hLA := Blk.alloc hL2 (.cells #[.slice A3 L3 c3, .slice A4 L4 c4] 24)
    have hXA := Blk.alloc hX2 (.cells #[.slice A3 L3 c3, .slice A4 L4 c4] 24)
    have hnw := Blk.new w2 24 #[.slice A3 L3 c3, .slice A4 L4 c4]
    have hBA := (hBW.trans (hB2'.mono (by omega))).alloc (by omega) (.cells #[.slice A3 L3 c3, .slice A4 L4 c4] 24)
    have hkA : KeepsOthers W (w2.alloc (.cells #[.slice A3 L3 c3, .slice A4 L4 c4] 24)) := KeepsOthers.trans ⟨hs2, fun k o hk _ => (hB2'.block k (Array.getElem?_eq_some_iff.1 hk).1).trans hk⟩ (KeepsOthers.alloc _ _)
    obtain ⟨v', W3, hrun, hm3, hg3⟩ := append_pair (P := Try.prog) 55 Try.underlying55 info24 mA (by simp; omega) (h1 := (A3, L3, c3)) (h2 := (A4, L4, c4)) (f := (kk, vv)) kA vA (hnw.cell 0) (hnw.cell 1) (by omega)
    obtain ⟨A', m', c', rfl⟩ := hm3.shape
    have hB3 := hBA.trans (mA.grown hg3 (B := S) (by omega) (by simp; omega))
    have hne : ∀ b, b < S + 2 → (Value.slice A m c).ownBlock ≠ some b := fun b hb e => by have := (mA.own e).1; omega
    have hL3 : Blk W3 S 55 #[.slice A m c] := hLA.grown hg3 (fun e => hne S (by omega) e.symm)
    have hX3 : Blk W3 (S + 1) 26 _ := hXA.grown hg3 (fun e => hne (S + 1) (by omega) e.symm)
    have kL2 := hL2.cell
    have kLA := hLA.cell 0
    have kL3 := hL3.cell 0
    have fL3 := hL3.frozen 0
    have hko : KeepsOthers W W3 := hkA.trans (KeepsOthers.of_grownBy hg3 (fun j o ej ho => by
      obtain ⟨_, cs, r, h2⟩ := mA.own ej
      rw [h2] at ho
      cases ho
      rfl))
    have Hend : ∀ ac : Act, postW w1.heap.size (KpA S (S + 1)) (PrI w S (S + 1) S (S + 2) T ns) (fun _ _ _ => False) (i + 1) W .normal ac (W3.setCell ⟨S, 0, none⟩ (.slice A' m' c')) := fun ac => by
      have hBn := hB3.setCell (p := ⟨S, 0, none⟩) (Nat.le_refl _) (.slice A' m' c')
      have hX4 : Blk (W3.setCell ⟨S, 0, none⟩ (.slice A' m' c')) (S + 1) 26 _ := hX3.far (p := ⟨S, 0, none⟩) (by simp) _
      have hWn : Below S W (W3.setCell ⟨S, 0, none⟩ (.slice A' m' c')) := ⟨hBn.os.trans hBW.os.symm, hBn.tape.trans hBW.tape.symm, hBn.output.trans hBW.output.symm, by have := hko.size; simpa using this, fun k hk => (hBn.block k hk).trans (hBW.block k hk).symm⟩
      refine ⟨(hko.trans (KeepsOthers.setCell _ _ _)).from _, ⟨hWn, hX4.trans hXW.symm⟩, hBn, hX4, _, hL3.put 0 _, ?_⟩
      rw [Hsucc.out]
      exact hm3.setCell (p := ⟨S, 0, none⟩) (by simp only; omega) _
    replace Hend := hide Hend
    have Hrun := hide hrun
    clear mA kA vA hLA hXA hBA hm3 hg3 hrun hL3 hX3 hko hB3 hkA hL2 hX2 hnw hmk hmv
    refine hK.out _ _ (trivial) (fun hHeld => ?_)
    clear hK K
    (try simp only [Act.put, List.getElem_toArray, List.getElem_cons_succ, List.getElem_cons_zero, List.setIfInBounds_toArray, List.set_cons_zero, List.set_cons_succ])
    refine wpAnyH_ready (rs := [3]) (by kernel_rfl) (by simp) (AllReadyH.cons rfl (fun K hK => ?_) AllReadyH.nil)
    go_simp
    refine hK.out _ _ (trivial) (fun hHeld => ?_)
    clear hK K
    (try simp only [Act.put, List.getElem_toArray, List.getElem_cons_succ, List.getElem_cons_zero, List.setIfInBounds_toArray, List.set_cons_zero, List.set_cons_succ])
    refine wpAnyH_ready (rs := [4]) (by kernel_rfl) (by simp) (AllReadyH.cons rfl (fun K hK => ?_) AllReadyH.nil)
    refine step_append (by kernel_rfl) rfl rfl rfl Hrun.out ?_
    refine hK.out _ _ (trivial) (fun hHeld => ?_)
    clear hK K
    (try simp only [Act.put, List.getElem_toArray, List.getElem_cons_succ, List.getElem_cons_zero, List.setIfInBounds_toArray, List.set_cons_zero, List.set_cons_succ])
    refine wpAnyH_ready (rs := [5]) (by kernel_rfl) (by simp) (AllReadyH.cons rfl (fun K hK => ?_) AllReadyH.nil)
    go_simp
    refine hK.out _ _ (trivial) (fun hHeld => ?_)
    clear hK K
    (try simp only [Act.put, List.getElem_toArray, List.getElem_cons_succ, List.getElem_cons_zero, List.setIfInBounds_toArray, List.set_cons_zero, List.set_cons_succ])
    refine wpAnyH_done (by kernel_rfl) ?_ _
    rotate_left
    go_simp
    refine Calls.mono (pair_any x.b kk vv KA VA KL kc VL vc W.drew n0 n1 (hkb.drewN 1) (hvb.drewN 1)) ?_
    rintro e w2 ⟨kv, vv', rfl, hmk, hmv, hB2⟩
    obtain ⟨A3, L3, c3, rfl⟩ := mine_shape hmk
    obtain ⟨A4, L4, c4, rfl⟩ := mine_shape hmv
    have hs2 : W.heap.size ≤ w2.heap.size := hB2.size
    have hB2' : Below W.heap.size W w2 := (below_drew W).trans hB2
    have hL2 : Boxed w2 S 55 (.slice A m c) := Blk.below hLW hB2' hLW.lt
    have hX2 : Boxed w2 (S + 1) 26 (.pointer (some ⟨T, 0, none⟩)) := Blk.below hXW hB2' hXW.lt
    have mA := (hmW.below hB2' (Nat.le_refl _)).alloc (.cells #[.slice A3 L3 c3, .slice A4 L4 c4] 24)
    have kA := (hmk.mono (base' := S + 2) (show S + 2 ≤ W.heap.size by omega)).alloc (.cells #[.slice A3 L3 c3, .slice A4 L4 c4] 24)
    have vA := (hmv.mono (base' := S + 2) (show S + 2 ≤ W.heap.size by omega)).alloc (.cells #[.slice A3 L3 c3, .slice A4 L4 c4] 24)
    have hLA := Blk.alloc hL2 (.cells #[.slice A3 L3 c3, .slice A4 L4 c4] 24)
    have hXA := Blk.alloc hX2 (.cells #[.slice A3 L3 c3, .slice A4 L4 c4] 24)
    have hnw := Blk.new w2 24 #[.slice A3 L3 c3, .slice A4 L4 c4]
    have hBA := (hBW.trans (hB2'.mono (by omega))).alloc (by omega) (.cells #[.slice A3 L3 c3, .slice A4 L4 c4] 24)
    have hkA : KeepsOthers W (w2.alloc (.cells #[.slice A3 L3 c3, .slice A4 L4 c4] 24)) := KeepsOthers.trans ⟨hs2, fun k o hk _ => (hB2'.block k (Array.getElem?_eq_some_iff.1 hk).1).trans hk⟩ (KeepsOthers.alloc _ _)
    obtain ⟨v', W3, hrun, hm3, hg3⟩ := append_pair (P := Try.prog) 55 Try.underlying55 info24 mA (by simp; omega) (h1 := (A3, L3, c3)) (h2 := (A4, L4, c4)) (f := (kk, vv)) kA vA (hnw.cell 0) (hnw.cell 1) (by omega)
    obtain ⟨A', m', c', rfl⟩ := hm3.shape
    have hB3 := hBA.trans (mA.grown hg3 (B := S) (by omega) (by simp; omega))
    have hne : ∀ b, b < S + 2 → (Value.slice A m c).ownBlock ≠ some b := fun b hb e => by have := (mA.own e).1; omega
    have hL3 : Blk W3 S 55 #[.slice A m c] := hLA.grown hg3 (fun e => hne S (by omega) e.symm)
    have hX3 : Blk W3 (S + 1) 26 _ := hXA.grown hg3 (fun e => hne (S + 1) (by omega) e.symm)
    have kL2 := hL2.cell
    have kLA := hLA.cell 0
    have kL3 := hL3.cell 0
    have fL3 := hL3.frozen 0
    have hko : KeepsOthers W W3 := hkA.trans (KeepsOthers.of_grownBy hg3 (fun j o ej ho => by
      obtain ⟨_, cs, r, h2⟩ := mA.own ej
      rw [h2] at ho
      cases ho
      rfl))
    have Hend : ∀ ac : Act, postW w1.heap.size (KpA S (S + 1)) (PrI w S (S + 1) S (S + 2) T ns) (fun _ _ _ => False) (i + 1) W .normal ac (W3.setCell ⟨S, 0, none⟩ (.slice A' m' c')) := fun ac => by
      have hBn := hB3.setCell (p := ⟨S, 0, none⟩) (Nat.le_refl _) (.slice A' m' c')
      have hX4 : Blk (W3.setCell ⟨S, 0, none⟩ (.slice A' m' c')) (S + 1) 26 _ := hX3.far (p := ⟨S, 0, none⟩) (by simp) _
      have hWn : Below S W (W3.setCell ⟨S, 0, none⟩ (.slice A' m' c')) := ⟨hBn.os.trans hBW.os.symm, hBn.tape.trans hBW.tape.symm, hBn.output.trans hBW.output.symm, by have := hko.size; simpa using this, fun k hk => (hBn.block k hk).trans (hBW.block k hk).symm⟩
      refine ⟨(hko.trans (KeepsOthers.setCell _ _ _)).from _, ⟨hWn, hX4.trans hXW.symm⟩, hBn, hX4, _, hL3.put 0 _, ?_⟩
      rw [Hsucc.out]
      exact hm3.setCell (p := ⟨S, 0, none⟩) (by simp only; omega) _
    replace Hend := hide Hend
    have Hrun := hide hrun
    clear mA kA vA hLA hXA hBA hm3 hg3 hrun hL3 hX3 hko hB3 hkA hL2 hX2 hnw hmk hmv
    refine hK.out _ _ (trivial) (fun hHeld => ?_)
    clear hK K
    (try simp only [Act.put, List.getElem_toArray, List.getElem_cons_succ, List.getElem_cons_zero, List.setIfInBounds_toArray, List.set_cons_zero, List.set_cons_succ])
    refine wpAnyH_ready (rs := [0, 3]) (by kernel_rfl) (by simp) (AllReadyH.cons rfl (fun K hK => ?_) (AllReadyH.cons rfl (fun K hK => ?_) AllReadyH.nil))
    go_simp
    refine hK.out _ _ (trivial) (fun hHeld => ?_)
    clear hK K
    (try simp only [Act.put, List.getElem_toArray, List.getElem_cons_succ, List.getElem_cons_zero, List.setIfInBounds_toArray, List.set_cons_zero, List.set_cons_succ])
    refine wpAnyH_ready (rs := [3]) (by kernel_rfl) (by simp) (AllReadyH.cons rfl (fun K hK => ?_) AllReadyH.nil)
    go_simp
    refine hK.out _ _ (trivial) (fun hHeld => ?_)
    clear hK K
    (try simp only [Act.put, List.getElem_toArray, List.getElem_cons_succ, List.getElem_cons_zero, List.setIfInBounds_toArray, List.set_cons_zero, List.set_cons_succ])
    refine wpAnyH_ready (rs := [4]) (by kernel_rfl) (by simp) (AllReadyH.cons rfl (fun K hK => ?_) AllReadyH.nil)
    refine step_append (by kernel_rfl) rfl rfl rfl Hrun.out ?_
    refine hK.out _ _ (trivial) (fun hHeld => ?_)
    clear hK K
    (try simp only [Act.put, List.getElem_toArray, List.getElem_cons_succ, List.getElem_cons_zero, List.setIfInBounds_toArray, List.set_cons_zero, List.set_cons_succ])
    refine wpAnyH_ready (rs := [5]) (by kernel_rfl) (by simp) (AllReadyH.cons rfl (fun K hK => ?_) AllReadyH.nil)
    go_simp
    refine hK.out _ _ (trivial) (fun hHeld => ?_)
    clear hK K
    (try simp only [Act.put, List.getElem_toArray, List.getElem_cons_succ, List.getElem_cons_zero, List.setIfInBounds_toArray, List.set_cons_zero, List.set_cons_succ])
    refine wpAnyH_done (by kernel_rfl) ?_ _
    rotate_left
    go_simp
    refine hK.out _ _ (trivial) (fun hHeld => ?_)
    clear hK K
    (try simp only [Act.put, List.getElem_toArray, List.getElem_cons_succ, List.getElem_cons_zero, List.setIfInBounds_toArray, List.set_cons_zero, List.set_cons_succ])
    refine wpAnyH_ready (rs := [0]) (by kernel_rfl) (by simp) (AllReadyH.cons rfl (fun K hK => ?_) AllReadyH.nil)
    go_simp
    refine hK.out _ _ (trivial) (fun hHeld => ?_)
    clear hK K
    (try simp only [Act.put, List.getElem_toArray, List.getElem_cons_succ, List.getElem_cons_zero, List.setIfInBounds_toArray, List.set_cons_zero, List.set_cons_succ])
    refine wpAnyH_ready (rs := [4]) (by kernel_rfl) (by simp) (AllReadyH.cons rfl (fun K hK => ?_) AllReadyH.nil)
    refine step_append (by kernel_rfl) rfl rfl rfl Hrun.out ?_
    refine hK.out _ _ (trivial) (fun hHeld => ?_)
    clear hK K
    (try simp only [Act.put, List.getElem_toArray, List.getElem_cons_succ, List.getElem_cons_zero, List.setIfInBounds_toArray, List.set_cons_zero, List.set_cons_succ])
    refine wpAnyH_ready (rs := [5]) (by kernel_rfl) (by simp) (AllReadyH.cons rfl (fun K hK => ?_) AllReadyH.nil)
    go_simp
    refine hK.out _ _ (trivial) (fun hHeld => ?_)
    clear hK K
    (try simp only [Act.put, List.getElem_toArray, List.getElem_cons_succ, List.getElem_cons_zero, List.setIfInBounds_toArray, List.set_cons_zero, List.set_cons_succ])
    refine wpAnyH_done (by kernel_rfl) ?_ _
    rotate_left
    · refine ⟨rfl, ?_⟩
      gi_wp2
      exact Hend.out _
    · refine ⟨rfl, ?_⟩
      gi_wp2
      exact Hend.out _
    · refine ⟨rfl, ?_⟩
      gi_wp2
      exact Hend.out _
  case done =>
    rintro D W hD ⟨hBW, hXW, v, hLW, hmW⟩ hK
    have kL := hLW.cell
    obtain ⟨A, m, c, rfl⟩ := hmW.shape
    gi_wp2
    refine ⟨by simp, .inl ⟨_, _, rfl, run_takeDeferred hK, ?_⟩⟩
    refine ⟨.slice A m c, by simp [results, Try.f12, go_sem], ⟨_, rfl, ?_⟩, by rw [hS]; exact below_putObj hBW (l := D) (by omega) _⟩
    have := hmW.putObj hK rfl (.deferred none)
    have e : pairN ns ns.length = ns.map fun d => (d.k, d.v) := by unfold pairN; rw [List.take_length]
    rw [← e]
    exact this.mono (by omega)
  case stop =>
    rintro D c i W _ _ hh _
    exact hh.elim

end Go.Proofs.Ytkbjbjkgohkkjaa

/-
  The walks of pair, and of tower: a node's pair in new memory; how high the next tower is. Condition: the node's slices read as bytes, the towers as numbers. (The drawn regions printed by gen_pair.py.)
-/
import Derived.Test.YtkbjbjkgohkkjaaGet
import Derived.Deep.RegionHeld3
namespace Go.Proofs.Ytkbjbjkgohkkjaa
open Go.RowKit Go.Shelf

theorem below_drew (w : World) : Below w.heap.size w w.drew := ⟨rfl, rfl, rfl, Nat.le_refl _, fun _ _ => rfl⟩

/-- a pair in new memory -/
def Paired (w : World) (kk vv : List UInt8) (e : Ending) (w' : World) : Prop := ∃ kv vv', e = .returned (.agg #[kv, vv']) ∧ Mine 5 w' w.heap.size kv kk ∧ Mine 5 w' w.heap.size vv' vv ∧ Below w.heap.size w w'

set_option maxRecDepth 100000 in
set_option maxHeartbeats 2000000 in
theorem pair_any (b : Nat) (kk vv : List UInt8) (KA VA : Option Addr) (KL kc VL vc : Nat) (w : World) (hb0 : w.cell? ⟨b, 0, none⟩ = some (.slice KA KL kc)) (hb1 : w.cell? ⟨b, 1, none⟩ = some (.slice VA VL vc))
    (hk : Bs w w.heap.size KA KL kc kk) (hv : Bs w w.heap.size VA VL vc vv) : Calls Try.prog 33 #[.pointer (some ⟨b, 0, none⟩)] w (Paired w kk vv) := by
  have hbl0 : b < w.heap.size := World.block_lt_of_cell? w ⟨b, 0, none⟩ hb0
  go_enter Try.func33, Try.ntmps33
  go_wp2
  have x1 := Blk.new w 24 #[.slice none 0 0, .slice none 0 0]
  have hB1 := (Below.refl _ w).alloc (Nat.le_refl _) (.cells #[.slice none 0 0, .slice none 0 0] 24)
  have c0' : (w.alloc (.cells #[.slice none 0 0, .slice none 0 0] 24)).drew.cell? ⟨b, 0, none⟩ = some (.slice KA KL kc) := (hB1.cell (p := ⟨b, 0, none⟩) hbl0).trans hb0
  have c1' : (w.alloc (.cells #[.slice none 0 0, .slice none 0 0] 24)).drew.cell? ⟨b, 1, none⟩ = some (.slice VA VL vc) := (hB1.cell (p := ⟨b, 1, none⟩) hbl0).trans hb1
  have hk1 := (hk.below hB1).more hB1.size
  have hv1 := (hv.below hB1).more hB1.size
  have hbl : b < (w.alloc (.cells #[.slice none 0 0, .slice none 0 0] 24)).heap.size := by simp; omega
  generalize w.alloc (.cells #[.slice none 0 0, .slice none 0 0] 24) = w1 at *
  refine wp_region_held_drew (S := fun W' => W'.cell? ⟨b, 0, none⟩ = some (.slice KA KL kc) ∧ W'.cell? ⟨b, 1, none⟩ = some (.slice VA VL vc)) (by kernel_rfl) (⟨c0', c1'⟩) (fun hHeld => ?_)
  refine wpAnyH_take (i := 0) (v := ?_) rfl (by kernel_rfl) (by kernel_rfl) (by kernel_rfl) (fun _ _ _ h => h) (Or.inl ⟨by kernel_rfl, ?_⟩) (by assumption) ?_
  rotate_left
  · (intro w hSw; (try dsimp only at hSw); go_simp; try with_reducible rfl)
  (try simp only [Act.put, List.getElem_toArray, List.getElem_cons_succ, List.getElem_cons_zero, List.setIfInBounds_toArray, List.set_cons_zero, List.set_cons_succ])
  refine wpAnyH_take (i := 1) (v := ?_) rfl (by kernel_rfl) (by kernel_rfl) (by kernel_rfl) (fun _ _ _ h => h) (Or.inl ⟨by kernel_rfl, ?_⟩) (by assumption) ?_
  rotate_left
  · (intro w hSw; (try dsimp only at hSw); go_simp; try with_reducible rfl)
  (try simp only [Act.put, List.getElem_toArray, List.getElem_cons_succ, List.getElem_cons_zero, List.setIfInBounds_toArray, List.set_cons_zero, List.set_cons_succ])
  refine wpAnyH_take (i := 2) (v := ?_) rfl (by kernel_rfl) (by kernel_rfl) (by kernel_rfl) (fun _ _ _ h => h) (Or.inl ⟨by kernel_rfl, ?_⟩) (by assumption) ?_
  rotate_left
  · (intro w hSw; (try dsimp only at hSw); go_simp; try with_reducible rfl)
  (try simp only [Act.put, List.getElem_toArray, List.getElem_cons_succ, List.getElem_cons_zero, List.setIfInBounds_toArray, List.set_cons_zero, List.set_cons_succ])
  refine wpAnyH_take (i := 3) (v := ?_) rfl (by kernel_rfl) (by kernel_rfl) (by kernel_rfl) (fun _ _ _ h => h) (Or.inl ⟨by kernel_rfl, ?_⟩) (by assumption) ?_
  rotate_left
  · (intro w hSw; (try dsimp only at hSw); go_simp; try with_reducible rfl)
  (try simp only [Act.put, List.getElem_toArray, List.getElem_cons_succ, List.getElem_cons_zero, List.setIfInBounds_toArray, List.set_cons_zero, List.set_cons_succ])
  refine wpAnyH_take (i := 5) (v := ?_) rfl (by kernel_rfl) (by kernel_rfl) (by kernel_rfl) (fun _ _ _ h => h) (Or.inl ⟨by kernel_rfl, ?_⟩) (by assumption) ?_
  rotate_left
  · (intro w hSw; (try dsimp only at hSw); go_simp; try with_reducible rfl)
  (try simp only [Act.put, List.getElem_toArray, List.getElem_cons_succ, List.getElem_cons_zero, List.setIfInBounds_toArray, List.set_cons_zero, List.set_cons_succ])
  refine wpAnyH_take (i := 6) (v := ?_) rfl (by kernel_rfl) (by kernel_rfl) (by kernel_rfl) (fun _ _ _ h => h) (Or.inl ⟨by kernel_rfl, ?_⟩) (by assumption) ?_
  rotate_left
  · (intro w hSw; (try dsimp only at hSw); go_simp; try with_reducible rfl)
  (try simp only [Act.put, List.getElem_toArray, List.getElem_cons_succ, List.getElem_cons_zero, List.setIfInBounds_toArray, List.set_cons_zero, List.set_cons_succ])
  refine wpAnyH_take (i := 7) (v := ?_) rfl (by kernel_rfl) (by kernel_rfl) (by kernel_rfl) (fun _ _ _ h => h) (Or.inl ⟨by kernel_rfl, ?_⟩) (by assumption) ?_
  rotate_left
  · (intro w hSw; (try dsimp only at hSw); go_simp; try with_reducible rfl)
  (try simp only [Act.put, List.getElem_toArray, List.getElem_cons_succ, List.getElem_cons_zero, List.setIfInBounds_toArray, List.set_cons_zero, List.set_cons_succ])
  refine wpAnyH_take (i := 8) (v := ?_) rfl (by kernel_rfl) (by kernel_rfl) (by kernel_rfl) (fun _ _ _ h => h) (Or.inl ⟨by kernel_rfl, ?_⟩) (by assumption) ?_
  rotate_left
  · (intro w hSw; (try dsimp only at hSw); go_simp; try with_reducible rfl)
  (try simp only [Act.put, List.getElem_toArray, List.getElem_cons_succ, List.getElem_cons_zero, List.setIfInBounds_toArray, List.set_cons_zero, List.set_cons_succ])
  refine wpAnyH_ready (rs := [4]) (by kernel_rfl) (by simp) (AllReadyH.cons rfl (fun K hK => ?_) AllReadyH.nil)
  go_simp
  refine Calls.mono (clone_any kk KA KL kc _ w1.drew (hk1.drewN 1) (Nat.le_refl _)) ?_
  rintro e w2 ⟨v2, rfl, hm2, hB2⟩
  have q0 := (hB2.cell (p := ⟨b, 0, none⟩) hbl).trans c0'
  have q1 := (hB2.cell (p := ⟨b, 1, none⟩) hbl).trans c1'
  have hv2 := (hv1.drewN 1).below hB2
  obtain ⟨A2, m2', d2, rfl⟩ := mine_shape hm2
  refine hK.out _ _ (⟨q0, q1⟩) (fun hHeld => ?_)
  clear hK K
  (try simp only [Act.put, List.getElem_toArray, List.getElem_cons_succ, List.getElem_cons_zero, List.setIfInBounds_toArray, List.set_cons_zero, List.set_cons_succ])
  refine wpAnyH_ready (rs := [9]) (by kernel_rfl) (by simp) (AllReadyH.cons rfl (fun K hK => ?_) AllReadyH.nil)
  go_simp
  refine Calls.mono (clone_any vv VA VL vc _ w2 (hv2.more hB2.size) (Nat.le_refl _)) ?_
  rintro e w3 ⟨v3, rfl, hm3, hB3⟩
  have r0 := (hB3.cell (p := ⟨b, 0, none⟩) (Nat.lt_of_lt_of_le hbl hB2.size)).trans q0
  have r1 := (hB3.cell (p := ⟨b, 1, none⟩) (Nat.lt_of_lt_of_le hbl hB2.size)).trans q1
  obtain ⟨A3, m3', d3, rfl⟩ := mine_shape hm3
  have x3 := (((x1.drewN 1).below hB2 x1.lt).below hB3 (Nat.lt_of_lt_of_le x1.lt hB2.size))
  have x30 := x3.cell 0
  have x31 := x3.cell 1
  have f30 := x3.frozen 0
  have f31 := x3.frozen 1
  have hne : ¬ b = w.heap.size := by omega
  have hne' : ¬ w.heap.size = b := by omega
  refine hK.out _ _ (⟨r0, r1⟩) (fun hHeld => ?_)
  clear hK K
  (try simp only [Act.put, List.getElem_toArray, List.getElem_cons_succ, List.getElem_cons_zero, List.setIfInBounds_toArray, List.set_cons_zero, List.set_cons_succ])
  refine wpAnyH_take (i := 10) (v := ?_) rfl (by kernel_rfl) (by kernel_rfl) (by kernel_rfl) (fun _ _ _ h => h) (Or.inl ⟨by kernel_rfl, ?_⟩) (by assumption) ?_
  rotate_left
  · (intro w hSw; (try dsimp only at hSw); go_simp; try with_reducible rfl)
  (try simp only [Act.put, List.getElem_toArray, List.getElem_cons_succ, List.getElem_cons_zero, List.setIfInBounds_toArray, List.set_cons_zero, List.set_cons_succ])
  refine wpAnyH_ready (rs := [11]) (by kernel_rfl) (by simp) (AllReadyH.cons rfl (fun K hK => ?_) AllReadyH.nil)
  go_simp
  have hBs := ((Below.refl w.heap.size w3).setCell (p := ⟨w.heap.size, 0, none⟩) (Nat.le_refl _) (.slice A2 m2' d2)).setCell (p := ⟨w.heap.size, 1, none⟩) (Nat.le_refl _) (.slice A3 m3' d3)
  have x4 := (x3.put 0 (.slice A2 m2' d2)).put 1 (.slice A3 m3' d3)
  refine hK.out _ _ (⟨(hBs.cell (p := ⟨b, 0, none⟩) hbl0).trans r0, (hBs.cell (p := ⟨b, 1, none⟩) hbl0).trans r1⟩) (fun hHeld => ?_)
  clear hK K
  (try simp only [Act.put, List.getElem_toArray, List.getElem_cons_succ, List.getElem_cons_zero, List.setIfInBounds_toArray, List.set_cons_zero, List.set_cons_succ])
  refine wpAnyH_done (by kernel_rfl) ?_ _
  obtain ⟨w4, hw4⟩ : ∃ w4, (w3.setCell ⟨w.heap.size, 0, none⟩ (.slice A2 m2' d2)).setCell ⟨w.heap.size, 1, none⟩ (.slice A3 m3' d3) = w4 := ⟨_, rfl⟩
  rw [hw4] at hBs x4 ⊢
  have y0 := x4.cell 0
  have y1 := x4.cell 1
  have hlw : w.heap.size < w1.heap.size := x1.lt
  have m2 := ((hm2.below hB3 (Nat.le_refl _)).setCell (p := ⟨w.heap.size, 0, none⟩) hlw (.slice A2 m2' d2)).setCell (p := ⟨w.heap.size, 1, none⟩) hlw (.slice A3 m3' d3)
  have hlw2 : w.heap.size < w2.heap.size := Nat.lt_of_lt_of_le hlw hB2.size
  have m3 := (hm3.setCell (p := ⟨w.heap.size, 0, none⟩) hlw2 (.slice A2 m2' d2)).setCell (p := ⟨w.heap.size, 1, none⟩) hlw2 (.slice A3 m3' d3)
  rw [hw4] at m2 m3
  have hBf : Below w.heap.size w w4 := ((hB1.trans (((below_drew w1).trans hB2).mono hB1.size)).trans (hB3.mono (by omega))).trans hBs
  clear hm2 hm3 hB2 hB3 hBs hw4 x3 hHeld
  go_wp2
  refine ⟨rfl, .agg #[.slice A2 m2' d2, .slice A3 m3' d3], ?_, _, _, rfl, m2.mono (Nat.le_of_lt hlw), m3.mono (Nat.le_of_lt hlw2), hBf⟩
  simp [results, Try.f33, go_sem, y0, y1]

/-- how high tower number m is, of the towers as drawn -/
def towN (tw : List Int) (m : Nat) : Nat := if h : 0 < tw.length then (min (max (tw[m % tw.length]'(Nat.mod_lt _ h)) 1) 12).toNat else 1
theorem towN_bound (tw : List Int) (m : Nat) : 1 ≤ towN tw m ∧ towN tw m ≤ 12 := by
  unfold towN
  split
  · omega
  · omega

set_option maxRecDepth 100000 in
set_option maxHeartbeats 2000000 in
theorem tower_any (T base : Nat) (tw : List Int) (ns : List Nd) (cnt : Nat) (sl : Bool) (hd : Nw) (ms : List Nw) (w : World) (h : Tm w T base tw ns cnt sl hd ms) (hn : ns.length ≤ 4611686018427387904) (htw : tw.length ≤ 4611686018427387904)
    (hz : ∀ z ∈ tw, -9223372036854775808 ≤ z ∧ z ≤ 9223372036854775807) :
    Calls Try.prog 37 #[.pointer (some ⟨T, 0, none⟩)] w fun e w' => e = .returned (.int .i64 (towN tw ns.length : Int)) ∧ w' = w.drew ∨ e = .returned (.int .i64 (towN tw ns.length : Int)) ∧ w' = w := by
  have h4 := h.c4
  obtain ⟨tv, hb, hm⟩ := h.tab
  rcases hm.2 with ⟨rfl, hl0⟩ | ⟨g, cap, cur, rfl, hg, hh, hnc, hr⟩
  · have c1 : w.cell? ⟨T, 1, none⟩ = some (.slice none 0 0) := hb.cell 1
    have e1 : towN tw ns.length = 1 := by unfold towN; rw [dif_neg (by omega)]
    rw [e1]
    go_enter Try.func37, Try.ntmps37
    go_wp2
    go_ret
    exact .inr ⟨rfl, rfl⟩
  · have c1 : w.cell? ⟨T, 1, none⟩ = some (.slice (some ⟨g, 0, none⟩) tw.length cap) := hb.cell 1
    by_cases h0 : 0 < tw.length
    · have hlt := Nat.mod_lt ns.length h0
      have hcz : w.cell? ⟨g, ns.length % tw.length, none⟩ = some (.int .i64 (tw[ns.length % tw.length])) := by
        have := World.ownsRow.cells hm (g := g) rfl (ns.length % tw.length) (iv tw[ns.length % tw.length]) (by rw [List.getElem?_map, List.getElem?_eq_getElem hlt]; rfl)
        rw [Addr.add_lit] at this
        simpa [iv] using this
      have e1 : towN tw ns.length = (min (max (tw[ns.length % tw.length]) 1) 12).toNat := by unfold towN; rw [dif_pos h0]
      have hbz := hz _ (List.getElem_mem hlt)
      rw [e1]
      generalize tw[ns.length % tw.length] = z at *
      generalize htn : tw.length = tn at *
      have hem : ((min (max z 1) 12).toNat : Int) = min (max z 1) 12 := by omega
      obtain ⟨zz, hzz⟩ : ∃ zz, min (max z 1) 12 = zz := ⟨_, rfl⟩
      rw [hem, hzz]
      have Hzz := hide hzz
      clear hem hzz
      have hmod : ((ns.length : Int)).tmod (tn : Int) = ((ns.length % tn : Nat) : Int) := by
        rw [Int.tmod_eq_emod_of_nonneg (by omega)]
        rfl
      have i0 : (0 : Int) ≤ ((ns.length % tn : Nat) : Int) := by omega
      have i1 : ((ns.length % tn : Nat) : Int) < (tn : Int) := by omega
      have i2 : ¬ tn = 0 := by omega
      have hmod2 : (ns.length : Int) % (tn : Int) = ((ns.length % tn : Nat) : Int) := by omega
      have i3 : (((ns.length % tn : Nat) : Int)).toNat = ns.length % tn := by omega
      obtain ⟨r, hr'⟩ : ∃ r, ns.length % tn = r := ⟨_, rfl⟩
      rw [hr'] at hmod hmod2 i0 i1 i3 hcz
      clear hr' hlt
      have hSS : w.drew.cell? ⟨T, 1, none⟩ = some (.slice (some ⟨g, 0, none⟩) tn cap) ∧ w.drew.cell? ⟨T, 4, none⟩ = some (.int .i64 (ns.length : Int)) ∧ w.drew.cell? ⟨g, r, none⟩ = some (.int .i64 z) := ⟨c1, h4, hcz⟩
      clear hm hh hr e1
      go_enter Try.func37, Try.ntmps37
      go_wp2
      refine wp_region_held_drew (S := fun W' => W'.cell? ⟨T, 1, none⟩ = some (.slice (some ⟨g, 0, none⟩) tn cap) ∧ W'.cell? ⟨T, 4, none⟩ = some (.int .i64 (ns.length : Int)) ∧ W'.cell? ⟨g, r, none⟩ = some (.int .i64 z)) (by kernel_rfl) (hSS) (fun hHeld => ?_)
      refine wpAnyH_take (i := 0) (v := ?_) rfl (by kernel_rfl) (by kernel_rfl) (by kernel_rfl) (fun _ _ _ h => h) (Or.inl ⟨by kernel_rfl, ?_⟩) (by assumption) ?_
      rotate_left
      · (intro w hSw; (try dsimp only at hSw); go_simp; try with_reducible rfl)
      (try simp only [Act.put, List.getElem_toArray, List.getElem_cons_succ, List.getElem_cons_zero, List.setIfInBounds_toArray, List.set_cons_zero, List.set_cons_succ])
      refine wpAnyH_take (i := 1) (v := ?_) rfl (by kernel_rfl) (by kernel_rfl) (by kernel_rfl) (fun _ _ _ h => h) (Or.inl ⟨by kernel_rfl, ?_⟩) (by assumption) ?_
      rotate_left
      · (intro w hSw; (try dsimp only at hSw); go_simp; try with_reducible rfl)
      (try simp only [Act.put, List.getElem_toArray, List.getElem_cons_succ, List.getElem_cons_zero, List.setIfInBounds_toArray, List.set_cons_zero, List.set_cons_succ])
      refine wpAnyH_take (i := 2) (v := ?_) rfl (by kernel_rfl) (by kernel_rfl) (by kernel_rfl) (fun _ _ _ h => h) (Or.inl ⟨by kernel_rfl, ?_⟩) (by assumption) ?_
      rotate_left
      · (intro w hSw; (try dsimp only at hSw); go_simp; try with_reducible rfl)
      (try simp only [Act.put, List.getElem_toArray, List.getElem_cons_succ, List.getElem_cons_zero, List.setIfInBounds_toArray, List.set_cons_zero, List.set_cons_succ])
      refine wpAnyH_take (i := 3) (v := ?_) rfl (by kernel_rfl) (by kernel_rfl) (by kernel_rfl) (fun _ _ _ h => h) (Or.inl ⟨by kernel_rfl, ?_⟩) (by assumption) ?_
      rotate_left
      · (intro w hSw; (try dsimp only at hSw); go_simp; try with_reducible rfl)
      (try simp only [Act.put, List.getElem_toArray, List.getElem_cons_succ, List.getElem_cons_zero, List.setIfInBounds_toArray, List.set_cons_zero, List.set_cons_succ])
      refine wpAnyH_take (i := 4) (v := ?_) rfl (by kernel_rfl) (by kernel_rfl) (by kernel_rfl) (fun _ _ _ h => h) (Or.inl ⟨by kernel_rfl, ?_⟩) (by assumption) ?_
      rotate_left
      · (intro w hSw; (try dsimp only at hSw); go_simp; try with_reducible rfl)
      (try simp only [Act.put, List.getElem_toArray, List.getElem_cons_succ, List.getElem_cons_zero, List.setIfInBounds_toArray, List.set_cons_zero, List.set_cons_succ])
      refine wpAnyH_take (i := 5) (v := ?_) rfl (by kernel_rfl) (by kernel_rfl) (by kernel_rfl) (fun _ _ _ h => h) (Or.inl ⟨by kernel_rfl, ?_⟩) (by assumption) ?_
      rotate_left
      · (intro w hSw; (try dsimp only at hSw); go_simp; try with_reducible rfl)
      (try simp only [Act.put, List.getElem_toArray, List.getElem_cons_succ, List.getElem_cons_zero, List.setIfInBounds_toArray, List.set_cons_zero, List.set_cons_succ])
      refine wpAnyH_take (i := 6) (v := ?_) rfl (by kernel_rfl) (by kernel_rfl) (by kernel_rfl) (fun _ _ _ h => h) (Or.inl ⟨by kernel_rfl, ?_⟩) (by assumption) ?_
      rotate_left
      · (intro w hSw; (try dsimp only at hSw); go_simp; try with_reducible rfl)
      (try simp only [Act.put, List.getElem_toArray, List.getElem_cons_succ, List.getElem_cons_zero, List.setIfInBounds_toArray, List.set_cons_zero, List.set_cons_succ])
      refine wpAnyH_take (i := 8) (v := ?_) rfl (by kernel_rfl) (by kernel_rfl) (by kernel_rfl) (fun _ _ _ h => h) (Or.inl ⟨by kernel_rfl, ?_⟩) (by assumption) ?_
      rotate_left
      · (intro w hSw; (try dsimp only at hSw); go_simp; try with_reducible rfl)
      (try simp only [Act.put, List.getElem_toArray, List.getElem_cons_succ, List.getElem_cons_zero, List.setIfInBounds_toArray, List.set_cons_zero, List.set_cons_succ])
      refine wpAnyH_take (i := 9) (v := ?_) rfl (by kernel_rfl) (by kernel_rfl) (by kernel_rfl) (fun _ _ _ h => h) (Or.inl ⟨by kernel_rfl, ?_⟩) (by assumption) ?_
      rotate_left
      · (intro w hSw; (try dsimp only at hSw); go_simp; try with_reducible rfl)
      (try simp only [Act.put, List.getElem_toArray, List.getElem_cons_succ, List.getElem_cons_zero, List.setIfInBounds_toArray, List.set_cons_zero, List.set_cons_succ])
      refine wpAnyH_take (i := 10) (v := ?_) rfl (by kernel_rfl) (by kernel_rfl) (by kernel_rfl) (fun _ _ _ h => h) (Or.inl ⟨by kernel_rfl, ?_⟩) (by assumption) ?_
      rotate_left
      · (intro w hSw; (try dsimp only at hSw); go_simp; try with_reducible rfl)
      (try simp only [Act.put, List.getElem_toArray, List.getElem_cons_succ, List.getElem_cons_zero, List.setIfInBounds_toArray, List.set_cons_zero, List.set_cons_succ])
      refine wpAnyH_take (i := 11) (v := ?_) rfl (by kernel_rfl) (by kernel_rfl) (by kernel_rfl) (fun _ _ _ h => h) (Or.inl ⟨by kernel_rfl, ?_⟩) (by assumption) ?_
      rotate_left
      · (intro w hSw; (try dsimp only at hSw); go_simp; try with_reducible rfl)
      (try simp only [Act.put, List.getElem_toArray, List.getElem_cons_succ, List.getElem_cons_zero, List.setIfInBounds_toArray, List.set_cons_zero, List.set_cons_succ])
      refine wpAnyH_take (i := 12) (v := ?_) rfl (by kernel_rfl) (by kernel_rfl) (by kernel_rfl) (fun _ _ _ h => h) (Or.inl ⟨by kernel_rfl, ?_⟩) (by assumption) ?_
      rotate_left
      · (intro w hSw; (try dsimp only at hSw); go_simp; try with_reducible rfl)
      (try simp only [Act.put, List.getElem_toArray, List.getElem_cons_succ, List.getElem_cons_zero, List.setIfInBounds_toArray, List.set_cons_zero, List.set_cons_succ])
      refine wpAnyH_ready (rs := [7]) (by kernel_rfl) (by simp) (AllReadyH.cons rfl (fun K hK => ?_) AllReadyH.nil)
      go_simp
      refine Calls.mono (load64_any T 4 _ w.drew h4) ?_
      rintro e w' ⟨rfl, rfl⟩
      refine hK.out _ _ (hSS) (fun hHeld => ?_)
      clear hK K
      (try simp only [Act.put, List.getElem_toArray, List.getElem_cons_succ, List.getElem_cons_zero, List.setIfInBounds_toArray, List.set_cons_zero, List.set_cons_succ])
      refine wpAnyH_take (i := 13) (v := ?_) rfl (by kernel_rfl) (by kernel_rfl) (by kernel_rfl) (fun _ _ _ h => h) (Or.inl ⟨by kernel_rfl, ?_⟩) (by assumption) ?_
      rotate_left
      · (intro w hSw; (try dsimp only at hSw); go_simp; try with_reducible rfl)
      (try simp only [Act.put, List.getElem_toArray, List.getElem_cons_succ, List.getElem_cons_zero, List.setIfInBounds_toArray, List.set_cons_zero, List.set_cons_succ])
      refine wpAnyH_take (i := 14) (v := ?_) rfl (by kernel_rfl) (by kernel_rfl) (by kernel_rfl) (fun _ _ _ h => h) (Or.inl ⟨by kernel_rfl, ?_⟩) (by assumption) ?_
      rotate_left
      · (intro w hSw; (try dsimp only at hSw); go_simp; try with_reducible rfl)
      (try simp only [Act.put, List.getElem_toArray, List.getElem_cons_succ, List.getElem_cons_zero, List.setIfInBounds_toArray, List.set_cons_zero, List.set_cons_succ])
      refine wpAnyH_take (i := 15) (v := ?_) rfl (by kernel_rfl) (by kernel_rfl) (by kernel_rfl) (fun _ _ _ h => h) (Or.inl ⟨by kernel_rfl, ?_⟩) (by assumption) ?_
      rotate_left
      · (intro w hSw; (try dsimp only at hSw); go_simp; try with_reducible rfl)
      (try simp only [Act.put, List.getElem_toArray, List.getElem_cons_succ, List.getElem_cons_zero, List.setIfInBounds_toArray, List.set_cons_zero, List.set_cons_succ])
      refine wpAnyH_ready (rs := [16]) (by kernel_rfl) (by simp) (AllReadyH.cons rfl (fun K hK => ?_) AllReadyH.nil)
      go_simp
      refine hK.out _ _ (hSS) (fun hHeld => ?_)
      clear hK K
      (try simp only [Act.put, List.getElem_toArray, List.getElem_cons_succ, List.getElem_cons_zero, List.setIfInBounds_toArray, List.set_cons_zero, List.set_cons_succ])
      refine wpAnyH_ready (rs := [17]) (by kernel_rfl) (by simp) (AllReadyH.cons rfl (fun K hK => ?_) AllReadyH.nil)
      go_simp
      refine hK.out _ _ (hSS) (fun hHeld => ?_)
      clear hK K
      (try simp only [Act.put, List.getElem_toArray, List.getElem_cons_succ, List.getElem_cons_zero, List.setIfInBounds_toArray, List.set_cons_zero, List.set_cons_succ])
      refine wpAnyH_take (i := 18) (v := ?_) rfl (by kernel_rfl) (by kernel_rfl) (by kernel_rfl) (fun _ _ _ h => h) (Or.inl ⟨by kernel_rfl, ?_⟩) (by assumption) ?_
      rotate_left
      · (intro w hSw; (try dsimp only at hSw); go_simp; try with_reducible rfl)
      (try simp only [Act.put, List.getElem_toArray, List.getElem_cons_succ, List.getElem_cons_zero, List.setIfInBounds_toArray, List.set_cons_zero, List.set_cons_succ])
      refine wpAnyH_done (by kernel_rfl) ?_ _
      have hmm : (if 12 < if z < 1 then (1 : Int) else z then (12 : Int) else if z < 1 then 1 else z) = zz := by
        have hzz := Hzz.out
        by_cases h1 : z < 1
        · simp only [if_pos h1]
          rw [if_neg (by omega)]
          omega
        · simp only [if_neg h1]
          by_cases h2 : 12 < z
          · rw [if_pos h2]
            omega
          · rw [if_neg h2]
            omega
      rw [hmm]
      go_wp2
      all_goals go_ret
      all_goals exact .inl ⟨rfl, rfl⟩
    · have e1 : towN tw ns.length = 1 := by unfold towN; rw [dif_neg h0]
      have ez : tw.length = 0 := by omega
      rw [e1]
      rw [ez] at c1
      go_enter Try.func37, Try.ntmps37
      go_wp2
      go_ret
      exact .inr ⟨rfl, rfl⟩

end Go.Proofs.Ytkbjbjkgohkkjaa

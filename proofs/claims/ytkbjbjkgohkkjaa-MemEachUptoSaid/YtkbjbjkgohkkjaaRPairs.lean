/-
  The walk of the document's Pairs: its pairs in new memory. Condition: the document's table lies in memory. (The drawn region printed by gen_rpairs.py.)
-/
import Derived.Test.YtkbjbjkgohkkjaaLiQ
namespace Go.Proofs.Ytkbjbjkgohkkjaa
open Go.RowKit Go.Shelf

theorem rp_end {w W w2 : World} {A A3 A4 : Option Addr} {m c L3 c3 L4 c4 : Nat} {fs : List Pr} {k v : List UInt8} (hBW : Below w.heap.size w W) (mQ : MineQ W w.heap.size (.slice A m c) fs) (hl : fs.length ≤ 1000000) (hB : Below W.heap.size W w2)
    (fk : Fro w2 W.heap.size (.slice A3 L3 c3) k) (fv : Fro w2 W.heap.size (.slice A4 L4 c4) v) :
    ∃ A' m' c' W', (Builtin.append_ #[55, 55] 55 #[.slice A m c, .slice (some ⟨w2.heap.size, 0, none⟩) 1 1]).run Try.prog (w2.alloc (.cells #[.slice A3 L3 c3, .slice A4 L4 c4] 24)) = .ok (.slice A' m' c') W' ∧ MineQ W' w.heap.size (.slice A' m' c') (fs ++ [(k, v)]) ∧
      Below w.heap.size w w2 ∧ Below w.heap.size w (w2.alloc (.cells #[.slice A3 L3 c3, .slice A4 L4 c4] 24)) ∧ Below w.heap.size w W' := by
  have hs := hBW.size
  have hs2 := hB.size
  have hb2 := hBW.trans (hB.mono hs)
  have hb3 := hb2.alloc (by omega) (.cells #[.slice A3 L3 c3, .slice A4 L4 c4] 24)
  have m2 := (mQ.below hB (Nat.le_refl _)).alloc (.cells #[.slice A3 L3 c3, .slice A4 L4 c4] 24)
  have k2 := (fk.mono hs).below ((Below.refl _ w2).alloc (Nat.le_refl _) (.cells #[.slice A3 L3 c3, .slice A4 L4 c4] 24)) (Nat.le_refl _)
  have v2 := (fv.mono hs).below ((Below.refl _ w2).alloc (Nat.le_refl _) (.cells #[.slice A3 L3 c3, .slice A4 L4 c4] 24)) (Nat.le_refl _)
  have hnw := Blk.new w2 24 #[.slice A3 L3 c3, .slice A4 L4 c4]
  obtain ⟨v', W3, hrun, hm3, hg3⟩ := append_pairQ (P := Try.prog) 55 Try.underlying55 info24 m2 (by simp; omega) (h1 := (A3, L3, c3)) (h2 := (A4, L4, c4)) (f := (k, v)) k2 v2 (hnw.cell 0) (hnw.cell 1) hl
  obtain ⟨A', m', c', rfl⟩ := hm3.shape
  exact ⟨A', m', c', W3, hrun, hm3, hb2, hb3, hb3.trans (m2.grown hg3 (Nat.le_refl _) (by simp; omega))⟩

set_option maxRecDepth 100000 in
set_option maxHeartbeats 4000000 in
theorem rpairs_any (R base : Nat) (tw kv vv tv : Value) (ns : List Nd) (cnt : Nat) (w : World) (h : Rt w R base tw kv vv tv ns cnt) (hn : ns.length ≤ 1000000) :
    Calls Try.prog 23 #[.pointer (some ⟨R, 0, none⟩)] w fun e w' => (∃ v, e = .returned v ∧ MineQ w' w.heap.size v (ns.map fun d => (d.k, d.v))) ∧ Below w.heap.size w w' := by
  have k1 : w.cell? ⟨R, 1, none⟩ = some kv := h.tab.cell 1
  have k2 : w.cell? ⟨R, 2, none⟩ = some vv := h.tab.cell 2
  obtain ⟨A, ck, hkv, hk⟩ := h.kslice
  obtain ⟨B, cv, hvv, hv⟩ := h.vslice
  have HR := hide h.tab.lt
  obtain ⟨N, hN⟩ : ∃ N, ns.length = N := ⟨_, rfl⟩
  have HN := hide hN
  rw [hN] at hkv hvv hn
  clear hN
  subst hkv hvv
  have HK := hide hk
  have HV := hide hv
  clear hk hv h
  have K1 := hide (fun (W : World) (hB : Below w.heap.size w W) => (hB.cell (p := ⟨R, 1, none⟩) HR.out).trans k1)
  have K2 := hide (fun (W : World) (hB : Below w.heap.size w W) => (hB.cell (p := ⟨R, 2, none⟩) HR.out).trans k2)
  have e0 := hide (show pairN ns N = ns.map fun d => (d.k, d.v) by unfold pairN; rw [List.take_of_length_le (by have := HN.out; omega)])
  go_enter Try.func23, Try.ntmps23
  go_wp2
  go_loopw [3, 4] (fun t3 t4 wq => ∃ i : Nat, i ≤ N ∧ t4 = .int .i64 (i : Int) ∧ MineQ wq w.heap.size t3 (pairN ns i) ∧ Below w.heap.size w wq) (fun _ t4 _ => N - (intOf t4).toNat)
  case atStart => exact ⟨0, Nat.zero_le _, rfl, MineQ.nil _ _, Below.refl _ _⟩
  case round =>
    obtain ⟨i, hi, rfl, hm, hB⟩ := hrel
    obtain ⟨A0, m0, c0, rfl⟩ := hm.shape
    have k1' := K1.out _ hB
    by_cases hlt : i < N
    · have hx : i < ns.length := by have := HN.out; omega
      obtain ⟨b, rfl, kc⟩ := HK.out i hx
      obtain ⟨b2, rfl, vc⟩ := HV.out i hx
      have Hs := hide (pairN_succ hx)
      have hlen := pairN_len (ns := ns) (i := i) (by omega)
      unfold strV at kc vc
      generalize ns[i].k = ki at *
      generalize ns[i].v = vi at *
      have i0 : (0 : Int) ≤ (i : Int) := by omega
      have i1 : (i : Int) < (N : Int) := by omega
      have HC := hide (fun (W : World) (h : Below w.heap.size w W) => (⟨K1.out W h, (h.cell (p := ⟨b, i, none⟩) (World.block_lt_of_cell? w ⟨b, i, none⟩ kc)).trans kc, K2.out W h, (h.cell (p := ⟨b2, i, none⟩) (World.block_lt_of_cell? w ⟨b2, i, none⟩ vc)).trans vc⟩ : W.cell? ⟨R, 1, none⟩ = some (.slice (some ⟨b, 0, none⟩) N ck) ∧ W.cell? ⟨b, i, none⟩ = some (.string ⟨ki.toArray⟩) ∧ W.cell? ⟨R, 2, none⟩ = some (.slice (some ⟨b2, 0, none⟩) N cv) ∧ W.cell? ⟨b2, i, none⟩ = some (.string ⟨vi.toArray⟩)))
      have hd := below_drew wr
      have hBd : Below w.heap.size w wr.drew := hB.trans (hd.mono hB.size)
      have HW0 := hide hBd
      -- the key's bytes first
      obtain ⟨q1, wa1, ra1, fa1, Ba1⟩ := str_fro wr.drew ki
      obtain ⟨q2, wa2, ra2, fa2, Ba2⟩ := str_fro wa1 vi
      obtain ⟨A3, L3, c3, rfl⟩ := fa1.shape
      obtain ⟨A4, L4, c4, rfl⟩ := fa2.shape
      have HA1 := hide (hBd.trans (Ba1.mono hBd.size))
      have ta : Below wr.heap.size wr wa2 := (hd.trans Ba1).trans (Ba2.mono Ba1.size)
      obtain ⟨A5, m5, c5, WA, hra, hma, ha2, ha3, ha4⟩ := rp_end hB hm (by omega) ta (fa1.below Ba2 (Nat.le_refl _)) (fa2.mono Ba1.size)
      have HA2 := hide ha2
      have HA3 := hide ha3
      have HA4 := hide ha4
      have HrunA := hide hra
      have HmA := hide hma
      -- the value's bytes first
      obtain ⟨q3, wb1, rb1, fb1, Bb1⟩ := str_fro wr.drew vi
      obtain ⟨q4, wb2, rb2, fb2, Bb2⟩ := str_fro wb1 ki
      obtain ⟨A6, L6, c6, rfl⟩ := fb1.shape
      obtain ⟨A7, L7, c7, rfl⟩ := fb2.shape
      have HB1 := hide (hBd.trans (Bb1.mono hBd.size))
      have tb : Below wr.heap.size wr wb2 := (hd.trans Bb1).trans (Bb2.mono Bb1.size)
      obtain ⟨A8, m8, c8, WB, hrb, hmb, hb2, hb3, hb4⟩ := rp_end hB hm (by omega) tb (fb2.mono Bb1.size) (fb1.below Bb2 (Nat.le_refl _))
      have HB2 := hide hb2
      have HB3 := hide hb3
      have HB4 := hide hb4
      have HrunB := hide hrb
      have HmB := hide hmb
      clear fa1 fa2 Ba1 Ba2 ta hra hma ha2 ha3 ha4 fb1 fb2 Bb1 Bb2 tb hrb hmb hb2 hb3 hb4 hm hBd hd hlen
      go_wp2
      refine wp_region_held_drew (S := fun W' => W'.cell? ⟨R, 1, none⟩ = some (.slice (some ⟨b, 0, none⟩) N ck) ∧ W'.cell? ⟨b, i, none⟩ = some (.string ⟨ki.toArray⟩) ∧ W'.cell? ⟨R, 2, none⟩ = some (.slice (some ⟨b2, 0, none⟩) N cv) ∧ W'.cell? ⟨b2, i, none⟩ = some (.string ⟨vi.toArray⟩)) (by kernel_rfl) (HC.out _ HW0.out) (fun hHeld => ?_)
      refine wpAnyH_take (i := 0) (v := ?_) rfl (by kernel_rfl) (by kernel_rfl) (by kernel_rfl) (fun _ _ _ h => h) (Or.inl ⟨by kernel_rfl, ?_⟩) (by assumption) ?_
      rotate_left
      · (intro w hSw; (try dsimp only at hSw); go_simp; try with_reducible rfl)
      (try simp only [Act.put, List.getElem_toArray, List.getElem_cons_succ, List.getElem_cons_zero, List.setIfInBounds_toArray, List.set_cons_zero, List.set_cons_succ])
      refine wpAnyH_take (i := 1) (v := ?_) rfl (by kernel_rfl) (by kernel_rfl) (by kernel_rfl) (fun _ _ _ h => h) (Or.inl ⟨by kernel_rfl, ?_⟩) (by assumption) ?_
      rotate_left
      · (intro w hSw; (try dsimp only at hSw); go_simp; try with_reducible rfl)
      (try simp only [Act.put, List.getElem_toArray, List.getElem_cons_succ, List.getElem_cons_zero, List.setIfInBounds_toArray, List.set_cons_zero, List.set_cons_succ])
      refine wpAnyH_take (i := 2) (v := ?_) rfl (by kernel_rfl) (by kernel_rfl) (by kernel_rfl) (fun _ _ _ h => h) (Or.inl ⟨by kernel_rfl, ?_⟩) (by assumption) ?_
      rotate_left
      · (intro w hSw; (try dsimp only at hSw); go_simp; try with_reducible rfl)
      (try simp only [Act.put, List.getElem_toArray, List.getElem_cons_succ, List.getElem_cons_zero, List.setIfInBounds_toArray, List.set_cons_zero, List.set_cons_succ])
      refine wpAnyH_take (i := 3) (v := ?_) rfl (by kernel_rfl) (by kernel_rfl) (by kernel_rfl) (fun _ _ _ h => h) (Or.inl ⟨by kernel_rfl, ?_⟩) (by assumption) ?_
      rotate_left
      · (intro w hSw; (try dsimp only at hSw); go_simp; try with_reducible rfl)
      (try simp only [Act.put, List.getElem_toArray, List.getElem_cons_succ, List.getElem_cons_zero, List.setIfInBounds_toArray, List.set_cons_zero, List.set_cons_succ])
      refine wpAnyH_take (i := 4) (v := ?_) rfl (by kernel_rfl) (by kernel_rfl) (by kernel_rfl) (fun _ _ _ h => h) (Or.inl ⟨by kernel_rfl, ?_⟩) (by assumption) ?_
      rotate_left
      · (intro w hSw; (try dsimp only at hSw); go_simp; try with_reducible rfl)
      (try simp only [Act.put, List.getElem_toArray, List.getElem_cons_succ, List.getElem_cons_zero, List.setIfInBounds_toArray, List.set_cons_zero, List.set_cons_succ])
      refine wpAnyH_take (i := 5) (v := ?_) rfl (by kernel_rfl) (by kernel_rfl) (by kernel_rfl) (fun _ _ _ h => h) (Or.inl ⟨by kernel_rfl, ?_⟩) (by assumption) ?_
      rotate_left
      · (intro w hSw; (try dsimp only at hSw); go_simp; try with_reducible rfl)
      (try simp only [Act.put, List.getElem_toArray, List.getElem_cons_succ, List.getElem_cons_zero, List.setIfInBounds_toArray, List.set_cons_zero, List.set_cons_succ])
      refine wpAnyH_take (i := 6) (v := ?_) rfl (by kernel_rfl) (by kernel_rfl) (by kernel_rfl) (fun _ _ _ h => h) (Or.inl ⟨by kernel_rfl, ?_⟩) (by assumption) ?_
      rotate_left
      · (intro w hSw; (try dsimp only at hSw); go_simp; try with_reducible rfl)
      (try simp only [Act.put, List.getElem_toArray, List.getElem_cons_succ, List.getElem_cons_zero, List.setIfInBounds_toArray, List.set_cons_zero, List.set_cons_succ])
      refine wpAnyH_take (i := 7) (v := ?_) rfl (by kernel_rfl) (by kernel_rfl) (by kernel_rfl) (fun _ _ _ h => h) (Or.inl ⟨by kernel_rfl, ?_⟩) (by assumption) ?_
      rotate_left
      · (intro w hSw; (try dsimp only at hSw); go_simp; try with_reducible rfl)
      (try simp only [Act.put, List.getElem_toArray, List.getElem_cons_succ, List.getElem_cons_zero, List.setIfInBounds_toArray, List.set_cons_zero, List.set_cons_succ])
      refine wpAnyH_take (i := 9) (v := ?_) rfl (by kernel_rfl) (by kernel_rfl) (by kernel_rfl) (fun _ _ _ h => h) (Or.inl ⟨by kernel_rfl, ?_⟩) (by assumption) ?_
      rotate_left
      · (intro w hSw; (try dsimp only at hSw); go_simp; try with_reducible rfl)
      (try simp only [Act.put, List.getElem_toArray, List.getElem_cons_succ, List.getElem_cons_zero, List.setIfInBounds_toArray, List.set_cons_zero, List.set_cons_succ])
      refine wpAnyH_take (i := 10) (v := ?_) rfl (by kernel_rfl) (by kernel_rfl) (by kernel_rfl) (fun _ _ _ h => h) (Or.inl ⟨by kernel_rfl, ?_⟩) (by assumption) ?_
      rotate_left
      · (intro w hSw; (try dsimp only at hSw); go_simp; try with_reducible rfl)
      (try simp only [Act.put, List.getElem_toArray, List.getElem_cons_succ, List.getElem_cons_zero, List.setIfInBounds_toArray, List.set_cons_zero, List.set_cons_succ])
      refine wpAnyH_take (i := 11) (v := ?_) rfl (by kernel_rfl) (by kernel_rfl) (by kernel_rfl) (fun _ _ _ h => h) (Or.inl ⟨by kernel_rfl, ?_⟩) (by assumption) ?_
      rotate_left
      · (intro w hSw; (try dsimp only at hSw); go_simp; try with_reducible rfl)
      (try simp only [Act.put, List.getElem_toArray, List.getElem_cons_succ, List.getElem_cons_zero, List.setIfInBounds_toArray, List.set_cons_zero, List.set_cons_succ])
      refine wpAnyH_take (i := 12) (v := ?_) rfl (by kernel_rfl) (by kernel_rfl) (by kernel_rfl) (fun _ _ _ h => h) (Or.inl ⟨by kernel_rfl, ?_⟩) (by assumption) ?_
      rotate_left
      · (intro w hSw; (try dsimp only at hSw); go_simp; try with_reducible rfl)
      (try simp only [Act.put, List.getElem_toArray, List.getElem_cons_succ, List.getElem_cons_zero, List.setIfInBounds_toArray, List.set_cons_zero, List.set_cons_succ])
      refine wpAnyH_take (i := 13) (v := ?_) rfl (by kernel_rfl) (by kernel_rfl) (by kernel_rfl) (fun _ _ _ h => h) (Or.inl ⟨by kernel_rfl, ?_⟩) (by assumption) ?_
      rotate_left
      · (intro w hSw; (try dsimp only at hSw); go_simp; try with_reducible rfl)
      (try simp only [Act.put, List.getElem_toArray, List.getElem_cons_succ, List.getElem_cons_zero, List.setIfInBounds_toArray, List.set_cons_zero, List.set_cons_succ])
      refine wpAnyH_take (i := 14) (v := ?_) rfl (by kernel_rfl) (by kernel_rfl) (by kernel_rfl) (fun _ _ _ h => h) (Or.inl ⟨by kernel_rfl, ?_⟩) (by assumption) ?_
      rotate_left
      · (intro w hSw; (try dsimp only at hSw); go_simp; try with_reducible rfl)
      (try simp only [Act.put, List.getElem_toArray, List.getElem_cons_succ, List.getElem_cons_zero, List.setIfInBounds_toArray, List.set_cons_zero, List.set_cons_succ])
      refine wpAnyH_take (i := 15) (v := ?_) rfl (by kernel_rfl) (by kernel_rfl) (by kernel_rfl) (fun _ _ _ h => h) (Or.inl ⟨by kernel_rfl, ?_⟩) (by assumption) ?_
      rotate_left
      · (intro w hSw; (try dsimp only at hSw); go_simp; try with_reducible rfl)
      (try simp only [Act.put, List.getElem_toArray, List.getElem_cons_succ, List.getElem_cons_zero, List.setIfInBounds_toArray, List.set_cons_zero, List.set_cons_succ])
      refine wpAnyH_ready (rs := [8, 16]) (by kernel_rfl) (by simp) (AllReadyH.cons rfl (fun K hK => ?_) (AllReadyH.cons rfl (fun K hK => ?_) AllReadyH.nil))
      go_simp
      refine hK.out _ _ (HC.out _ HA1.out) (fun hHeld => ?_)
      clear hK K
      (try simp only [Act.put, List.getElem_toArray, List.getElem_cons_succ, List.getElem_cons_zero, List.setIfInBounds_toArray, List.set_cons_zero, List.set_cons_succ])
      refine wpAnyH_ready (rs := [16]) (by kernel_rfl) (by simp) (AllReadyH.cons rfl (fun K hK => ?_) AllReadyH.nil)
      go_simp
      refine hK.out _ _ (HC.out _ HA2.out) (fun hHeld => ?_)
      clear hK K
      (try simp only [Act.put, List.getElem_toArray, List.getElem_cons_succ, List.getElem_cons_zero, List.setIfInBounds_toArray, List.set_cons_zero, List.set_cons_succ])
      refine wpAnyH_take (i := 17) (v := ?_) rfl (by kernel_rfl) (by kernel_rfl) (by kernel_rfl) (fun _ _ _ h => h) (Or.inl ⟨by kernel_rfl, ?_⟩) (by assumption) ?_
      rotate_left
      · (intro w hSw; (try dsimp only at hSw); go_simp; try with_reducible rfl)
      (try simp only [Act.put, List.getElem_toArray, List.getElem_cons_succ, List.getElem_cons_zero, List.setIfInBounds_toArray, List.set_cons_zero, List.set_cons_succ])
      refine wpAnyH_ready (rs := [18]) (by kernel_rfl) (by simp) (AllReadyH.cons rfl (fun K hK => ?_) AllReadyH.nil)
      go_simp
      refine hK.out _ _ (HC.out _ HA3.out) (fun hHeld => ?_)
      clear hK K
      (try simp only [Act.put, List.getElem_toArray, List.getElem_cons_succ, List.getElem_cons_zero, List.setIfInBounds_toArray, List.set_cons_zero, List.set_cons_succ])
      refine wpAnyH_ready (rs := [19]) (by kernel_rfl) (by simp) (AllReadyH.cons rfl (fun K hK => ?_) AllReadyH.nil)
      refine step_append (by kernel_rfl) rfl rfl rfl HrunA.out ?_
      refine hK.out _ _ (HC.out _ HA4.out) (fun hHeld => ?_)
      clear hK K
      (try simp only [Act.put, List.getElem_toArray, List.getElem_cons_succ, List.getElem_cons_zero, List.setIfInBounds_toArray, List.set_cons_zero, List.set_cons_succ])
      refine wpAnyH_take (i := 20) (v := ?_) rfl (by kernel_rfl) (by kernel_rfl) (by kernel_rfl) (fun _ _ _ h => h) (Or.inl ⟨by kernel_rfl, ?_⟩) (by assumption) ?_
      rotate_left
      · (intro w hSw; (try dsimp only at hSw); go_simp; try with_reducible rfl)
      (try simp only [Act.put, List.getElem_toArray, List.getElem_cons_succ, List.getElem_cons_zero, List.setIfInBounds_toArray, List.set_cons_zero, List.set_cons_succ])
      refine wpAnyH_done (by kernel_rfl) ?_ _
      rotate_left
      go_simp
      refine hK.out _ _ (HC.out _ HB1.out) (fun hHeld => ?_)
      clear hK K
      (try simp only [Act.put, List.getElem_toArray, List.getElem_cons_succ, List.getElem_cons_zero, List.setIfInBounds_toArray, List.set_cons_zero, List.set_cons_succ])
      refine wpAnyH_ready (rs := [8]) (by kernel_rfl) (by simp) (AllReadyH.cons rfl (fun K hK => ?_) AllReadyH.nil)
      go_simp
      refine hK.out _ _ (HC.out _ HB2.out) (fun hHeld => ?_)
      clear hK K
      (try simp only [Act.put, List.getElem_toArray, List.getElem_cons_succ, List.getElem_cons_zero, List.setIfInBounds_toArray, List.set_cons_zero, List.set_cons_succ])
      refine wpAnyH_take (i := 17) (v := ?_) rfl (by kernel_rfl) (by kernel_rfl) (by kernel_rfl) (fun _ _ _ h => h) (Or.inl ⟨by kernel_rfl, ?_⟩) (by assumption) ?_
      rotate_left
      · (intro w hSw; (try dsimp only at hSw); go_simp; try with_reducible rfl)
      (try simp only [Act.put, List.getElem_toArray, List.getElem_cons_succ, List.getElem_cons_zero, List.setIfInBounds_toArray, List.set_cons_zero, List.set_cons_succ])
      refine wpAnyH_ready (rs := [18]) (by kernel_rfl) (by simp) (AllReadyH.cons rfl (fun K hK => ?_) AllReadyH.nil)
      go_simp
      refine hK.out _ _ (HC.out _ HB3.out) (fun hHeld => ?_)
      clear hK K
      (try simp only [Act.put, List.getElem_toArray, List.getElem_cons_succ, List.getElem_cons_zero, List.setIfInBounds_toArray, List.set_cons_zero, List.set_cons_succ])
      refine wpAnyH_ready (rs := [19]) (by kernel_rfl) (by simp) (AllReadyH.cons rfl (fun K hK => ?_) AllReadyH.nil)
      refine step_append (by kernel_rfl) rfl rfl rfl HrunB.out ?_
      refine hK.out _ _ (HC.out _ HB4.out) (fun hHeld => ?_)
      clear hK K
      (try simp only [Act.put, List.getElem_toArray, List.getElem_cons_succ, List.getElem_cons_zero, List.setIfInBounds_toArray, List.set_cons_zero, List.set_cons_succ])
      refine wpAnyH_take (i := 20) (v := ?_) rfl (by kernel_rfl) (by kernel_rfl) (by kernel_rfl) (fun _ _ _ h => h) (Or.inl ⟨by kernel_rfl, ?_⟩) (by assumption) ?_
      rotate_left
      · (intro w hSw; (try dsimp only at hSw); go_simp; try with_reducible rfl)
      (try simp only [Act.put, List.getElem_toArray, List.getElem_cons_succ, List.getElem_cons_zero, List.setIfInBounds_toArray, List.set_cons_zero, List.set_cons_succ])
      refine wpAnyH_done (by kernel_rfl) ?_ _
      rotate_left
      · go_wp2
        go_roundw
        case rel => exact ⟨i + 1, by omega, by simp, by rw [Hs.out]; exact HmA.out, HA4.out⟩
        case measure => simp [intOf]; omega
      · go_wp2
        go_roundw
        case rel => exact ⟨i + 1, by omega, by simp, by rw [Hs.out]; exact HmB.out, HB4.out⟩
        case measure => simp [intOf]; omega
    · obtain rfl : N = i := by omega
      rw [e0.out] at hm
      have Hm := hide hm
      clear hm
      go_wp2
      go_ret
      exact ⟨⟨_, rfl, Hm.out⟩, hB⟩

end Go.Proofs.Ytkbjbjkgohkkjaa

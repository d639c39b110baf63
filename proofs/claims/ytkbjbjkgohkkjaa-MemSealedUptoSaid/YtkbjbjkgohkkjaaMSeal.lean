/-
  The walk of the law MemSealed: it answers true. Condition: the towers read as numbers, the list as pairs; all together not more than the bound. (The drawn region printed by gen_mseal.py.)
-/
import Derived.Test.YtkbjbjkgohkkjaaMTow
import Derived.Test.YtkbjbjkgohkkjaaSeal
namespace Go.Proofs.Ytkbjbjkgohkkjaa
open Go.RowKit Go.Shelf

set_option maxRecDepth 100000 in
set_option maxHeartbeats 8000000 in
theorem mseal_any (tws : List Int) (TA : Option Addr) (tn tc' : Nat) (fs : List Pr) (LA : Option Addr) (ln lc : Nat) (A : Option Addr) (n c : Nat) (A2 : Option Addr) (n2 c2 : Nat) (w : World) (ht : Sl w w.heap.size TA tn tc' (tws.map iv)) (hz : ∀ z ∈ tws, -9223372036854775808 ≤ z ∧ z ≤ 9223372036854775807)
    (hl : ReadA w (.slice LA ln lc) fs) (hln : fs.length = ln) (hb : ln + sizeP fs ≤ 1048576) :
    Calls Try.prog 7 #[.slice TA tn tc', .slice LA ln lc, .agg #[.slice A n c, .slice A2 n2 c2]] w fun e w' => e = .returned (.bool true) ∧ Below w.heap.size w w' := by
  have Ht := hide ht
  have Hz := hide hz
  have Hl := hide hl
  have Hln := hide hln
  have Hb := hide hb
  have hB0 := (Below.refl w.heap.size w).alloc (Nat.le_refl _) (.cells #[.slice A n c, .slice A2 n2 c2] 24)
  have hP0 := Blk.new w 24 #[.slice A n c, .slice A2 n2 c2]
  clear ht hz hl hln hb
  go_enter Try.func7, Try.ntmps7
  go_wp2_with fail
  obtain ⟨P, hP⟩ : ∃ P, w.heap.size = P := ⟨_, rfl⟩
  obtain ⟨w0, hw0⟩ : ∃ w0, w.alloc (.cells #[.slice A n c, .slice A2 n2 c2] 24) = w0 := ⟨_, rfl⟩
  rw [hw0] at hB0 hP0 ⊢
  rw [hP] at hP0 ⊢
  refine (awake_any w0).mono ?_
  rintro e w1 ⟨rfl, hB1⟩
  have hP1 := hP0.below hB1 hP0.lt
  have hb1 := hB0.trans (hB1.mono hB0.size)
  go_wp2_with fail
  refine (few_any fs _ w1 (Hl.out.below hb1) (by have := Hb.out; have := Hln.out; omega)).mono ?_
  rintro e w2 ⟨rfl, hB2⟩
  have hP2 := hP1.below hB2 hP1.lt
  have HB2 := hide (hb1.trans (hB2.mono hb1.size))
  have p0 := hP2.cell 0
  have p1 := hP2.cell 1
  clear hB0 hB1 hB2 hP0 hP1 hb1 hw0
  by_cases hf : fs.length + sizeP fs ≤ 4000
  · rw [decide_eq_true hf]
    have Hf := hide hf
    clear hf
    by_cases h1000 : 1000 < tn
    · have h1 : (1000 : Int) < (tn : Int) := by omega
      go_wp2
      go_ret
      exact ⟨rfl, HB2.out⟩
    · have h1 : ¬ (1000 : Int) < (tn : Int) := by omega
      obtain ⟨z, hz⟩ : ∃ z, IntKind.i64.wrap ((n : Int) + (n2 : Int)) = z := ⟨_, rfl⟩
      by_cases h2 : (1000 : Int) < z
      · go_wp2
        go_ret
        exact ⟨rfl, HB2.out⟩
      · have htn : tn ≤ 1000000 := by omega
        have Hb1 := hide (both_any tws TA tn tc' fs LA ln lc w2 ((Ht.out.below HB2.out).more HB2.out.size) Hz.out htn (Hl.out.below HB2.out) Hln.out Hf.out)
        have HP2 := hide hP2
        clear htn
        go_wp2_with fail
        refine Hb1.out.mono ?_
        rintro e w3 ⟨T, R, base, rfl, hd, ms, kv, vv, tv, hB⟩
        have HB3 := hide (HB2.out.trans (hB.bel.mono HB2.out.size))
        have HP3 := hide (HP2.out.below hB.bel HP2.out.lt)
        obtain ⟨q1, q2, q3, q4⟩ := puts_all tws Hf.out
        obtain ⟨s, hs⟩ : ∃ s, putsP tws fs = s := ⟨_, rfl⟩
        rw [hs] at q1 q2 q3 q4 hB
        have Hq := hide (And.intro q1 (And.intro q2 q4))
        have HB := hide hB
        clear hB Hb1 q1 q2 q3 q4 hs h2 hz p0 p1
        go_wp2_with fail
        refine (sealed_any T base tws s.1 s.2 false hd ms w3 HB.out.tm).mono ?_
        rintro e w' ⟨rfl, rfl⟩
        go_wp2_with fail
        refine (seal_any T base tws s.1 s.2 false hd ms w3 HB.out.tm).mono ?_
        rintro e w4 ⟨rfl, ht4, hg4⟩
        have hr4 := HB.out.rt.grown_t HB.out.tm hg4
        have hB4 := HB3.out.grown hg4 HB3.out.size (fun j ej => by
          injection ej with ej
          subst ej
          have h1 := HB.out.tm.low
          have h2 := HB.out.low.1
          have h3 := HB2.out.size
          omega)
        have hTP : T ≠ P := fun e => by
          have h1 := HB.out.tm.low
          have h2 := HB.out.low.1
          have h3 := HP2.out.lt
          omega
        have hP4 := HP3.out.grown hg4 (fun e => by injection e with e; exact hTP e.symm)
        clear hg4
        go_wp2_with fail
        refine (seal_any T base tws s.1 s.2 true hd ms w4 ht4).mono ?_
        rintro e w5 ⟨rfl, ht5, hg5⟩
        have hr5 := hr4.grown_t ht4 hg5
        have hB5 := hB4.grown hg5 hB4.size (fun j ej => by
          injection ej with ej
          subst ej
          have h1 := HB.out.tm.low
          have h2 := HB.out.low.1
          have h3 := HB2.out.size
          omega)
        have hP5 := hP4.grown hg5 (fun e => by injection e with e; exact hTP e.symm)
        have Hlen := hide (show R < w5.heap.size from hr5.tab.lt)
        have Ht5 := hide ht5
        have Hr5 := hide hr5
        have HB5 := hide hB5
        have HP5 := hide hP5
        clear hg5 ht4 hr4 hB4 hP4 ht5 hr5 hB5 hP5
        go_wp2_with fail
        refine (sealed_any T base tws s.1 s.2 true hd ms w5 Ht5.out).mono ?_
        rintro e w' ⟨rfl, rfl⟩
        obtain ⟨KA, kc, rfl, -⟩ := Hr5.out.kslice
        obtain ⟨N, hN⟩ : ∃ N, s.1.length = N := ⟨_, rfl⟩
        have HC := hide (fun (W : World) (hb : Below w5.heap.size w5 W) => (⟨(HP5.out.below hb HP5.out.lt).cell 0, (HP5.out.below hb HP5.out.lt).cell 1, by rw [← hN]; exact ((Hr5.out.tab.below hb Hlen.out).cell 1)⟩ : W.cell? ⟨P, 0, none⟩ = some (.slice A n c) ∧ W.cell? ⟨P, 1, none⟩ = some (.slice A2 n2 c2) ∧ W.cell? ⟨R, 1, none⟩ = some (.slice KA N kc)))
        have HN := hide hN
        clear hN
        go_wp2
        refine wp_region_held_drew (S := fun W' => W'.cell? ⟨P, 0, none⟩ = some (.slice A n c) ∧ W'.cell? ⟨P, 1, none⟩ = some (.slice A2 n2 c2) ∧ W'.cell? ⟨R, 1, none⟩ = some (.slice KA N kc)) (by kernel_rfl) (HC.out _ (below_drew w5)) (fun hHeld => ?_)
        refine wpAnyH_take (i := 0) (v := ?_) rfl (by kernel_rfl) (by kernel_rfl) (by kernel_rfl) (fun _ _ _ h => h) (Or.inl ⟨by kernel_rfl, ?_⟩) (by assumption) ?_
        rotate_left
        · (intro w hSw; (try dsimp only at hSw); go_simp; try with_reducible rfl)
        (try simp only [Act.put, List.getElem_toArray, List.getElem_cons_succ, List.getElem_cons_zero, List.setIfInBounds_toArray, List.set_cons_zero, List.set_cons_succ])
        refine wpAnyH_take (i := 1) (v := ?_) rfl (by kernel_rfl) (by kernel_rfl) (by kernel_rfl) (fun _ _ _ h => h) (Or.inl ⟨by kernel_rfl, ?_⟩) (by assumption) ?_
        rotate_left
        · (intro w hSw; (try dsimp only at hSw); go_simp; try with_reducible rfl)
        (try simp only [Act.put, List.getElem_toArray, List.getElem_cons_succ, List.getElem_cons_zero, List.setIfInBounds_toArray, List.set_cons_zero, List.set_cons_succ])
        refine wpAnyH_take (i := 2) (v := ?_) rfl (by kernel_rfl) (by kernel_rfl) (by kernel_rfl) (fun _ _ _ h => h) (Or.inl ⟨by kernel_rfl, ?_⟩) (by assumption) ?_
        rotate_left
        · (intro w hSw; (try dsimp only at hSw); go_simp; try with_reducible rfl)
        (try simp only [Act.put, List.getElem_toArray, List.getElem_cons_succ, List.getElem_cons_zero, List.setIfInBounds_toArray, List.set_cons_zero, List.set_cons_succ])
        refine wpAnyH_take (i := 3) (v := ?_) rfl (by kernel_rfl) (by kernel_rfl) (by kernel_rfl) (fun _ _ _ h => h) (Or.inl ⟨by kernel_rfl, ?_⟩) (by assumption) ?_
        rotate_left
        · (intro w hSw; (try dsimp only at hSw); go_simp; try with_reducible rfl)
        (try simp only [Act.put, List.getElem_toArray, List.getElem_cons_succ, List.getElem_cons_zero, List.setIfInBounds_toArray, List.set_cons_zero, List.set_cons_succ])
        refine wpAnyH_take (i := 4) (v := ?_) rfl (by kernel_rfl) (by kernel_rfl) (by kernel_rfl) (fun _ _ _ h => h) (Or.inl ⟨by kernel_rfl, ?_⟩) (by assumption) ?_
        rotate_left
        · (intro w hSw; (try dsimp only at hSw); go_simp; try with_reducible rfl)
        (try simp only [Act.put, List.getElem_toArray, List.getElem_cons_succ, List.getElem_cons_zero, List.setIfInBounds_toArray, List.set_cons_zero, List.set_cons_succ])
        refine wpAnyH_ready (rs := [5]) (by kernel_rfl) (by simp) (AllReadyH.cons rfl (fun K hK => ?_) AllReadyH.nil)
        go_simp
        refine Calls.mono (put_sealed T base tws s.1 s.2 hd ms A A2 n c n2 c2 w5.drew (Ht5.out.drewN 1)) ?_
        rintro e w' ⟨rfl, rfl⟩
        refine hK.out _ _ (HC.out _ (below_drew w5)) (fun hHeld => ?_)
        clear hK K
        (try simp only [Act.put, List.getElem_toArray, List.getElem_cons_succ, List.getElem_cons_zero, List.setIfInBounds_toArray, List.set_cons_zero, List.set_cons_succ])
        refine wpAnyH_take (i := 6) (v := ?_) rfl (by kernel_rfl) (by kernel_rfl) (by kernel_rfl) (fun _ _ _ h => h) (Or.inl ⟨by kernel_rfl, ?_⟩) (by assumption) ?_
        rotate_left
        · (intro w hSw; (try dsimp only at hSw); go_simp; try with_reducible rfl)
        (try simp only [Act.put, List.getElem_toArray, List.getElem_cons_succ, List.getElem_cons_zero, List.setIfInBounds_toArray, List.set_cons_zero, List.set_cons_succ])
        refine wpAnyH_take (i := 7) (v := ?_) rfl (by kernel_rfl) (by kernel_rfl) (by kernel_rfl) (fun _ _ _ h => h) (Or.inl ⟨by kernel_rfl, ?_⟩) (by assumption) ?_
        rotate_left
        · (intro w hSw; (try dsimp only at hSw); go_simp; try with_reducible rfl)
        (try simp only [Act.put, List.getElem_toArray, List.getElem_cons_succ, List.getElem_cons_zero, List.setIfInBounds_toArray, List.set_cons_zero, List.set_cons_succ])
        refine wpAnyH_take (i := 8) (v := ?_) rfl (by kernel_rfl) (by kernel_rfl) (by kernel_rfl) (fun _ _ _ h => h) (Or.inl ⟨by kernel_rfl, ?_⟩) (by assumption) ?_
        rotate_left
        · (intro w hSw; (try dsimp only at hSw); go_simp; try with_reducible rfl)
        (try simp only [Act.put, List.getElem_toArray, List.getElem_cons_succ, List.getElem_cons_zero, List.setIfInBounds_toArray, List.set_cons_zero, List.set_cons_succ])
        refine wpAnyH_take (i := 10) (v := ?_) rfl (by kernel_rfl) (by kernel_rfl) (by kernel_rfl) (fun _ _ _ h => h) (Or.inl ⟨by kernel_rfl, ?_⟩) (by assumption) ?_
        rotate_left
        · (intro w hSw; (try dsimp only at hSw); go_simp; try with_reducible rfl)
        (try simp only [Act.put, List.getElem_toArray, List.getElem_cons_succ, List.getElem_cons_zero, List.setIfInBounds_toArray, List.set_cons_zero, List.set_cons_succ])
        refine wpAnyH_ready (rs := [9]) (by kernel_rfl) (by simp) (AllReadyH.cons rfl (fun K hK => ?_) AllReadyH.nil)
        go_simp
        refine Calls.mono (pairs_walk T base tws s.1 s.2 true hd ms w5.drew (Ht5.out.drewN 1) (by have := Hq.out; omega)) ?_
        rintro e w6 ⟨⟨v6, rfl, hm6⟩, hB6⟩
        have Hm6 := hide (MineP.read hm6 (kv_short Ht5.out.sl.short))
        have HB6 := hide ((below_drew w5).trans hB6)
        clear hm6 hB6
        refine hK.out _ _ (HC.out _ HB6.out) (fun hHeld => ?_)
        clear hK K
        (try simp only [Act.put, List.getElem_toArray, List.getElem_cons_succ, List.getElem_cons_zero, List.setIfInBounds_toArray, List.set_cons_zero, List.set_cons_succ])
        refine wpAnyH_ready (rs := [11]) (by kernel_rfl) (by simp) (AllReadyH.cons rfl (fun K hK => ?_) AllReadyH.nil)
        go_simp
        refine Calls.mono (rpairs_any R base _ _ vv tv s.1 s.2 w6 (Hr5.out.below HB6.out (Nat.le_refl _)) (by have := Hq.out; omega)) ?_
        rintro e w7 ⟨⟨v7, rfl, hm7⟩, hB7⟩
        have Hm7 := hide (MineQ.read hm7 (kv_short Ht5.out.sl.short))
        have Hm67 := hide (Hm6.out.below hB7)
        have HB7 := hide (HB6.out.trans (hB7.mono HB6.out.size))
        clear hm7 hB7
        refine hK.out _ _ (HC.out _ HB7.out) (fun hHeld => ?_)
        clear hK K
        (try simp only [Act.put, List.getElem_toArray, List.getElem_cons_succ, List.getElem_cons_zero, List.setIfInBounds_toArray, List.set_cons_zero, List.set_cons_succ])
        refine wpAnyH_ready (rs := [12]) (by kernel_rfl) (by simp) (AllReadyH.cons rfl (fun K hK => ?_) AllReadyH.nil)
        go_simp
        refine Calls.mono (same_any _ _ v6 v7 w7 Hm67.out Hm7.out (by have := Hq.out; rw [List.length_map]; omega)) ?_
        rintro e w8 ⟨rfl, m, rfl⟩
        have HB8 := hide (Below.drewN' HB7.out m)
        generalize w7.drewN m = w8 at *
        rw [decide_eq_true rfl]
        refine hK.out _ _ (HC.out _ HB8.out) (fun hHeld => ?_)
        clear hK K
        (try simp only [Act.put, List.getElem_toArray, List.getElem_cons_succ, List.getElem_cons_zero, List.setIfInBounds_toArray, List.set_cons_zero, List.set_cons_succ])
        refine wpAnyH_take (i := 13) (v := ?_) rfl (by kernel_rfl) (by kernel_rfl) (by kernel_rfl) (fun _ _ _ h => h) (Or.inl ⟨by kernel_rfl, ?_⟩) (by assumption) ?_
        rotate_left
        · (intro w hSw; (try dsimp only at hSw); go_simp; try with_reducible rfl)
        (try simp only [Act.put, List.getElem_toArray, List.getElem_cons_succ, List.getElem_cons_zero, List.setIfInBounds_toArray, List.set_cons_zero, List.set_cons_succ])
        refine wpAnyH_take (i := 14) (v := ?_) rfl (by kernel_rfl) (by kernel_rfl) (by kernel_rfl) (fun _ _ _ h => h) (Or.inl ⟨by kernel_rfl, ?_⟩) (by assumption) ?_
        rotate_left
        · (intro w hSw; (try dsimp only at hSw); go_simp; try with_reducible rfl)
        (try simp only [Act.put, List.getElem_toArray, List.getElem_cons_succ, List.getElem_cons_zero, List.setIfInBounds_toArray, List.set_cons_zero, List.set_cons_succ])
        refine wpAnyH_take (i := 15) (v := ?_) rfl (by kernel_rfl) (by kernel_rfl) (by kernel_rfl) (fun _ _ _ h => h) (Or.inl ⟨by kernel_rfl, ?_⟩) (by assumption) ?_
        rotate_left
        · (intro w hSw; (try dsimp only at hSw); go_simp; try with_reducible rfl)
        (try simp only [Act.put, List.getElem_toArray, List.getElem_cons_succ, List.getElem_cons_zero, List.setIfInBounds_toArray, List.set_cons_zero, List.set_cons_succ])
        refine wpAnyH_take (i := 17) (v := ?_) rfl (by kernel_rfl) (by kernel_rfl) (by kernel_rfl) (fun _ _ _ h => h) (Or.inl ⟨by kernel_rfl, ?_⟩) (by assumption) ?_
        rotate_left
        · (intro w hSw; (try dsimp only at hSw); go_simp; try with_reducible rfl)
        (try simp only [Act.put, List.getElem_toArray, List.getElem_cons_succ, List.getElem_cons_zero, List.setIfInBounds_toArray, List.set_cons_zero, List.set_cons_succ])
        refine wpAnyH_take (i := 18) (v := ?_) rfl (by kernel_rfl) (by kernel_rfl) (by kernel_rfl) (fun _ _ _ h => h) (Or.inl ⟨by kernel_rfl, ?_⟩) (by assumption) ?_
        rotate_left
        · (intro w hSw; (try dsimp only at hSw); go_simp; try with_reducible rfl)
        (try simp only [Act.put, List.getElem_toArray, List.getElem_cons_succ, List.getElem_cons_zero, List.setIfInBounds_toArray, List.set_cons_zero, List.set_cons_succ])
        refine wpAnyH_take (i := 19) (v := ?_) rfl (by kernel_rfl) (by kernel_rfl) (by kernel_rfl) (fun _ _ _ h => h) (Or.inl ⟨by kernel_rfl, ?_⟩) (by assumption) ?_
        rotate_left
        · (intro w hSw; (try dsimp only at hSw); go_simp; try with_reducible rfl)
        (try simp only [Act.put, List.getElem_toArray, List.getElem_cons_succ, List.getElem_cons_zero, List.setIfInBounds_toArray, List.set_cons_zero, List.set_cons_succ])
        refine wpAnyH_take (i := 20) (v := ?_) rfl (by kernel_rfl) (by kernel_rfl) (by kernel_rfl) (fun _ _ _ h => h) (Or.inl ⟨by kernel_rfl, ?_⟩) (by assumption) ?_
        rotate_left
        · (intro w hSw; (try dsimp only at hSw); go_simp; try with_reducible rfl)
        (try simp only [Act.put, List.getElem_toArray, List.getElem_cons_succ, List.getElem_cons_zero, List.setIfInBounds_toArray, List.set_cons_zero, List.set_cons_succ])
        refine wpAnyH_take (i := 21) (v := ?_) rfl (by kernel_rfl) (by kernel_rfl) (by kernel_rfl) (fun _ _ _ h => h) (Or.inl ⟨by kernel_rfl, ?_⟩) (by assumption) ?_
        rotate_left
        · (intro w hSw; (try dsimp only at hSw); go_simp; try with_reducible rfl)
        (try simp only [Act.put, List.getElem_toArray, List.getElem_cons_succ, List.getElem_cons_zero, List.setIfInBounds_toArray, List.set_cons_zero, List.set_cons_succ])
        refine wpAnyH_ready (rs := [16]) (by kernel_rfl) (by simp) (AllReadyH.cons rfl (fun K hK => ?_) AllReadyH.nil)
        go_simp
        refine Calls.mono (len_any T base tws s.1 s.2 true hd ms w8 (Ht5.out.below HB8.out (Nat.le_refl _)) (by have := Hq.out; omega)) ?_
        rintro e w' ⟨rfl, rfl⟩
        rw [HN.out]
        refine hK.out _ _ (HC.out _ HB8.out) (fun hHeld => ?_)
        clear hK K
        (try simp only [Act.put, List.getElem_toArray, List.getElem_cons_succ, List.getElem_cons_zero, List.setIfInBounds_toArray, List.set_cons_zero, List.set_cons_succ])
        refine wpAnyH_take (i := 22) (v := ?_) rfl (by kernel_rfl) (by kernel_rfl) (by kernel_rfl) (fun _ _ _ h => h) (Or.inl ⟨by kernel_rfl, ?_⟩) (by assumption) ?_
        rotate_left
        · (intro w hSw; (try dsimp only at hSw); go_simp; try with_reducible rfl)
        (try simp only [Act.put, List.getElem_toArray, List.getElem_cons_succ, List.getElem_cons_zero, List.setIfInBounds_toArray, List.set_cons_zero, List.set_cons_succ])
        refine wpAnyH_take (i := 23) (v := ?_) rfl (by kernel_rfl) (by kernel_rfl) (by kernel_rfl) (fun _ _ _ h => h) (Or.inl ⟨by kernel_rfl, ?_⟩) (by assumption) ?_
        rotate_left
        · (intro w hSw; (try dsimp only at hSw); go_simp; try with_reducible rfl)
        (try simp only [Act.put, List.getElem_toArray, List.getElem_cons_succ, List.getElem_cons_zero, List.setIfInBounds_toArray, List.set_cons_zero, List.set_cons_succ])
        refine wpAnyH_take (i := 24) (v := ?_) rfl (by kernel_rfl) (by kernel_rfl) (by kernel_rfl) (fun _ _ _ h => h) (Or.inl ⟨by kernel_rfl, ?_⟩) (by assumption) ?_
        rotate_left
        · (intro w hSw; (try dsimp only at hSw); go_simp; try with_reducible rfl)
        (try simp only [Act.put, List.getElem_toArray, List.getElem_cons_succ, List.getElem_cons_zero, List.setIfInBounds_toArray, List.set_cons_zero, List.set_cons_succ])
        refine wpAnyH_done (by kernel_rfl) ?_ _
        go_wp2
        go_ret
        exact ⟨by first | rfl | simp, HB5.out.trans (HB8.out.mono HB5.out.size)⟩
  · rw [decide_eq_false hf]
    go_wp2
    go_ret
    exact ⟨rfl, HB2.out⟩

end Go.Proofs.Ytkbjbjkgohkkjaa

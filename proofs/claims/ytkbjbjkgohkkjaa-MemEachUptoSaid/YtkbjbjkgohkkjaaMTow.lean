/-
  The walk of the law MemTowers: it answers true. Condition: the towers read as numbers, the list as pairs; all together not more than the bound.
-/
import Derived.Test.YtkbjbjkgohkkjaaBoth
import Derived.Test.YtkbjbjkgohkkjaaAwake
namespace Go.Proofs.Ytkbjbjkgohkkjaa
open Go.RowKit Go.Shelf

theorem ReadA.below {w w' : World} {v : Value} {fs : List Pr} (h : ReadA w v fs) (hb : Below w.heap.size w w') : ReadA w' v fs := by
  obtain ⟨A, c, e, hh⟩ := h
  refine ⟨A, c, e, fun i hi => ?_⟩
  obtain ⟨g, off, K, kl, kc, V, vl, vc, e1, c0, c1, b1, b2⟩ := hh i hi
  exact ⟨g, off, K, kl, kc, V, vl, vc, e1, (hb.cell (p := ⟨g, off + i * 2, none⟩) (World.block_lt_of_cell? w ⟨g, off + i * 2, none⟩ c0)).trans c0, (hb.cell (p := ⟨g, off + i * 2 + 1, none⟩) (World.block_lt_of_cell? w ⟨g, off + i * 2 + 1, none⟩ c1)).trans c1, (b1.below hb).more hb.size, (b2.below hb).more hb.size⟩
theorem ReadP.below {w w' : World} {v : Value} {fs : List Pr} (h : ReadP w v fs) (hb : Below w.heap.size w w') : ReadP w' v fs := by
  obtain ⟨A, c, e, hh⟩ := h
  refine ⟨A, c, e, fun i hi => ?_⟩
  obtain ⟨g, K, kl, kc, V, vl, vc, e1, c0, c1, b1, b2⟩ := hh i hi
  exact ⟨g, K, kl, kc, V, vl, vc, e1, (hb.cell (p := ⟨g, i * 2, none⟩) (World.block_lt_of_cell? w ⟨g, i * 2, none⟩ c0)).trans c0, (hb.cell (p := ⟨g, i * 2 + 1, none⟩) (World.block_lt_of_cell? w ⟨g, i * 2 + 1, none⟩ c1)).trans c1, (b1.below hb).more hb.size, (b2.below hb).more hb.size⟩
theorem puts_all (tws : List Int) {fs : List Pr} (hf : fs.length + sizeP fs ≤ 4000) : (putsP tws fs).1.length ≤ 4000 ∧ sizeN (putsP tws fs).1 ≤ 4000 ∧ (∀ d ∈ (putsP tws fs).1, 1 ≤ d.t ∧ d.t ≤ 12) ∧ (putsP tws fs).2 ≤ 200000000 := by
  have h := puts_facts tws fs fs.length (Nat.le_refl _)
  rw [List.take_length] at h
  have q4 : fs.length * (12 * (fs.length + 1)) ≤ 4000 * (12 * 4001) := Nat.mul_le_mul (by omega) (Nat.mul_le_mul (Nat.le_refl _) (by omega))
  exact ⟨by omega, by omega, h.2.2.1, by omega⟩
theorem kv_short {ns : List Nd} (h : ∀ d ∈ ns, d.k.length ≤ 1000000 ∧ d.v.length ≤ 1000000) : ∀ f ∈ kvN ns, f.1.length ≤ 1000000 ∧ f.2.length ≤ 1000000 := fun f hf => by
  obtain ⟨d, hd, rfl⟩ := List.mem_map.1 hf
  exact h d hd

set_option maxRecDepth 100000 in
set_option maxHeartbeats 8000000 in
theorem mtow_any (tws : List Int) (TA : Option Addr) (tn tc' : Nat) (fs : List Pr) (LA : Option Addr) (ln lc : Nat) (w : World) (ht : Sl w w.heap.size TA tn tc' (tws.map iv)) (hz : ∀ z ∈ tws, -9223372036854775808 ≤ z ∧ z ≤ 9223372036854775807)
    (hl : ReadA w (.slice LA ln lc) fs) (hln : fs.length = ln) (hb : ln + sizeP fs ≤ 1048576) :
    Calls Try.prog 4 #[.slice TA tn tc', .slice LA ln lc] w fun e w' => e = .returned (.bool true) ∧ Below w.heap.size w w' := by
  have Ht := hide ht
  have Hz := hide hz
  have Hl := hide hl
  have Hln := hide hln
  have Hb := hide hb
  clear ht hz hl hln hb
  go_enter Try.func4, Try.ntmps4
  go_wp2_with fail
  refine (awake_any w).mono ?_
  rintro e w1 ⟨rfl, hB1⟩
  go_wp2_with fail
  refine (few_any fs _ w1 (Hl.out.below hB1) (by have := Hb.out; have := Hln.out; omega)).mono ?_
  rintro e w2 ⟨rfl, hB2⟩
  have HB2 := hide (hB1.trans (hB2.mono hB1.size))
  clear hB1 hB2
  by_cases hf : fs.length + sizeP fs ≤ 4000
  · rw [decide_eq_true hf]
    have Hf := hide hf
    clear hf
    by_cases h1000 : 1000 < tn
    · have h1 : (1000 : Int) < (tn : Int) := by omega
      go_wp2
      go_ret
      exact ⟨rfl, HB2.out⟩
    · have h1 : ¬ (1000 : Int) < (tn : Int) := by omega
      have htn : tn ≤ 1000000 := by omega
      have Hb1 := hide (both_any tws TA tn tc' fs LA ln lc w2 ((Ht.out.below HB2.out).more HB2.out.size) Hz.out htn (Hl.out.below HB2.out) Hln.out Hf.out)
      clear htn
      go_wp2_with fail
      refine Hb1.out.mono ?_
      rintro e w3 ⟨T, R, base, rfl, hd, ms, kv, vv, tv, hB⟩
      have HB3 := hide (HB2.out.trans (hB.bel.mono HB2.out.size))
      have Hb2 := hide (both_any [] none 0 0 fs LA ln lc w3 (Sl.nil _ _ _ _) (by simp) (by omega) (Hl.out.below HB3.out) Hln.out Hf.out)
      have HBa := hide hB
      clear hB Hb1
      go_wp2_with fail
      refine Hb2.out.mono ?_
      rintro e w4 ⟨U, R2, base2, rfl, hd2, ms2, kv2, vv2, tv2, hB⟩
      have HB4 := hide (HB3.out.trans (hB.bel.mono HB3.out.size))
      have HTm := hide (HBa.out.tm.below hB.bel (Nat.le_refl _))
      have HBb := hide hB
      clear hB Hb2
      obtain ⟨p1, p2, p3, p4⟩ := puts_all tws Hf.out
      obtain ⟨q1, q2, q3, q4⟩ := puts_all [] Hf.out
      have hkv := kv_puts tws [] fs fs.length (Nat.le_refl _)
      rw [List.take_length] at hkv
      have hlow := low_puts fs fs.length (Nat.le_refl _)
      rw [List.take_length] at hlow
      have Hlow := hide hlow
      obtain ⟨s1, hs1⟩ : ∃ s1, putsP tws fs = s1 := ⟨_, rfl⟩
      obtain ⟨s2, hs2⟩ : ∃ s2, putsP [] fs = s2 := ⟨_, rfl⟩
      rw [hs1] at p1 p2 p3 p4 hkv HTm HBa
      rw [hs2] at q1 q2 q3 q4 hkv Hlow HBb
      have Hkv := hide hkv
      have hsz : sizeN s1.1 = sizeN s2.1 := by rw [← kv_size, ← kv_size, hkv]
      have Hp := hide (And.intro p1 (And.intro p2 p4))
      have Hq := hide (And.intro q1 (And.intro q2 q4))
      have Hq3 := hide q3
      clear p1 p2 p3 p4 q1 q2 q3 q4 hkv hlow hs1 hs2
      go_wp2_with fail
      refine (pairs_walk T base tws s1.1 s1.2 false hd ms w4 HTm.out (by have := Hp.out; omega)).mono ?_
      rintro e w5 ⟨⟨v5, rfl, hm5⟩, hB5⟩
      have Hu5 := hide (HBb.out.tm.below hB5 (Nat.le_refl _))
      have HB5 := hide (HB4.out.trans (hB5.mono HB4.out.size))
      have Hm5 := hide (MineP.read hm5 (kv_short HTm.out.sl.short))
      have Ht5 := hide (HTm.out.below hB5 (Nat.le_refl _))
      have Hs5 := hide (HB5.out.size)
      clear hm5 hB5
      go_wp2_with fail
      refine (pairs_walk U base2 [] s2.1 s2.2 false hd2 ms2 w5 Hu5.out (by have := Hq.out; omega)).mono ?_
      rintro e w6 ⟨⟨v6, rfl, hm6⟩, hB6⟩
      have Hu6 := hide (Hu5.out.below hB6 (Nat.le_refl _))
      have Ht6 := hide (Ht5.out.below hB6 (Nat.le_refl _))
      have HB6 := hide (HB5.out.trans (hB6.mono HB5.out.size))
      have Hsame := hide (same_any (kvN s1.1) (kvN s2.1) v5 v6 w6 (Hm5.out.below hB6) (MineP.read hm6 (kv_short HBb.out.tm.sl.short)) (by rw [kv_len]; have := Hp.out; omega))
      clear hm6 hB6
      go_wp2_with fail
      refine Hsame.out.mono ?_
      rintro e w7 ⟨rfl, m, rfl⟩
      rw [decide_eq_true Hkv.out]
      have Hu7 := hide (Hu6.out.drewN m)
      have Ht7 := hide (Ht6.out.drewN m)
      have HB7 := hide (Below.drewN' HB6.out m)
      clear Hsame
      generalize w6.drewN m = w7 at *
      go_wp2_with fail
      refine (size_any T base tws s1.1 s1.2 false hd ms w7 Ht7.out (by have := Hp.out; omega)).mono ?_
      rintro e w8 ⟨rfl, rfl⟩
      go_wp2_with fail
      refine (size_any U base2 [] s2.1 s2.2 false hd2 ms2 w7 Hu7.out (by have := Hq.out; omega)).mono ?_
      rintro e w8 ⟨rfl, rfl⟩
      clear hsz
      -- the pairs again
      go_wp2_with fail
      refine (pairs_walk U base2 [] s2.1 s2.2 false hd2 ms2 w7 Hu7.out (by have := Hq.out; omega)).mono ?_
      rintro e w8 ⟨⟨v8, rfl, hm8⟩, hB8⟩
      have Hu8 := hide (Hu7.out.below hB8 (Nat.le_refl _))
      have HB8 := hide (HB7.out.trans (hB8.mono HB7.out.size))
      have Hlt := hide Hu7.out.lt
      have HS := hide HB8.out.size
      obtain ⟨A, c, rfl, _, hat⟩ := hm8.at_
      have Hat := hide hat
      rw [show (List.map (fun d => (d.k, d.v)) s2.1).length = s2.1.length by simp]
      clear hm8 hB8 hat
      by_cases h0 : s2.1.length = 0
      · rw [h0]
        go_wp2
        go_ret
        exact ⟨rfl, HB8.out⟩
      · obtain ⟨m0, hm0⟩ : ∃ m0, s2.1.length = m0 + 1 := ⟨s2.1.length - 1, by omega⟩
        have hm1 : m0 < s2.1.length := by omega
        obtain ⟨g, kh, vh, rfl, hg1, hg2, kc, vc, mk, mv⟩ := Hat.out m0 (by simpa using hm1)
        rw [List.getElem_map] at mk
        simp only at mk
        have hlast := cnt_last Hlow.out HBb.out.tm.sl.ord hm0
        have hkl : s2.1[m0].k.length ≤ 1000000 := (HBb.out.tm.sl.short _ (List.getElem_mem hm1)).1
        obtain ⟨lk, hlk⟩ : ∃ lk, s2.1[m0].k = lk := ⟨_, rfl⟩
        rw [hlk] at mk hkl hlast
        obtain ⟨KA, KL, kcp, ekv, hKL, hkb⟩ := Mine.bsL mk (by omega)
        rw [ekv] at kc
        rw [Nat.mul_comm] at kc
        have Hkb := hide hkb
        have Hown := hide (show 0 < KL → ∀ a, KA = some a → a.block ≠ U from fun h0 a e e' => by
          subst e
          have := (mk.lt (g := a.block) (by rw [ekv]; rfl)).1
          have := Hlt.out
          omega)
        have hcc := cntN_bound Hq3.out lk
        have hqq := Hq.out
        have Hsteps := hide (steps_any U base2 [] s2.1 s2.2 false hd2 ms2 w8 Hu8.out (by omega))
        have Hget := hide (get_any U base2 [] s2.1 s2.2 false hd2 ms2 lk KA KL kcp w8 Hu8.out Hkb.out Hown.out (by omega))
        obtain ⟨Np, hNp⟩ : ∃ Np, s2.1.length = Np := ⟨_, rfl⟩
        have hx1 : IntKind.i64.wrap ((Np : Int) - 1) = (m0 : Int) := by simp [IntKind.wrap, IntKind.bits, IntKind.signed]; omega
        have hx3 : (m0 : Int) < (Np : Int) := by omega
        have hx4 : (0 : Int) ≤ (m0 : Int) := by omega
        have hx5 : ¬ Np = 0 := by omega
        rw [hNp] at hlast ⊢
        have Hlast := hide hlast
        have HNp := hide hNp
        have Hm0 := hide (show Np = m0 + 1 by omega)
        clear mk mv vc hkb hkl hKL ekv hg1 hg2 hcc hqq h0 hm0 hm1 hNp hlast hlk
        go_wp2_with fail
        refine Hsteps.out.mono ?_
        rintro e w9 ⟨rfl, rfl⟩
        go_wp2_with fail
        refine Hget.out.mono ?_
        rintro e w9 ⟨⟨v9, rfl, -⟩, hg9, ht9⟩
        rw [Hlast.out] at ht9
        obtain ⟨C3, hC3⟩ : ∃ C3, s2.2 + Np = C3 := ⟨_, rfl⟩
        rw [hC3] at ht9
        have Hsteps2 := hide (steps_any U base2 [] s2.1 C3 false hd2 ms2 w9 ht9 (by have := Hq.out; have := HNp.out; omega))
        have Hfin := hide (show Below w.heap.size w w9 from HB8.out.grown hg9 HB8.out.size (fun j ej => by
          injection ej with ej
          subst ej
          have h1 := Hu8.out.low
          have h2 := HBb.out.low.1
          have h3 := HB3.out.size
          omega))
        have hx6 : IntKind.i64.wrap ((C3 : Int) - (s2.2 : Int)) = (Np : Int) := by
          have := Hq.out
          have := HNp.out
          simp [IntKind.wrap, IntKind.bits, IntKind.signed]
          omega
        clear hC3
        clear hg9 ht9
        go_wp2_with fail
        refine Hsteps2.out.mono ?_
        rintro e w10 ⟨rfl, rfl⟩
        go_wp2
        go_ret
        exact ⟨by simp, Hfin.out⟩
  · rw [decide_eq_false hf]
    go_wp2
    go_ret
    exact ⟨rfl, HB2.out⟩

end Go.Proofs.Ytkbjbjkgohkkjaa

/-
  The walk of Put: the pair lies in the table, nothing but the table's own blocks has turned. Condition: the table lies in memory as a skip list does, is not sealed, holds less than 2^20 pairs; key and value read as bytes. (The drawn regions printed by gen_put.py.)
-/
import Derived.Test.YtkbjbjkgohkkjaaLaid
namespace Go.Proofs.Ytkbjbjkgohkkjaa
open Go.RowKit Go.Shelf

/-- the pairs behind a Put -/
def putN (ns : List Nd) (k v : Key) (t : Nat) : List Nd := if ((ns[fnd ns k]?).map Nd.k) = some k then setN ns (fnd ns k) v else ins ns (fnd ns k) ⟨k, v, t⟩
theorem sizeN_set (ns : List Nd) : ∀ (i : Nat) (v : Key) (h : i < ns.length), sizeN (setN ns i v) + ns[i].v.length = sizeN ns + v.length := by
  induction ns with
  | nil => intro i v h; simp at h
  | cons d r ih =>
    intro i v h
    rcases i with _ | i
    · simp [sizeN, setN]; omega
    · have := ih i v (by simpa using h)
      simp only [sizeN, setN, List.modify_succ_cons, List.map_cons, List.sum_cons, List.getElem_cons_succ] at *
      omega
theorem sizeN_ins (ns : List Nd) (i : Nat) (nd : Nd) : sizeN (ins ns i nd) = sizeN ns + nd.k.length + nd.v.length := by
  have e : sizeN ns = ((ns.take i).map fun d => d.k.length + d.v.length).sum + ((ns.drop i).map fun d => d.k.length + d.v.length).sum := by
    rw [← List.sum_append, ← List.map_append, List.take_append_drop]
    rfl
  rw [e]
  simp only [sizeN, ins, List.map_append, List.map_cons, List.sum_append, List.sum_cons]
  omega
theorem sizeN_at (ns : List Nd) {i : Nat} (h : i < ns.length) : ns[i].v.length ≤ sizeN ns := by
  have := sizeN_set ns i [] h
  simp at this
  omega

/-- what Put does -/
structure Did (w : World) (T base : Nat) (tw : List Int) (ns : List Nd) (cnt : Nat) (hd : Nw) (ms : List Nw) (k v : Key) (e : Ending) (w' : World) : Prop where
  ok : e = .returned (.int .i64 0)
  tm : ∃ ms', Tm w' T base tw (putN ns k v (towN tw ns.length)) (cnt + cntN ns k) false hd ms' ∧ ∀ g, Foot hd ms' g → Foot hd ms g ∨ w.heap.size ≤ g
  moved : Moved (fun g => g = T ∨ Foot hd ms g) w w'

theorem tower_any' (T base : Nat) (tw : List Int) (ns : List Nd) (cnt : Nat) (sl : Bool) (hd : Nw) (ms : List Nw) (w : World) (h : Tm w T base tw ns cnt sl hd ms) (hn : ns.length ≤ 4611686018427387904) (htw : tw.length ≤ 4611686018427387904)
    (hz : ∀ z ∈ tw, -9223372036854775808 ≤ z ∧ z ≤ 9223372036854775807) :
    Calls Try.prog 37 #[.pointer (some ⟨T, 0, none⟩)] w fun e w' => e = .returned (.int .i64 (towN tw ns.length : Int)) ∧ ∃ m, w' = w.drewN m :=
  (tower_any T base tw ns cnt sl hd ms w h hn htw hz).mono fun e w' hh => hh.elim (fun ⟨a, b⟩ => ⟨a, 1, b⟩) (fun ⟨a, b⟩ => ⟨a, 0, b⟩)

set_option maxRecDepth 100000 in
set_option maxHeartbeats 4000000 in
theorem put_any (T base : Nat) (tw : List Int) (ns : List Nd) (cnt : Nat) (hd : Nw) (ms : List Nw) (k v : Key) (A A2 : Option Addr) (n c n2 c2 : Nat) (w : World) (h : Tm w T base tw ns cnt false hd ms)
    (hk : Bs w w.heap.size A n c k) (hA : 0 < n → ∀ a, A = some a → a.block ≠ T) (hv : Bs w w.heap.size A2 n2 c2 v) (hA2 : 0 < n2 → ∀ a, A2 = some a → a.block ≠ T)
    (hc : cnt + cntN ns k ≤ 4611686018427387904) (hn : ns.length < 1048576) (hsz : sizeN ns ≤ 1000000000) (hkl : n ≤ 1000000) (hvl : n2 ≤ 1000000) (htw : tw.length ≤ 4611686018427387904) (hz : ∀ z ∈ tw, -9223372036854775808 ≤ z ∧ z ≤ 9223372036854775807) :
    Calls Try.prog 11 #[.pointer (some ⟨T, 0, none⟩), .slice A n c, .slice A2 n2 c2] w (Did w T base tw ns cnt hd ms k v) := by
  have c10 : w.cell? ⟨T, 10, none⟩ = some (.int .u32 0) := h.c10
  have hTf : ∀ g, Foot hd ms g → g ≠ T := fun g hg e => by
    subst e
    obtain ⟨tv, hb, _⟩ := h.tab
    exact h.sl.not_foot hb (by decide) (by decide) (by decide) hg
  have hFl := hide (show ∀ g, Foot hd ms g → g < w.heap.size from fun g hg => h.sl.foot_lt hg)
  have HTl := hide h.lt
  have hlen := hide hk.len
  have hlen2 := hide hv.len
  go_enter Try.func11, Try.ntmps11
  go_wp2_with fail
  refine (is_any T w h.c0).mono ?_
  rintro e w' ⟨rfl, rfl⟩
  go_wp2_with fail
  refine (loadb_any T 10 0 w c10).mono ?_
  rintro e w' ⟨rfl, rfl⟩
  go_wp2_with fail
  refine (sought_any T base tw ns cnt false hd ms k A n c w h hk hA hc).mono ?_
  rintro e w1 ⟨g, qs, rfl, hg, hlst, hq0, hqs, hgw, ht1⟩
  have a0 := hqs 0 (by omega)
  rw [hq0] at a0
  have hle := fnd_le ns k
  obtain ⟨x0, hx0, ep, k2, k3, htl⟩ := low_next ht1.sl hle
  rw [ep] at a0
  have i1 : (0 : Int) < (tl ns (fnd ns k) : Int) := by omega
  have hk1 := bs_grown hk (Nat.le_refl _) hA hgw
  have hv1 := bs_grown hv (Nat.le_refl _) hA2 hgw
  have Hgw := hide hgw
  have Ht1 := hide ht1
  have Hqs := hide hqs
  have Hlst := hide hlst
  have hsw := hgw.size
  clear hqs hgw ht1 hx0 ep hc hk hv h hlst
  by_cases hm : ((ns[fnd ns k]?).map Nd.k) = some k
  · -- the key is there
    have hp : putN ns k v (towN tw ns.length) = setN ns (fnd ns k) v := by rw [putN, if_pos hm]
    have hlt : fnd ns k < ns.length := by
      rcases Nat.lt_or_ge (fnd ns k) ns.length with h' | h'
      · exact h'
      · rw [List.getElem?_eq_none h'] at hm; cases hm
    rw [List.getElem?_eq_getElem hlt] at hm
    have he : ns[fnd ns k].k = k := by simpa using hm
    obtain ⟨x1, hx1⟩ := Ht1.out.sl.at_ (q := fnd ns k + 1) (by omega)
    have hx1' : ms[fnd ns k]? = some x1 := by simpa using hx1
    rw [pN_some hx1'] at k3
    have hsh := Ht1.out.sl.short _ (List.getElem_mem hlt)
    obtain ⟨KA, KL, kc, ekv, hKL, hkb⟩ := Mine.bsL (Ht1.out.sl.kv _ _ _ hx1' (List.getElem?_eq_getElem hlt)) (by omega)
    obtain ⟨VA, VL, vc, evv, hVL, hvb⟩ := Mine.bsL (Ht1.out.sl.vv _ _ _ hx1' (List.getElem?_eq_getElem hlt)) (by omega)
    have n0 : w1.cell? ⟨x1.b, 0, none⟩ = some (.slice KA KL kc) := by rw [← ekv]; exact (Ht1.out.sl.node _ x1 hx1).cell 0
    have n1 : w1.cell? ⟨x1.b, 1, none⟩ = some (.slice VA VL vc) := by rw [← evv]; exact (Ht1.out.sl.node _ x1 hx1).cell 1
    have hss := sizeN_set ns (fnd ns k) v hlt
    have hsa := sizeN_at ns hlt
    have hVLb : VL ≤ sizeN ns := by omega
    have hnew : (sizeN ns : Int) + ((n2 : Int) - (VL : Int)) = (sizeN (setN ns (fnd ns k) v) : Int) := by rw [hlen2.out, ← hVL] at hss; omega
    have Hnew := hide hnew
    have hwr : IntKind.i64.wrap ((n2 : Int) - (VL : Int)) = (n2 : Int) - (VL : Int) := by simp [IntKind.wrap, IntKind.bits, IntKind.signed]; omega
    have hxT : x1.b ≠ T := hTf _ (Foot.b (List.mem_of_getElem? hx1))
    have q5 : w1.drew.cell? ⟨T, 5, none⟩ = some (.int .i64 (sizeN ns : Int)) := Ht1.out.c5
    have q5f : w1.drew.frozen? ⟨T, 5, none⟩ = false := by obtain ⟨tv, hb, _⟩ := Ht1.out.tab; exact hb.frozen 5
    have hS8 : w1.drew.cell? ⟨x1.b, 1, none⟩ = some (.slice VA VL vc) := n1
    have hS8' : (w1.drew.setCell ⟨T, 5, none⟩ (.int .i64 ((sizeN ns : Int) + ((n2 : Int) - (VL : Int))))).cell? ⟨x1.b, 1, none⟩ = some (.slice VA VL vc) := (World.cell?_setCell_other _ _ _ _ (fun e => hxT (congrArg Addr.block e).symm)).trans n1
    clear hss hnew hsa hKL hVL
    go_wp2_with fail
    refine (equal_any ns[fnd ns k].k k KA A KL kc n c _ _ w1 hkb hk1).mono ?_
    rintro e w2 ⟨rfl, rfl⟩
    have hb : (ns[fnd ns k].k == k) = true := by simpa using he
    go_wp2
    refine wp_region_held_drew (S := fun W' => W'.cell? ⟨x1.b, 1, none⟩ = some (.slice VA VL vc)) (by kernel_rfl) (hS8) (fun hHeld => ?_)
    refine wpAnyH_take (i := 0) (v := ?_) rfl (by kernel_rfl) (by kernel_rfl) (by kernel_rfl) (fun _ _ _ h => h) (Or.inl ⟨by kernel_rfl, ?_⟩) (by assumption) ?_
    rotate_left
    · (intro w hSw; (try dsimp only at hSw); go_simp; try with_reducible rfl)
    (try simp only [Act.put, List.getElem_toArray, List.getElem_cons_succ, List.getElem_cons_zero, List.setIfInBounds_toArray, List.set_cons_zero, List.set_cons_succ])
    refine wpAnyH_take (i := 1) (v := ?_) rfl (by kernel_rfl) (by kernel_rfl) (by kernel_rfl) (fun _ _ _ h => h) (Or.inl ⟨by kernel_rfl, ?_⟩) (by assumption) ?_
    rotate_left
    · (intro w hSw; (try dsimp only at hSw); go_simp; try with_reducible rfl)
    (try simp only [Act.put, List.getElem_toArray, List.getElem_cons_succ, List.getElem_cons_zero, List.setIfInBounds_toArray, List.set_cons_zero, List.set_cons_succ])
    refine wpAnyH_take (i := 2) (v := ?_) rfl (by kernel_rfl) (by kernel_rfl) (by kernel_rfl) (fun _ _ _ h => h) (Or.inl ⟨by kernel_rfl, ?_⟩) (by assumption) ?_
    rotate_left
    · (intro w hSw; (try dsimp only at hSw); go_simp; try with_reducible rfl)
    (try simp only [Act.put, List.getElem_toArray, List.getElem_cons_succ, List.getElem_cons_zero, List.setIfInBounds_toArray, List.set_cons_zero, List.set_cons_succ])
    refine wpAnyH_take (i := 3) (v := ?_) rfl (by kernel_rfl) (by kernel_rfl) (by kernel_rfl) (fun _ _ _ h => h) (Or.inl ⟨by kernel_rfl, ?_⟩) (by assumption) ?_
    rotate_left
    · (intro w hSw; (try dsimp only at hSw); go_simp; try with_reducible rfl)
    (try simp only [Act.put, List.getElem_toArray, List.getElem_cons_succ, List.getElem_cons_zero, List.setIfInBounds_toArray, List.set_cons_zero, List.set_cons_succ])
    refine wpAnyH_take (i := 4) (v := ?_) rfl (by kernel_rfl) (by kernel_rfl) (by kernel_rfl) (fun _ _ _ h => h) (Or.inl ⟨by kernel_rfl, ?_⟩) (by assumption) ?_
    rotate_left
    · (intro w hSw; (try dsimp only at hSw); go_simp; try with_reducible rfl)
    (try simp only [Act.put, List.getElem_toArray, List.getElem_cons_succ, List.getElem_cons_zero, List.setIfInBounds_toArray, List.set_cons_zero, List.set_cons_succ])
    refine wpAnyH_take (i := 5) (v := ?_) rfl (by kernel_rfl) (by kernel_rfl) (by kernel_rfl) (fun _ _ _ h => h) (Or.inl ⟨by kernel_rfl, ?_⟩) (by assumption) ?_
    rotate_left
    · (intro w hSw; (try dsimp only at hSw); go_simp; try with_reducible rfl)
    (try simp only [Act.put, List.getElem_toArray, List.getElem_cons_succ, List.getElem_cons_zero, List.setIfInBounds_toArray, List.set_cons_zero, List.set_cons_succ])
    refine wpAnyH_take (i := 6) (v := ?_) rfl (by kernel_rfl) (by kernel_rfl) (by kernel_rfl) (fun _ _ _ h => h) (Or.inl ⟨by kernel_rfl, ?_⟩) (by assumption) ?_
    rotate_left
    · (intro w hSw; (try dsimp only at hSw); go_simp; try with_reducible rfl)
    (try simp only [Act.put, List.getElem_toArray, List.getElem_cons_succ, List.getElem_cons_zero, List.setIfInBounds_toArray, List.set_cons_zero, List.set_cons_succ])
    refine wpAnyH_take (i := 7) (v := ?_) rfl (by kernel_rfl) (by kernel_rfl) (by kernel_rfl) (fun _ _ _ h => h) (Or.inl ⟨by kernel_rfl, ?_⟩) (by assumption) ?_
    rotate_left
    · (intro w hSw; (try dsimp only at hSw); go_simp; try with_reducible rfl)
    (try simp only [Act.put, List.getElem_toArray, List.getElem_cons_succ, List.getElem_cons_zero, List.setIfInBounds_toArray, List.set_cons_zero, List.set_cons_succ])
    refine wpAnyH_take (i := 8) (v := ?_) rfl (by kernel_rfl) (by kernel_rfl) (by kernel_rfl) (fun _ _ _ h => h) (Or.inl ⟨by kernel_rfl, ?_⟩) (by assumption) ?_
    rotate_left
    · (intro w hSw; (try dsimp only at hSw); go_simp; try with_reducible rfl)
    (try simp only [Act.put, List.getElem_toArray, List.getElem_cons_succ, List.getElem_cons_zero, List.setIfInBounds_toArray, List.set_cons_zero, List.set_cons_succ])
    refine wpAnyH_take (i := 9) (v := ?_) rfl (by kernel_rfl) (by kernel_rfl) (by kernel_rfl) (fun _ _ _ h => h) (Or.inl ⟨by kernel_rfl, ?_⟩) (by assumption) ?_
    rotate_left
    · (intro w hSw; (try dsimp only at hSw); go_simp; try with_reducible rfl)
    (try simp only [Act.put, List.getElem_toArray, List.getElem_cons_succ, List.getElem_cons_zero, List.setIfInBounds_toArray, List.set_cons_zero, List.set_cons_succ])
    refine wpAnyH_take (i := 10) (v := ?_) rfl (by kernel_rfl) (by kernel_rfl) (by kernel_rfl) (fun _ _ _ h => h) (Or.inl ⟨by kernel_rfl, ?_⟩) (by assumption) ?_
    rotate_left
    · (intro w hSw; (try dsimp only at hSw); go_simp; try with_reducible rfl)
    (try simp only [Act.put, List.getElem_toArray, List.getElem_cons_succ, List.getElem_cons_zero, List.setIfInBounds_toArray, List.set_cons_zero, List.set_cons_succ])
    refine wpAnyH_ready (rs := [11]) (by kernel_rfl) (by simp) (AllReadyH.cons rfl (fun K hK => ?_) AllReadyH.nil)
    go_simp
    refine Calls.mono (add64_any T 5 (sizeN ns : Int) ((n2 : Int) - (VL : Int)) w1.drew q5 q5f (by omega) (by omega)) ?_
    rintro e w2 ⟨rfl, rfl⟩
    refine hK.out _ _ (hS8') (fun hHeld => ?_)
    clear hK K
    (try simp only [Act.put, List.getElem_toArray, List.getElem_cons_succ, List.getElem_cons_zero, List.setIfInBounds_toArray, List.set_cons_zero, List.set_cons_succ])
    refine wpAnyH_done (by kernel_rfl) ?_ _
    obtain ⟨W2, hW2⟩ : ∃ W2, w1.drew.setCell ⟨T, 5, none⟩ (.int .i64 ((sizeN ns : Int) + ((n2 : Int) - (VL : Int)))) = W2 := ⟨_, rfl⟩
    rw [hW2]
    obtain ⟨tv, htab, htow⟩ := Ht1.out.tab
    have hg2 : w1.grownBy W2 (some T) := by rw [← hW2]; exact grown_at (w := w1) (w' := w1.drew) ⟨rfl, rfl, rfl, Nat.le_refl _, fun _ _ _ => rfl⟩ (.inr rfl) 5 _
    have ht2 : Blk W2 T 47 (tc tv hd.b (hi ns : Int) (ns.length : Int) (sizeN (setN ns (fnd ns k) v) : Int) ((cnt + cntN ns k : Nat) : Int) 0 0 0) := by
      have := (Blk.drewN htab 1).put 5 (.int .i64 ((sizeN ns : Int) + ((n2 : Int) - (VL : Int))))
      rw [← hW2, ← Hnew.out]
      exact this
    have hnfT := Ht1.out.sl.not_foot htab (by decide) (by decide) (by decide)
    have hs2 := Ht1.out.sl.grown hg2 hnfT
    have hv2 := bs_grown hv1 hsw hA2 hg2
    have hsg2 := hg2.size
    have Htow := hide htow
    clear htab htow hW2 hS8 hS8' q5 q5f hvb hkb hHeld
    go_wp2_with fail
    refine (clone_any v A2 n2 c2 _ W2 hv2 (by omega)).mono ?_
    rintro e W3 ⟨v', rfl, hm3, hB3⟩
    obtain ⟨A3, L3, c3, rfl⟩ := mine_shape hm3
    have hs3 := hs2.below hB3 (Nat.le_refl _)
    have ht3 := ht2.below hB3 ht2.lt
    have m1 : W3.cell? ⟨x1.b, 1, none⟩ = some (.slice VA VL vc) := by rw [← evv]; exact (hs3.node _ x1 hx1).cell 1
    have f1 := (hs3.node _ x1 hx1).frozen 1
    have hsB3 := hB3.size
    have hs4 := hs3.value hx1' (hm3.mono (base' := base) (by have := Ht1.out.low; have := ht2.lt; omega)) (by rw [hlen2.out]; exact hvl)
    have ht4 := ht3.far (p := ⟨x1.b, 1, none⟩) (fun e => hxT e.symm) (.slice A3 L3 c3)
    have hmov : Moved (fun g => g = T ∨ Foot hd ms g) w (W3.setCell ⟨x1.b, 1, none⟩ (.slice A3 L3 c3)) :=
      (((Moved.of_grown Hgw.out (.inl rfl)).trans (Moved.of_grown hg2 (.inl rfl))).trans (Moved.of_below hB3 (Nat.le_refl _))).set (.inr (.inr (Foot.b (List.mem_of_getElem? hx1)))) _
    have hrow : MineI (W3.setCell ⟨x1.b, 1, none⟩ (.slice A3 L3 c3)) base tv tw := ownsRow_of_heap Htow.out fun r hr => by
      obtain ⟨cs, f, hh⟩ := ownsRow_own Htow.out hr
      have hl := (Array.getElem?_eq_some_iff.1 hh).1
      have hrT : r ≠ T := fun e => by
        subst e
        obtain ⟨tv', hb, _⟩ := Ht1.out.tab
        rw [show w1.heap[r]? = _ from hb] at hh
        injection hh with hh
        injection hh with _ e5 _
        cases e5
      have hrx : r ≠ x1.b := fun e => by
        subst e
        have hb := Ht1.out.sl.node _ x1 hx1
        rw [show w1.heap[x1.b]? = _ from hb] at hh
        injection hh with hh
        injection hh with _ e5 _
        cases e5
      exact (Below.heap_setCell _ _ _ _ hrx).trans ((hB3.block r (by omega)).trans (hg2.block r hl (fun e => hrT (by injection e))))
    clear ht2 ht3 hs2 hs3
    go_wp2
    go_ret
    refine ⟨rfl, ⟨setM ms (fnd ns k) (.slice A3 L3 c3), ⟨⟨tv, ?_, hrow⟩, by rw [hp]; exact hs4, Ht1.out.low⟩, fun r hr => ?_⟩, hmov⟩
    · rw [hp, show hi (setN ns (fnd ns k) v) = hi ns by unfold hi; rw [setN_t], setN_len]
      exact ht4
    · obtain ⟨m, hmm, hr⟩ := hr
      obtain ⟨q, hq⟩ := List.mem_iff_getElem?.1 hmm
      rcases q with _ | p
      · simp only [List.getElem?_cons_zero, Option.some.injEq] at hq
        subst hq
        exact .inl ⟨hd, List.mem_cons_self .., hr⟩
      · rw [List.getElem?_cons_succ, setM, modify_get] at hq
        cases e0 : ms[p]? with
        | none => rw [e0] at hq; simp at hq
        | some m0 =>
          rw [e0] at hq
          simp only [Option.map_some, Option.some.injEq] at hq
          have hmem : m0 ∈ hd :: ms := List.mem_cons_of_mem _ (List.mem_of_getElem? e0)
          by_cases hip : fnd ns k = p
          · rw [if_pos hip] at hq
            subst hq
            rcases hr with hr | hr | hr | hr
            · exact .inl ⟨m0, hmem, .inl hr⟩
            · exact .inl ⟨m0, hmem, .inr (.inl hr)⟩
            · exact .inl ⟨m0, hmem, .inr (.inr (.inl hr))⟩
            · exact .inr (by have := (hm3.lt hr).1; omega)
          · rw [if_neg hip] at hq
            subst hq
            exact .inl ⟨m0, hmem, hr⟩
  · -- the key is not there
    obtain ⟨t, hT'⟩ : ∃ t, towN tw ns.length = t := ⟨_, rfl⟩
    have htb := towN_bound tw ns.length
    rw [hT'] at htb
    have hp : putN ns k v (towN tw ns.length) = ins ns (fnd ns k) ⟨k, v, t⟩ := by rw [putN, if_neg hm, hT']
    have Hn := hide hn
    clear hn
    have Hne := hide (show (h : fnd ns k < ns.length) → ns[fnd ns k].k ≠ k from fun h e => hm (by rw [List.getElem?_eq_getElem h]; simp [e]))
    clear hm
    by_cases hlt : fnd ns k < ns.length
    · have hsh := Ht1.out.sl.short _ (List.getElem_mem hlt)
      obtain ⟨x1, hx1⟩ := Ht1.out.sl.at_ (q := fnd ns k + 1) (by omega)
      have hx1' : ms[fnd ns k]? = some x1 := by simpa using hx1
      rw [pN_some hx1'] at k3
      obtain ⟨KA, KL, kc, ekv, hKL, hkb⟩ := Mine.bsL (Ht1.out.sl.kv _ _ _ hx1' (List.getElem?_eq_getElem hlt)) (by omega)
      have n0 : w1.cell? ⟨x1.b, 0, none⟩ = some (.slice KA KL kc) := by rw [← ekv]; exact (Ht1.out.sl.node _ x1 hx1).cell 0
      clear hKL
      go_wp2_with fail
      refine (equal_any ns[fnd ns k].k k KA A KL kc n c _ _ w1 hkb hk1).mono ?_
      rintro e w2 ⟨rfl, rfl⟩
      have hb : (ns[fnd ns k].k == k) = false := by simpa using Hne.out hlt
      clear hkb n0 ekv hx1 hx1' hsh
      go_wp2_with fail
      obtain ⟨z4, hz4⟩ : ∃ z4 : Int, (ns.length : Int) = z4 := ⟨_, rfl⟩
      have hn4 : ¬ 1048576 ≤ z4 := by have := Hn.out; omega
      have hc4 := Ht1.out.c4
      rw [hz4] at hc4
      clear hz4
      refine (load64_any T 4 _ w1 hc4).mono ?_
      rintro e w' ⟨rfl, rfl⟩
      go_wp2_with fail
      have hn := Hn.out
      refine (clone_any k A n c _ w1 hk1 hsw).mono ?_
      rintro e w2 ⟨kv, rfl, hmk, hB2⟩
      have hv2 := hv1.below (hB2.mono hsw)
      have hs2 := hB2.size
      clear hv1 hk1
      go_wp2_with fail
      refine (clone_any v A2 n2 c2 _ w2 hv2 (by omega)).mono ?_
      rintro e w3 ⟨vv, rfl, hmv, hB3⟩
      have hs3 := hB3.size
      have hmk3 := hmk.below hB3 (Nat.le_refl _)
      have hB13 := hB2.trans (hB3.mono hs2)
      have ht3 := Ht1.out.below hB13 (Nat.le_refl _)
      clear hv2 hmk hB2
      go_wp2_with fail
      refine (tower_any' T base tw ns _ false hd ms w3 ht3 (by omega) htw hz).mono ?_
      rintro e w4 ⟨rfl, dm, rfl⟩
      rw [hT']
      have ht4 := ht3.drewN dm
      have hmk4 := hmk3.drewN dm
      have hmv4 := hmv.drewN dm
      have hB14 := Below.drewN' hB13 dm
      have hs4 : w3.heap.size = (w3.drewN dm).heap.size := rfl
      generalize w3.drewN dm = w4 at *
      obtain ⟨A3, L3, c3, rfl⟩ := mine_shape hmk4
      obtain ⟨A4, L4, c4, rfl⟩ := mine_shape hmv4
      have hmkp := run_make_ptrs t (by omega) w4
      go_wp2
      obtain ⟨w5, hw5⟩ : ∃ w5, (w4.alloc (.cells (nilsA t) 28)).alloc (.cells #[.slice A3 L3 c3, .slice A4 L4 c4, .slice (some ⟨w4.heap.size, 0, none⟩) t t] 83) = w5 := ⟨_, rfl⟩
      rw [hw5]
      have ht5 := (ht4.alloc (.cells (nilsA t) 28)).alloc (.cells #[.slice A3 L3 c3, .slice A4 L4 c4, .slice (some ⟨w4.heap.size, 0, none⟩) t t] 83)
      have hmk5 := (hmk4.alloc (.cells (nilsA t) 28)).alloc (.cells #[.slice A3 L3 c3, .slice A4 L4 c4, .slice (some ⟨w4.heap.size, 0, none⟩) t t] 83)
      have hmv5 := (hmv4.alloc (.cells (nilsA t) 28)).alloc (.cells #[.slice A3 L3 c3, .slice A4 L4 c4, .slice (some ⟨w4.heap.size, 0, none⟩) t t] 83)
      have hnx := (Blk.new w4 28 (nilsA t)).alloc (.cells #[.slice A3 L3 c3, .slice A4 L4 c4, .slice (some ⟨w4.heap.size, 0, none⟩) t t] 83)
      have hnb := Blk.new (w4.alloc (.cells (nilsA t) 28)) 83 #[.slice A3 L3 c3, .slice A4 L4 c4, .slice (some ⟨w4.heap.size, 0, none⟩) t t]
      rw [show (w4.alloc (.cells (nilsA t) 28)).heap.size = w4.heap.size + 1 by simp] at hnb
      have hB15 := (hB14.alloc hB14.size (.cells (nilsA t) 28)).alloc (by simp; have := hB14.size; omega) (.cells #[.slice A3 L3 c3, .slice A4 L4 c4, .slice (some ⟨w4.heap.size, 0, none⟩) t t] 83)
      rw [hw5] at ht5 hmk5 hmv5 hnx hnb hB15
      have hs14 := hB14.size
      have hg1 : g < w1.heap.size := World.block_lt_of_cell? w1 ⟨g, 0, none⟩ a0
      have Hlay := hide (Laid.start (qs := qs) (nb := w4.heap.size + 1) ht5.sl hnx)
      have hlt5 := hnb.lt
      have hfx := hide (show ∀ n ∈ hd :: ms, n.x ≠ w4.heap.size from fun n hn e => by have := hFl.out _ (Foot.x hn); omega)
      have Ht5 := hide ht5
      have Hmk5 := hide hmk5
      have Hmv5 := hide hmv5
      have Hnb := hide hnb
      have Hnx := hide hnx
      have HB15 := hide hB15
      have Hhp := hide hp
      clear hw5 ht4 ht3 hmk3 hmk4 hmv hmv4 hB14 hB13 hB3 hmkp ht5 hmk5 hmv5 hnx hnb hB15 hp hc4 k2 k3 htl i1 a0 hn4
      go_loopw [77] (fun t77 wq => ∃ j : Nat, j ≤ t ∧ t77 = .int .i64 (j : Int) ∧ Laid w5 ns hd ms qs (w4.heap.size + 1) w4.heap.size t j wq) (fun t77 _ => t - (intOf t77).toNat)
      case atStart => exact ⟨0, Nat.zero_le _, rfl, Hlay.out⟩
      case round =>
        obtain ⟨j, hj, rfl, hlay⟩ := hrel
        by_cases hjt : j < t
        · have L := Hlst.out j (by omega)
          have hql : qs j ≤ ns.length := Nat.le_trans L.le hle
          obtain ⟨xq, hxq⟩ := Ht5.out.sl.at_ hql
          have hmem := List.mem_of_getElem? hxq
          have htlq : j < tl ns (qs j) := by
            have hok := L.ok
            generalize qs j = q0 at *
            rcases q0 with _ | p1
            · rw [tl_zero]; omega
            · obtain ⟨h1, h2⟩ := hok.resolve_left (by omega)
              rw [tl_succ (by simpa using h1)]
              simpa using h2
          have hFx := fun n hn => hFl.out _ (Foot.x (hd := hd) (ms := ms) (n := n) hn)
          have u1 : wr.cell? ⟨w4.heap.size + 1, 2, none⟩ = some (.slice (some ⟨w4.heap.size, 0, none⟩) t t) := (hlay.other (i := 2) hlt5 (by omega) (fun n hn e => by have := hFx n hn; omega)).trans (Hnb.out.cell 2)
          have u2 : wr.cell? ⟨g, j, none⟩ = some (.pointer (some ⟨xq.b, 0, none⟩)) := by
            rw [hlay.other (i := j) (show g < w5.heap.size by omega) (by omega) (fun n hn e => by have := hFx n hn; omega), ← pP_some hxq, ← Hqs.out j (by omega)]
            exact HB15.out.cell (p := ⟨g, j, none⟩) hg1
          have u3 : wr.cell? ⟨xq.b, 2, none⟩ = some (.slice (some ⟨xq.x, 0, none⟩) (tl ns (qs j)) (tl ns (qs j))) :=
            (hlay.other (i := 2) (Ht5.out.sl.foot_lt (Foot.b hmem)) (by have := hFl.out _ (Foot.b hmem); omega) (fun n hn => Ht5.out.sl.bx hmem hn)).trans ((Ht5.out.sl.node _ xq hxq).cell 2)
          have u4 := hlay.cell hxq htlq
          have f1 := hlay.new.frozen j
          have f2 := (hlay.arr _ xq hxq).frozen j
          have f3 : wr.cell? ⟨w4.heap.size, j, none⟩ = some (.pointer none) := by rw [hlay.new.cell]; simp [newV, hjt]
          have Hstep := hide (hlay.drew.step Ht5.out.sl hfx.out hxq hjt)
          have hb4 := (hlay.drew.arr _ xq hxq).far (p := ⟨w4.heap.size, j, none⟩) (fun e => hfx.out xq hmem (by first | exact e | exact e.symm)) (pN ms (nxt ns j (qs j)))
          have f4 := hb4.frozen j
          clear hb4
          have n1 : xq.x ≠ w4.heap.size := hfx.out xq hmem
          have n2' : g ≠ w4.heap.size := by omega
          have n3 : xq.b ≠ w4.heap.size := by have := hFl.out _ (Foot.b hmem); omega
          obtain ⟨X, hX⟩ : ∃ X, pN ms (nxt ns j (qs j)) = .pointer X := ⟨_, rfl⟩
          rw [hX] at u4 Hstep f4
          obtain ⟨tq, htq⟩ : ∃ tq, tl ns (qs j) = tq := ⟨_, rfl⟩
          rw [htq] at u3 htlq
          have i0 : (0 : Int) ≤ (j : Int) := by omega
          have i1 : (j : Int) < (t : Int) := by omega
          have i2 : (j : Int) < 12 := by omega
          have i3 : (j : Int) < (tq : Int) := by omega
          have hS17 : wr.drew.cell? ⟨w4.heap.size + 1, 2, none⟩ = some (.slice (some ⟨w4.heap.size, 0, none⟩) t t) ∧ wr.drew.cell? ⟨g, j, none⟩ = some (.pointer (some ⟨xq.b, 0, none⟩)) ∧ wr.drew.cell? ⟨xq.b, 2, none⟩ = some (.slice (some ⟨xq.x, 0, none⟩) tq tq) ∧ wr.drew.cell? ⟨xq.x, j, none⟩ = some (.pointer X) := ⟨u1, u2, u3, u4⟩
          have v1 : (wr.drew.setCell ⟨w4.heap.size, j, none⟩ (.pointer X)).cell? ⟨w4.heap.size + 1, 2, none⟩ = some (.slice (some ⟨w4.heap.size, 0, none⟩) t t) := (World.cell?_setCell_other _ _ _ _ (fun e => by have := congrArg Addr.block e; simp at this)).trans u1
          have v2 : (wr.drew.setCell ⟨w4.heap.size, j, none⟩ (.pointer X)).cell? ⟨g, j, none⟩ = some (.pointer (some ⟨xq.b, 0, none⟩)) := (World.cell?_setCell_other _ _ _ _ (fun e => n2' (congrArg Addr.block e).symm)).trans u2
          have v3 : (wr.drew.setCell ⟨w4.heap.size, j, none⟩ (.pointer X)).cell? ⟨xq.b, 2, none⟩ = some (.slice (some ⟨xq.x, 0, none⟩) tq tq) := (World.cell?_setCell_other _ _ _ _ (fun e => n3 (congrArg Addr.block e).symm)).trans u3
          have v4 : (wr.drew.setCell ⟨w4.heap.size, j, none⟩ (.pointer X)).cell? ⟨xq.x, j, none⟩ = some (.pointer X) := (World.cell?_setCell_other _ _ _ _ (fun e => n1 (congrArg Addr.block e).symm)).trans u4
          have hS17' := And.intro v1 (And.intro v2 (And.intro v3 v4))
          clear hX htq L hlay u1 u2 u3 u4 v1 v2 v3 v4
          go_wp2
          refine wp_region_held_drew (S := fun W' => W'.cell? ⟨w4.heap.size + 1, 2, none⟩ = some (.slice (some ⟨w4.heap.size, 0, none⟩) t t) ∧ W'.cell? ⟨g, j, none⟩ = some (.pointer (some ⟨xq.b, 0, none⟩)) ∧ W'.cell? ⟨xq.b, 2, none⟩ = some (.slice (some ⟨xq.x, 0, none⟩) tq tq) ∧ W'.cell? ⟨xq.x, j, none⟩ = some (.pointer X)) (by kernel_rfl) (hS17) (fun hHeld => ?_)
          refine wpAnyH_take (i := 0) (v := ?_) rfl (by kernel_rfl) (by kernel_rfl) (by kernel_rfl) (fun _ _ _ h => h) (Or.inl ⟨by kernel_rfl, ?_⟩) (by assumption) ?_
          rotate_left
          · (intro w hSw; (try dsimp only at hSw); go_simp; try with_reducible rfl)
          (try simp only [Act.put, List.getElem_toArray, List.getElem_cons_succ, List.getElem_cons_zero, List.setIfInBounds_toArray, List.set_cons_zero, List.set_cons_succ])
          refine wpAnyH_take (i := 1) (v := ?_) rfl (by kernel_rfl) (by kernel_rfl) (by kernel_rfl) (fun _ _ _ h => h) (Or.inl ⟨by kernel_rfl, ?_⟩) (by assumption) ?_
          rotate_left
          · (intro w hSw; (try dsimp only at hSw); go_simp; try with_reducible rfl)
          (try simp only [Act.put, List.getElem_toArray, List.getElem_cons_succ, List.getElem_cons_zero, List.setIfInBounds_toArray, List.set_cons_zero, List.set_cons_succ])
          refine wpAnyH_take (i := 2) (v := ?_) rfl (by kernel_rfl) (by kernel_rfl) (by kernel_rfl) (fun _ _ _ h => h) (Or.inl ⟨by kernel_rfl, ?_⟩) (by assumption) ?_
          rotate_left
          · (intro w hSw; (try dsimp only at hSw); go_simp; try with_reducible rfl)
          (try simp only [Act.put, List.getElem_toArray, List.getElem_cons_succ, List.getElem_cons_zero, List.setIfInBounds_toArray, List.set_cons_zero, List.set_cons_succ])
          refine wpAnyH_take (i := 3) (v := ?_) rfl (by kernel_rfl) (by kernel_rfl) (by kernel_rfl) (fun _ _ _ h => h) (Or.inl ⟨by kernel_rfl, ?_⟩) (by assumption) ?_
          rotate_left
          · (intro w hSw; (try dsimp only at hSw); go_simp; try with_reducible rfl)
          (try simp only [Act.put, List.getElem_toArray, List.getElem_cons_succ, List.getElem_cons_zero, List.setIfInBounds_toArray, List.set_cons_zero, List.set_cons_succ])
          refine wpAnyH_take (i := 4) (v := ?_) rfl (by kernel_rfl) (by kernel_rfl) (by kernel_rfl) (fun _ _ _ h => h) (Or.inl ⟨by kernel_rfl, ?_⟩) (by assumption) ?_
          rotate_left
          · (intro w hSw; (try dsimp only at hSw); go_simp; try with_reducible rfl)
          (try simp only [Act.put, List.getElem_toArray, List.getElem_cons_succ, List.getElem_cons_zero, List.setIfInBounds_toArray, List.set_cons_zero, List.set_cons_succ])
          refine wpAnyH_take (i := 5) (v := ?_) rfl (by kernel_rfl) (by kernel_rfl) (by kernel_rfl) (fun _ _ _ h => h) (Or.inl ⟨by kernel_rfl, ?_⟩) (by assumption) ?_
          rotate_left
          · (intro w hSw; (try dsimp only at hSw); go_simp; try with_reducible rfl)
          (try simp only [Act.put, List.getElem_toArray, List.getElem_cons_succ, List.getElem_cons_zero, List.setIfInBounds_toArray, List.set_cons_zero, List.set_cons_succ])
          refine wpAnyH_take (i := 6) (v := ?_) rfl (by kernel_rfl) (by kernel_rfl) (by kernel_rfl) (fun _ _ _ h => h) (Or.inl ⟨by kernel_rfl, ?_⟩) (by assumption) ?_
          rotate_left
          · (intro w hSw; (try dsimp only at hSw); go_simp; try with_reducible rfl)
          (try simp only [Act.put, List.getElem_toArray, List.getElem_cons_succ, List.getElem_cons_zero, List.setIfInBounds_toArray, List.set_cons_zero, List.set_cons_succ])
          refine wpAnyH_take (i := 7) (v := ?_) rfl (by kernel_rfl) (by kernel_rfl) (by kernel_rfl) (fun _ _ _ h => h) (Or.inl ⟨by kernel_rfl, ?_⟩) (by assumption) ?_
          rotate_left
          · (intro w hSw; (try dsimp only at hSw); go_simp; try with_reducible rfl)
          (try simp only [Act.put, List.getElem_toArray, List.getElem_cons_succ, List.getElem_cons_zero, List.setIfInBounds_toArray, List.set_cons_zero, List.set_cons_succ])
          refine wpAnyH_take (i := 8) (v := ?_) rfl (by kernel_rfl) (by kernel_rfl) (by kernel_rfl) (fun _ _ _ h => h) (Or.inl ⟨by kernel_rfl, ?_⟩) (by assumption) ?_
          rotate_left
          · (intro w hSw; (try dsimp only at hSw); go_simp; try with_reducible rfl)
          (try simp only [Act.put, List.getElem_toArray, List.getElem_cons_succ, List.getElem_cons_zero, List.setIfInBounds_toArray, List.set_cons_zero, List.set_cons_succ])
          refine wpAnyH_take (i := 9) (v := ?_) rfl (by kernel_rfl) (by kernel_rfl) (by kernel_rfl) (fun _ _ _ h => h) (Or.inl ⟨by kernel_rfl, ?_⟩) (by assumption) ?_
          rotate_left
          · (intro w hSw; (try dsimp only at hSw); go_simp; try with_reducible rfl)
          (try simp only [Act.put, List.getElem_toArray, List.getElem_cons_succ, List.getElem_cons_zero, List.setIfInBounds_toArray, List.set_cons_zero, List.set_cons_succ])
          refine wpAnyH_take (i := 10) (v := ?_) rfl (by kernel_rfl) (by kernel_rfl) (by kernel_rfl) (fun _ _ _ h => h) (Or.inl ⟨by kernel_rfl, ?_⟩) (by assumption) ?_
          rotate_left
          · (intro w hSw; (try dsimp only at hSw); go_simp; try with_reducible rfl)
          (try simp only [Act.put, List.getElem_toArray, List.getElem_cons_succ, List.getElem_cons_zero, List.setIfInBounds_toArray, List.set_cons_zero, List.set_cons_succ])
          refine wpAnyH_take (i := 11) (v := ?_) rfl (by kernel_rfl) (by kernel_rfl) (by kernel_rfl) (fun _ _ _ h => h) (Or.inl ⟨by kernel_rfl, ?_⟩) (by assumption) ?_
          rotate_left
          · (intro w hSw; (try dsimp only at hSw); go_simp; try with_reducible rfl)
          (try simp only [Act.put, List.getElem_toArray, List.getElem_cons_succ, List.getElem_cons_zero, List.setIfInBounds_toArray, List.set_cons_zero, List.set_cons_succ])
          refine wpAnyH_take (i := 12) (v := ?_) rfl (by kernel_rfl) (by kernel_rfl) (by kernel_rfl) (fun _ _ _ h => h) (Or.inl ⟨by kernel_rfl, ?_⟩) (by assumption) ?_
          rotate_left
          · (intro w hSw; (try dsimp only at hSw); go_simp; try with_reducible rfl)
          (try simp only [Act.put, List.getElem_toArray, List.getElem_cons_succ, List.getElem_cons_zero, List.setIfInBounds_toArray, List.set_cons_zero, List.set_cons_succ])
          refine wpAnyH_take (i := 13) (v := ?_) rfl (by kernel_rfl) (by kernel_rfl) (by kernel_rfl) (fun _ _ _ h => h) (Or.inl ⟨by kernel_rfl, ?_⟩) (by assumption) ?_
          rotate_left
          · (intro w hSw; (try dsimp only at hSw); go_simp; try with_reducible rfl)
          (try simp only [Act.put, List.getElem_toArray, List.getElem_cons_succ, List.getElem_cons_zero, List.setIfInBounds_toArray, List.set_cons_zero, List.set_cons_succ])
          refine wpAnyH_take (i := 14) (v := ?_) rfl (by kernel_rfl) (by kernel_rfl) (by kernel_rfl) (fun _ _ _ h => h) (Or.inl ⟨by kernel_rfl, ?_⟩) (by assumption) ?_
          rotate_left
          · (intro w hSw; (try dsimp only at hSw); go_simp; try with_reducible rfl)
          (try simp only [Act.put, List.getElem_toArray, List.getElem_cons_succ, List.getElem_cons_zero, List.setIfInBounds_toArray, List.set_cons_zero, List.set_cons_succ])
          refine wpAnyH_take (i := 15) (v := ?_) rfl (by kernel_rfl) (by kernel_rfl) (by kernel_rfl) (fun _ _ _ h => h) (Or.inl ⟨by kernel_rfl, ?_⟩) (by assumption) ?_
          rotate_left
          · (intro w hSw; (try dsimp only at hSw); go_simp; try with_reducible rfl)
          (try simp only [Act.put, List.getElem_toArray, List.getElem_cons_succ, List.getElem_cons_zero, List.setIfInBounds_toArray, List.set_cons_zero, List.set_cons_succ])
          refine wpAnyH_ready (rs := [16]) (by kernel_rfl) (by simp) (AllReadyH.cons rfl (fun K hK => ?_) AllReadyH.nil)
          go_simp
          refine hK.out _ _ (hS17') (fun hHeld => ?_)
          clear hK K
          (try simp only [Act.put, List.getElem_toArray, List.getElem_cons_succ, List.getElem_cons_zero, List.setIfInBounds_toArray, List.set_cons_zero, List.set_cons_succ])
          refine wpAnyH_done (by kernel_rfl) ?_ _
          clear hS17 hHeld
          obtain ⟨v1, v2, v3, v4⟩ := hS17'
          obtain ⟨W, hW⟩ : ∃ W, wr.drew.setCell ⟨w4.heap.size, j, none⟩ (.pointer X) = W := ⟨_, rfl⟩
          rw [show (wr.setCell ⟨w4.heap.size, j, none⟩ (.pointer X)).drew = W from hW]
          rw [hW] at v2 v3 v4 Hstep f4
          clear hW v1
          go_wp2
          go_roundw
          case rel => exact ⟨j + 1, by omega, by simp, Hstep.out⟩
          case measure => simp [intOf]; omega
        · obtain rfl : j = t := by omega
          clear hlt5 hjt hj
          have hlt5 := Hnb.out.lt
          have hFx := hide (fun n hn => hFl.out _ (Foot.x (hd := hd) (ms := ms) (n := n) hn))
          have hTlt : T < w1.heap.size := Ht1.out.lt
          obtain ⟨tv, htab, htow⟩ := Ht5.out.tab
          have hnfT := Ht5.out.sl.not_foot htab (by decide) (by decide) (by decide)
          have hTx : T ≠ w4.heap.size := by omega
          have hTb : T ≠ w4.heap.size + 1 := by omega
          have htab6 : Blk wr T 47 _ := (hlay.mv.block T (by omega) (fun hp => by
            rcases hp with hp | ⟨n, hn, hp⟩
            · exact hTx hp
            · exact hnfT (hp ▸ Foot.x hn))).trans htab
          have c3 := htab6.cell 3
          have f3 := htab6.frozen 3
          have u1 : wr.cell? ⟨w4.heap.size + 1, 2, none⟩ = some (.slice (some ⟨w4.heap.size, 0, none⟩) j j) := (hlay.other (i := 2) hlt5 (by omega) (fun n hn e => by have := hFx.out n hn; omega)).trans (Hnb.out.cell 2)
          obtain ⟨hh, hhh⟩ : ∃ hh, hi ns = hh := ⟨_, rfl⟩
          rw [hhh] at htab6 c3
          have Hhh := hide hhh
          have c3 : wr.cell? ⟨T, 3, none⟩ = some (.int .i64 (hh : Int)) := c3
          have hS20 : wr.drew.cell? ⟨w4.heap.size + 1, 2, none⟩ = some (.slice (some ⟨w4.heap.size, 0, none⟩) j j) := u1
          have Hlay2 := hide hlay
          have Htab6 := hide htab6
          have Htow := hide htow
          clear hhh hlay htab6 htow htab u1 Hlay
          go_wp2
          refine wp_region_held_drew (S := fun W' => W'.cell? ⟨w4.heap.size + 1, 2, none⟩ = some (.slice (some ⟨w4.heap.size, 0, none⟩) j j)) (by kernel_rfl) (hS20) (fun hHeld => ?_)
          refine wpAnyH_take (i := 0) (v := ?_) rfl (by kernel_rfl) (by kernel_rfl) (by kernel_rfl) (fun _ _ _ h => h) (Or.inl ⟨by kernel_rfl, ?_⟩) (by assumption) ?_
          rotate_left
          · (intro w hSw; (try dsimp only at hSw); go_simp; try with_reducible rfl)
          (try simp only [Act.put, List.getElem_toArray, List.getElem_cons_succ, List.getElem_cons_zero, List.setIfInBounds_toArray, List.set_cons_zero, List.set_cons_succ])
          refine wpAnyH_take (i := 1) (v := ?_) rfl (by kernel_rfl) (by kernel_rfl) (by kernel_rfl) (fun _ _ _ h => h) (Or.inl ⟨by kernel_rfl, ?_⟩) (by assumption) ?_
          rotate_left
          · (intro w hSw; (try dsimp only at hSw); go_simp; try with_reducible rfl)
          (try simp only [Act.put, List.getElem_toArray, List.getElem_cons_succ, List.getElem_cons_zero, List.setIfInBounds_toArray, List.set_cons_zero, List.set_cons_succ])
          refine wpAnyH_take (i := 2) (v := ?_) rfl (by kernel_rfl) (by kernel_rfl) (by kernel_rfl) (fun _ _ _ h => h) (Or.inl ⟨by kernel_rfl, ?_⟩) (by assumption) ?_
          rotate_left
          · (intro w hSw; (try dsimp only at hSw); go_simp; try with_reducible rfl)
          (try simp only [Act.put, List.getElem_toArray, List.getElem_cons_succ, List.getElem_cons_zero, List.setIfInBounds_toArray, List.set_cons_zero, List.set_cons_succ])
          refine wpAnyH_take (i := 3) (v := ?_) rfl (by kernel_rfl) (by kernel_rfl) (by kernel_rfl) (fun _ _ _ h => h) (Or.inl ⟨by kernel_rfl, ?_⟩) (by assumption) ?_
          rotate_left
          · (intro w hSw; (try dsimp only at hSw); go_simp; try with_reducible rfl)
          (try simp only [Act.put, List.getElem_toArray, List.getElem_cons_succ, List.getElem_cons_zero, List.setIfInBounds_toArray, List.set_cons_zero, List.set_cons_succ])
          refine wpAnyH_take (i := 5) (v := ?_) rfl (by kernel_rfl) (by kernel_rfl) (by kernel_rfl) (fun _ _ _ h => h) (Or.inl ⟨by kernel_rfl, ?_⟩) (by assumption) ?_
          rotate_left
          · (intro w hSw; (try dsimp only at hSw); go_simp; try with_reducible rfl)
          (try simp only [Act.put, List.getElem_toArray, List.getElem_cons_succ, List.getElem_cons_zero, List.setIfInBounds_toArray, List.set_cons_zero, List.set_cons_succ])
          refine wpAnyH_take (i := 6) (v := ?_) rfl (by kernel_rfl) (by kernel_rfl) (by kernel_rfl) (fun _ _ _ h => h) (Or.inl ⟨by kernel_rfl, ?_⟩) (by assumption) ?_
          rotate_left
          · (intro w hSw; (try dsimp only at hSw); go_simp; try with_reducible rfl)
          (try simp only [Act.put, List.getElem_toArray, List.getElem_cons_succ, List.getElem_cons_zero, List.setIfInBounds_toArray, List.set_cons_zero, List.set_cons_succ])
          refine wpAnyH_take (i := 7) (v := ?_) rfl (by kernel_rfl) (by kernel_rfl) (by kernel_rfl) (fun _ _ _ h => h) (Or.inl ⟨by kernel_rfl, ?_⟩) (by assumption) ?_
          rotate_left
          · (intro w hSw; (try dsimp only at hSw); go_simp; try with_reducible rfl)
          (try simp only [Act.put, List.getElem_toArray, List.getElem_cons_succ, List.getElem_cons_zero, List.setIfInBounds_toArray, List.set_cons_zero, List.set_cons_succ])
          refine wpAnyH_take (i := 8) (v := ?_) rfl (by kernel_rfl) (by kernel_rfl) (by kernel_rfl) (fun _ _ _ h => h) (Or.inl ⟨by kernel_rfl, ?_⟩) (by assumption) ?_
          rotate_left
          · (intro w hSw; (try dsimp only at hSw); go_simp; try with_reducible rfl)
          (try simp only [Act.put, List.getElem_toArray, List.getElem_cons_succ, List.getElem_cons_zero, List.setIfInBounds_toArray, List.set_cons_zero, List.set_cons_succ])
          refine wpAnyH_take (i := 9) (v := ?_) rfl (by kernel_rfl) (by kernel_rfl) (by kernel_rfl) (fun _ _ _ h => h) (Or.inl ⟨by kernel_rfl, ?_⟩) (by assumption) ?_
          rotate_left
          · (intro w hSw; (try dsimp only at hSw); go_simp; try with_reducible rfl)
          (try simp only [Act.put, List.getElem_toArray, List.getElem_cons_succ, List.getElem_cons_zero, List.setIfInBounds_toArray, List.set_cons_zero, List.set_cons_succ])
          refine wpAnyH_ready (rs := [4]) (by kernel_rfl) (by simp) (AllReadyH.cons rfl (fun K hK => ?_) AllReadyH.nil)
          go_simp
          refine hK.out _ _ (hS20) (fun hHeld => ?_)
          clear hK K
          (try simp only [Act.put, List.getElem_toArray, List.getElem_cons_succ, List.getElem_cons_zero, List.setIfInBounds_toArray, List.set_cons_zero, List.set_cons_succ])
          refine wpAnyH_ready (rs := [10]) (by kernel_rfl) (by simp) (AllReadyH.cons rfl (fun K hK => ?_) AllReadyH.nil)
          go_simp
          refine hK.out _ _ (hS20) (fun hHeld => ?_)
          clear hK K
          (try simp only [Act.put, List.getElem_toArray, List.getElem_cons_succ, List.getElem_cons_zero, List.setIfInBounds_toArray, List.set_cons_zero, List.set_cons_succ])
          refine wpAnyH_take (i := 11) (v := ?_) rfl (by kernel_rfl) (by kernel_rfl) (by kernel_rfl) (fun _ _ _ h => h) (Or.inl ⟨by kernel_rfl, ?_⟩) (by assumption) ?_
          rotate_left
          · (intro w hSw; (try dsimp only at hSw); go_simp; try with_reducible rfl)
          (try simp only [Act.put, List.getElem_toArray, List.getElem_cons_succ, List.getElem_cons_zero, List.setIfInBounds_toArray, List.set_cons_zero, List.set_cons_succ])
          refine wpAnyH_take (i := 12) (v := ?_) rfl (by kernel_rfl) (by kernel_rfl) (by kernel_rfl) (fun _ _ _ h => h) (Or.inl ⟨by kernel_rfl, ?_⟩) (by assumption) ?_
          rotate_left
          · (intro w hSw; (try dsimp only at hSw); go_simp; try with_reducible rfl)
          (try simp only [Act.put, List.getElem_toArray, List.getElem_cons_succ, List.getElem_cons_zero, List.setIfInBounds_toArray, List.set_cons_zero, List.set_cons_succ])
          refine wpAnyH_ready (rs := [13]) (by kernel_rfl) (by simp) (AllReadyH.cons rfl (fun K hK => ?_) AllReadyH.nil)
          go_simp
          refine hK.out _ _ (((World.cell?_setCell_other _ _ _ _ (fun e => hTb (congrArg Addr.block e))).trans hS20)) (fun hHeld => ?_)
          clear hK K
          (try simp only [Act.put, List.getElem_toArray, List.getElem_cons_succ, List.getElem_cons_zero, List.setIfInBounds_toArray, List.set_cons_zero, List.set_cons_succ])
          refine wpAnyH_done (by kernel_rfl) ?_ _
          clear hS20 hHeld c3 f3
          have hmx : (if hh < j then (j : Int) else (hh : Int)) = ((max hh j : Nat) : Int) := by
            by_cases h1 : hh < j
            · rw [if_pos h1, Nat.max_eq_right (by omega)]
            · rw [if_neg h1, Nat.max_eq_left (by omega)]
          rw [hmx]
          clear hmx
          have Htab7 := hide ((Blk.drewN Htab6.out 1).put 3 (.int .i64 ((max hh j : Nat) : Int)))
          obtain ⟨W1, hW1⟩ : ∃ W1, wr.drew.setCell ⟨T, 3, none⟩ (.int .i64 ((max hh j : Nat) : Int)) = W1 := ⟨_, rfl⟩
          rw [show (wr.setCell ⟨T, 3, none⟩ (.int .i64 ((max hh j : Nat) : Int))).drew = W1 from hW1]
          have htab7 : Blk W1 T 47 (tc tv hd.b ((max hh j : Nat) : Int) (ns.length : Int) (sizeN ns : Int) ((cnt + cntN ns k : Nat) : Int) 0 0 0) := by rw [← hW1]; exact Htab7.out
          have c4' : W1.cell? ⟨T, 4, none⟩ = some (.int .i64 (ns.length : Int)) := htab7.cell 4
          have f4 := htab7.frozen 4
          have hn := Hn.out
          have Htab8 := hide (htab7.put 4 (.int .i64 ((ns.length : Int) + 1)))
          have HW1 := hide hW1
          obtain ⟨zn, hzn⟩ : ∃ zn : Int, (ns.length : Int) = zn := ⟨_, rfl⟩
          rw [hzn] at c4'
          have hzb : zn < 1048576 ∧ 0 ≤ zn := by omega
          have Hzn := hide hzn
          clear Htab7 htab7 hW1 hn hzn
          go_wp2_with fail
          refine (add64_any T 4 zn 1 W1 c4' f4 (by omega) (by omega)).mono ?_
          rintro e W2 ⟨rfl, rfl⟩
          obtain ⟨W2, hW2⟩ : ∃ W2, W1.setCell ⟨T, 4, none⟩ (.int .i64 (zn + 1)) = W2 := ⟨_, rfl⟩
          rw [hW2]
          have htab8 : Blk W2 T 47 (tc tv hd.b ((max hh j : Nat) : Int) (zn + 1) (sizeN ns : Int) ((cnt + cntN ns k : Nat) : Int) 0 0 0) := by rw [← hW2, ← Hzn.out]; exact Htab8.out
          have c5' : W2.cell? ⟨T, 5, none⟩ = some (.int .i64 (sizeN ns : Int)) := htab8.cell 5
          have f5 := htab8.frozen 5
          have hwr2 : IntKind.i64.wrap ((n : Int) + (n2 : Int)) = (n : Int) + (n2 : Int) := by simp [IntKind.wrap, IntKind.bits, IntKind.signed]; omega
          have Htab9 := hide (htab8.put 5 (.int .i64 ((sizeN ns : Int) + ((n : Int) + (n2 : Int)))))
          have HW2 := hide hW2
          clear Htab8 htab8 hW2 c4' f4
          go_wp2_with fail
          refine (add64_any T 5 (sizeN ns : Int) ((n : Int) + (n2 : Int)) W2 c5' f5 (by omega) (by omega)).mono ?_
          rintro e W3 ⟨rfl, rfl⟩
          go_wp2
          go_ret
          have hlow := Ht5.out.low
          have hlb : base ≤ w.heap.size := Nat.le_trans hlow (Nat.le_of_lt HTl.out)
          have hdone := Hlay2.out.done Ht5.out.sl Hne.out htb ⟨by rw [hlen.out]; exact hkl, by rw [hlen2.out]; exact hvl⟩ Hlst.out hFl.out ⟨by omega, by omega, hsw, by omega⟩ (by omega) Hnx.out Hnb.out Hmk5.out Hmv5.out hlb
          have hnf := hdone.1.not_foot Htab6.out (by decide) (by decide) (by decide)
          have hheap : ∀ r, r ≠ T → (W2.setCell ⟨T, 5, none⟩ (.int .i64 ((sizeN ns : Int) + ((n : Int) + (n2 : Int))))).heap[r]? = wr.heap[r]? := fun r hr => by
            rw [Below.heap_setCell W2 ⟨T, 5, none⟩ _ r hr, ← HW2.out, Below.heap_setCell W1 ⟨T, 4, none⟩ _ r hr, ← HW1.out, Below.heap_setCell wr.drew ⟨T, 3, none⟩ _ r hr]
            rfl
          have hmov : Moved (fun g => g = T ∨ Foot hd ms g) w (W2.setCell ⟨T, 5, none⟩ (.int .i64 ((sizeN ns : Int) + ((n : Int) + (n2 : Int))))) := by
            refine Moved.fresh (((((Moved.of_grown Hgw.out (.inl (.inl rfl))).trans (Moved.of_below HB15.out (Nat.le_refl _))).trans (Hlay2.out.drew.mv.mono fun r hr => ?_)).trans ?_).set (.inr (.inl (.inl rfl))) _)
            · rcases hr with rfl | ⟨n, hn, rfl⟩
              · exact .inr (by omega)
              · exact .inl (.inr (Foot.x hn))
            · rw [← HW2.out, ← HW1.out]
              exact ((Moved.refl _ _).set (.inr (.inl (.inl rfl))) _).set (.inr (.inl (.inl rfl))) _
          have hrow : MineI (W2.setCell ⟨T, 5, none⟩ (.int .i64 ((sizeN ns : Int) + ((n : Int) + (n2 : Int))))) base tv tw := ownsRow_of_heap Htow.out fun r hr => by
            obtain ⟨cs, f, hh'⟩ := ownsRow_own Htow.out hr
            have hl := (Array.getElem?_eq_some_iff.1 hh').1
            have hty : ∀ {t' : TypeId} {ds : Array Value} {r' : Nat}, Blk w5 r' t' ds → t' ≠ 3 → r ≠ r' := fun {t' ds r'} hb h3 e => by
              subst e
              have := hh'.symm.trans hb
              injection this with this
              injection this with _ e _
              exact h3 e.symm
            obtain ⟨tv', hbT, _⟩ := Ht5.out.tab
            rw [hheap r (hty hbT (by decide))]
            exact Hlay2.out.mv.block r hl (fun hp => by
              rcases hp with hp | ⟨n, hn, hp⟩
              · exact hty Hnx.out (by decide) hp
              · obtain ⟨q, hq⟩ := List.mem_iff_getElem?.1 hn
                exact hty (Ht5.out.sl.arr q n hq) (by decide) hp)
          refine ⟨rfl, ⟨_, ⟨⟨tv, ?_, hrow⟩, by rw [Hhp.out]; exact hdone.1.keep (fun r hr => hheap r (fun e => hnf (e ▸ hr))), hlow⟩, hdone.2⟩, hmov⟩
          have e1 : ((hi (ins ns (fnd ns k) ⟨k, v, j⟩) : Nat) : Int) = ((max hh j : Nat) : Int) := by rw [hi_ins, Hhh.out]
          have e2 : (((ins ns (fnd ns k) ⟨k, v, j⟩).length : Nat) : Int) = zn + 1 := by rw [ins_len (fnd_le _ _), ← Hzn.out]; rfl
          have e3 : ((sizeN (ins ns (fnd ns k) ⟨k, v, j⟩) : Nat) : Int) = (sizeN ns : Int) + ((n : Int) + (n2 : Int)) := by
            rw [sizeN_ins]
            have := hlen.out
            have := hlen2.out
            simp only
            omega
          rw [Hhp.out, e1, e2, e3]
          exact Htab9.out
    · rw [pN_none (i := fnd ns k) (by rw [Ht1.out.sl.len]; omega)] at k3
      go_wp2_with fail
      obtain ⟨z4, hz4⟩ : ∃ z4 : Int, (ns.length : Int) = z4 := ⟨_, rfl⟩
      have hn4 : ¬ 1048576 ≤ z4 := by have := Hn.out; omega
      have hc4 := Ht1.out.c4
      rw [hz4] at hc4
      clear hz4
      refine (load64_any T 4 _ w1 hc4).mono ?_
      rintro e w' ⟨rfl, rfl⟩
      go_wp2_with fail
      have hn := Hn.out
      refine (clone_any k A n c _ w1 hk1 hsw).mono ?_
      rintro e w2 ⟨kv, rfl, hmk, hB2⟩
      have hv2 := hv1.below (hB2.mono hsw)
      have hs2 := hB2.size
      clear hv1 hk1
      go_wp2_with fail
      refine (clone_any v A2 n2 c2 _ w2 hv2 (by omega)).mono ?_
      rintro e w3 ⟨vv, rfl, hmv, hB3⟩
      have hs3 := hB3.size
      have hmk3 := hmk.below hB3 (Nat.le_refl _)
      have hB13 := hB2.trans (hB3.mono hs2)
      have ht3 := Ht1.out.below hB13 (Nat.le_refl _)
      clear hv2 hmk hB2
      go_wp2_with fail
      refine (tower_any' T base tw ns _ false hd ms w3 ht3 (by omega) htw hz).mono ?_
      rintro e w4 ⟨rfl, dm, rfl⟩
      rw [hT']
      have ht4 := ht3.drewN dm
      have hmk4 := hmk3.drewN dm
      have hmv4 := hmv.drewN dm
      have hB14 := Below.drewN' hB13 dm
      have hs4 : w3.heap.size = (w3.drewN dm).heap.size := rfl
      generalize w3.drewN dm = w4 at *
      obtain ⟨A3, L3, c3, rfl⟩ := mine_shape hmk4
      obtain ⟨A4, L4, c4, rfl⟩ := mine_shape hmv4
      have hmkp := run_make_ptrs t (by omega) w4
      go_wp2
      obtain ⟨w5, hw5⟩ : ∃ w5, (w4.alloc (.cells (nilsA t) 28)).alloc (.cells #[.slice A3 L3 c3, .slice A4 L4 c4, .slice (some ⟨w4.heap.size, 0, none⟩) t t] 83) = w5 := ⟨_, rfl⟩
      rw [hw5]
      have ht5 := (ht4.alloc (.cells (nilsA t) 28)).alloc (.cells #[.slice A3 L3 c3, .slice A4 L4 c4, .slice (some ⟨w4.heap.size, 0, none⟩) t t] 83)
      have hmk5 := (hmk4.alloc (.cells (nilsA t) 28)).alloc (.cells #[.slice A3 L3 c3, .slice A4 L4 c4, .slice (some ⟨w4.heap.size, 0, none⟩) t t] 83)
      have hmv5 := (hmv4.alloc (.cells (nilsA t) 28)).alloc (.cells #[.slice A3 L3 c3, .slice A4 L4 c4, .slice (some ⟨w4.heap.size, 0, none⟩) t t] 83)
      have hnx := (Blk.new w4 28 (nilsA t)).alloc (.cells #[.slice A3 L3 c3, .slice A4 L4 c4, .slice (some ⟨w4.heap.size, 0, none⟩) t t] 83)
      have hnb := Blk.new (w4.alloc (.cells (nilsA t) 28)) 83 #[.slice A3 L3 c3, .slice A4 L4 c4, .slice (some ⟨w4.heap.size, 0, none⟩) t t]
      rw [show (w4.alloc (.cells (nilsA t) 28)).heap.size = w4.heap.size + 1 by simp] at hnb
      have hB15 := (hB14.alloc hB14.size (.cells (nilsA t) 28)).alloc (by simp; have := hB14.size; omega) (.cells #[.slice A3 L3 c3, .slice A4 L4 c4, .slice (some ⟨w4.heap.size, 0, none⟩) t t] 83)
      rw [hw5] at ht5 hmk5 hmv5 hnx hnb hB15
      have hs14 := hB14.size
      have hg1 : g < w1.heap.size := World.block_lt_of_cell? w1 ⟨g, 0, none⟩ a0
      have Hlay := hide (Laid.start (qs := qs) (nb := w4.heap.size + 1) ht5.sl hnx)
      have hlt5 := hnb.lt
      have hfx := hide (show ∀ n ∈ hd :: ms, n.x ≠ w4.heap.size from fun n hn e => by have := hFl.out _ (Foot.x hn); omega)
      have Ht5 := hide ht5
      have Hmk5 := hide hmk5
      have Hmv5 := hide hmv5
      have Hnb := hide hnb
      have Hnx := hide hnx
      have HB15 := hide hB15
      have Hhp := hide hp
      clear hw5 ht4 ht3 hmk3 hmk4 hmv hmv4 hB14 hB13 hB3 hmkp ht5 hmk5 hmv5 hnx hnb hB15 hp hc4 k2 k3 htl i1 a0 hn4
      go_loopw [77] (fun t77 wq => ∃ j : Nat, j ≤ t ∧ t77 = .int .i64 (j : Int) ∧ Laid w5 ns hd ms qs (w4.heap.size + 1) w4.heap.size t j wq) (fun t77 _ => t - (intOf t77).toNat)
      case atStart => exact ⟨0, Nat.zero_le _, rfl, Hlay.out⟩
      case round =>
        obtain ⟨j, hj, rfl, hlay⟩ := hrel
        by_cases hjt : j < t
        · have L := Hlst.out j (by omega)
          have hql : qs j ≤ ns.length := Nat.le_trans L.le hle
          obtain ⟨xq, hxq⟩ := Ht5.out.sl.at_ hql
          have hmem := List.mem_of_getElem? hxq
          have htlq : j < tl ns (qs j) := by
            have hok := L.ok
            generalize qs j = q0 at *
            rcases q0 with _ | p1
            · rw [tl_zero]; omega
            · obtain ⟨h1, h2⟩ := hok.resolve_left (by omega)
              rw [tl_succ (by simpa using h1)]
              simpa using h2
          have hFx := fun n hn => hFl.out _ (Foot.x (hd := hd) (ms := ms) (n := n) hn)
          have u1 : wr.cell? ⟨w4.heap.size + 1, 2, none⟩ = some (.slice (some ⟨w4.heap.size, 0, none⟩) t t) := (hlay.other (i := 2) hlt5 (by omega) (fun n hn e => by have := hFx n hn; omega)).trans (Hnb.out.cell 2)
          have u2 : wr.cell? ⟨g, j, none⟩ = some (.pointer (some ⟨xq.b, 0, none⟩)) := by
            rw [hlay.other (i := j) (show g < w5.heap.size by omega) (by omega) (fun n hn e => by have := hFx n hn; omega), ← pP_some hxq, ← Hqs.out j (by omega)]
            exact HB15.out.cell (p := ⟨g, j, none⟩) hg1
          have u3 : wr.cell? ⟨xq.b, 2, none⟩ = some (.slice (some ⟨xq.x, 0, none⟩) (tl ns (qs j)) (tl ns (qs j))) :=
            (hlay.other (i := 2) (Ht5.out.sl.foot_lt (Foot.b hmem)) (by have := hFl.out _ (Foot.b hmem); omega) (fun n hn => Ht5.out.sl.bx hmem hn)).trans ((Ht5.out.sl.node _ xq hxq).cell 2)
          have u4 := hlay.cell hxq htlq
          have f1 := hlay.new.frozen j
          have f2 := (hlay.arr _ xq hxq).frozen j
          have f3 : wr.cell? ⟨w4.heap.size, j, none⟩ = some (.pointer none) := by rw [hlay.new.cell]; simp [newV, hjt]
          have Hstep := hide (hlay.drew.step Ht5.out.sl hfx.out hxq hjt)
          have hb4 := (hlay.drew.arr _ xq hxq).far (p := ⟨w4.heap.size, j, none⟩) (fun e => hfx.out xq hmem (by first | exact e | exact e.symm)) (pN ms (nxt ns j (qs j)))
          have f4 := hb4.frozen j
          clear hb4
          have n1 : xq.x ≠ w4.heap.size := hfx.out xq hmem
          have n2' : g ≠ w4.heap.size := by omega
          have n3 : xq.b ≠ w4.heap.size := by have := hFl.out _ (Foot.b hmem); omega
          obtain ⟨X, hX⟩ : ∃ X, pN ms (nxt ns j (qs j)) = .pointer X := ⟨_, rfl⟩
          rw [hX] at u4 Hstep f4
          obtain ⟨tq, htq⟩ : ∃ tq, tl ns (qs j) = tq := ⟨_, rfl⟩
          rw [htq] at u3 htlq
          have i0 : (0 : Int) ≤ (j : Int) := by omega
          have i1 : (j : Int) < (t : Int) := by omega
          have i2 : (j : Int) < 12 := by omega
          have i3 : (j : Int) < (tq : Int) := by omega
          have hS17 : wr.drew.cell? ⟨w4.heap.size + 1, 2, none⟩ = some (.slice (some ⟨w4.heap.size, 0, none⟩) t t) ∧ wr.drew.cell? ⟨g, j, none⟩ = some (.pointer (some ⟨xq.b, 0, none⟩)) ∧ wr.drew.cell? ⟨xq.b, 2, none⟩ = some (.slice (some ⟨xq.x, 0, none⟩) tq tq) ∧ wr.drew.cell? ⟨xq.x, j, none⟩ = some (.pointer X) := ⟨u1, u2, u3, u4⟩
          have v1 : (wr.drew.setCell ⟨w4.heap.size, j, none⟩ (.pointer X)).cell? ⟨w4.heap.size + 1, 2, none⟩ = some (.slice (some ⟨w4.heap.size, 0, none⟩) t t) := (World.cell?_setCell_other _ _ _ _ (fun e => by have := congrArg Addr.block e; simp at this)).trans u1
          have v2 : (wr.drew.setCell ⟨w4.heap.size, j, none⟩ (.pointer X)).cell? ⟨g, j, none⟩ = some (.pointer (some ⟨xq.b, 0, none⟩)) := (World.cell?_setCell_other _ _ _ _ (fun e => n2' (congrArg Addr.block e).symm)).trans u2
          have v3 : (wr.drew.setCell ⟨w4.heap.size, j, none⟩ (.pointer X)).cell? ⟨xq.b, 2, none⟩ = some (.slice (some ⟨xq.x, 0, none⟩) tq tq) := (World.cell?_setCell_other _ _ _ _ (fun e => n3 (congrArg Addr.block e).symm)).trans u3
          have v4 : (wr.drew.setCell ⟨w4.heap.size, j, none⟩ (.pointer X)).cell? ⟨xq.x, j, none⟩ = some (.pointer X) := (World.cell?_setCell_other _ _ _ _ (fun e => n1 (congrArg Addr.block e).symm)).trans u4
          have hS17' := And.intro v1 (And.intro v2 (And.intro v3 v4))
          clear hX htq L hlay u1 u2 u3 u4 v1 v2 v3 v4
          go_wp2
          refine wp_region_held_drew (S := fun W' => W'.cell? ⟨w4.heap.size + 1, 2, none⟩ = some (.slice (some ⟨w4.heap.size, 0, none⟩) t t) ∧ W'.cell? ⟨g, j, none⟩ = some (.pointer (some ⟨xq.b, 0, none⟩)) ∧ W'.cell? ⟨xq.b, 2, none⟩ = some (.slice (some ⟨xq.x, 0, none⟩) tq tq) ∧ W'.cell? ⟨xq.x, j, none⟩ = some (.pointer X)) (by kernel_rfl) (hS17) (fun hHeld => ?_)
          refine wpAnyH_take (i := 0) (v := ?_) rfl (by kernel_rfl) (by kernel_rfl) (by kernel_rfl) (fun _ _ _ h => h) (Or.inl ⟨by kernel_rfl, ?_⟩) (by assumption) ?_
          rotate_left
          · (intro w hSw; (try dsimp only at hSw); go_simp; try with_reducible rfl)
          (try simp only [Act.put, List.getElem_toArray, List.getElem_cons_succ, List.getElem_cons_zero, List.setIfInBounds_toArray, List.set_cons_zero, List.set_cons_succ])
          refine wpAnyH_take (i := 1) (v := ?_) rfl (by kernel_rfl) (by kernel_rfl) (by kernel_rfl) (fun _ _ _ h => h) (Or.inl ⟨by kernel_rfl, ?_⟩) (by assumption) ?_
          rotate_left
          · (intro w hSw; (try dsimp only at hSw); go_simp; try with_reducible rfl)
          (try simp only [Act.put, List.getElem_toArray, List.getElem_cons_succ, List.getElem_cons_zero, List.setIfInBounds_toArray, List.set_cons_zero, List.set_cons_succ])
          refine wpAnyH_take (i := 2) (v := ?_) rfl (by kernel_rfl) (by kernel_rfl) (by kernel_rfl) (fun _ _ _ h => h) (Or.inl ⟨by kernel_rfl, ?_⟩) (by assumption) ?_
          rotate_left
          · (intro w hSw; (try dsimp only at hSw); go_simp; try with_reducible rfl)
          (try simp only [Act.put, List.getElem_toArray, List.getElem_cons_succ, List.getElem_cons_zero, List.setIfInBounds_toArray, List.set_cons_zero, List.set_cons_succ])
          refine wpAnyH_take (i := 3) (v := ?_) rfl (by kernel_rfl) (by kernel_rfl) (by kernel_rfl) (fun _ _ _ h => h) (Or.inl ⟨by kernel_rfl, ?_⟩) (by assumption) ?_
          rotate_left
          · (intro w hSw; (try dsimp only at hSw); go_simp; try with_reducible rfl)
          (try simp only [Act.put, List.getElem_toArray, List.getElem_cons_succ, List.getElem_cons_zero, List.setIfInBounds_toArray, List.set_cons_zero, List.set_cons_succ])
          refine wpAnyH_take (i := 4) (v := ?_) rfl (by kernel_rfl) (by kernel_rfl) (by kernel_rfl) (fun _ _ _ h => h) (Or.inl ⟨by kernel_rfl, ?_⟩) (by assumption) ?_
          rotate_left
          · (intro w hSw; (try dsimp only at hSw); go_simp; try with_reducible rfl)
          (try simp only [Act.put, List.getElem_toArray, List.getElem_cons_succ, List.getElem_cons_zero, List.setIfInBounds_toArray, List.set_cons_zero, List.set_cons_succ])
          refine wpAnyH_take (i := 5) (v := ?_) rfl (by kernel_rfl) (by kernel_rfl) (by kernel_rfl) (fun _ _ _ h => h) (Or.inl ⟨by kernel_rfl, ?_⟩) (by assumption) ?_
          rotate_left
          · (intro w hSw; (try dsimp only at hSw); go_simp; try with_reducible rfl)
          (try simp only [Act.put, List.getElem_toArray, List.getElem_cons_succ, List.getElem_cons_zero, List.setIfInBounds_toArray, List.set_cons_zero, List.set_cons_succ])
          refine wpAnyH_take (i := 6) (v := ?_) rfl (by kernel_rfl) (by kernel_rfl) (by kernel_rfl) (fun _ _ _ h => h) (Or.inl ⟨by kernel_rfl, ?_⟩) (by assumption) ?_
          rotate_left
          · (intro w hSw; (try dsimp only at hSw); go_simp; try with_reducible rfl)
          (try simp only [Act.put, List.getElem_toArray, List.getElem_cons_succ, List.getElem_cons_zero, List.setIfInBounds_toArray, List.set_cons_zero, List.set_cons_succ])
          refine wpAnyH_take (i := 7) (v := ?_) rfl (by kernel_rfl) (by kernel_rfl) (by kernel_rfl) (fun _ _ _ h => h) (Or.inl ⟨by kernel_rfl, ?_⟩) (by assumption) ?_
          rotate_left
          · (intro w hSw; (try dsimp only at hSw); go_simp; try with_reducible rfl)
          (try simp only [Act.put, List.getElem_toArray, List.getElem_cons_succ, List.getElem_cons_zero, List.setIfInBounds_toArray, List.set_cons_zero, List.set_cons_succ])
          refine wpAnyH_take (i := 8) (v := ?_) rfl (by kernel_rfl) (by kernel_rfl) (by kernel_rfl) (fun _ _ _ h => h) (Or.inl ⟨by kernel_rfl, ?_⟩) (by assumption) ?_
          rotate_left
          · (intro w hSw; (try dsimp only at hSw); go_simp; try with_reducible rfl)
          (try simp only [Act.put, List.getElem_toArray, List.getElem_cons_succ, List.getElem_cons_zero, List.setIfInBounds_toArray, List.set_cons_zero, List.set_cons_succ])
          refine wpAnyH_take (i := 9) (v := ?_) rfl (by kernel_rfl) (by kernel_rfl) (by kernel_rfl) (fun _ _ _ h => h) (Or.inl ⟨by kernel_rfl, ?_⟩) (by assumption) ?_
          rotate_left
          · (intro w hSw; (try dsimp only at hSw); go_simp; try with_reducible rfl)
          (try simp only [Act.put, List.getElem_toArray, List.getElem_cons_succ, List.getElem_cons_zero, List.setIfInBounds_toArray, List.set_cons_zero, List.set_cons_succ])
          refine wpAnyH_take (i := 10) (v := ?_) rfl (by kernel_rfl) (by kernel_rfl) (by kernel_rfl) (fun _ _ _ h => h) (Or.inl ⟨by kernel_rfl, ?_⟩) (by assumption) ?_
          rotate_left
          · (intro w hSw; (try dsimp only at hSw); go_simp; try with_reducible rfl)
          (try simp only [Act.put, List.getElem_toArray, List.getElem_cons_succ, List.getElem_cons_zero, List.setIfInBounds_toArray, List.set_cons_zero, List.set_cons_succ])
          refine wpAnyH_take (i := 11) (v := ?_) rfl (by kernel_rfl) (by kernel_rfl) (by kernel_rfl) (fun _ _ _ h => h) (Or.inl ⟨by kernel_rfl, ?_⟩) (by assumption) ?_
          rotate_left
          · (intro w hSw; (try dsimp only at hSw); go_simp; try with_reducible rfl)
          (try simp only [Act.put, List.getElem_toArray, List.getElem_cons_succ, List.getElem_cons_zero, List.setIfInBounds_toArray, List.set_cons_zero, List.set_cons_succ])
          refine wpAnyH_take (i := 12) (v := ?_) rfl (by kernel_rfl) (by kernel_rfl) (by kernel_rfl) (fun _ _ _ h => h) (Or.inl ⟨by kernel_rfl, ?_⟩) (by assumption) ?_
          rotate_left
          · (intro w hSw; (try dsimp only at hSw); go_simp; try with_reducible rfl)
          (try simp only [Act.put, List.getElem_toArray, List.getElem_cons_succ, List.getElem_cons_zero, List.setIfInBounds_toArray, List.set_cons_zero, List.set_cons_succ])
          refine wpAnyH_take (i := 13) (v := ?_) rfl (by kernel_rfl) (by kernel_rfl) (by kernel_rfl) (fun _ _ _ h => h) (Or.inl ⟨by kernel_rfl, ?_⟩) (by assumption) ?_
          rotate_left
          · (intro w hSw; (try dsimp only at hSw); go_simp; try with_reducible rfl)
          (try simp only [Act.put, List.getElem_toArray, List.getElem_cons_succ, List.getElem_cons_zero, List.setIfInBounds_toArray, List.set_cons_zero, List.set_cons_succ])
          refine wpAnyH_take (i := 14) (v := ?_) rfl (by kernel_rfl) (by kernel_rfl) (by kernel_rfl) (fun _ _ _ h => h) (Or.inl ⟨by kernel_rfl, ?_⟩) (by assumption) ?_
          rotate_left
          · (intro w hSw; (try dsimp only at hSw); go_simp; try with_reducible rfl)
          (try simp only [Act.put, List.getElem_toArray, List.getElem_cons_succ, List.getElem_cons_zero, List.setIfInBounds_toArray, List.set_cons_zero, List.set_cons_succ])
          refine wpAnyH_take (i := 15) (v := ?_) rfl (by kernel_rfl) (by kernel_rfl) (by kernel_rfl) (fun _ _ _ h => h) (Or.inl ⟨by kernel_rfl, ?_⟩) (by assumption) ?_
          rotate_left
          · (intro w hSw; (try dsimp only at hSw); go_simp; try with_reducible rfl)
          (try simp only [Act.put, List.getElem_toArray, List.getElem_cons_succ, List.getElem_cons_zero, List.setIfInBounds_toArray, List.set_cons_zero, List.set_cons_succ])
          refine wpAnyH_ready (rs := [16]) (by kernel_rfl) (by simp) (AllReadyH.cons rfl (fun K hK => ?_) AllReadyH.nil)
          go_simp
          refine hK.out _ _ (hS17') (fun hHeld => ?_)
          clear hK K
          (try simp only [Act.put, List.getElem_toArray, List.getElem_cons_succ, List.getElem_cons_zero, List.setIfInBounds_toArray, List.set_cons_zero, List.set_cons_succ])
          refine wpAnyH_done (by kernel_rfl) ?_ _
          clear hS17 hHeld
          obtain ⟨v1, v2, v3, v4⟩ := hS17'
          obtain ⟨W, hW⟩ : ∃ W, wr.drew.setCell ⟨w4.heap.size, j, none⟩ (.pointer X) = W := ⟨_, rfl⟩
          rw [show (wr.setCell ⟨w4.heap.size, j, none⟩ (.pointer X)).drew = W from hW]
          rw [hW] at v2 v3 v4 Hstep f4
          clear hW v1
          go_wp2
          go_roundw
          case rel => exact ⟨j + 1, by omega, by simp, Hstep.out⟩
          case measure => simp [intOf]; omega
        · obtain rfl : j = t := by omega
          clear hlt5 hjt hj
          have hlt5 := Hnb.out.lt
          have hFx := hide (fun n hn => hFl.out _ (Foot.x (hd := hd) (ms := ms) (n := n) hn))
          have hTlt : T < w1.heap.size := Ht1.out.lt
          obtain ⟨tv, htab, htow⟩ := Ht5.out.tab
          have hnfT := Ht5.out.sl.not_foot htab (by decide) (by decide) (by decide)
          have hTx : T ≠ w4.heap.size := by omega
          have hTb : T ≠ w4.heap.size + 1 := by omega
          have htab6 : Blk wr T 47 _ := (hlay.mv.block T (by omega) (fun hp => by
            rcases hp with hp | ⟨n, hn, hp⟩
            · exact hTx hp
            · exact hnfT (hp ▸ Foot.x hn))).trans htab
          have c3 := htab6.cell 3
          have f3 := htab6.frozen 3
          have u1 : wr.cell? ⟨w4.heap.size + 1, 2, none⟩ = some (.slice (some ⟨w4.heap.size, 0, none⟩) j j) := (hlay.other (i := 2) hlt5 (by omega) (fun n hn e => by have := hFx.out n hn; omega)).trans (Hnb.out.cell 2)
          obtain ⟨hh, hhh⟩ : ∃ hh, hi ns = hh := ⟨_, rfl⟩
          rw [hhh] at htab6 c3
          have Hhh := hide hhh
          have c3 : wr.cell? ⟨T, 3, none⟩ = some (.int .i64 (hh : Int)) := c3
          have hS20 : wr.drew.cell? ⟨w4.heap.size + 1, 2, none⟩ = some (.slice (some ⟨w4.heap.size, 0, none⟩) j j) := u1
          have Hlay2 := hide hlay
          have Htab6 := hide htab6
          have Htow := hide htow
          clear hhh hlay htab6 htow htab u1 Hlay
          go_wp2
          refine wp_region_held_drew (S := fun W' => W'.cell? ⟨w4.heap.size + 1, 2, none⟩ = some (.slice (some ⟨w4.heap.size, 0, none⟩) j j)) (by kernel_rfl) (hS20) (fun hHeld => ?_)
          refine wpAnyH_take (i := 0) (v := ?_) rfl (by kernel_rfl) (by kernel_rfl) (by kernel_rfl) (fun _ _ _ h => h) (Or.inl ⟨by kernel_rfl, ?_⟩) (by assumption) ?_
          rotate_left
          · (intro w hSw; (try dsimp only at hSw); go_simp; try with_reducible rfl)
          (try simp only [Act.put, List.getElem_toArray, List.getElem_cons_succ, List.getElem_cons_zero, List.setIfInBounds_toArray, List.set_cons_zero, List.set_cons_succ])
          refine wpAnyH_take (i := 1) (v := ?_) rfl (by kernel_rfl) (by kernel_rfl) (by kernel_rfl) (fun _ _ _ h => h) (Or.inl ⟨by kernel_rfl, ?_⟩) (by assumption) ?_
          rotate_left
          · (intro w hSw; (try dsimp only at hSw); go_simp; try with_reducible rfl)
          (try simp only [Act.put, List.getElem_toArray, List.getElem_cons_succ, List.getElem_cons_zero, List.setIfInBounds_toArray, List.set_cons_zero, List.set_cons_succ])
          refine wpAnyH_take (i := 2) (v := ?_) rfl (by kernel_rfl) (by kernel_rfl) (by kernel_rfl) (fun _ _ _ h => h) (Or.inl ⟨by kernel_rfl, ?_⟩) (by assumption) ?_
          rotate_left
          · (intro w hSw; (try dsimp only at hSw); go_simp; try with_reducible rfl)
          (try simp only [Act.put, List.getElem_toArray, List.getElem_cons_succ, List.getElem_cons_zero, List.setIfInBounds_toArray, List.set_cons_zero, List.set_cons_succ])
          refine wpAnyH_take (i := 3) (v := ?_) rfl (by kernel_rfl) (by kernel_rfl) (by kernel_rfl) (fun _ _ _ h => h) (Or.inl ⟨by kernel_rfl, ?_⟩) (by assumption) ?_
          rotate_left
          · (intro w hSw; (try dsimp only at hSw); go_simp; try with_reducible rfl)
          (try simp only [Act.put, List.getElem_toArray, List.getElem_cons_succ, List.getElem_cons_zero, List.setIfInBounds_toArray, List.set_cons_zero, List.set_cons_succ])
          refine wpAnyH_take (i := 5) (v := ?_) rfl (by kernel_rfl) (by kernel_rfl) (by kernel_rfl) (fun _ _ _ h => h) (Or.inl ⟨by kernel_rfl, ?_⟩) (by assumption) ?_
          rotate_left
          · (intro w hSw; (try dsimp only at hSw); go_simp; try with_reducible rfl)
          (try simp only [Act.put, List.getElem_toArray, List.getElem_cons_succ, List.getElem_cons_zero, List.setIfInBounds_toArray, List.set_cons_zero, List.set_cons_succ])
          refine wpAnyH_take (i := 6) (v := ?_) rfl (by kernel_rfl) (by kernel_rfl) (by kernel_rfl) (fun _ _ _ h => h) (Or.inl ⟨by kernel_rfl, ?_⟩) (by assumption) ?_
          rotate_left
          · (intro w hSw; (try dsimp only at hSw); go_simp; try with_reducible rfl)
          (try simp only [Act.put, List.getElem_toArray, List.getElem_cons_succ, List.getElem_cons_zero, List.setIfInBounds_toArray, List.set_cons_zero, List.set_cons_succ])
          refine wpAnyH_take (i := 7) (v := ?_) rfl (by kernel_rfl) (by kernel_rfl) (by kernel_rfl) (fun _ _ _ h => h) (Or.inl ⟨by kernel_rfl, ?_⟩) (by assumption) ?_
          rotate_left
          · (intro w hSw; (try dsimp only at hSw); go_simp; try with_reducible rfl)
          (try simp only [Act.put, List.getElem_toArray, List.getElem_cons_succ, List.getElem_cons_zero, List.setIfInBounds_toArray, List.set_cons_zero, List.set_cons_succ])
          refine wpAnyH_take (i := 8) (v := ?_) rfl (by kernel_rfl) (by kernel_rfl) (by kernel_rfl) (fun _ _ _ h => h) (Or.inl ⟨by kernel_rfl, ?_⟩) (by assumption) ?_
          rotate_left
          · (intro w hSw; (try dsimp only at hSw); go_simp; try with_reducible rfl)
          (try simp only [Act.put, List.getElem_toArray, List.getElem_cons_succ, List.getElem_cons_zero, List.setIfInBounds_toArray, List.set_cons_zero, List.set_cons_succ])
          refine wpAnyH_take (i := 9) (v := ?_) rfl (by kernel_rfl) (by kernel_rfl) (by kernel_rfl) (fun _ _ _ h => h) (Or.inl ⟨by kernel_rfl, ?_⟩) (by assumption) ?_
          rotate_left
          · (intro w hSw; (try dsimp only at hSw); go_simp; try with_reducible rfl)
          (try simp only [Act.put, List.getElem_toArray, List.getElem_cons_succ, List.getElem_cons_zero, List.setIfInBounds_toArray, List.set_cons_zero, List.set_cons_succ])
          refine wpAnyH_ready (rs := [4]) (by kernel_rfl) (by simp) (AllReadyH.cons rfl (fun K hK => ?_) AllReadyH.nil)
          go_simp
          refine hK.out _ _ (hS20) (fun hHeld => ?_)
          clear hK K
          (try simp only [Act.put, List.getElem_toArray, List.getElem_cons_succ, List.getElem_cons_zero, List.setIfInBounds_toArray, List.set_cons_zero, List.set_cons_succ])
          refine wpAnyH_ready (rs := [10]) (by kernel_rfl) (by simp) (AllReadyH.cons rfl (fun K hK => ?_) AllReadyH.nil)
          go_simp
          refine hK.out _ _ (hS20) (fun hHeld => ?_)
          clear hK K
          (try simp only [Act.put, List.getElem_toArray, List.getElem_cons_succ, List.getElem_cons_zero, List.setIfInBounds_toArray, List.set_cons_zero, List.set_cons_succ])
          refine wpAnyH_take (i := 11) (v := ?_) rfl (by kernel_rfl) (by kernel_rfl) (by kernel_rfl) (fun _ _ _ h => h) (Or.inl ⟨by kernel_rfl, ?_⟩) (by assumption) ?_
          rotate_left
          · (intro w hSw; (try dsimp only at hSw); go_simp; try with_reducible rfl)
          (try simp only [Act.put, List.getElem_toArray, List.getElem_cons_succ, List.getElem_cons_zero, List.setIfInBounds_toArray, List.set_cons_zero, List.set_cons_succ])
          refine wpAnyH_take (i := 12) (v := ?_) rfl (by kernel_rfl) (by kernel_rfl) (by kernel_rfl) (fun _ _ _ h => h) (Or.inl ⟨by kernel_rfl, ?_⟩) (by assumption) ?_
          rotate_left
          · (intro w hSw; (try dsimp only at hSw); go_simp; try with_reducible rfl)
          (try simp only [Act.put, List.getElem_toArray, List.getElem_cons_succ, List.getElem_cons_zero, List.setIfInBounds_toArray, List.set_cons_zero, List.set_cons_succ])
          refine wpAnyH_ready (rs := [13]) (by kernel_rfl) (by simp) (AllReadyH.cons rfl (fun K hK => ?_) AllReadyH.nil)
          go_simp
          refine hK.out _ _ (((World.cell?_setCell_other _ _ _ _ (fun e => hTb (congrArg Addr.block e))).trans hS20)) (fun hHeld => ?_)
          clear hK K
          (try simp only [Act.put, List.getElem_toArray, List.getElem_cons_succ, List.getElem_cons_zero, List.setIfInBounds_toArray, List.set_cons_zero, List.set_cons_succ])
          refine wpAnyH_done (by kernel_rfl) ?_ _
          clear hS20 hHeld c3 f3
          have hmx : (if hh < j then (j : Int) else (hh : Int)) = ((max hh j : Nat) : Int) := by
            by_cases h1 : hh < j
            · rw [if_pos h1, Nat.max_eq_right (by omega)]
            · rw [if_neg h1, Nat.max_eq_left (by omega)]
          rw [hmx]
          clear hmx
          have Htab7 := hide ((Blk.drewN Htab6.out 1).put 3 (.int .i64 ((max hh j : Nat) : Int)))
          obtain ⟨W1, hW1⟩ : ∃ W1, wr.drew.setCell ⟨T, 3, none⟩ (.int .i64 ((max hh j : Nat) : Int)) = W1 := ⟨_, rfl⟩
          rw [show (wr.setCell ⟨T, 3, none⟩ (.int .i64 ((max hh j : Nat) : Int))).drew = W1 from hW1]
          have htab7 : Blk W1 T 47 (tc tv hd.b ((max hh j : Nat) : Int) (ns.length : Int) (sizeN ns : Int) ((cnt + cntN ns k : Nat) : Int) 0 0 0) := by rw [← hW1]; exact Htab7.out
          have c4' : W1.cell? ⟨T, 4, none⟩ = some (.int .i64 (ns.length : Int)) := htab7.cell 4
          have f4 := htab7.frozen 4
          have hn := Hn.out
          have Htab8 := hide (htab7.put 4 (.int .i64 ((ns.length : Int) + 1)))
          have HW1 := hide hW1
          obtain ⟨zn, hzn⟩ : ∃ zn : Int, (ns.length : Int) = zn := ⟨_, rfl⟩
          rw [hzn] at c4'
          have hzb : zn < 1048576 ∧ 0 ≤ zn := by omega
          have Hzn := hide hzn
          clear Htab7 htab7 hW1 hn hzn
          go_wp2_with fail
          refine (add64_any T 4 zn 1 W1 c4' f4 (by omega) (by omega)).mono ?_
          rintro e W2 ⟨rfl, rfl⟩
          obtain ⟨W2, hW2⟩ : ∃ W2, W1.setCell ⟨T, 4, none⟩ (.int .i64 (zn + 1)) = W2 := ⟨_, rfl⟩
          rw [hW2]
          have htab8 : Blk W2 T 47 (tc tv hd.b ((max hh j : Nat) : Int) (zn + 1) (sizeN ns : Int) ((cnt + cntN ns k : Nat) : Int) 0 0 0) := by rw [← hW2, ← Hzn.out]; exact Htab8.out
          have c5' : W2.cell? ⟨T, 5, none⟩ = some (.int .i64 (sizeN ns : Int)) := htab8.cell 5
          have f5 := htab8.frozen 5
          have hwr2 : IntKind.i64.wrap ((n : Int) + (n2 : Int)) = (n : Int) + (n2 : Int) := by simp [IntKind.wrap, IntKind.bits, IntKind.signed]; omega
          have Htab9 := hide (htab8.put 5 (.int .i64 ((sizeN ns : Int) + ((n : Int) + (n2 : Int)))))
          have HW2 := hide hW2
          clear Htab8 htab8 hW2 c4' f4
          go_wp2_with fail
          refine (add64_any T 5 (sizeN ns : Int) ((n : Int) + (n2 : Int)) W2 c5' f5 (by omega) (by omega)).mono ?_
          rintro e W3 ⟨rfl, rfl⟩
          go_wp2
          go_ret
          have hlow := Ht5.out.low
          have hlb : base ≤ w.heap.size := Nat.le_trans hlow (Nat.le_of_lt HTl.out)
          have hdone := Hlay2.out.done Ht5.out.sl Hne.out htb ⟨by rw [hlen.out]; exact hkl, by rw [hlen2.out]; exact hvl⟩ Hlst.out hFl.out ⟨by omega, by omega, hsw, by omega⟩ (by omega) Hnx.out Hnb.out Hmk5.out Hmv5.out hlb
          have hnf := hdone.1.not_foot Htab6.out (by decide) (by decide) (by decide)
          have hheap : ∀ r, r ≠ T → (W2.setCell ⟨T, 5, none⟩ (.int .i64 ((sizeN ns : Int) + ((n : Int) + (n2 : Int))))).heap[r]? = wr.heap[r]? := fun r hr => by
            rw [Below.heap_setCell W2 ⟨T, 5, none⟩ _ r hr, ← HW2.out, Below.heap_setCell W1 ⟨T, 4, none⟩ _ r hr, ← HW1.out, Below.heap_setCell wr.drew ⟨T, 3, none⟩ _ r hr]
            rfl
          have hmov : Moved (fun g => g = T ∨ Foot hd ms g) w (W2.setCell ⟨T, 5, none⟩ (.int .i64 ((sizeN ns : Int) + ((n : Int) + (n2 : Int))))) := by
            refine Moved.fresh (((((Moved.of_grown Hgw.out (.inl (.inl rfl))).trans (Moved.of_below HB15.out (Nat.le_refl _))).trans (Hlay2.out.drew.mv.mono fun r hr => ?_)).trans ?_).set (.inr (.inl (.inl rfl))) _)
            · rcases hr with rfl | ⟨n, hn, rfl⟩
              · exact .inr (by omega)
              · exact .inl (.inr (Foot.x hn))
            · rw [← HW2.out, ← HW1.out]
              exact ((Moved.refl _ _).set (.inr (.inl (.inl rfl))) _).set (.inr (.inl (.inl rfl))) _
          have hrow : MineI (W2.setCell ⟨T, 5, none⟩ (.int .i64 ((sizeN ns : Int) + ((n : Int) + (n2 : Int))))) base tv tw := ownsRow_of_heap Htow.out fun r hr => by
            obtain ⟨cs, f, hh'⟩ := ownsRow_own Htow.out hr
            have hl := (Array.getElem?_eq_some_iff.1 hh').1
            have hty : ∀ {t' : TypeId} {ds : Array Value} {r' : Nat}, Blk w5 r' t' ds → t' ≠ 3 → r ≠ r' := fun {t' ds r'} hb h3 e => by
              subst e
              have := hh'.symm.trans hb
              injection this with this
              injection this with _ e _
              exact h3 e.symm
            obtain ⟨tv', hbT, _⟩ := Ht5.out.tab
            rw [hheap r (hty hbT (by decide))]
            exact Hlay2.out.mv.block r hl (fun hp => by
              rcases hp with hp | ⟨n, hn, hp⟩
              · exact hty Hnx.out (by decide) hp
              · obtain ⟨q, hq⟩ := List.mem_iff_getElem?.1 hn
                exact hty (Ht5.out.sl.arr q n hq) (by decide) hp)
          refine ⟨rfl, ⟨_, ⟨⟨tv, ?_, hrow⟩, by rw [Hhp.out]; exact hdone.1.keep (fun r hr => hheap r (fun e => hnf (e ▸ hr))), hlow⟩, hdone.2⟩, hmov⟩
          have e1 : ((hi (ins ns (fnd ns k) ⟨k, v, j⟩) : Nat) : Int) = ((max hh j : Nat) : Int) := by rw [hi_ins, Hhh.out]
          have e2 : (((ins ns (fnd ns k) ⟨k, v, j⟩).length : Nat) : Int) = zn + 1 := by rw [ins_len (fnd_le _ _), ← Hzn.out]; rfl
          have e3 : ((sizeN (ins ns (fnd ns k) ⟨k, v, j⟩) : Nat) : Int) = (sizeN ns : Int) + ((n : Int) + (n2 : Int)) := by
            rw [sizeN_ins]
            have := hlen.out
            have := hlen2.out
            simp only
            omega
          rw [Hhp.out, e1, e2, e3]
          exact Htab9.out

end Go.Proofs.Ytkbjbjkgohkkjaa

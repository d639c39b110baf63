/-
  The walk of Unframe: the payload in new memory, how far it reads; or the error. Condition: the slice reads as bytes, and does not lie in the table's own block. (Its drawn region printed by gen_unfr.py.)
-/
import Derived.Test.YtdnhpmdmkdgmpaaEqual
import Derived.Deep.RegionHeld3
namespace Go.Proofs.Ytdnhpmdmkdgmpaa
open Go.RowKit Go.Shelf

/-- how a frame is read -/
def unfr (b : List UInt8) : Except Int (List UInt8 × Nat) :=
  match readU b with
  | .error _ => .error 30
  | .ok (n, k) => if 16777216 < n ∨ b.length < k + 4 + n then .error 30 else
      if le4 (maskN (ext 0 ((b.drop (k + 4)).take n))) = (b.drop k).take 4 then .ok ((b.drop (k + 4)).take n, k + 4 + n) else .error 31

/-- what Unframe answers -/
def AnsX (w : World) (r : Except Int (List UInt8 × Nat)) (e : Ending) (w' : World) : Prop :=
  match r with
  | .ok (p, k) => ∃ v, e = .returned (.tuple #[v, .int .i64 (k : Int), .int .i64 0]) ∧ Mine 5 w' w.heap.size v p
  | .error c => e = .returned (.tuple #[.slice none 0 0, .int .i64 0, .int .i64 c])

theorem grown_of_drew {w w' : World} {r : Option Nat} (h : w.drew.grownBy w' r) : w.grownBy w' r := ⟨h.os, h.tape, h.output, h.size, h.block⟩
theorem cut_off {A : Option Addr} {k c n g : Nat} (h : 0 < n → ∀ a, A = some a → a.block ≠ g) (hn : 0 < n) : ∀ a, cutA A k c = some a → a.block ≠ g := fun a e => by
  unfold cutA at e
  split at e
  · exact h hn a e
  · cases A with
    | none => cases e
    | some a0 =>
      simp only [Option.map_some, Option.some.injEq] at e
      subst e
      have := h hn a0 rfl
      unfold Addr.add
      split <;> simpa using this

set_option maxRecDepth 100000 in
set_option maxHeartbeats 2000000 in
theorem unframe_any (g : Nat) (b : Bool) (ks : List UInt8) (A : Option Addr) (n c : Nat) (w : World) (h : Tbl w g b) (hks : Bs w w.heap.size A n c ks) (hA : 0 < n → ∀ a, A = some a → a.block ≠ g) :
    Calls Try.prog 12 #[.pointer (some ⟨g, 0, none⟩), .slice A n c] w fun e w' => AnsX w (unfr ks) e w' ∧ (∃ b', Tbl w' g b') ∧ w.grownBy w' (some g) := by
  have c0 := Tb.c0 h
  have hgl := h.lt
  have hlen := hide hks.len
  have hre := hks.reach
  have hcap := hks.cap
  go_enter Try.func12, Try.ntmps12
  go_wp2_with fail
  refine (readu_any ks A n c _ w hks (Nat.le_refl _)).mono ?_
  rintro e w2 ⟨he, hB2⟩
  have ht2 := h.below hB2 hgl
  have hs2 := hB2.size
  have hg2 : w.grownBy w2 (some g) := grown_of_below hB2 _
  have hk2 := (hks.below hB2).more hs2
  cases hu : readU ks with
  | error c' =>
    have hF := hide (show unfr ks = .error 30 by simp [unfr, hu])
    rw [hu] at he
    obtain rfl : e = .returned (.tuple #[.int .u64 0, .int .i64 0, .int .i64 c']) := he
    have hc0 : ¬ c' = 0 := by have := readU_err hu; omega
    go_wp2
    go_ret3
    refine ⟨?_, ⟨_, ht2⟩, hg2⟩
    rw [hF.out]
    rfl
  | ok p =>
    obtain ⟨m, k⟩ := p
    have hk := readU_len hu
    have hm := readU_lt hu
    rw [hlen.out] at hk
    rw [hu] at he
    obtain rfl : e = .returned (.tuple #[.int .u64 (m : Int), .int .i64 (k : Int), .int .i64 0]) := he
    by_cases h1 : 16777216 < m
    · have hF := hide (show unfr ks = .error 30 by simp [unfr, hu, h1])
      have h1' : (16777216 : Int) < (m : Int) := by omega
      go_wp2
      go_ret3
      refine ⟨?_, ⟨_, ht2⟩, hg2⟩
      rw [hF.out]
      rfl
    · have h1' : ¬ (16777216 : Int) < (m : Int) := by omega
      by_cases h2 : n < k + 4 + m
      · have hF := hide (show unfr ks = .error 30 by simp [unfr, hu, hlen.out, h2])
        have h2' : (n : Int) - (k : Int) < 4 + (m : Int) := by omega
        go_wp2
        go_ret3
        refine ⟨?_, ⟨_, ht2⟩, hg2⟩
        rw [hF.out]
        rfl
      · have hF := hide (show unfr ks = if le4 (maskN (ext 0 ((ks.drop (k + 4)).take m))) = (ks.drop k).take 4 then .ok ((ks.drop (k + 4)).take m, k + 4 + m) else .error 31 by simp [unfr, hu, hlen.out, h1, h2])
        have h2' : ¬ (n : Int) - (k : Int) < 4 + (m : Int) := by omega
        have hcut := run_cut2 (P := Try.prog) 22 5 Try.underlying22 Try.sizeOf5 A n c .i64 .i64 ((k : Int) + 4) ((k : Int) + 4 + (m : Int)) (by omega) (by omega) (by omega)
        have hcut2 := run_cut2 (P := Try.prog) 22 5 Try.underlying22 Try.sizeOf5 A n c .i64 .i64 (k : Int) ((k : Int) + 4) (by omega) (by omega) (by omega)
        have e1 : ((k : Int) + 4 + (m : Int)).toNat - ((k : Int) + 4).toNat = m := by omega
        have e2 : ((k : Int) + 4).toNat = k + 4 := by omega
        have e3 : ((k : Int) + 4).toNat - (k : Int).toNat = 4 := by omega
        rw [e1, e2] at hcut
        rw [e3, Int.toNat_natCast] at hcut2
        clear e1 e2 e3
        have hbr := (hk2.cut (k + 4)).take (k := m) (by omega)
        have hcs2 := (hk2.cut k).take (k := 4) (by omega)
        have hA1 : 0 < m → ∀ a, cutA A (k + 4) c = some a → a.block ≠ g := fun _ => cut_off hA (by omega)
        have hA2 : 0 < 4 → ∀ a, cutA A k c = some a → a.block ≠ g := fun _ => cut_off hA (by omega)
        have hel := ext_lt ((ks.drop (k + 4)).take m) (sum := 0) (by omega)
        have hrl : ((ks.drop (k + 4)).take m).length = m := by rw [List.length_take, List.length_drop, hlen.out]; omega
        obtain ⟨rest, hrest⟩ : ∃ rest, (ks.drop (k + 4)).take m = rest := ⟨_, rfl⟩
        obtain ⟨four, hfour⟩ : ∃ four, (ks.drop k).take 4 = four := ⟨_, rfl⟩
        rw [hrest] at hF hbr hel hrl
        rw [hfour] at hF hcs2
        obtain ⟨A1, hA1e⟩ : ∃ A1, cutA A (k + 4) c = A1 := ⟨_, rfl⟩
        obtain ⟨A2, hA2e⟩ : ∃ A2, cutA A k c = A2 := ⟨_, rfl⟩
        obtain ⟨c1, hc1e⟩ : ∃ c1, c - (k + 4) = c1 := ⟨_, rfl⟩
        obtain ⟨c2, hc2e⟩ : ∃ c2, c - k = c2 := ⟨_, rfl⟩
        rw [hA1e, hc1e] at hcut hbr
        rw [hA1e] at hA1
        rw [hA2e, hc2e] at hcut2 hcs2
        rw [hA2e] at hA2
        clear hA1e hA2e hc1e hc2e hrest hfour hks hk2 c0
        have hwk : IntKind.i64.wrap ((k : Int) + 4) = (k : Int) + 4 := by simp [IntKind.wrap, IntKind.bits, IntKind.signed]; omega
        go_wp2
        refine wp_region_held_drew (S := fun _ => True) (by kernel_rfl) (trivial) (fun hHeld => ?_)
        refine wpAnyH_take (i := 0) (v := ?_) rfl (by kernel_rfl) (by kernel_rfl) (by kernel_rfl) (fun _ _ _ h => h) (Or.inl ⟨by kernel_rfl, ?_⟩) (by assumption) ?_
        rotate_left
        · (intro w hSw; (try dsimp only at hSw); go_simp; try with_reducible rfl)
        (try simp only [Act.put, List.getElem_toArray, List.getElem_cons_succ, List.getElem_cons_zero, List.setIfInBounds_toArray, List.set_cons_zero, List.set_cons_succ])
        refine wpAnyH_take (i := 1) (v := ?_) rfl (by kernel_rfl) (by kernel_rfl) (by kernel_rfl) (fun _ _ _ h => h) (Or.inl ⟨by kernel_rfl, ?_⟩) (by assumption) ?_
        rotate_left
        · (intro w hSw; (try dsimp only at hSw); go_simp; try with_reducible rfl)
        (try simp only [Act.put, List.getElem_toArray, List.getElem_cons_succ, List.getElem_cons_zero, List.setIfInBounds_toArray, List.set_cons_zero, List.set_cons_succ])
        refine wpAnyH_take (i := 5) (v := ?_) rfl (by kernel_rfl) (by kernel_rfl) (by kernel_rfl) (fun _ _ _ h => h) (Or.inl ⟨by kernel_rfl, ?_⟩) (by assumption) ?_
        rotate_left
        · (intro w hSw; (try dsimp only at hSw); go_simp; try with_reducible rfl)
        (try simp only [Act.put, List.getElem_toArray, List.getElem_cons_succ, List.getElem_cons_zero, List.setIfInBounds_toArray, List.set_cons_zero, List.set_cons_succ])
        refine wpAnyH_take (i := 6) (v := ?_) rfl (by kernel_rfl) (by kernel_rfl) (by kernel_rfl) (fun _ _ _ h => h) (Or.inl ⟨by kernel_rfl, ?_⟩) (by assumption) ?_
        rotate_left
        · (intro w hSw; (try dsimp only at hSw); go_simp; try with_reducible rfl)
        (try simp only [Act.put, List.getElem_toArray, List.getElem_cons_succ, List.getElem_cons_zero, List.setIfInBounds_toArray, List.set_cons_zero, List.set_cons_succ])
        refine wpAnyH_take (i := 7) (v := ?_) rfl (by kernel_rfl) (by kernel_rfl) (by kernel_rfl) (fun _ _ _ h => h) (Or.inl ⟨by kernel_rfl, ?_⟩) (by assumption) ?_
        rotate_left
        · (intro w hSw; (try dsimp only at hSw); go_simp; try with_reducible rfl)
        (try simp only [Act.put, List.getElem_toArray, List.getElem_cons_succ, List.getElem_cons_zero, List.setIfInBounds_toArray, List.set_cons_zero, List.set_cons_succ])
        refine wpAnyH_take (i := 8) (v := ?_) rfl (by kernel_rfl) (by kernel_rfl) (by kernel_rfl) (fun _ _ _ h => h) (Or.inl ⟨by kernel_rfl, ?_⟩) (by assumption) ?_
        rotate_left
        · (intro w hSw; (try dsimp only at hSw); go_simp; try with_reducible rfl)
        (try simp only [Act.put, List.getElem_toArray, List.getElem_cons_succ, List.getElem_cons_zero, List.setIfInBounds_toArray, List.set_cons_zero, List.set_cons_succ])
        refine wpAnyH_take (i := 9) (v := ?_) rfl (by kernel_rfl) (by kernel_rfl) (by kernel_rfl) (fun _ _ _ h => h) (Or.inl ⟨by kernel_rfl, ?_⟩) (by assumption) ?_
        rotate_left
        · (intro w hSw; (try dsimp only at hSw); go_simp; try with_reducible rfl)
        (try simp only [Act.put, List.getElem_toArray, List.getElem_cons_succ, List.getElem_cons_zero, List.setIfInBounds_toArray, List.set_cons_zero, List.set_cons_succ])
        refine wpAnyH_ready (rs := [2]) (by kernel_rfl) (by simp) (AllReadyH.cons rfl (fun K hK => ?_) AllReadyH.nil)
        go_simp
        refine Calls.mono (sum_any g b rest A1 m c1 w2.drew (Tbl.drewN ht2 1) (hbr.drewN 1) hA1) ?_
        rintro e w5 ⟨rfl, ht5, hg5⟩
        refine hK.out _ _ (trivial) (fun hHeld => ?_)
        clear hK K
        (try simp only [Act.put, List.getElem_toArray, List.getElem_cons_succ, List.getElem_cons_zero, List.setIfInBounds_toArray, List.set_cons_zero, List.set_cons_succ])
        refine wpAnyH_ready (rs := [3]) (by kernel_rfl) (by simp) (AllReadyH.cons rfl (fun K hK => ?_) AllReadyH.nil)
        go_simp
        refine Calls.mono (mask_any (ext 0 rest) w5 hel) ?_
        rintro e w6 ⟨rfl, rfl⟩
        refine hK.out _ _ (trivial) (fun hHeld => ?_)
        clear hK K
        (try simp only [Act.put, List.getElem_toArray, List.getElem_cons_succ, List.getElem_cons_zero, List.setIfInBounds_toArray, List.set_cons_zero, List.set_cons_succ])
        refine wpAnyH_ready (rs := [4]) (by kernel_rfl) (by simp) (AllReadyH.cons rfl (fun K hK => ?_) AllReadyH.nil)
        go_simp
        refine Calls.mono (four_any (maskN (ext 0 rest)) w5 (maskN_lt _)) ?_
        rintro e w6 ⟨rfl, rfl⟩
        have hf : Bs (w5.alloc (.cells ((le4 (maskN (ext 0 rest))).map b8).toArray 5)) _ (some ⟨w5.heap.size, 0, none⟩) 4 4 (le4 (maskN (ext 0 rest))) := Sl.of_blk (Blk.new w5 5 _) rfl (by omega) (by omega)
        have ht6 := ht5.alloc (.cells ((le4 (maskN (ext 0 rest))).map b8).toArray 5)
        have hg6 : w2.grownBy (w5.alloc (.cells ((le4 (maskN (ext 0 rest))).map b8).toArray 5)) (some g) := grown_trans (grown_of_drew hg5) (grown_of_below ((Below.refl _ w5).alloc (Nat.le_refl _) _) _)
        generalize w5.alloc (.cells ((le4 (maskN (ext 0 rest))).map b8).toArray 5) = w6 at *
        have hcs6 := bs_grown hcs2 (Nat.le_refl _) hA2 hg6
        have hbr6 := bs_grown hbr (Nat.le_refl _) hA1 hg6
        refine hK.out _ _ (trivial) (fun hHeld => ?_)
        clear hK K
        (try simp only [Act.put, List.getElem_toArray, List.getElem_cons_succ, List.getElem_cons_zero, List.setIfInBounds_toArray, List.set_cons_zero, List.set_cons_succ])
        refine wpAnyH_ready (rs := [10]) (by kernel_rfl) (by simp) (AllReadyH.cons rfl (fun K hK => ?_) AllReadyH.nil)
        go_simp
        refine Calls.mono (equal_any _ _ _ _ _ _ _ _ _ _ w6 hf hcs6) ?_
        rintro e w7 ⟨rfl, q7, rfl⟩
        refine hK.out _ _ (trivial) (fun hHeld => ?_)
        clear hK K
        (try simp only [Act.put, List.getElem_toArray, List.getElem_cons_succ, List.getElem_cons_zero, List.setIfInBounds_toArray, List.set_cons_zero, List.set_cons_succ])
        refine wpAnyH_take (i := 11) (v := ?_) rfl (by kernel_rfl) (by kernel_rfl) (by kernel_rfl) (fun _ _ _ h => h) (Or.inl ⟨by kernel_rfl, ?_⟩) (by assumption) ?_
        rotate_left
        · (intro w hSw; (try dsimp only at hSw); go_simp; try with_reducible rfl)
        (try simp only [Act.put, List.getElem_toArray, List.getElem_cons_succ, List.getElem_cons_zero, List.setIfInBounds_toArray, List.set_cons_zero, List.set_cons_succ])
        refine wpAnyH_done (by kernel_rfl) ?_ _
        clear hcs2 hg5 ht5
        obtain ⟨D, hD⟩ : ∃ D, decide (le4 (maskN (ext 0 rest)) = four) = D := ⟨_, rfl⟩
        rw [hD]
        cases D
        · have hF2 := hide (show unfr ks = .error 31 by rw [hF.out, if_neg (of_decide_eq_false hD)])
          go_wp2
          go_ret3
          refine ⟨?_, ⟨_, Tbl.drewN ht6 q7⟩, grown_drew (grown_trans hg2 hg6) q7⟩
          rw [hF2.out]
          rfl
        · have hF2 := hide (show unfr ks = .ok (rest, k + 4 + m) by rw [hF.out, if_pos (of_decide_eq_true hD)])
          have hs6 := hg6.size
          go_wp2_with fail
          refine (clone_any rest A1 m c1 _ (w6.drewN q7) (hbr6.drewN q7) hs6).mono ?_
          rintro e w8 ⟨v, rfl, hm8, hB8⟩
          go_wp2
          go_ret3
          refine ⟨?_, ⟨_, Tbl.below (Tbl.drewN ht6 q7) hB8 ht6.lt⟩, grown_trans (grown_drew (grown_trans hg2 hg6) q7) (grown_of_below hB8 _)⟩
          rw [hF2.out]
          exact ⟨v, by simp, hm8.mono (Nat.le_trans hs2 hs6)⟩

end Go.Proofs.Ytdnhpmdmkdgmpaa

/-
  The frames of bytes, one behind the other, in plain Lean; the iterator over them. Condition: the bytes read as such, and don't lie in the table's block.
-/
import Derived.Test.YtdnhpmdmkdgmpaaBitsP
import Derived.Test.YtdnhpmdmkdgmpaaLoopW
namespace Go.Proofs.Ytdnhpmdmkdgmpaa
open Go.RowKit Go.Shelf

attribute [local go_sem] Oper.semAt_some

/-- where frame number i begins, what it holds -/
def posF (b : List UInt8) : Nat → Nat
  | 0 => 0
  | i + 1 => match unfr (b.drop (posF b i)) with | .ok (_, k) => posF b i + k | .error _ => posF b i
def payF (b : List UInt8) (i : Nat) : List UInt8 := match unfr (b.drop (posF b i)) with | .ok (p, _) => p | .error _ => []

/-- N frames, and behind them none -/
structure Frames (b : List UInt8) (N : Nat) : Prop where
  le : N ≤ b.length
  at_ : ∀ i, i < N → ∃ k, unfr (b.drop (posF b i)) = .ok (payF b i, k) ∧ posF b (i + 1) = posF b i + k ∧ 0 < k ∧ posF b (i + 1) ≤ b.length ∧ (payF b i).length ≤ 16777216
  stop : ∃ c, unfr (b.drop (posF b N)) = .error c ∧ posF b N ≤ b.length

theorem unfr_pos {b p : List UInt8} {k : Nat} (h : unfr b = .ok (p, k)) : 0 < k ∧ k ≤ b.length ∧ p.length ≤ 16777216 := by
  obtain ⟨h1, h2, h3⟩ := unfr_once h
  refine ⟨?_, h2, h3⟩
  rcases Nat.eq_zero_or_pos k with h0 | h0
  · subst h0
    have := congrArg List.length h1
    rw [frameB_len] at this
    simp at this
    omega
  · exact h0
theorem frames_step (b : List UInt8) (i : Nat) (hi : posF b i ≤ b.length) :
    (∃ k, unfr (b.drop (posF b i)) = .ok (payF b i, k) ∧ posF b (i + 1) = posF b i + k ∧ 0 < k ∧ posF b (i + 1) ≤ b.length ∧ (payF b i).length ≤ 16777216) ∨ ∃ c, unfr (b.drop (posF b i)) = .error c := by
  cases hu : unfr (b.drop (posF b i)) with
  | error c => exact .inr ⟨c, rfl⟩
  | ok pk =>
    obtain ⟨p, k⟩ := pk
    obtain ⟨h1, h2, h3⟩ := unfr_pos hu
    rw [List.length_drop] at h2
    have e1 : payF b i = p := by simp [payF, hu]
    have e2 : posF b (i + 1) = posF b i + k := by simp [posF, hu]
    exact .inl ⟨k, by rw [e1], e2, h1, by omega, by rw [e1]; exact h3⟩
theorem frames_aux (b : List UInt8) : ∀ (f i : Nat), b.length - posF b i < f → posF b i ≤ b.length → i ≤ posF b i →
    (∀ j, j < i → ∃ k, unfr (b.drop (posF b j)) = .ok (payF b j, k) ∧ posF b (j + 1) = posF b j + k ∧ 0 < k ∧ posF b (j + 1) ≤ b.length ∧ (payF b j).length ≤ 16777216) → ∃ N, Frames b N
  | 0, i, h, _, _, _ => by omega
  | f + 1, i, h, hi, hp, hj => by
    rcases frames_step b i hi with ⟨k, h1, h2, h3, h4, h5⟩ | ⟨c, h1⟩
    · refine frames_aux b f (i + 1) (by omega) h4 (by omega) (fun j hj' => ?_)
      by_cases e : j = i
      · subst e; exact ⟨k, h1, h2, h3, h4, h5⟩
      · exact hj j (by omega)
    · exact ⟨i, by omega, hj, c, h1, hi⟩
theorem frames_any (b : List UInt8) : ∃ N, Frames b N := frames_aux b (b.length + 1) 0 (by simp [posF]) (Nat.zero_le _) (Nat.zero_le _) (fun j hj => by omega)

/-! ### the iterator -/
/-- what a round is handed -/
def FVals (all : List UInt8) (i : Nat) (W : World) (x : Option Addr × Nat × Nat) : Prop := Bs W W.heap.size x.1 x.2.1 x.2.2 (payF all i)
def fenc (all : List UInt8) (i : Nat) (x : Option Addr × Nat × Nat) : Array Value := #[.int .i64 ((posF all i : Nat) : Int), .slice x.1 x.2.1 x.2.2]

theorem below_of_grown {w w' : World} {R B : Nat} (hg : w.grownBy w' (some R)) (hB : B ≤ R) (hs : B ≤ w.heap.size) : Below B w w' := (Below.refl B w).grown hg hs (fun j ej => by cases ej; exact hB)

set_option maxRecDepth 100000 in
set_option maxHeartbeats 4000000 in
theorem each31_in (n l : Nat) (hn : 1 ≤ n) (G X1 X2 M N L c : Nat) (A : Option Addr) (all : List UInt8) (hfr : Frames all N) (hall : all.length ≤ 100000) (J Jx : Nat → World → Prop)
    (hJ : ∀ i U V, J i U → (U.grownBy V (some G) ∧ ∃ b, Tbl V G b) → J i V) (hX1G : X1 ≠ G) (hX2G : X2 ≠ G) (hX1M : X1 < M) (hX2M : X2 < M) (hGM : G < M)
    (hY : ∀ i W x, i < N → J i W → FVals all i W x → YieldAt Fence.wide (n - 1) Try.prog l (fenc all i x) W fun e W' => (e = .returned (.bool true) ∧ J (i + 1) W' ∧ Below M W W') ∨ (e = .returned (.bool false) ∧ Jx (i + 1) W'))
    (W : World) (hM : M ≤ W.heap.size) (hX1 : Boxed W X1 24 (.pointer (some ⟨G, 0, none⟩))) (hX2 : Boxed W X2 22 (.slice A L c)) (b : Bool) (ht : Tbl W G b) (hb : Bs W M A L c all) (hAG : 0 < L → ∀ a, A = some a → a.block ≠ G) (h0 : J 0 W) :
    CallsIn Fence.wide n Try.prog 31 (#[.func (.yield l) #[] #[]] ++ #[.pointer (some ⟨X1, 0, none⟩), .pointer (some ⟨X2, 0, none⟩)]) W fun e W' => (∃ v, e = .returned v) ∧ (J N W' ∨ ∃ i, i ≤ N ∧ Jx i W') := by
  refine callsIn_of_wp Try.func31 rfl trivial ?_ rfl
  simp only [Try.ntmps31, List.size_toArray, List.length_cons, List.length_nil, Nat.reduceAdd, Nat.reduceSub, Array.replicate_succ, Array.replicate_zero, List.push_toArray, List.append_toArray, List.nil_append, List.cons_append]
  have hlen := hide hb.len
  have hre := hb.reach
  have hcap := hb.cap
  have hfr' := hide hfr
  gi_wp2
  gi_loopw [4] (fun t4 wr => ∃ (i : Nat) (b' : Bool), i ≤ N ∧ t4 = .int .i64 ((posF all i : Nat) : Int) ∧ posF all i ≤ L ∧ J i wr ∧ Boxed wr X1 24 (.pointer (some ⟨G, 0, none⟩)) ∧ Boxed wr X2 22 (.slice A L c) ∧ Tbl wr G b' ∧ Bs wr M A L c all ∧ M ≤ wr.heap.size)
    (fun t4 _ => 2 * L - (intOf t4).toNat)
  case atStart => exact ⟨0, b, Nat.zero_le _, rfl, Nat.zero_le _, h0, hX1, hX2, ht, hb, hM⟩
  case round =>
    obtain ⟨i, b, hi, rfl, hpL, hj, hX11, hX21, ht1, hb1, hsz⟩ := hrel
    have hHS : wr.drew.cell? ⟨X1, 0, none⟩ = some (.pointer (some ⟨G, 0, none⟩)) ∧ wr.drew.cell? ⟨X2, 0, none⟩ = some (.slice A L c) := ⟨hX11.cell, hX21.cell⟩
    by_cases hlt : i < N
    · obtain ⟨k2, hu, hnext, hk0, hkl, hpl⟩ := hfr'.out.at_ i hlt
      rw [hlen.out] at hkl
      have hnx := hide hnext
      rw [hnext] at hkl
      clear hnext
      generalize hpos : posF all i = k at *
      have hcut := run_cut (P := Try.prog) 22 5 Try.underlying22 Try.sizeOf5 A L c .i64 (k : Int) (by omega) (by omega)
      rw [Int.toNat_natCast] at hcut
      gi_wp2
      refine region_wide_to (S := fun W' => W'.cell? ⟨X1, 0, none⟩ = some (.pointer (some ⟨G, 0, none⟩)) ∧ W'.cell? ⟨X2, 0, none⟩ = some (.slice A L c)) (by kernel_rfl) (by kernel_rfl) (hHS) (fun hHeld => ?_)
      refine wpAnyH_take (i := 0) (v := ?_) rfl (by kernel_rfl) (by kernel_rfl) (by kernel_rfl) (fun _ _ _ h => by cases h.1) (Or.inl ⟨by kernel_rfl, ?_⟩) (by assumption) ?_
      rotate_left
      · (intro w hSw; (try dsimp only at hSw); go_simp; try with_reducible rfl)
      (try simp only [Act.put, List.getElem_toArray, List.getElem_cons_succ, List.getElem_cons_zero, List.setIfInBounds_toArray, List.set_cons_zero, List.set_cons_succ])
      refine wpAnyH_take (i := 1) (v := ?_) rfl (by kernel_rfl) (by kernel_rfl) (by kernel_rfl) (fun _ _ _ h => by cases h.1) (Or.inl ⟨by kernel_rfl, ?_⟩) (by assumption) ?_
      rotate_left
      · (intro w hSw; (try dsimp only at hSw); go_simp; try with_reducible rfl)
      (try simp only [Act.put, List.getElem_toArray, List.getElem_cons_succ, List.getElem_cons_zero, List.setIfInBounds_toArray, List.set_cons_zero, List.set_cons_succ])
      refine wpAnyH_take (i := 2) (v := ?_) rfl (by kernel_rfl) (by kernel_rfl) (by kernel_rfl) (fun _ _ _ h => by cases h.1) (Or.inl ⟨by kernel_rfl, ?_⟩) (by assumption) ?_
      rotate_left
      · (intro w hSw; (try dsimp only at hSw); go_simp; try with_reducible rfl)
      (try simp only [Act.put, List.getElem_toArray, List.getElem_cons_succ, List.getElem_cons_zero, List.setIfInBounds_toArray, List.set_cons_zero, List.set_cons_succ])
      refine wpAnyH_take (i := 3) (v := ?_) rfl (by kernel_rfl) (by kernel_rfl) (by kernel_rfl) (fun _ _ _ h => by cases h.1) (Or.inl ⟨by kernel_rfl, ?_⟩) (by assumption) ?_
      rotate_left
      · (intro w hSw; (try dsimp only at hSw); go_simp; try with_reducible rfl)
      (try simp only [Act.put, List.getElem_toArray, List.getElem_cons_succ, List.getElem_cons_zero, List.setIfInBounds_toArray, List.set_cons_zero, List.set_cons_succ])
      refine wpAnyH_ready (rs := [4]) (by kernel_rfl) (by simp) (AllReadyH.cons rfl (fun K hK => ?_) AllReadyH.nil)
      go_simp
      refine Calls.mono (unframe_any G b (all.drop k) (cutA A k c) (L - k) (c - k) wr.drew (Tbl.drewN ht1 1) (((hb1.more hsz).cut k).drewN 1) (fun hn => cut_off (hAG) (by omega))) ?_
      rintro e w5 ⟨hx, ⟨b5, ht5⟩, hg5⟩
      replace hg5 := grown_of_drew hg5
      have hX15 := hX11.kept hg5 (by simp; omega)
      have hX25 := hX21.kept hg5 (by simp; omega)
      obtain ⟨v, rfl, hmp⟩ : ∃ v, e = .returned (.tuple #[v, .int .i64 (k2 : Int), .int .i64 0]) ∧ Mine 5 w5 wr.drew.heap.size v (payF all i) := by rw [hu] at hx; exact hx
      obtain ⟨A', L', c', rfl, hL', hbp⟩ := Mine.bsL hmp (by omega)
      clear hL'
      refine hK.out _ _ (⟨hX15.cell, hX25.cell⟩) (fun hHeld => ?_)
      clear hK K
      (try simp only [Act.put, List.getElem_toArray, List.getElem_cons_succ, List.getElem_cons_zero, List.setIfInBounds_toArray, List.set_cons_zero, List.set_cons_succ])
      refine wpAnyH_take (i := 5) (v := ?_) rfl (by kernel_rfl) (by kernel_rfl) (by kernel_rfl) (fun _ _ _ h => by cases h.1) (Or.inl ⟨by kernel_rfl, ?_⟩) (by assumption) ?_
      rotate_left
      · (intro w hSw; (try dsimp only at hSw); go_simp; try with_reducible rfl)
      (try simp only [Act.put, List.getElem_toArray, List.getElem_cons_succ, List.getElem_cons_zero, List.setIfInBounds_toArray, List.set_cons_zero, List.set_cons_succ])
      refine wpAnyH_take (i := 6) (v := ?_) rfl (by kernel_rfl) (by kernel_rfl) (by kernel_rfl) (fun _ _ _ h => by cases h.1) (Or.inl ⟨by kernel_rfl, ?_⟩) (by assumption) ?_
      rotate_left
      · (intro w hSw; (try dsimp only at hSw); go_simp; try with_reducible rfl)
      (try simp only [Act.put, List.getElem_toArray, List.getElem_cons_succ, List.getElem_cons_zero, List.setIfInBounds_toArray, List.set_cons_zero, List.set_cons_succ])
      refine wpAnyH_take (i := 7) (v := ?_) rfl (by kernel_rfl) (by kernel_rfl) (by kernel_rfl) (fun _ _ _ h => by cases h.1) (Or.inl ⟨by kernel_rfl, ?_⟩) (by assumption) ?_
      rotate_left
      · (intro w hSw; (try dsimp only at hSw); go_simp; try with_reducible rfl)
      (try simp only [Act.put, List.getElem_toArray, List.getElem_cons_succ, List.getElem_cons_zero, List.setIfInBounds_toArray, List.set_cons_zero, List.set_cons_succ])
      refine wpAnyH_take (i := 8) (v := ?_) rfl (by kernel_rfl) (by kernel_rfl) (by kernel_rfl) (fun _ _ _ h => by cases h.1) (Or.inl ⟨by kernel_rfl, ?_⟩) (by assumption) ?_
      rotate_left
      · (intro w hSw; (try dsimp only at hSw); go_simp; try with_reducible rfl)
      (try simp only [Act.put, List.getElem_toArray, List.getElem_cons_succ, List.getElem_cons_zero, List.setIfInBounds_toArray, List.set_cons_zero, List.set_cons_succ])
      refine wpAnyH_take (i := 9) (v := ?_) rfl (by kernel_rfl) (by kernel_rfl) (by kernel_rfl) (fun _ _ _ h => by cases h.1) (Or.inl ⟨by kernel_rfl, ?_⟩) (by assumption) ?_
      rotate_left
      · (intro w hSw; (try dsimp only at hSw); go_simp; try with_reducible rfl)
      (try simp only [Act.put, List.getElem_toArray, List.getElem_cons_succ, List.getElem_cons_zero, List.setIfInBounds_toArray, List.set_cons_zero, List.set_cons_succ])
      refine wpAnyH_take (i := 10) (v := ?_) rfl (by kernel_rfl) (by kernel_rfl) (by kernel_rfl) (fun _ _ _ h => by cases h.1) (Or.inl ⟨by kernel_rfl, ?_⟩) (by assumption) ?_
      rotate_left
      · (intro w hSw; (try dsimp only at hSw); go_simp; try with_reducible rfl)
      (try simp only [Act.put, List.getElem_toArray, List.getElem_cons_succ, List.getElem_cons_zero, List.setIfInBounds_toArray, List.set_cons_zero, List.set_cons_succ])
      refine wpAnyH_take (i := 11) (v := ?_) rfl (by kernel_rfl) (by kernel_rfl) (by kernel_rfl) (fun _ _ _ h => by cases h.1) (Or.inl ⟨by kernel_rfl, ?_⟩) (by assumption) ?_
      rotate_left
      · (intro w hSw; (try dsimp only at hSw); go_simp; try with_reducible rfl)
      (try simp only [Act.put, List.getElem_toArray, List.getElem_cons_succ, List.getElem_cons_zero, List.setIfInBounds_toArray, List.set_cons_zero, List.set_cons_succ])
      refine wpAnyH_done (by kernel_rfl) ?_ _
      refine ⟨rfl, ?_⟩
      have hb5 := bs_grown hb1 hsz hAG hg5
      obtain ⟨fn, tmps, assign, body, hy, hR⟩ := hY i w5 (A', L', c') hlt (hJ i _ _ hj ⟨hg5, _, ht5⟩) hbp
      have hs5 := hg5.size
      unfold fenc at hy
      rw [hpos] at hy
      clear hmp hbp hHS
      gi_wp2
      refine hR.mono ?_
      rintro e w6 (⟨rfl, hj6, hB6⟩ | ⟨rfl, hj6⟩)
      · gi_wp2
        go_roundw
        case rel => exact ⟨i + 1, b5, by omega, by rw [hnx.out]; simp, by rw [hnx.out]; exact hkl, hj6, Blk.below hX15 hB6 hX1M, Blk.below hX25 hB6 hX2M, ht5.below hB6 hGM, hb5.below hB6, by have := hB6.size; omega⟩
        case measure => simp [intOf]; omega
      · gi_wp2
        refine bodyPost_ret (results_none rfl _ _ _) rfl ?_
        exact ⟨⟨_, rfl⟩, .inr ⟨i + 1, by omega, hj6⟩⟩
    · obtain rfl : i = N := by omega
      obtain ⟨ce, hue, hpe⟩ := hfr'.out.stop
      have hce : ¬ ce = 0 := by have := unfr_err hue; omega
      have hceb : (ce != 0) = true := by simpa using hce
      generalize hpos : posF all i = k at *
      have hcut := run_cut (P := Try.prog) 22 5 Try.underlying22 Try.sizeOf5 A L c .i64 (k : Int) (by omega) (by omega)
      rw [Int.toNat_natCast] at hcut
      gi_wp2
      refine region_wide_to (S := fun W' => W'.cell? ⟨X1, 0, none⟩ = some (.pointer (some ⟨G, 0, none⟩)) ∧ W'.cell? ⟨X2, 0, none⟩ = some (.slice A L c)) (by kernel_rfl) (by kernel_rfl) (hHS) (fun hHeld => ?_)
      refine wpAnyH_take (i := 0) (v := ?_) rfl (by kernel_rfl) (by kernel_rfl) (by kernel_rfl) (fun _ _ _ h => by cases h.1) (Or.inl ⟨by kernel_rfl, ?_⟩) (by assumption) ?_
      rotate_left
      · (intro w hSw; (try dsimp only at hSw); go_simp; try with_reducible rfl)
      (try simp only [Act.put, List.getElem_toArray, List.getElem_cons_succ, List.getElem_cons_zero, List.setIfInBounds_toArray, List.set_cons_zero, List.set_cons_succ])
      refine wpAnyH_take (i := 1) (v := ?_) rfl (by kernel_rfl) (by kernel_rfl) (by kernel_rfl) (fun _ _ _ h => by cases h.1) (Or.inl ⟨by kernel_rfl, ?_⟩) (by assumption) ?_
      rotate_left
      · (intro w hSw; (try dsimp only at hSw); go_simp; try with_reducible rfl)
      (try simp only [Act.put, List.getElem_toArray, List.getElem_cons_succ, List.getElem_cons_zero, List.setIfInBounds_toArray, List.set_cons_zero, List.set_cons_succ])
      refine wpAnyH_take (i := 2) (v := ?_) rfl (by kernel_rfl) (by kernel_rfl) (by kernel_rfl) (fun _ _ _ h => by cases h.1) (Or.inl ⟨by kernel_rfl, ?_⟩) (by assumption) ?_
      rotate_left
      · (intro w hSw; (try dsimp only at hSw); go_simp; try with_reducible rfl)
      (try simp only [Act.put, List.getElem_toArray, List.getElem_cons_succ, List.getElem_cons_zero, List.setIfInBounds_toArray, List.set_cons_zero, List.set_cons_succ])
      refine wpAnyH_take (i := 3) (v := ?_) rfl (by kernel_rfl) (by kernel_rfl) (by kernel_rfl) (fun _ _ _ h => by cases h.1) (Or.inl ⟨by kernel_rfl, ?_⟩) (by assumption) ?_
      rotate_left
      · (intro w hSw; (try dsimp only at hSw); go_simp; try with_reducible rfl)
      (try simp only [Act.put, List.getElem_toArray, List.getElem_cons_succ, List.getElem_cons_zero, List.setIfInBounds_toArray, List.set_cons_zero, List.set_cons_succ])
      refine wpAnyH_ready (rs := [4]) (by kernel_rfl) (by simp) (AllReadyH.cons rfl (fun K hK => ?_) AllReadyH.nil)
      go_simp
      refine Calls.mono (unframe_any G b (all.drop k) (cutA A k c) (L - k) (c - k) wr.drew (Tbl.drewN ht1 1) (((hb1.more hsz).cut k).drewN 1) (fun hn => cut_off (hAG) (by omega))) ?_
      rintro e w5 ⟨hx, ⟨b5, ht5⟩, hg5⟩
      replace hg5 := grown_of_drew hg5
      have hX15 := hX11.kept hg5 (by simp; omega)
      have hX25 := hX21.kept hg5 (by simp; omega)
      obtain rfl : e = .returned (.tuple #[.slice none 0 0, .int .i64 0, .int .i64 ce]) := by rw [hue] at hx; exact hx
      refine hK.out _ _ (⟨hX15.cell, hX25.cell⟩) (fun hHeld => ?_)
      clear hK K
      (try simp only [Act.put, List.getElem_toArray, List.getElem_cons_succ, List.getElem_cons_zero, List.setIfInBounds_toArray, List.set_cons_zero, List.set_cons_succ])
      refine wpAnyH_take (i := 5) (v := ?_) rfl (by kernel_rfl) (by kernel_rfl) (by kernel_rfl) (fun _ _ _ h => by cases h.1) (Or.inl ⟨by kernel_rfl, ?_⟩) (by assumption) ?_
      rotate_left
      · (intro w hSw; (try dsimp only at hSw); go_simp; try with_reducible rfl)
      (try simp only [Act.put, List.getElem_toArray, List.getElem_cons_succ, List.getElem_cons_zero, List.setIfInBounds_toArray, List.set_cons_zero, List.set_cons_succ])
      refine wpAnyH_take (i := 6) (v := ?_) rfl (by kernel_rfl) (by kernel_rfl) (by kernel_rfl) (fun _ _ _ h => by cases h.1) (Or.inl ⟨by kernel_rfl, ?_⟩) (by assumption) ?_
      rotate_left
      · (intro w hSw; (try dsimp only at hSw); go_simp; try with_reducible rfl)
      (try simp only [Act.put, List.getElem_toArray, List.getElem_cons_succ, List.getElem_cons_zero, List.setIfInBounds_toArray, List.set_cons_zero, List.set_cons_succ])
      refine wpAnyH_take (i := 7) (v := ?_) rfl (by kernel_rfl) (by kernel_rfl) (by kernel_rfl) (fun _ _ _ h => by cases h.1) (Or.inl ⟨by kernel_rfl, ?_⟩) (by assumption) ?_
      rotate_left
      · (intro w hSw; (try dsimp only at hSw); go_simp; try with_reducible rfl)
      (try simp only [Act.put, List.getElem_toArray, List.getElem_cons_succ, List.getElem_cons_zero, List.setIfInBounds_toArray, List.set_cons_zero, List.set_cons_succ])
      refine wpAnyH_take (i := 8) (v := ?_) rfl (by kernel_rfl) (by kernel_rfl) (by kernel_rfl) (fun _ _ _ h => by cases h.1) (Or.inl ⟨by kernel_rfl, ?_⟩) (by assumption) ?_
      rotate_left
      · (intro w hSw; (try dsimp only at hSw); go_simp; try with_reducible rfl)
      (try simp only [Act.put, List.getElem_toArray, List.getElem_cons_succ, List.getElem_cons_zero, List.setIfInBounds_toArray, List.set_cons_zero, List.set_cons_succ])
      refine wpAnyH_take (i := 9) (v := ?_) rfl (by kernel_rfl) (by kernel_rfl) (by kernel_rfl) (fun _ _ _ h => by cases h.1) (Or.inl ⟨by kernel_rfl, ?_⟩) (by assumption) ?_
      rotate_left
      · (intro w hSw; (try dsimp only at hSw); go_simp; try with_reducible rfl)
      (try simp only [Act.put, List.getElem_toArray, List.getElem_cons_succ, List.getElem_cons_zero, List.setIfInBounds_toArray, List.set_cons_zero, List.set_cons_succ])
      refine wpAnyH_take (i := 10) (v := ?_) rfl (by kernel_rfl) (by kernel_rfl) (by kernel_rfl) (fun _ _ _ h => by cases h.1) (Or.inl ⟨by kernel_rfl, ?_⟩) (by assumption) ?_
      rotate_left
      · (intro w hSw; (try dsimp only at hSw); go_simp; try with_reducible rfl)
      (try simp only [Act.put, List.getElem_toArray, List.getElem_cons_succ, List.getElem_cons_zero, List.setIfInBounds_toArray, List.set_cons_zero, List.set_cons_succ])
      refine wpAnyH_take (i := 11) (v := ?_) rfl (by kernel_rfl) (by kernel_rfl) (by kernel_rfl) (fun _ _ _ h => by cases h.1) (Or.inl ⟨by kernel_rfl, ?_⟩) (by assumption) ?_
      rotate_left
      · (intro w hSw; (try dsimp only at hSw); go_simp; try with_reducible rfl)
      (try simp only [Act.put, List.getElem_toArray, List.getElem_cons_succ, List.getElem_cons_zero, List.setIfInBounds_toArray, List.set_cons_zero, List.set_cons_succ])
      refine wpAnyH_done (by kernel_rfl) ?_ _
      refine ⟨rfl, ?_⟩
      gi_wp2
      rename_i _ hK3 _ _ _ _
      refine ⟨(fun f hf => by cases hf), hK3 _ _ ?_⟩
      gi_wp2
      refine bodyPost_ret (results_none rfl _ _ _) rfl ?_
      exact ⟨⟨_, rfl⟩, .inl (hJ i _ _ hj ⟨hg5, _, ht5⟩)⟩

end Go.Proofs.Ytdnhpmdmkdgmpaa

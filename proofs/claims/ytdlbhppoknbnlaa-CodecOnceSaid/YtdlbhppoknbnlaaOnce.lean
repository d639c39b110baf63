/-
  The walk of the law CodecOnce: it answers true. Condition: the bytes read as such.
-/
import Derived.Test.YtdlbhppoknbnlaaNumbers
namespace Go.Proofs.Ytdlbhppoknbnlaa
open Go.RowKit

theorem readI_of {b : List UInt8} {u k : Nat} (h : readU b = .ok (u, k)) : readI b = .ok (unzig u, k) := by rw [readI, h]
theorem readI_of_err {b : List UInt8} {c : Int} (h : readU b = .error c) : readI b = .error c := by rw [readI, h]
theorem readF_of_err {b : List UInt8} {c : Int} (h : readU b = .error c) : readF b = .error c := by rw [readF, h]
theorem readL_of_err {b : List UInt8} {c : Int} (h : readU b = .error c) : readL b = .error c := by rw [readL, h]

set_option maxRecDepth 100000 in
set_option maxHeartbeats 8000000 in
theorem once_any (ks : List UInt8) (A : Option Addr) (l c : Nat) (w : World) (h : Bs w w.heap.size A l c ks) :
    Calls Try.prog 5 #[.slice A l c] w fun e w' => e = .returned (.bool true) ∧ Below w.heap.size w w' := by
  have hlen := hide h.len
  have hcap := h.cap
  go_enter Try.func5, Try.ntmps5
  go_wp2_with fail
  refine (awake_any w).mono ?_
  rintro e w0 ⟨rfl, hB0⟩
  by_cases hl : 5000 < l
  · have hl' : (5000 : Int) < (l : Int) := by omega
    go_wp2
    go_ret
    exact ⟨rfl, hB0⟩
  have hl' : ¬ (5000 : Int) < (l : Int) := by omega
  go_wp2_with fail
  refine (readu_any ks A l c w.heap.size w0 (h.below hB0) hB0.size).mono ?_
  rintro e w1 ⟨he, hB1⟩
  have hBw := hB0.trans (hB1.mono hB0.size)
  clear hB0 hB1
  cases hu : readU ks with
  | error er =>
    have her := readU_err hu
    have her0 : ¬ er = 0 := by omega
    have herb : (er == 0) = false := by simpa using her0
    rw [hu] at he
    obtain rfl : e = .returned (.tuple #[.int .u64 0, .int .i64 0, .int .i64 er]) := he
    go_wp2
    go_quiet (fail)
    have hBw := Below.drewN' hBw nq
    generalize w1.drewN nq = w1' at *
    go_wp2_with fail
    refine (readi_any ks A l c w.heap.size _ (Bs.below h hBw) hBw.size).mono ?_
    rintro e w2 ⟨he, hB2⟩
    rw [readI_of_err hu] at he
    obtain rfl : e = .returned (.tuple #[.int .i64 0, .int .i64 0, .int .i64 er]) := he
    have hBw2 := hBw.trans (hB2.mono hBw.size)
    clear hB2
    go_wp2
    go_quiet (fail)
    have hBw2 := Below.drewN' hBw2 nq
    generalize w2.drewN nq = w2' at *
    go_wp2_with fail
    refine (readf_any ks A l c w.heap.size _ (Bs.below h hBw2) hBw2.size).mono ?_
    rintro e w3 ⟨he, hB3⟩
    rw [readF_of_err hu] at he
    obtain rfl : e = .returned (.tuple #[.slice none 0 0, .int .i64 0, .int .i64 er]) := he
    have hBw3 := hBw2.trans (hB3.mono hBw2.size)
    clear hB3
    go_wp2_with fail
    refine (readl_any ks A l c w.heap.size _ (Bs.below h hBw3) hBw3.size).mono ?_
    rintro e w4 ⟨he, hB4⟩
    rw [readL_of_err hu] at he
    obtain rfl : e = .returned (.tuple #[.slice none 0 0, .int .i64 0, .int .i64 er]) := he
    go_wp2
    go_ret
    exact ⟨rfl, hBw3.trans (hB4.mono hBw3.size)⟩
  | ok p =>
    obtain ⟨n, k⟩ := p
    have hn := readU_lt hu
    have hkl : k ≤ l := by rw [← hlen.out]; exact readU_len hu
    have hkl' : ¬ (l : Int) < (k : Int) := by omega
    have hkd : decide (l < k) = false := decide_eq_false (by omega)
    have lu := uvar_len10 n hn
    rw [hu] at he
    obtain rfl : e = .returned (.tuple #[.int .u64 (n : Int), .int .i64 (k : Int), .int .i64 0]) := he
    have hct := run_cutTo (P := Try.prog) 24 5 Try.underlying24 (fun w => by simp [go_sem]) A l c .i64 (k : Int) (by omega) (by omega)
    simp only [Int.toNat_natCast] at hct
    have Hk := hide (show ∀ W, Below w1.heap.size w1 W → Below w1.heap.size w1 W ∧ StrAt A k c (uvar n) W from fun W hW => ⟨hW, strAt (by have := ((h.below hBw).below (hW.mono hBw.size)).take (k := k) hkl; rwa [readU_once hu] at this)⟩)
    have G1 := hide (uint_any n hn)
    go_wp2

    refine wp_region_held_drew (S := fun W => Below w1.heap.size w1 W ∧ StrAt A k c (uvar n) W) (by kernel_rfl) (Hk.out _ (below_drew w1)) (fun hHeld => ?_)
    refine wpAnyH_take (i := 0) (v := ?_) rfl (by kernel_rfl) (by kernel_rfl) (by kernel_rfl) (fun _ _ _ h => h) (Or.inl ⟨by kernel_rfl, ?_⟩) (by assumption) ?_
    rotate_left
    · (intro w hSw; (try dsimp only at hSw); go_simp; try with_reducible rfl)
    (try simp only [Act.put, List.getElem_toArray, List.getElem_cons_succ, List.getElem_cons_zero, List.setIfInBounds_toArray, List.set_cons_zero, List.set_cons_succ])
    refine wpAnyH_take (i := 1) (v := ?_) rfl (by kernel_rfl) (by kernel_rfl) (by kernel_rfl) (fun _ _ _ h => h) (Or.inl ⟨by kernel_rfl, ?_⟩) (by assumption) ?_
    rotate_left
    · (intro w hSw; (try dsimp only at hSw); go_simp; try with_reducible rfl)
    (try simp only [Act.put, List.getElem_toArray, List.getElem_cons_succ, List.getElem_cons_zero, List.setIfInBounds_toArray, List.set_cons_zero, List.set_cons_succ])
    refine wpAnyH_take (i := 2) (v := ?_) rfl (by kernel_rfl) (by kernel_rfl) (by kernel_rfl) (fun _ _ _ h => h) (Or.inl ⟨by kernel_rfl, ?_⟩) (by assumption) ?_
    rotate_left
    · (intro w hSw; (try dsimp only at hSw); go_simp; try with_reducible rfl)
    (try simp only [Act.put, List.getElem_toArray, List.getElem_cons_succ, List.getElem_cons_zero, List.setIfInBounds_toArray, List.set_cons_zero, List.set_cons_succ])
    refine wpAnyH_take (i := 3) (v := ?_) rfl (by kernel_rfl) (by kernel_rfl) (by kernel_rfl) (fun _ _ _ h => h) (Or.inl ⟨by kernel_rfl, ?_⟩) (by assumption) ?_
    rotate_left
    · (intro w hSw; (try dsimp only at hSw); go_simp; try with_reducible rfl)
    (try simp only [Act.put, List.getElem_toArray, List.getElem_cons_succ, List.getElem_cons_zero, List.setIfInBounds_toArray, List.set_cons_zero, List.set_cons_succ])
    refine wpAnyH_take (i := 4) (v := ?_) rfl (by kernel_rfl) (by kernel_rfl) (by kernel_rfl) (fun _ _ _ h => h) (Or.inl ⟨by kernel_rfl, ?_⟩) (by assumption) ?_
    rotate_left
    · (intro w hSw; (try dsimp only at hSw); go_simp; try with_reducible rfl)
    (try simp only [Act.put, List.getElem_toArray, List.getElem_cons_succ, List.getElem_cons_zero, List.setIfInBounds_toArray, List.set_cons_zero, List.set_cons_succ])
    refine wpAnyH_take (i := 5) (v := ?_) rfl (by kernel_rfl) (by kernel_rfl) (by kernel_rfl) (fun _ _ _ h => h) (Or.inl ⟨by kernel_rfl, ?_⟩) (by assumption) ?_
    rotate_left
    · (intro w hSw; (try dsimp only at hSw); go_simp; try with_reducible rfl)
    (try simp only [Act.put, List.getElem_toArray, List.getElem_cons_succ, List.getElem_cons_zero, List.setIfInBounds_toArray, List.set_cons_zero, List.set_cons_succ])
    refine wpAnyH_take (i := 6) (v := ?_) rfl (by kernel_rfl) (by kernel_rfl) (by kernel_rfl) (fun _ _ _ h => h) (Or.inl ⟨by kernel_rfl, ?_⟩) (by assumption) ?_
    rotate_left
    · (intro w hSw; (try dsimp only at hSw); go_simp; try with_reducible rfl)
    (try simp only [Act.put, List.getElem_toArray, List.getElem_cons_succ, List.getElem_cons_zero, List.setIfInBounds_toArray, List.set_cons_zero, List.set_cons_succ])
    refine wpAnyH_take (i := 7) (v := ?_) rfl (by kernel_rfl) (by kernel_rfl) (by kernel_rfl) (fun _ _ _ h => h) (Or.inl ⟨by kernel_rfl, ?_⟩) (by assumption) ?_
    rotate_left
    · (intro w hSw; (try dsimp only at hSw); go_simp; try with_reducible rfl)
    (try simp only [Act.put, List.getElem_toArray, List.getElem_cons_succ, List.getElem_cons_zero, List.setIfInBounds_toArray, List.set_cons_zero, List.set_cons_succ])
    refine wpAnyH_take (i := 8) (v := ?_) rfl (by kernel_rfl) (by kernel_rfl) (by kernel_rfl) (fun _ _ _ h => h) (Or.inl ⟨by kernel_rfl, ?_⟩) (by assumption) ?_
    rotate_left
    · (intro w hSw; (try dsimp only at hSw); go_simp; try with_reducible rfl)
    (try simp only [Act.put, List.getElem_toArray, List.getElem_cons_succ, List.getElem_cons_zero, List.setIfInBounds_toArray, List.set_cons_zero, List.set_cons_succ])
    refine wpAnyH_take (i := 11) (v := ?_) rfl (by kernel_rfl) (by kernel_rfl) (by kernel_rfl) (fun _ _ _ h => h) (Or.inl ⟨by kernel_rfl, ?_⟩) (by assumption) ?_
    rotate_left
    · (intro w hSw; (try dsimp only at hSw); go_simp; try with_reducible rfl)
    (try simp only [Act.put, List.getElem_toArray, List.getElem_cons_succ, List.getElem_cons_zero, List.setIfInBounds_toArray, List.set_cons_zero, List.set_cons_succ])
    refine wpAnyH_take (i := 12) (v := ?_) rfl (by kernel_rfl) (by kernel_rfl) (by kernel_rfl) (fun _ _ _ h => h) (Or.inl ⟨by kernel_rfl, ?_⟩) (by assumption) ?_
    rotate_left
    · (intro w hSw; (try dsimp only at hSw); go_simp; try with_reducible rfl)
    (try simp only [Act.put, List.getElem_toArray, List.getElem_cons_succ, List.getElem_cons_zero, List.setIfInBounds_toArray, List.set_cons_zero, List.set_cons_succ])
    refine wpAnyH_take (i := 13) (v := ?_) rfl (by kernel_rfl) (by kernel_rfl) (by kernel_rfl) (fun _ _ _ h => h) (Or.inl ⟨by kernel_rfl, ?_⟩) (by assumption) ?_
    rotate_left
    · (intro w hSw; (try dsimp only at hSw); go_simp; try with_reducible rfl)
    (try simp only [Act.put, List.getElem_toArray, List.getElem_cons_succ, List.getElem_cons_zero, List.setIfInBounds_toArray, List.set_cons_zero, List.set_cons_succ])
    refine wpAnyH_take (i := 14) (v := ?_) rfl (by kernel_rfl) (by kernel_rfl) (by kernel_rfl) (fun _ _ _ h => h) (Or.inl ⟨by kernel_rfl, ?_⟩) (by assumption) ?_
    rotate_left
    · (intro w hSw; (try dsimp only at hSw); go_simp; try with_reducible rfl)
    (try simp only [Act.put, List.getElem_toArray, List.getElem_cons_succ, List.getElem_cons_zero, List.setIfInBounds_toArray, List.set_cons_zero, List.set_cons_succ])
    refine wpAnyH_ready (rs := [9]) (by kernel_rfl) (by simp) (AllReadyH.cons rfl (fun K hK => ?_) AllReadyH.nil)
    go_simp
    refine Calls.mono (G1.out _) ?_
    rintro e w2 ⟨v2, rfl, hm2, hB2⟩
    obtain ⟨A2, L2, c2, rfl, hL2, hb2⟩ := Mine.bsL hm2 (by omega)
    clear hL2
    have hB2' := (below_drew w1).trans hB2
    have Q2 := Hk.out _ hB2'
    have t2 := strAt hb2
    refine hK.out _ _ (Q2) (fun hHeld => ?_)
    clear hK K
    (try simp only [Act.put, List.getElem_toArray, List.getElem_cons_succ, List.getElem_cons_zero, List.setIfInBounds_toArray, List.set_cons_zero, List.set_cons_succ])
    refine wpAnyH_ready (rs := [10]) (by kernel_rfl) (by simp) (AllReadyH.cons rfl (fun K hK => ?_) AllReadyH.nil)
    go_simp
    refine hK.out _ _ (Q2) (fun hHeld => ?_)
    clear hK K
    (try simp only [Act.put, List.getElem_toArray, List.getElem_cons_succ, List.getElem_cons_zero, List.setIfInBounds_toArray, List.set_cons_zero, List.set_cons_succ])
    refine wpAnyH_take (i := 15) (v := ?_) rfl (by kernel_rfl) (by kernel_rfl) (by kernel_rfl) (fun _ _ _ h => h) (Or.inl ⟨by kernel_rfl, ?_⟩) (by assumption) ?_
    rotate_left
    · (intro w hSw; (try dsimp only at hSw); go_simp; try with_reducible rfl)
    (try simp only [Act.put, List.getElem_toArray, List.getElem_cons_succ, List.getElem_cons_zero, List.setIfInBounds_toArray, List.set_cons_zero, List.set_cons_succ])
    refine wpAnyH_take (i := 16) (v := ?_) rfl (by kernel_rfl) (by kernel_rfl) (by kernel_rfl) (fun _ _ _ h => h) (Or.inl ⟨by kernel_rfl, ?_⟩) (by assumption) ?_
    rotate_left
    · (intro w hSw; (try dsimp only at hSw); go_simp; try with_reducible rfl)
    (try simp only [Act.put, List.getElem_toArray, List.getElem_cons_succ, List.getElem_cons_zero, List.setIfInBounds_toArray, List.set_cons_zero, List.set_cons_succ])
    refine wpAnyH_take (i := 17) (v := ?_) rfl (by kernel_rfl) (by kernel_rfl) (by kernel_rfl) (fun _ _ _ h => h) (Or.inl ⟨by kernel_rfl, ?_⟩) (by assumption) ?_
    rotate_left
    · (intro w hSw; (try dsimp only at hSw); go_simp; try with_reducible rfl)
    (try simp only [Act.put, List.getElem_toArray, List.getElem_cons_succ, List.getElem_cons_zero, List.setIfInBounds_toArray, List.set_cons_zero, List.set_cons_succ])
    refine wpAnyH_done (by kernel_rfl) ?_ _
    have hBw2 := hBw.trans (hB2'.mono hBw.size)
    clear t2 Q2 hB2' hm2 hb2 hB2 Hk
    go_wp2_with fail
    refine (readi_any ks A l c w.heap.size _ (Bs.below h hBw2) hBw2.size).mono ?_
    rintro e w3 ⟨he, hB3⟩
    rw [readI_of hu] at he
    obtain rfl : e = .returned (.tuple #[.int .i64 (unzig n), .int .i64 (k : Int), .int .i64 0]) := he
    have hBw3 := hBw2.trans (hB3.mono hBw2.size)
    clear hB3 hBw hBw2
    have Hk := hide (show ∀ W, Below w3.heap.size w3 W → Below w3.heap.size w3 W ∧ StrAt A k c (uvar n) W from fun W hW => ⟨hW, strAt (by have := ((h.below hBw3).below (hW.mono hBw3.size)).take (k := k) hkl; rwa [readU_once hu] at this)⟩)
    have G2 := hide (int_any (unzig n) (unzig_bounds hn).1 (unzig_bounds hn).2)
    rw [zig_unzig] at G2
    go_wp2

    refine wp_region_held_drew (S := fun W => Below w3.heap.size w3 W ∧ StrAt A k c (uvar n) W) (by kernel_rfl) (Hk.out _ (below_drew w3)) (fun hHeld => ?_)
    refine wpAnyH_take (i := 0) (v := ?_) rfl (by kernel_rfl) (by kernel_rfl) (by kernel_rfl) (fun _ _ _ h => h) (Or.inl ⟨by kernel_rfl, ?_⟩) (by assumption) ?_
    rotate_left
    · (intro w hSw; (try dsimp only at hSw); go_simp; try with_reducible rfl)
    (try simp only [Act.put, List.getElem_toArray, List.getElem_cons_succ, List.getElem_cons_zero, List.setIfInBounds_toArray, List.set_cons_zero, List.set_cons_succ])
    refine wpAnyH_take (i := 1) (v := ?_) rfl (by kernel_rfl) (by kernel_rfl) (by kernel_rfl) (fun _ _ _ h => h) (Or.inl ⟨by kernel_rfl, ?_⟩) (by assumption) ?_
    rotate_left
    · (intro w hSw; (try dsimp only at hSw); go_simp; try with_reducible rfl)
    (try simp only [Act.put, List.getElem_toArray, List.getElem_cons_succ, List.getElem_cons_zero, List.setIfInBounds_toArray, List.set_cons_zero, List.set_cons_succ])
    refine wpAnyH_take (i := 2) (v := ?_) rfl (by kernel_rfl) (by kernel_rfl) (by kernel_rfl) (fun _ _ _ h => h) (Or.inl ⟨by kernel_rfl, ?_⟩) (by assumption) ?_
    rotate_left
    · (intro w hSw; (try dsimp only at hSw); go_simp; try with_reducible rfl)
    (try simp only [Act.put, List.getElem_toArray, List.getElem_cons_succ, List.getElem_cons_zero, List.setIfInBounds_toArray, List.set_cons_zero, List.set_cons_succ])
    refine wpAnyH_take (i := 3) (v := ?_) rfl (by kernel_rfl) (by kernel_rfl) (by kernel_rfl) (fun _ _ _ h => h) (Or.inl ⟨by kernel_rfl, ?_⟩) (by assumption) ?_
    rotate_left
    · (intro w hSw; (try dsimp only at hSw); go_simp; try with_reducible rfl)
    (try simp only [Act.put, List.getElem_toArray, List.getElem_cons_succ, List.getElem_cons_zero, List.setIfInBounds_toArray, List.set_cons_zero, List.set_cons_succ])
    refine wpAnyH_take (i := 4) (v := ?_) rfl (by kernel_rfl) (by kernel_rfl) (by kernel_rfl) (fun _ _ _ h => h) (Or.inl ⟨by kernel_rfl, ?_⟩) (by assumption) ?_
    rotate_left
    · (intro w hSw; (try dsimp only at hSw); go_simp; try with_reducible rfl)
    (try simp only [Act.put, List.getElem_toArray, List.getElem_cons_succ, List.getElem_cons_zero, List.setIfInBounds_toArray, List.set_cons_zero, List.set_cons_succ])
    refine wpAnyH_take (i := 5) (v := ?_) rfl (by kernel_rfl) (by kernel_rfl) (by kernel_rfl) (fun _ _ _ h => h) (Or.inl ⟨by kernel_rfl, ?_⟩) (by assumption) ?_
    rotate_left
    · (intro w hSw; (try dsimp only at hSw); go_simp; try with_reducible rfl)
    (try simp only [Act.put, List.getElem_toArray, List.getElem_cons_succ, List.getElem_cons_zero, List.setIfInBounds_toArray, List.set_cons_zero, List.set_cons_succ])
    refine wpAnyH_take (i := 6) (v := ?_) rfl (by kernel_rfl) (by kernel_rfl) (by kernel_rfl) (fun _ _ _ h => h) (Or.inl ⟨by kernel_rfl, ?_⟩) (by assumption) ?_
    rotate_left
    · (intro w hSw; (try dsimp only at hSw); go_simp; try with_reducible rfl)
    (try simp only [Act.put, List.getElem_toArray, List.getElem_cons_succ, List.getElem_cons_zero, List.setIfInBounds_toArray, List.set_cons_zero, List.set_cons_succ])
    refine wpAnyH_take (i := 7) (v := ?_) rfl (by kernel_rfl) (by kernel_rfl) (by kernel_rfl) (fun _ _ _ h => h) (Or.inl ⟨by kernel_rfl, ?_⟩) (by assumption) ?_
    rotate_left
    · (intro w hSw; (try dsimp only at hSw); go_simp; try with_reducible rfl)
    (try simp only [Act.put, List.getElem_toArray, List.getElem_cons_succ, List.getElem_cons_zero, List.setIfInBounds_toArray, List.set_cons_zero, List.set_cons_succ])
    refine wpAnyH_take (i := 8) (v := ?_) rfl (by kernel_rfl) (by kernel_rfl) (by kernel_rfl) (fun _ _ _ h => h) (Or.inl ⟨by kernel_rfl, ?_⟩) (by assumption) ?_
    rotate_left
    · (intro w hSw; (try dsimp only at hSw); go_simp; try with_reducible rfl)
    (try simp only [Act.put, List.getElem_toArray, List.getElem_cons_succ, List.getElem_cons_zero, List.setIfInBounds_toArray, List.set_cons_zero, List.set_cons_succ])
    refine wpAnyH_take (i := 11) (v := ?_) rfl (by kernel_rfl) (by kernel_rfl) (by kernel_rfl) (fun _ _ _ h => h) (Or.inl ⟨by kernel_rfl, ?_⟩) (by assumption) ?_
    rotate_left
    · (intro w hSw; (try dsimp only at hSw); go_simp; try with_reducible rfl)
    (try simp only [Act.put, List.getElem_toArray, List.getElem_cons_succ, List.getElem_cons_zero, List.setIfInBounds_toArray, List.set_cons_zero, List.set_cons_succ])
    refine wpAnyH_take (i := 12) (v := ?_) rfl (by kernel_rfl) (by kernel_rfl) (by kernel_rfl) (fun _ _ _ h => h) (Or.inl ⟨by kernel_rfl, ?_⟩) (by assumption) ?_
    rotate_left
    · (intro w hSw; (try dsimp only at hSw); go_simp; try with_reducible rfl)
    (try simp only [Act.put, List.getElem_toArray, List.getElem_cons_succ, List.getElem_cons_zero, List.setIfInBounds_toArray, List.set_cons_zero, List.set_cons_succ])
    refine wpAnyH_take (i := 13) (v := ?_) rfl (by kernel_rfl) (by kernel_rfl) (by kernel_rfl) (fun _ _ _ h => h) (Or.inl ⟨by kernel_rfl, ?_⟩) (by assumption) ?_
    rotate_left
    · (intro w hSw; (try dsimp only at hSw); go_simp; try with_reducible rfl)
    (try simp only [Act.put, List.getElem_toArray, List.getElem_cons_succ, List.getElem_cons_zero, List.setIfInBounds_toArray, List.set_cons_zero, List.set_cons_succ])
    refine wpAnyH_take (i := 14) (v := ?_) rfl (by kernel_rfl) (by kernel_rfl) (by kernel_rfl) (fun _ _ _ h => h) (Or.inl ⟨by kernel_rfl, ?_⟩) (by assumption) ?_
    rotate_left
    · (intro w hSw; (try dsimp only at hSw); go_simp; try with_reducible rfl)
    (try simp only [Act.put, List.getElem_toArray, List.getElem_cons_succ, List.getElem_cons_zero, List.setIfInBounds_toArray, List.set_cons_zero, List.set_cons_succ])
    refine wpAnyH_ready (rs := [9]) (by kernel_rfl) (by simp) (AllReadyH.cons rfl (fun K hK => ?_) AllReadyH.nil)
    go_simp
    refine Calls.mono (G2.out _) ?_
    rintro e w4 ⟨v4, rfl, hm4, hB4⟩
    obtain ⟨A4, L4, c4, rfl, hL4, hb4⟩ := Mine.bsL hm4 (by omega)
    clear hL4
    have hB4' := (below_drew w3).trans hB4
    have Q4 := Hk.out _ hB4'
    have t4 := strAt hb4
    refine hK.out _ _ (Q4) (fun hHeld => ?_)
    clear hK K
    (try simp only [Act.put, List.getElem_toArray, List.getElem_cons_succ, List.getElem_cons_zero, List.setIfInBounds_toArray, List.set_cons_zero, List.set_cons_succ])
    refine wpAnyH_ready (rs := [10]) (by kernel_rfl) (by simp) (AllReadyH.cons rfl (fun K hK => ?_) AllReadyH.nil)
    go_simp
    refine hK.out _ _ (Q4) (fun hHeld => ?_)
    clear hK K
    (try simp only [Act.put, List.getElem_toArray, List.getElem_cons_succ, List.getElem_cons_zero, List.setIfInBounds_toArray, List.set_cons_zero, List.set_cons_succ])
    refine wpAnyH_take (i := 15) (v := ?_) rfl (by kernel_rfl) (by kernel_rfl) (by kernel_rfl) (fun _ _ _ h => h) (Or.inl ⟨by kernel_rfl, ?_⟩) (by assumption) ?_
    rotate_left
    · (intro w hSw; (try dsimp only at hSw); go_simp; try with_reducible rfl)
    (try simp only [Act.put, List.getElem_toArray, List.getElem_cons_succ, List.getElem_cons_zero, List.setIfInBounds_toArray, List.set_cons_zero, List.set_cons_succ])
    refine wpAnyH_take (i := 16) (v := ?_) rfl (by kernel_rfl) (by kernel_rfl) (by kernel_rfl) (fun _ _ _ h => h) (Or.inl ⟨by kernel_rfl, ?_⟩) (by assumption) ?_
    rotate_left
    · (intro w hSw; (try dsimp only at hSw); go_simp; try with_reducible rfl)
    (try simp only [Act.put, List.getElem_toArray, List.getElem_cons_succ, List.getElem_cons_zero, List.setIfInBounds_toArray, List.set_cons_zero, List.set_cons_succ])
    refine wpAnyH_take (i := 17) (v := ?_) rfl (by kernel_rfl) (by kernel_rfl) (by kernel_rfl) (fun _ _ _ h => h) (Or.inl ⟨by kernel_rfl, ?_⟩) (by assumption) ?_
    rotate_left
    · (intro w hSw; (try dsimp only at hSw); go_simp; try with_reducible rfl)
    (try simp only [Act.put, List.getElem_toArray, List.getElem_cons_succ, List.getElem_cons_zero, List.setIfInBounds_toArray, List.set_cons_zero, List.set_cons_succ])
    refine wpAnyH_done (by kernel_rfl) ?_ _
    have hBw4 := hBw3.trans (hB4'.mono hBw3.size)
    clear t4 Q4 hB4' hm4 hb4 hB4 Hk hct hkl' hkd hBw3
    go_wp2_with fail
    refine (readf_any ks A l c w.heap.size _ (Bs.below h hBw4) hBw4.size).mono ?_
    rintro e w5 ⟨he, hB5⟩
    have hBw5 := hBw4.trans (hB5.mono hBw4.size)
    clear hu
    cases hf : readF ks with
    | error er =>
      have her := readF_err hf
      have her0 : ¬ er = 0 := by omega
      have herb : (er == 0) = false := by simpa using her0
      rw [hf] at he
      obtain rfl : e = .returned (.tuple #[.slice none 0 0, .int .i64 0, .int .i64 er]) := he
      have hBw7 := hBw5
      clear hBw5 hB5 hBw4
      go_wp2_with fail
      refine (readl_any ks A l c w.heap.size _ (Bs.below h hBw7) hBw7.size).mono ?_
      rintro e w8 ⟨he, hB8⟩
      have hBw8 := hBw7.trans (hB8.mono hBw7.size)
      clear hBw7 hB8
      cases hq : readL ks with
      | error er =>
        have her := readL_err hq
        have her0 : ¬ er = 0 := by omega
        have herb : (er == 0) = false := by simpa using her0
        rw [hq] at he
        obtain rfl : e = .returned (.tuple #[.slice none 0 0, .int .i64 0, .int .i64 er]) := he
        go_wp2
        go_ret
        exact ⟨rfl, hBw8⟩
      | ok p =>
        obtain ⟨fs, k⟩ := p
        obtain ⟨hk1, hk2, hk3⟩ := readL_len hq
        have hfo := readL_once hq
        rw [hlen.out] at hk1
        have hkl' : ¬ (l : Int) < (k : Int) := by omega
        have hkd : decide (l < k) = false := decide_eq_false (by omega)
        rw [hq] at he
        obtain ⟨v9, rfl, hm9⟩ := he
        obtain ⟨A9, L9, c9, rfl, hL9, hb9⟩ := MineL.bss hm9 (by omega) (fun f hf => by have := hk3 f hf; omega)
        have G9 := hide (fields_any fs A9 L9 c9 w8 hb9 (by omega) hk3)
        rw [← hfo] at G9
        clear hm9 hL9 hfo
        go_wp2_with fail
        refine G9.out.mono ?_
        rintro e w9 ⟨v10, rfl, hm10, hB10⟩
        obtain ⟨A10, L10, c10, rfl, hL10, hb10⟩ := Mine.bsL hm10 (by rw [List.length_take]; omega)
        clear hL10
        have hBw9 := hBw8.trans (hB10.mono hBw8.size)
        have hct := run_cutTo (P := Try.prog) 24 5 Try.underlying24 (fun w => by simp [go_sem]) A l c .i64 (k : Int) (by omega) (by omega)
        simp only [Int.toNat_natCast] at hct
        have Hk := hide (show ∀ W, Below w9.heap.size w9 W → Below w9.heap.size w9 W ∧ StrAt A k c (ks.take k) W ∧ StrAt A10 L10 c10 (ks.take k) W from fun W hW => ⟨hW, strAt (((h.below hBw9).below (hW.mono hBw9.size)).take (k := k) hk1), strAt (hb10.below hW)⟩)
        generalize ks.take k = X at *
        go_wp2
        go_region_held3 (fun W => Below w9.heap.size w9 W ∧ StrAt A k c X W ∧ StrAt A10 L10 c10 X W)
          (first | exact Hk.out _ (below_drew w9) | exact Hk.out _ (Below.refl _ _)) (fail)
        go_wp2
        go_ret
        exact ⟨rfl, Below.drewN' hBw9 1⟩
    | ok p =>
      obtain ⟨f, k⟩ := p
      have hfl := readF_len hf
      have hfo := readF_once hf
      rw [hlen.out] at hfl
      have hkl' : ¬ (l : Int) < (k : Int) := by omega
      have hkd : decide (l < k) = false := decide_eq_false (by omega)
      rw [hf] at he
      obtain ⟨v5, rfl, hm5⟩ := he
      obtain ⟨A5, L5, c5, rfl, hL5, hb5⟩ := Mine.bsL hm5 (by omega)
      have e1 : fieldE L5 = 0 := by unfold fieldE; rw [if_neg (by omega)]
      have e2 : fieldB f = ks.take k := by unfold fieldB; rw [if_neg (by omega), hfo]
      have G5 := hide (field_any f A5 L5 c5 w5.heap.size w5 hb5 (Nat.le_refl _))
      rw [e1, e2] at G5
      clear e1 e2 hL5 hfo hm5
      go_wp2_with fail
      refine G5.out.mono ?_
      rintro e w6 ⟨v6, rfl, hm6, hB6⟩
      obtain ⟨A6, L6, c6, rfl, hL6, hb6⟩ := Mine.bsL hm6 (by rw [List.length_take]; omega)
      clear hL6
      have hBw6 := hBw5.trans (hB6.mono hBw5.size)
      have hct := run_cutTo (P := Try.prog) 24 5 Try.underlying24 (fun w => by simp [go_sem]) A l c .i64 (k : Int) (by omega) (by omega)
      simp only [Int.toNat_natCast] at hct
      have Hk := hide (show ∀ W, Below w6.heap.size w6 W → Below w6.heap.size w6 W ∧ StrAt A k c (ks.take k) W ∧ StrAt A6 L6 c6 (ks.take k) W from fun W hW => ⟨hW, strAt (((h.below hBw6).below (hW.mono hBw6.size)).take (k := k) hfl.1), strAt (hb6.below hW)⟩)
      generalize ks.take k = X at *
      go_wp2
      go_region_held3 (fun W => Below w6.heap.size w6 W ∧ StrAt A k c X W ∧ StrAt A6 L6 c6 X W)
        (first | exact Hk.out _ (below_drew w6) | exact Hk.out _ (Below.refl _ _)) (fail)
      have hBw7 := Below.drewN' hBw6 1
      clear hct Hk hkl' hkd hb5 hb6 hm6 hBw6 hB6 hf
      clear hBw5 hB5 hBw4
      go_wp2_with fail
      refine (readl_any ks A l c w.heap.size _ (Bs.below h hBw7) hBw7.size).mono ?_
      rintro e w8 ⟨he, hB8⟩
      have hBw8 := hBw7.trans (hB8.mono hBw7.size)
      clear hBw7 hB8
      cases hq : readL ks with
      | error er =>
        have her := readL_err hq
        have her0 : ¬ er = 0 := by omega
        have herb : (er == 0) = false := by simpa using her0
        rw [hq] at he
        obtain rfl : e = .returned (.tuple #[.slice none 0 0, .int .i64 0, .int .i64 er]) := he
        go_wp2
        go_ret
        exact ⟨rfl, hBw8⟩
      | ok p =>
        obtain ⟨fs, k⟩ := p
        obtain ⟨hk1, hk2, hk3⟩ := readL_len hq
        have hfo := readL_once hq
        rw [hlen.out] at hk1
        have hkl' : ¬ (l : Int) < (k : Int) := by omega
        have hkd : decide (l < k) = false := decide_eq_false (by omega)
        rw [hq] at he
        obtain ⟨v9, rfl, hm9⟩ := he
        obtain ⟨A9, L9, c9, rfl, hL9, hb9⟩ := MineL.bss hm9 (by omega) (fun f hf => by have := hk3 f hf; omega)
        have G9 := hide (fields_any fs A9 L9 c9 w8 hb9 (by omega) hk3)
        rw [← hfo] at G9
        clear hm9 hL9 hfo
        go_wp2_with fail
        refine G9.out.mono ?_
        rintro e w9 ⟨v10, rfl, hm10, hB10⟩
        obtain ⟨A10, L10, c10, rfl, hL10, hb10⟩ := Mine.bsL hm10 (by rw [List.length_take]; omega)
        clear hL10
        have hBw9 := hBw8.trans (hB10.mono hBw8.size)
        have hct := run_cutTo (P := Try.prog) 24 5 Try.underlying24 (fun w => by simp [go_sem]) A l c .i64 (k : Int) (by omega) (by omega)
        simp only [Int.toNat_natCast] at hct
        have Hk := hide (show ∀ W, Below w9.heap.size w9 W → Below w9.heap.size w9 W ∧ StrAt A k c (ks.take k) W ∧ StrAt A10 L10 c10 (ks.take k) W from fun W hW => ⟨hW, strAt (((h.below hBw9).below (hW.mono hBw9.size)).take (k := k) hk1), strAt (hb10.below hW)⟩)
        generalize ks.take k = X at *
        go_wp2
        go_region_held3 (fun W => Below w9.heap.size w9 W ∧ StrAt A k c X W ∧ StrAt A10 L10 c10 X W)
          (first | exact Hk.out _ (below_drew w9) | exact Hk.out _ (Below.refl _ _)) (fail)
        go_wp2
        go_ret
        exact ⟨rfl, Below.drewN' hBw9 1⟩

end Go.Proofs.Ytdlbhppoknbnlaa

/-
  The walk of the law CodecShort: it answers true. No condition but the parameters' bounds.
-/
import Derived.Test.YtdlbhppoknbnlaaAwake
namespace Go.Proofs.Ytdlbhppoknbnlaa
open Go.RowKit

theorem uvar_mono_aux : ∀ (k a b : Nat), b < k → a ≤ b → (uvar a).length ≤ (uvar b).length
  | 0, a, b, hb, _ => by omega
  | k + 1, a, b, hb, h => by
    by_cases ha : a < 128
    · rw [uvar_lt ha]; have := uvar_pos b; simp; omega
    · rw [uvar_ge ha, uvar_ge (show ¬ b < 128 by omega), List.length_cons, List.length_cons]
      have := uvar_mono_aux k (a / 128) (b / 128) (by omega) (by omega)
      omega
theorem uvar_mono {a b : Nat} (h : a ≤ b) : (uvar a).length ≤ (uvar b).length := uvar_mono_aux (b + 1) a b (by omega) h

set_option maxRecDepth 100000 in
set_option maxHeartbeats 2000000 in
theorem short_any (a b : Int) (w : World) (ha0 : 0 ≤ a) (ha1 : a ≤ 18446744073709551615) (hb0 : 0 ≤ b) (hb1 : b ≤ 18446744073709551615) :
    Calls Try.prog 3 #[.int .u64 a, .int .u64 b] w fun e w' => e = .returned (.bool true) ∧ Below w.heap.size w w' := by
  obtain ⟨m, rfl⟩ : ∃ m : Nat, a = (m : Int) := ⟨a.toNat, by omega⟩
  obtain ⟨n, rfl⟩ : ∃ n : Nat, b = (n : Int) := ⟨b.toNat, by omega⟩
  go_enter Try.func3, Try.ntmps3
  go_wp2_with fail
  refine (awake_any w).mono ?_
  rintro e w0 ⟨rfl, hB0⟩
  rcases Nat.lt_or_ge n m with hlt | hge
  · have hxy : n ≤ m := by omega
    go_wp2_with fail
    refine (uint_any n (by omega) w0).mono ?_
    rintro e w1 ⟨v1, rfl, hm1, hB1⟩
    obtain ⟨A1, L1, c1, rfl, hL1, _⟩ := Mine.bsL hm1 (by have := uvar_len10 n (by omega); omega)
    have H1 := hide hL1
    clear hL1
    go_wp2_with fail
    refine (uint_any m (by omega) w1).mono ?_
    rintro e w2 ⟨v2, rfl, hm2, hB2⟩
    obtain ⟨A2, L2, c2, rfl, hL2, _⟩ := Mine.bsL hm2 (by have := uvar_len10 m (by omega); omega)
    have h10 := uvar_len10 m (by omega)
    have hmono := uvar_mono hxy
    rw [← hL2] at h10 hmono
    rw [← H1.out] at hmono
    have hBf := (hB0.trans (hB1.mono hB0.size)).trans (hB2.mono (by have := hB0.size; have := hB1.size; omega))
    clear hm1 hm2 hB0 hB1 hB2
    have H2 := hide hL2
    clear hL2
    go_wp2
    go_loopw [7, 8] (fun t7 t8 wq => ∃ k c : Nat, t7 = .int .i64 (k : Int) ∧ t8 = .int .u64 (c : Int) ∧ c < 18446744073709551616 ∧ 0 < k ∧ k + (uvar c).length = L2 + 1 ∧ wq = w2) (fun _ t8 _ => (intOf t8).toNat)
    case atStart => exact ⟨1, m, rfl, rfl, by omega, by omega, by rw [H2.out]; omega, rfl⟩
    case round =>
      obtain ⟨k, c, rfl, rfl, hc, hk0, hk, rfl⟩ := hrel
      have hcp := uvar_pos c
      by_cases h128 : c < 128
      · rw [uvar_lt h128, List.length_singleton] at hk
        obtain rfl : L2 = k := by omega
        go_wp2
        go_ret
        exact ⟨by simp [hmono], hBf⟩
      · rw [uvar_ge h128, List.length_cons] at hk
        go_wp2
        go_roundw
        case rel => exact ⟨k + 1, c / 128, by simp, by simp, by omega, by omega, by omega, trivial⟩
        case measure => simp [intOf]; omega
  · have hxy : m ≤ n := by omega
    go_wp2_with fail
    refine (uint_any m (by omega) w0).mono ?_
    rintro e w1 ⟨v1, rfl, hm1, hB1⟩
    obtain ⟨A1, L1, c1, rfl, hL1, _⟩ := Mine.bsL hm1 (by have := uvar_len10 m (by omega); omega)
    have H1 := hide hL1
    clear hL1
    go_wp2_with fail
    refine (uint_any n (by omega) w1).mono ?_
    rintro e w2 ⟨v2, rfl, hm2, hB2⟩
    obtain ⟨A2, L2, c2, rfl, hL2, _⟩ := Mine.bsL hm2 (by have := uvar_len10 n (by omega); omega)
    have h10 := uvar_len10 n (by omega)
    have hmono := uvar_mono hxy
    rw [← hL2] at h10 hmono
    rw [← H1.out] at hmono
    have hBf := (hB0.trans (hB1.mono hB0.size)).trans (hB2.mono (by have := hB0.size; have := hB1.size; omega))
    clear hm1 hm2 hB0 hB1 hB2
    have H2 := hide hL2
    clear hL2
    go_wp2
    go_loopw [7, 8] (fun t7 t8 wq => ∃ k c : Nat, t7 = .int .i64 (k : Int) ∧ t8 = .int .u64 (c : Int) ∧ c < 18446744073709551616 ∧ 0 < k ∧ k + (uvar c).length = L2 + 1 ∧ wq = w2) (fun _ t8 _ => (intOf t8).toNat)
    case atStart => exact ⟨1, n, rfl, rfl, by omega, by omega, by rw [H2.out]; omega, rfl⟩
    case round =>
      obtain ⟨k, c, rfl, rfl, hc, hk0, hk, rfl⟩ := hrel
      have hcp := uvar_pos c
      by_cases h128 : c < 128
      · rw [uvar_lt h128, List.length_singleton] at hk
        obtain rfl : L2 = k := by omega
        go_wp2
        go_ret
        exact ⟨by simp [hmono], hBf⟩
      · rw [uvar_ge h128, List.length_cons] at hk
        go_wp2
        go_roundw
        case rel => exact ⟨k + 1, c / 128, by simp, by simp, by omega, by omega, by omega, trivial⟩
        case measure => simp [intOf]; omega

end Go.Proofs.Ytdlbhppoknbnlaa

/-
  The walk of the reference's Hash: it returns 'hash' of the bytes, and only reads. Condition: the slice reads as bytes.
-/
import Derived.Test.YtkkjfehnkhhafaaHash
namespace Go.Proofs.Ytkkjfehnkhhafaa
open Go.RowKit

set_option maxRecDepth 100000 in
set_option maxHeartbeats 1000000 in
theorem refhash_any (ks : List UInt8) (A : Option Addr) (n c B : Nat) (w : World) (hr : Bs w B A n c ks) :
    Calls Try.prog 14 #[.slice A n c] w fun e w' => e = .returned (.int .u32 (hash ks)) ∧ ∃ n, w' = w.drewN n := by
  have hn := hr.reach
  go_enter Try.func14, Try.ntmps14
  go_wp2
  go_loopw [0, 4] (fun s h wr => ∃ (A' : Option Addr) (n' c' : Nat) (rest : List UInt8) (hv : Int) (m : Nat), s = .slice A' n' c' ∧ h = .int .u32 hv ∧ 0 ≤ hv ∧ hv < 4294967296 ∧ Bs w B A' n' c' rest ∧ hashGo hv rest = hash ks ∧ wr = w.drewN m)
     (fun s _ _ => lenOf s)
  case atStart =>
    exact ⟨A, n, c, ks, hashStart n, 0, rfl, by simp only [hashStart], (hashStart_range n).1, (hashStart_range n).2, hr, by rw [hash, hr.len], rfl⟩
  case round =>
    obtain ⟨A', n', c', rest, hv, m, rfl, rfl, h0, h1, hrow, hgo, rfl⟩ := hrel
    have hlen := hide hrow.len
    have hcap := hrow.cap
    have hre := hrow.reach
    have Hgo := hide hgo
    clear hgo
    by_cases h4 : 4 ≤ n'
    · obtain ⟨b, off, rfl, hb, hc0⟩ := hrow.at_ (by omega)
      obtain ⟨a0, a1, a2, a3, t, rfl⟩ : ∃ a0 a1 a2 a3 t, rest = a0 :: a1 :: a2 :: a3 :: t := by
        have hl := hlen.out
        match rest, (show 4 ≤ rest.length by omega) with
        | a0 :: a1 :: a2 :: a3 :: t, _ => exact ⟨a0, a1, a2, a3, t, rfl⟩
      have c0 : w.cell? ⟨b, off, none⟩ = some (.int .u8 a0.toNat) := hc0 0 (by simp)
      have c1 : w.cell? ⟨b, off + 1, none⟩ = some (.int .u8 a1.toNat) := hc0 1 (by simp)
      have c2 : w.cell? ⟨b, off + 2, none⟩ = some (.int .u8 a2.toNat) := hc0 2 (by simp)
      have c3 : w.cell? ⟨b, off + 3, none⟩ = some (.int .u8 a3.toNat) := hc0 3 (by simp)
      have l0 := u8_lt a0
      have l1 := u8_lt a1
      have l2 := u8_lt a2
      have l3 := u8_lt a3
      have hcut := run_cut 25 5 Try.underlying25 Try.sizeOf5 (some ⟨b, off, none⟩) n' c' .i64 4 (by omega) (by omega)
      have g0 : (0 : Int) < n' := by omega
      have g1 : (1 : Int) < n' := by omega
      have g2 : (2 : Int) < n' := by omega
      have g3 : (3 : Int) < n' := by omega
      clear hc0
      go_wp2
      go_quiet (fail)
      go_wp2
      go_roundw
      case rel =>
        exact ⟨_, _, _, t, hmix hv (word4 a0 a1 a2 a3), _, rfl, by simp only [hmix, mixBy, mulM, word4], (hmix_range _ _).1, (hmix_range _ _).2, hrow.cut 4, by rw [← Hgo.out, hashGo_four], rfl⟩
      case measure =>
        simp [lenOf]; omega
    · have hl := hlen.out
      match rest, hrow, Hgo, hlen, hl with
      | [], hrow, Hgo, hlen, hl =>
        obtain rfl : 0 = n' := hl
        go_wp2
        go_ret
        exact ⟨ret_u32 (by rw [← Hgo.out, hashGo_0]), m, rfl⟩
      | [a0], hrow, Hgo, hlen, hl =>
        obtain rfl : 1 = n' := hl
        obtain ⟨b, off, rfl, hb, hc0⟩ := hrow.at_ (by omega)
        have c0 : w.cell? ⟨b, off, none⟩ = some (.int .u8 a0.toNat) := hc0 0 (by simp)
        have l0 := u8_lt a0
        clear hc0
        go_wp2
        go_ret
        exact ⟨ret_u32 (by rw [← Hgo.out, hashGo_1]; simp only [mixBy, mulM]), m, rfl⟩
      | [a0, a1], hrow, Hgo, hlen, hl =>
        obtain rfl : 2 = n' := hl
        obtain ⟨b, off, rfl, hb, hc0⟩ := hrow.at_ (by omega)
        have c0 : w.cell? ⟨b, off, none⟩ = some (.int .u8 a0.toNat) := hc0 0 (by simp)
        have c1 : w.cell? ⟨b, off + 1, none⟩ = some (.int .u8 a1.toNat) := hc0 1 (by simp)
        have l0 := u8_lt a0
        have l1 := u8_lt a1
        clear hc0
        go_wp2
        go_ret
        exact ⟨ret_u32 (by rw [← Hgo.out, hashGo_2, swap2]; simp only [mixBy, mulM]), m, rfl⟩
      | [a0, a1, a2], hrow, Hgo, hlen, hl =>
        obtain rfl : 3 = n' := hl
        obtain ⟨b, off, rfl, hb, hc0⟩ := hrow.at_ (by omega)
        have c0 : w.cell? ⟨b, off, none⟩ = some (.int .u8 a0.toNat) := hc0 0 (by simp)
        have c1 : w.cell? ⟨b, off + 1, none⟩ = some (.int .u8 a1.toNat) := hc0 1 (by simp)
        have c2 : w.cell? ⟨b, off + 2, none⟩ = some (.int .u8 a2.toNat) := hc0 2 (by simp)
        have l0 := u8_lt a0
        have l1 := u8_lt a1
        have l2 := u8_lt a2
        clear hc0
        go_wp2
        go_ret
        exact ⟨ret_u32 (by rw [← Hgo.out, hashGo_3, swap3]; simp only [mixBy, mulM]), m, rfl⟩
      | a0 :: a1 :: a2 :: a3 :: t, hrow, Hgo, hlen, hl => exact absurd hl (by simp; omega)

end Go.Proofs.Ytkkjfehnkhhafaa

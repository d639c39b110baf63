/-
  The walks of codec.Uint, and of the reference's. No condition.
-/
import Derived.Test.YtdnhpmdmkdgmpaaUvar
import Derived.Test.YtdnhpmdmkdgmpaaProg
namespace Go.Proofs.Ytdnhpmdmkdgmpaa
open Go.RowKit

theorem info5 : (Try.prog.info? 5).map (fun i => (i.zero, i.size, i.bytes)) = some (some (.int .u8 0), 1, 1) := by kernel_rfl
theorem info22 : (Try.prog.info? 22).map (fun i => (i.zero, i.size, i.bytes)) = some (some (.slice none 0 0), 1, 24) := by kernel_rfl

theorem or128_all : ∀ x : Nat, x < 256 → bits BinOp.or IntKind.u8 (x : Int) 128 = ((x % 128 + 128 : Nat) : Int) := by decide +kernel
theorem or128 (m : Nat) : bits BinOp.or IntKind.u8 ((m : Int) % 256) 128 = (m : Int) % 128 + 128 := by
  have h := or128_all (m % 256) (Nat.mod_lt _ (by decide))
  rw [show ((m : Int) % 256) = ((m % 256 : Nat) : Int) by simp, h]
  omega

/-- bytes in new memory of the call's own -/
def Gives (w : World) (ks : List UInt8) (e : Ending) (w' : World) : Prop := ∃ v, e = .returned v ∧ Mine 5 w' w.heap.size v ks ∧ Below w.heap.size w w'

set_option maxRecDepth 100000 in
set_option maxHeartbeats 1000000 in
theorem uint_any (n : Nat) (hn : n < 18446744073709551616) (w : World) : Calls Try.prog 24 #[.int .u64 (n : Int)] w (Gives w (uvar n)) := by
  have hlen := uvar_len10 n hn
  go_enter Try.func24, Try.ntmps24
  go_wp2
  go_loopw [0, 3] (fun t0 t3 wq => ∃ (m : Nat) (pre : List UInt8), m < 18446744073709551616 ∧ t0 = .int .u64 (m : Int) ∧ pre ++ uvar m = uvar n ∧ Mine 5 wq w.heap.size t3 pre ∧ Below w.heap.size w wq) (fun t0 _ _ => (intOf t0).toNat)
  case atStart => exact ⟨n, [], hn, rfl, rfl, Mine.nil _ _ _, Below.refl _ _⟩
  case round =>
    obtain ⟨m, pre, hm, rfl, he, hmine, hB⟩ := hrel
    have hs := hB.size
    by_cases h128 : m < 128
    · obtain ⟨v', w3, hr, hm3, hg3, _⟩ := append_mine (P := Try.prog) 22 Try.underlying22 info5 (hmine.alloc (.cells #[.int .u8 (m : Int)] 5)) (by simp; omega) (bs_new wr 5 (UInt8.ofNat m) (m : Int) (by rw [UInt8.toNat_ofNat_of_lt' (show m < 256 by omega)])) (by have := congrArg List.length he; simp at this; omega)
      have hB3 : Below w.heap.size w w3 := (hB.alloc hs _).trans ((hmine.alloc _).grown hg3 (Nat.le_refl _) (by simp; omega))
      rw [uvar_lt h128] at he
      rw [he] at hm3
      clear hmine hg3
      go_wp2_with (at_builtin; refine wpList_append_run rfl _ _ 22 rfl _ _ _ rfl rfl hr ?_)
      go_ret
      exact ⟨v', rfl, hm3, hB3⟩
    · have hor := or128 m
      obtain ⟨v', w3, hr, hm3, hg3, _⟩ := append_mine (P := Try.prog) 22 Try.underlying22 info5 (hmine.alloc (.cells #[.int .u8 ((m : Int) % 128 + 128)] 5)) (by simp; omega) (bs_new wr 5 (UInt8.ofNat (m % 128 + 128)) _ (by rw [UInt8.toNat_ofNat_of_lt' (show m % 128 + 128 < 256 by omega)]; simp)) (by have := congrArg List.length he; have := uvar_pos m; simp at *; omega)
      have hB3 : Below w.heap.size w w3 := (hB.alloc hs _).trans ((hmine.alloc _).grown hg3 (Nat.le_refl _) (by simp; omega))
      rw [uvar_ge h128] at he
      clear hmine hg3
      go_wp2_with (at_builtin; refine wpList_append_run rfl _ _ 22 rfl _ _ _ rfl rfl hr ?_)
      go_roundw
      case rel => exact ⟨m / 128, pre ++ [UInt8.ofNat (m % 128 + 128)], by omega, by simp, by simpa using he, hm3, hB3⟩
      case measure => simp [intOf]; omega

set_option maxRecDepth 100000 in
set_option maxHeartbeats 1000000 in
theorem refuint_any (n : Nat) (hn : n < 18446744073709551616) (w : World) : Calls Try.prog 34 #[.int .u64 (n : Int)] w (Gives w (uvar n)) := by
  have hlen := uvar_len10 n hn
  go_enter Try.func34, Try.ntmps34
  go_wp2
  go_loopw [0, 3] (fun t0 t3 wq => ∃ (m : Nat) (pre : List UInt8), m < 18446744073709551616 ∧ t0 = .int .u64 (m : Int) ∧ pre ++ uvar m = uvar n ∧ Mine 5 wq w.heap.size t3 pre ∧ Below w.heap.size w wq) (fun t0 _ _ => (intOf t0).toNat)
  case atStart => exact ⟨n, [], hn, rfl, rfl, Mine.nil _ _ _, Below.refl _ _⟩
  case round =>
    obtain ⟨m, pre, hm, rfl, he, hmine, hB⟩ := hrel
    have hs := hB.size
    by_cases h128 : m < 128
    · obtain ⟨v', w3, hr, hm3, hg3, _⟩ := append_mine (P := Try.prog) 22 Try.underlying22 info5 (hmine.alloc (.cells #[.int .u8 (m : Int)] 5)) (by simp; omega) (bs_new wr 5 (UInt8.ofNat m) (m : Int) (by rw [UInt8.toNat_ofNat_of_lt' (show m < 256 by omega)])) (by have := congrArg List.length he; simp at this; omega)
      have hB3 : Below w.heap.size w w3 := (hB.alloc hs _).trans ((hmine.alloc _).grown hg3 (Nat.le_refl _) (by simp; omega))
      rw [uvar_lt h128] at he
      rw [he] at hm3
      clear hmine hg3
      go_wp2_with (at_builtin; refine wpList_append_run rfl _ _ 22 rfl _ _ _ rfl rfl hr ?_)
      go_ret
      exact ⟨v', rfl, hm3, hB3⟩
    · have hor := or128 m
      obtain ⟨v', w3, hr, hm3, hg3, _⟩ := append_mine (P := Try.prog) 22 Try.underlying22 info5 (hmine.alloc (.cells #[.int .u8 ((m : Int) % 128 + 128)] 5)) (by simp; omega) (bs_new wr 5 (UInt8.ofNat (m % 128 + 128)) _ (by rw [UInt8.toNat_ofNat_of_lt' (show m % 128 + 128 < 256 by omega)]; simp)) (by have := congrArg List.length he; have := uvar_pos m; simp at *; omega)
      have hB3 : Below w.heap.size w w3 := (hB.alloc hs _).trans ((hmine.alloc _).grown hg3 (Nat.le_refl _) (by simp; omega))
      rw [uvar_ge h128] at he
      clear hmine hg3
      go_wp2_with (at_builtin; refine wpList_append_run rfl _ _ 22 rfl _ _ _ rfl rfl hr ?_)
      go_roundw
      case rel => exact ⟨m / 128, pre ++ [UInt8.ofNat (m % 128 + 128)], by omega, by simp, by simpa using he, hm3, hB3⟩
      case measure => simp [intOf]; omega

end Go.Proofs.Ytdnhpmdmkdgmpaa

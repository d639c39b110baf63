/-
  The walks of the reference's sums and masks, and of Unmask: the same numbers, and they only read. Condition: the slice reads as bytes.
-/
import Derived.Test.YtdnhpmdmkdgmpaaAwake
namespace Go.Proofs.Ytdnhpmdmkdgmpaa
open Go.RowKit Go.Shelf

set_option maxRecDepth 100000 in
set_option maxHeartbeats 1000000 in
theorem turn_any (x c : Nat) (w : World) (hx : x < 4294967296) (hc : c < 256) :
    Calls Try.prog 32 #[.int .u32 (x : Int), .int .u8 (c : Int)] w fun e w' => e = .returned (.int .u32 ((upd x c : Nat) : Int)) ∧ w = w' := by
  have hxc := xor_u32_nat x c hx (by omega)
  have hlt : x ^^^ c < 4294967296 := Nat.xor_lt_two_pow (n := 32) (by omega) (by omega)
  rw [← turns_upd x c]
  generalize x ^^^ c = z at *
  go_enter Try.func32, Try.ntmps32
  go_wp2
  go_loopw [0, 5] (fun t0 t5 wq => ∃ j : Nat, j ≤ 8 ∧ t5 = .int .i64 (j : Int) ∧ t0 = .int .u32 ((turns j z : Nat) : Int) ∧ w = wq) (fun _ t5 _ => 8 - (intOf t5).toNat)
  case atStart => exact ⟨0, by omega, rfl, rfl, rfl⟩
  case round =>
    obtain ⟨j, hj, rfl, rfl, rfl⟩ := hrel
    have hX : turns j z < 4294967296 := turns_lt j hlt
    by_cases hj8 : j < 8
    · have hn : turns (j + 1) z = turn1 (turns j z) := rfl
      unfold turn1 at hn
      have hxor := xor_u32_nat (turns j z / 2) 2197175160 (by omega) (by omega)
      generalize turns j z = X at *
      generalize hY : turns (j + 1) z = Y at *
      by_cases h1 : X % 2 = 1
      · rw [if_pos h1] at hn
        have q : (X : Int) % 2 = 1 := by omega
        go_wp2
        go_roundw
        case rel => exact ⟨j + 1, by omega, by simp, by rw [hY, hn, ← hxor]; simp, trivial⟩
        case measure => simp [intOf]; omega
      · rw [if_neg h1] at hn
        have q : (X : Int) % 2 = 0 := by omega
        go_wp2
        go_roundw
        case rel => exact ⟨j + 1, by omega, by simp, by rw [hY, hn]; simp, trivial⟩
        case measure => simp [intOf]; omega
    · obtain rfl : j = 8 := by omega
      go_wp2
      go_ret
      exact ⟨rfl, rfl⟩

set_option maxRecDepth 100000 in
set_option maxHeartbeats 1000000 in
theorem refext_any (s : Nat) (hs : s < 4294967296) (ks : List UInt8) (A : Option Addr) (n c B : Nat) (w : World) (hks : Bs w B A n c ks) :
    Calls Try.prog 16 #[.int .u32 (s : Int), .slice A n c] w fun e w' => e = .returned (.int .u32 ((ext s ks : Nat) : Int)) ∧ w = w' := by
  have hlen := hide hks.len
  have hneg := neg_max s hs
  have hnl : neg32 s < 4294967296 := by unfold neg32; omega
  have hre := hks.reach
  go_enter Try.func16, Try.ntmps16
  go_wp2
  go_loopw [5, 12] (fun t5 t12 wq => ∃ i : Nat, i ≤ n ∧ t12 = .int .i64 (i : Int) ∧ t5 = .int .u32 ((foldx (neg32 s) (ks.take i) : Nat) : Int) ∧ w = wq) (fun _ t12 _ => n - (intOf t12).toNat)
  case atStart => exact ⟨0, by omega, rfl, by simp [foldx], rfl⟩
  case round =>
    obtain ⟨i, hi, rfl, rfl, rfl⟩ := hrel
    have hF : foldx (neg32 s) (ks.take i) < 4294967296 := fold_lt _ hnl
    by_cases hin : i < n
    · obtain ⟨b, off, rfl, hb, hc⟩ := hks.at_ (by omega)
      have hci := hc i (by rw [hlen.out]; exact hin)
      have hsn : foldx (neg32 s) (ks.take (i + 1)) = upd (foldx (neg32 s) (ks.take i)) (ks[i]'(by rw [hlen.out]; exact hin)).toNat := by
        rw [List.take_add_one, List.getElem?_eq_getElem (by rw [hlen.out]; exact hin)]
        exact foldx_snoc _ _ _
      have hcl := (ks[i]'(by rw [hlen.out]; exact hin)).toNat_lt
      generalize foldx (neg32 s) (ks.take i) = F at *
      generalize (ks[i]'(by rw [hlen.out]; exact hin)).toNat = C at *
      clear hc
      go_wp2_with fail
      refine (turn_any F C w hF (by omega)).mono ?_
      rintro e w' ⟨rfl, rfl⟩
      go_wp2
      go_roundw
      case rel => exact ⟨i + 1, by omega, by simp, by rw [hsn], trivial⟩
      case measure => simp [intOf]; omega
    · obtain rfl : i = n := by omega
      have hall : ks.take i = ks := List.take_of_length_le (by rw [hlen.out]; exact Nat.le_refl _)
      rw [hall] at hF ⊢
      have hneg2 := neg_max _ hF
      have he : ext s ks = neg32 (foldx (neg32 s) ks) := rfl
      have He := hide he
      clear he
      go_wp2
      go_ret
      exact ⟨by rw [He.out]; rfl, rfl⟩

theorem refsum_any (ks : List UInt8) (A : Option Addr) (n c B : Nat) (w : World) (hks : Bs w B A n c ks) :
    Calls Try.prog 15 #[.slice A n c] w fun e w' => e = .returned (.int .u32 ((ext 0 ks : Nat) : Int)) ∧ w = w' := by
  go_enter Try.func15, Try.ntmps15
  go_wp2_with fail
  refine (refext_any 0 (by omega) ks A n c B w hks).mono ?_
  rintro e w' ⟨rfl, rfl⟩
  go_wp2
  go_ret
  exact ⟨rfl, rfl⟩

theorem refmask_any (x : Nat) (w : World) (h : x < 4294967296) :
    Calls Try.prog 18 #[.int .u32 (x : Int)] w fun e w' => e = .returned (.int .u32 ((maskN x : Nat) : Int)) ∧ w = w' := by
  have e1 : ((x : Int) / 32768 + (x : Int) * 131072 % 4294967296 + 2726488792) % 4294967296 = ((maskN x : Nat) : Int) := by unfold maskN rot17; omega
  have e2 : Ending.returned (Value.int .u32 (((x : Int) / 32768 + (x : Int) * 131072 % 4294967296 + 2726488792) % 4294967296)) = .returned (.int .u32 ((maskN x : Nat) : Int)) := by rw [e1]
  go_enter Try.func18, Try.ntmps18
  go_wp2
  go_ret
  exact ⟨e2, rfl⟩

set_option maxHeartbeats 400000 in
theorem rotl15_any (x : Nat) (w : World) (h : x < 4294967296) :
    Calls Try.prog 33 #[.int .u32 (x : Int), .int .i64 15] w fun e w' => e = .returned (.int .u32 ((rot15 x : Nat) : Int)) ∧ w = w' := by
  have hk : bits .and .u64 (IntKind.u64.wrap 15) 31 = 15 := by decide +kernel
  have hk' : bits .and .u64 15 31 = 15 := by decide +kernel
  have hr := or_rot15 x h
  go_enter Try.func33, Try.ntmps33
  go_wp2
  go_ret
  exact ⟨rfl, rfl⟩

theorem unmask_any (x : Nat) (w : World) (h : x < 4294967296) :
    Calls Try.prog 19 #[.int .u32 (x : Int)] w fun e w' => e = .returned (.int .u32 ((unmaskN x : Nat) : Int)) ∧ w = w' := by
  have e1 : ((x : Int) - 2726488792) % 4294967296 = (((x + 1568478504) % 4294967296 : Nat) : Int) := by omega
  go_enter Try.func19, Try.ntmps19
  go_wp2_with fail
  rw [e1]
  refine (rotl15_any ((x + 1568478504) % 4294967296) w (Nat.mod_lt _ (by decide))).mono ?_
  rintro e w' ⟨rfl, rfl⟩
  go_wp2
  go_ret
  exact ⟨rfl, rfl⟩

end Go.Proofs.Ytdnhpmdmkdgmpaa

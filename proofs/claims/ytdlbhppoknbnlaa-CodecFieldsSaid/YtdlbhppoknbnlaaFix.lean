/-
  Numbers of a fixed width, in plain Lean; the walks of codec.Fixed, readFixed, ReadFixed and of the reference's. Condition: the bytes read as such.
-/
import Derived.Test.YtdlbhppoknbnlaaReadF
import Derived.Deep.OwnRows
namespace Go.Proofs.Ytdlbhppoknbnlaa
open Go.RowKit

def fixE (n : Nat) (wide : Int) : Int := if wide < 1 ∨ 8 < wide ∨ (wide < 8 ∧ n / 2 ^ (8 * wide.toNat) ≠ 0) then 1 else 0
def fixL (n k : Nat) : List UInt8 := (List.range k).map fun j => UInt8.ofNat (n / 2 ^ (8 * j))
def fixB (n : Nat) (wide : Int) : List UInt8 := if fixE n wide = 1 then [] else fixL n wide.toNat
theorem fixL_succ (n k : Nat) : fixL n (k + 1) = fixL n k ++ [UInt8.ofNat (n / 2 ^ (8 * k))] := by simp [fixL, List.range_succ]
theorem fixL_len (n k : Nat) : (fixL n k).length = k := by simp [fixL]

/-- bytes and an error -/
def GivesB (w : World) (er : Int) (ks : List UInt8) (e : Ending) (w' : World) : Prop :=
  ∃ A L c, e = .returned (.tuple #[.slice A L c, .int .i64 er]) ∧ L = ks.length ∧ Bs w' w'.heap.size A L c ks ∧ Below w.heap.size w w'

/-- so many bytes 0 -/
def zerosA (n : Nat) : Array Value := ((List.replicate n (0 : UInt8)).map b8).toArray
theorem made_zero (n : Nat) : madeCells #[.int .u8 0] n = zerosA n := by
  unfold zerosA
  apply Array.ext'
  simp only [madeCells, b8, Array.toList_map, Array.toList_range, List.map_replicate]
  apply List.ext_getElem
  · simp
  · intro i h1 h2
    simp [Nat.mod_one]
theorem run_make_bytes (n : Nat) (hn : n ≤ 281474976710656) (w : World) :
    (Instr.makeSlice 24 (.int .i64 (n : Int)) (.int .i64 (n : Int))).run Try.prog w = .ok (.slice (some ⟨w.heap.size, 0, none⟩) n n) (w.alloc (.cells (zerosA n) 5)) := by
  rw [run_make_row' (P := Try.prog) 24 5 (.int .u8 0) 1 Try.underlying24 info5 rfl .i64 .i64 n (by omega) (by omega) w, made_zero]

theorem blk_byte {w : World} {g : Nat} {ys : List UInt8} (h : Blk w g 5 (ys.map b8).toArray) (i : Nat) (v : UInt8) : Blk (w.setCell ⟨g, i, none⟩ (b8 v)) g 5 ((ys.set i v).map b8).toArray := by
  have := h.put i (b8 v)
  rw [List.setIfInBounds_toArray, ← List.map_set] at this
  exact this
theorem take_set (ys : List UInt8) (i : Nat) (v : UInt8) (hi : i < ys.length) : (ys.set i v).take (i + 1) = ys.take i ++ [v] := by
  rw [List.take_add_one, List.take_set_of_le (Nat.le_refl _), List.getElem?_set_self hi]
  rfl
theorem byte_of (m : Nat) : (.int .u8 ((m : Int) % 256) : Value) = b8 (UInt8.ofNat m) := by
  unfold b8
  rw [UInt8.toNat_ofNat']
  congr 1

set_option maxRecDepth 100000 in
set_option maxHeartbeats 2000000 in
theorem fixed_any (n : Nat) (wide : Int) (hn : n < 18446744073709551616) (h0 : -9223372036854775808 ≤ wide) (h1 : wide ≤ 9223372036854775807) (w : World) :
    Calls Try.prog 12 #[.int .u64 (n : Int), .int .i64 wide] w (GivesB w (fixE n wide) (fixB n wide)) := by
  by_cases hE : wide < 1 ∨ 8 < wide
  · have e1 : fixE n wide = 1 := by unfold fixE; rw [if_pos (by omega)]
    have e2 : fixB n wide = [] := by unfold fixB; rw [if_pos e1]
    rw [e1, e2]
    clear e1 e2
    rcases hE with hE | hE
    · go_enter Try.func12, Try.ntmps12
      go_wp2
      go_ret2
      exact ⟨none, 0, 0, rfl, rfl, Bs.nil _ _ _ _, Below.refl _ _⟩
    · have hE' : ¬ wide < 1 := by omega
      go_enter Try.func12, Try.ntmps12
      go_wp2
      go_ret2
      exact ⟨none, 0, 0, rfl, rfl, Bs.nil _ _ _ _, Below.refl _ _⟩
  · obtain ⟨k, rfl⟩ : ∃ k : Nat, wide = (k : Int) := ⟨wide.toNat, by omega⟩
    have hk1 : 1 ≤ k := by omega
    have hk8 : k ≤ 8 := by omega
    have ha : ¬ (k : Int) < 1 := by omega
    have hb : ¬ (8 : Int) < (k : Int) := by omega
    clear hE
    by_cases hF : k < 8 ∧ n / 2 ^ (8 * k) ≠ 0
    · have e1 : fixE n k = 1 := by unfold fixE; rw [if_pos (by right; right; exact ⟨by omega, by simpa using hF.2⟩)]
      have e2 : fixB n k = [] := by unfold fixB; rw [if_pos e1]
      rw [e1, e2]
      clear e1 e2
      have hq : ((n : Int) / 2 ^ (8 * k) != 0) = true := by
        rw [show ((n : Int) / 2 ^ (8 * k)) = ((n / 2 ^ (8 * k) : Nat) : Int) by simp]
        have h2 := hF.2
        generalize n / 2 ^ (8 * k) = q at *
        simp
        exact h2
      have hk : (k : Int) < 8 := by omega
      clear hF
      go_enter Try.func12, Try.ntmps12
      go_wp2
      go_ret2
      exact ⟨none, 0, 0, rfl, rfl, Bs.nil _ _ _ _, Below.refl _ _⟩
    · have e1 : fixE n k = 0 := by unfold fixE; rw [if_neg (by rw [Int.toNat_natCast]; omega)]
      have e2 : fixB n k = fixL n k := by unfold fixB; rw [e1, if_neg (by omega), Int.toNat_natCast]
      rw [e1, e2]
      clear e1 e2
      have hmk := run_make_bytes k (by omega)
      have hcase : ((k : Int) < 8 ∧ ((n : Int) / 2 ^ (8 * k) != 0) = false) ∨ ¬ (k : Int) < 8 := by
        by_cases h8 : k < 8
        · left
          refine ⟨by omega, ?_⟩
          rw [show ((n : Int) / 2 ^ (8 * k)) = ((n / 2 ^ (8 * k) : Nat) : Int) by simp]
          have : n / 2 ^ (8 * k) = 0 := by
            rcases Nat.eq_zero_or_pos (n / 2 ^ (8 * k)) with h' | h'
            · exact h'
            · exact absurd ⟨h8, by omega⟩ hF
          rw [this]
          rfl
        · right; omega
      clear hF
      rcases hcase with ⟨hk, hq⟩ | hk
      all_goals
        go_enter Try.func12, Try.ntmps12
        go_wp2
        clear hmk
        go_loopw [29] (fun t29 wq => ∃ (i : Nat) (ys : List UInt8), i ≤ k ∧ t29 = .int .i64 (i : Int) ∧ ys.length = k ∧ ys.take i = fixL n i ∧ Blk wq w.heap.size 5 (ys.map b8).toArray ∧ Below w.heap.size w wq) (fun t29 _ => k - (intOf t29).toNat)
        case atStart => exact ⟨0, List.replicate k 0, by omega, rfl, by simp, by simp [fixL], Blk.new w 5 (zerosA k), (Below.refl _ w).alloc (Nat.le_refl _) _⟩
        case round =>
          obtain ⟨i, ys, hi, rfl, hyl, hyt, hblk, hB⟩ := hrel
          have hyl' := hide hyl
          clear hyl
          by_cases hik : i < k
          · have hiy : i < ys.length := by rw [hyl'.out]; exact hik
            have hci : wr.cell? ⟨w.heap.size, i, none⟩ = some (.int .u8 (ys[i].toNat : Int)) := by rw [hblk.cell]; simp [List.getElem?_eq_getElem hiy, b8]
            have hzi := hblk.frozen i
            have hv : (.int .u8 ((n : Int) / 2 ^ (8 * i) % 256) : Value) = b8 (UInt8.ofNat (n / 2 ^ (8 * i))) := by rw [← byte_of]; simp
            have Hv := hide hv
            clear hv
            go_wp2
            go_roundw
            case rel => exact ⟨i + 1, ys.set i (UInt8.ofNat (n / 2 ^ (8 * i))), by omega, by simp, by simp [hyl'.out], by rw [take_set _ _ _ hiy, hyt, fixL_succ], by rw [Hv.out]; exact blk_byte hblk i _, hB.setCell (p := ⟨w.heap.size, i, none⟩) (by simp) _⟩
            case measure => simp [intOf]; omega
          · obtain rfl : i = k := by omega
            go_wp2
            go_ret2
            rw [List.take_of_length_le (by rw [hyl'.out]; exact Nat.le_refl _)] at hyt
            subst hyt
            exact ⟨_, i, i, rfl, (fixL_len n i).symm, Sl.of_blk hblk (by simp [fixL_len]) (Nat.le_refl _) (by omega), hB⟩

end Go.Proofs.Ytdlbhppoknbnlaa

/-
  The walks of the small functions: both Probes, bits.RotateLeft32 by -17, awake's pieces. No condition but the kinds' bounds.
-/
import Derived.Test.YtkkjfehnkhhafaaHash
namespace Go.Proofs.Ytkkjfehnkhhafaa
open Go.RowKit

theorem ret_i64 {a b : Int} (h : a = b) : Ending.returned (.int .i64 a) = .returned (.int .i64 b) := by rw [h]

def probesOf (per : Int) : Int := if per < 1 then 1 else if 44 ≤ per then 30 else if 69 * per / 100 < 1 then 1 else 69 * per / 100
theorem probesOf_range (per : Int) : 1 ≤ probesOf per ∧ probesOf per ≤ 30 := by
  unfold probesOf
  split
  · omega
  · split
    · omega
    · split <;> omega

set_option maxHeartbeats 400000 in
theorem refprobes_any (per : Int) (w : World) (h0 : -9223372036854775808 ≤ per) (h1 : per ≤ 9223372036854775807) :
    Calls Try.prog 12 #[.int .i64 per] w fun e w' => e = .returned (.int .i64 (probesOf per)) ∧ w' = w := by
  by_cases ha : per < 1
  · go_enter Try.func12, Try.ntmps12
    go_wp2
    go_ret
    exact ⟨ret_i64 (by simp [probesOf, ha]), rfl⟩
  · by_cases hb : 44 ≤ per
    · go_enter Try.func12, Try.ntmps12
      go_wp2
      go_ret
      exact ⟨ret_i64 (by unfold probesOf; rw [if_neg (by omega), if_pos hb]), rfl⟩
    · by_cases hc : 69 * per / 100 < 1
      · go_enter Try.func12, Try.ntmps12
        go_wp2
        go_ret
        exact ⟨ret_i64 (by unfold probesOf; (repeat' split) <;> omega), rfl⟩
      · go_enter Try.func12, Try.ntmps12
        go_wp2
        go_ret
        exact ⟨ret_i64 (by unfold probesOf; (repeat' split) <;> omega), rfl⟩

set_option maxHeartbeats 400000 in
theorem probes_any (per : Int) (w : World) (h0 : -9223372036854775808 ≤ per) (h1 : per ≤ 9223372036854775807) :
    Calls Try.prog 11 #[.int .i64 per] w fun e w' => e = .returned (.int .i64 (probesOf per)) ∧ w' = w := by
  by_cases ha : per < 1
  · go_enter Try.func11, Try.ntmps11
    go_wp2
    go_ret
    exact ⟨ret_i64 (by simp [probesOf, ha]), rfl⟩
  · by_cases hb : 64 < per
    · go_enter Try.func11, Try.ntmps11
      go_wp2
      go_ret
      exact ⟨ret_i64 (by unfold probesOf; rw [if_neg (by omega), if_pos (by omega)]), rfl⟩
    · go_enter Try.func11, Try.ntmps11
      go_wp2
      all_goals
        go_ret
        exact ⟨ret_i64 (by unfold probesOf; (repeat' split) <;> omega), rfl⟩

/-- bits.RotateLeft32(x, -17) -/
def rot15 (x : Int) : Int := bits .or .u32 (x * 32768 % 4294967296) (x / 131072)
theorem rot15_range (x : Int) : 0 ≤ rot15 x ∧ rot15 x < 4294967296 := by unfold rot15; exact bits_u32_range _ _ _
set_option maxHeartbeats 400000 in
theorem rot_any (x : Int) (w : World) (h0 : 0 ≤ x) (h1 : x < 4294967296) :
    Calls Try.prog 26 #[.int .u32 x, .int .i64 (-17)] w fun e w' => e = .returned (.int .u32 (rot15 x)) ∧ w' = w := by
  have hk : bits .and .u64 (IntKind.u64.wrap (-17)) 31 = 15 := by decide +kernel
  go_enter Try.func26, Try.ntmps26
  go_wp2
  go_ret
  exact ⟨ret_u32 (by simp only [rot15]), rfl⟩

end Go.Proofs.Ytkkjfehnkhhafaa

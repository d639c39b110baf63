/-
  The walk of the law BloomAsks: it answers true. Condition: both slices read as bytes.
-/
import Derived.Test.YtkkjfehnkhhafaaAwake
namespace Go.Proofs.Ytkkjfehnkhhafaa
open Go.RowKit Go.Shelf

set_option maxRecDepth 100000 in
set_option maxHeartbeats 1000000 in
theorem asks_any (fs ks : List UInt8) (FA A : Option Addr) (fn fc kn kc : Nat) (w : World) (hf : Bs w w.heap.size FA fn fc fs) (hk : Bs w w.heap.size A kn kc ks) :
    Calls Try.prog 4 #[.slice FA fn fc, .slice A kn kc] w fun e w' => e = .returned (.bool true) ∧ Below w.heap.size w w' := by
  have hr1 := hf.reach
  have hr2 := hk.reach
  go_enter Try.func4, Try.ntmps4
  go_wp2_with fail
  refine (awake_any w).mono ?_
  rintro e w1 ⟨rfl, hB1⟩
  have hs1 := hB1.size
  by_cases h4 : 4000 < fn + kn
  · go_wp2
    go_ret
    exact ⟨rfl, hB1⟩
  · go_wp2_with fail
    refine (may_any fs ks FA A fn fc kn kc w.heap.size w.heap.size w1 (hf.below hB1) hs1 (hk.below hB1) hs1 (by omega)).mono ?_
    rintro e w2 ⟨rfl, hB2⟩
    have hB2' := hB1.trans (hB2.mono hs1)
    go_wp2_with fail
    refine (refmay_any fs ks FA A fn fc kn kc w.heap.size w.heap.size w2 (hf.below hB2') hB2'.size (hk.below hB2') hB2'.size (by omega)).mono ?_
    rintro e w3 ⟨rfl, hB3⟩
    go_wp2
    trace_state
    go_ret
    exact ⟨rfl, hB2'.trans (hB3.mono hB2'.size)⟩

end Go.Proofs.Ytkkjfehnkhhafaa

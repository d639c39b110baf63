/-
  The walks of guarded and of its deferred closure: what was thrown is answered.
-/
import Derived.Test.YtdnhpmdmkdgmpaaRead
import Derived.Tactics
import Derived.Tactics2
import Derived.Defers
import Derived.Recover
import Derived.Laws.Pointers
namespace Go.Proofs.Ytdnhpmdmkdgmpaa
open Go.RowKit

theorem fd97 (v : Value) (w : World) : (Instr.field 97 (.agg #[v]) 0).run Try.prog w = .ok v w := by kernel_rfl
theorem as97 (v : Value) (w : World) : (Instr.typeAssert (.iface 97 v) 20 97 false).run Try.prog w = .ok v w := by kernel_rfl

set_option maxRecDepth 100000 in
set_option maxHeartbeats 1000000 in
theorem catch_panicking (p : Addr) (x : Value) (c : Int) (older : List PanicEntry) (w : World) (hc : w.cell? p = some x) (hz : w.frozen? p = false) :
    CallsD Try.prog 49 #[.pointer (some p)] (.panicking ({ v := .iface 97 (.agg #[.int .i64 c]), recovered := false } :: older)) w fun e u' w' =>
      e = .returned (.tuple #[]) ∧ u' = .panicking ({ v := .iface 97 (.agg #[.int .i64 c]), recovered := true } :: older) ∧ w' = w.setCell p (.int .i64 c) := by
  refine callsD_of_wpS Try.func49 rfl fun c₀ cs hu => ?_
  apply wpS_seq
  apply wpS_region
  simp [wpOpsS, go_sem, recoverD, hu, Try.ntmps49, Exit.thenS]
  have e : (#[Value.pointer (some p)] ++ ((Array.replicate 7 undef).setIfInBounds 1 (Value.iface 97 (Value.agg #[Value.int IntKind.i64 c]))).setIfInBounds 0 (Value.iface 97 (Value.agg #[Value.int IntKind.i64 c])))
      = #[.pointer (some p), .iface 97 (.agg #[.int .i64 c]), .iface 97 (.agg #[.int .i64 c]), undef, undef, undef, undef, undef] := rfl
  rw [e]
  refine wpS_of_wp ?_
  have hta := as97
  have hfd := fd97
  go_wp2
  cases c₀
  simp_all [bodyPostS, results, Try.results49]

set_option maxRecDepth 100000 in
set_option maxHeartbeats 1000000 in
theorem catch_idle (p : Addr) (w : World) :
    CallsD Try.prog 49 #[.pointer (some p)] .returning w fun e u' w' => e = .returned (.tuple #[]) ∧ u' = .returning ∧ w' = w := by
  refine callsD_of_wpS Try.func49 rfl fun c₀ cs hu => ?_
  apply wpS_seq
  apply wpS_region
  simp [wpOpsS, go_sem, recoverD, hu, Try.ntmps49, Exit.thenS]
  have e : (#[Value.pointer (some p)] ++ ((Array.replicate 7 undef).setIfInBounds 1 Value.nilIface).setIfInBounds 0 Value.nilIface)
      = #[.pointer (some p), .nilIface, .nilIface, undef, undef, undef, undef, undef] := rfl
  rw [e]
  refine wpS_of_wp ?_
  go_wp2
  cases c₀
  simp_all [bodyPostS, results, Try.results49]

/-- behind guarded: what the function did, and the error's own cell -/
def Guarded (w : World) (R : Ending → World → Prop) (e : Ending) (w' : World) : Prop :=
  ∃ w0, (R (.returned (.tuple #[])) w0 ∧ e = .returned (.int .i64 0) ∧ ∃ u, w' = w0.setCell ⟨w.heap.size, 0, none⟩ u) ∨
    ∃ c, R (.panicked (failure c)) w0 ∧ e = .returned (.int .i64 c) ∧ ∃ u, w' = w0.setCell ⟨w.heap.size, 0, none⟩ u

set_option maxRecDepth 100000 in
set_option maxHeartbeats 1000000 in
theorem guarded_any (G : FuncId) (cap : Array Value) (w : World) (R : Ending → World → Prop) (hG : Calls Try.prog G cap (w.alloc (.cells #[.int .i64 0] 46)) R)
    (hcf : ∀ (args : Array Value) (w : World), (callFunc G args).run Try.prog w = .ok (.enter G args) w)
    (hR : ∀ e w', R e w' → (e = .returned (.tuple #[]) ∨ ∃ c, e = .panicked (failure c)) ∧ Blk w' w.heap.size 46 #[.int .i64 0]) :
    Calls Try.prog 43 #[.func (.func G) #[] cap] w (Guarded w R) := by
  have hmf : ∀ (fn : Fn) (first cap : Array Value) (w : World), (Instr.makeFunc fn first cap).run Try.prog w = .ok (.func fn first cap) w := fun _ _ _ _ => rfl
  go_enter_defers Try.func43, Try.ntmps43
  go_wp2_with fail
  refine hG.mono ?_
  intro e w1 hr
  obtain ⟨he, hb⟩ := hR e w1 hr
  have hc : w1.cell? ⟨w.heap.size, 0, none⟩ = some (.int .i64 0) := hb.cell 0
  have hz := hb.frozen 0
  rcases he with rfl | ⟨c, rfl⟩
  · go_wp2
    refine leaves_cons (f := 49) (args := #[.pointer (some ⟨w.heap.size, 0, none⟩)]) (by simp) (by simp [go_sem]) ?_
    refine (catch_idle ⟨w.heap.size, 0, none⟩ _).mono ?_
    rintro e u' w'' ⟨rfl, rfl, rfl⟩
    have hc2 := World.cell?_setCell_same w1 ⟨w.heap.size, 0, none⟩ (.int .i64 0) hc
    have hfin : Guarded w R (.returned (.int .i64 0)) (w1.setCell ⟨w.heap.size, 0, none⟩ (.int .i64 0)) := ⟨w1, .inl ⟨hr, rfl, _, rfl⟩⟩
    simp [Leaves, settle, results, Try.results43, go_sem, hc2]
    exact hfin
  · refine leaves_cons (f := 49) (args := #[.pointer (some ⟨w.heap.size, 0, none⟩)]) (by simp) (by simp [go_sem]) ?_
    refine (catch_panicking ⟨w.heap.size, 0, none⟩ (.int .i64 0) c [] w1 hc hz).mono ?_
    rintro e u' w'' ⟨rfl, rfl, rfl⟩
    have hc2 := World.cell?_setCell_same w1 ⟨w.heap.size, 0, none⟩ (.int .i64 c) hc
    have hfin : Guarded w R (.returned (.int .i64 c)) (w1.setCell ⟨w.heap.size, 0, none⟩ (.int .i64 c)) := ⟨w1, .inr ⟨c, hr, rfl, _, rfl⟩⟩
    simp [Leaves, settle, results, Try.results43, go_sem, hc2]
    exact hfin

end Go.Proofs.Ytdnhpmdmkdgmpaa

/-
  No cell of these rows narrows 'for every input' (looked for: loops, veiled, ifaces, maps, wideKeys, modest, calm, conditions, laid).
  DERIVED. THE GIVEN ROWS OF THIS SEAT. 5 by the template 'for every input the law returns true; each argument reads behind the call as it read before'; 0 by the template 'total and deterministic' (their statements: YtkbjbjkgohkkjaaTotals.lean).
  GIVEN WITH THE SEED: the statements are not yours to turn. If you find one false, say at which input.
  Laid BY PROGRAM, IN A SANDBOX (cutbox-rows.mjs): the forced cells as the released guide's own fill.sh prints them over the translation f2db7c4787835edf… (all of the seat's roots in one cut). By AI agents, Wed Nov 11 2026. No macro, syntax, notation, axiom, sorry.
-/
import Derived.Test.YtkbjbjkgohkkjaaChecked
import GoSem.Claim
import GoSem.ClaimJoined
import GoSem.ClaimMapViews
import Derived.JoinedTies
import Derived.KernelRfl
namespace Go.Proofs.Ytkbjbjkgohkkjaa
/- THE CELL 'sum', in the pinned program and in every row, IS THE sha256 OF THE DUMP (.gsa) THAT YtkbjbjkgohkkjaaProg.lean LOADS. Nothing in Lean hashes anything: it is a label: what it is worth is what the hold of that sum in a sandbox is worth. -/
noncomputable def Try.pinned : Pinned := { name := "ytkbjbjkgohkkjaa", sum := "f2db7c4787835edf3fcb467cbf2893803fa232d0707b4abbcd0861ee1a43609f", checked := Try.checked }
namespace Rows
def none {H : Type} : Left H := { results := [], args := [] }

/-- 'lecternlaw18.MemNone': WHATEVER THE INPUT: true; the input reads as it did. -/
def memNoneSpec : ChangeSpec := { name := "memNone", fn := fun _ => fun
  | [d] => { results := [.lit (.bool true)], args := [d] }
  | _ => none }
def memNoneRow : OpenClaim := { program := "ytkbjbjkgohkkjaa", sum := "f2db7c4787835edf3fcb467cbf2893803fa232d0707b4abbcd0861ee1a43609f", func := "lectern/lecternlaw18.MemNone", spec := "memNone", inPlace := ["sync/atomic.LoadUint32", "sync/atomic.AddInt64", "internal/bytealg.Compare", "sync/atomic.LoadInt64", "sync/atomic.StoreUint32", "(*internal/sync.Mutex).Lock", "internal/race.Disable", "sync/atomic.CompareAndSwapInt32", "internal/race.Enable", "internal/race.Acquire", "(*internal/sync.Mutex).lockSlow", "internal/sync.runtime_canSpin", "internal/sync.runtime_doSpin", "internal/sync.throw", "internal/sync.runtime_nanotime", "internal/sync.runtime_SemacquireMutex", "sync/atomic.AddInt32", "(*internal/sync.Mutex).Unlock", "internal/race.ReleaseMerge", "(*internal/sync.Mutex).unlockSlow", "internal/sync.fatal", "internal/sync.runtime_Semrelease"], unfollowed := true, recurses := true, apart := false }
def MemNoneSaid : Prop := memNoneRow.holds Try.pinned (OpenSpec.ofChange memNoneSpec)

/-- ITS FALSE NEIGHBOUR: 'it returns false'. Refute it at one input. -/
def memNoneWrong : ChangeSpec := { name := "memNone", fn := fun _ => fun
  | [d] => { results := [.lit (.bool false)], args := [d] }
  | _ => none }
def MemNoneWrongFalsely : Prop := memNoneRow.holds Try.pinned (OpenSpec.ofChange memNoneWrong)

/-- 'lecternlaw18.MemTowers': WHATEVER THE INPUT: true; the input reads as it did. -/
def memTowersSpec : ChangeSpec := { name := "memTowers", fn := fun _ => fun
  | [d1, d2] => { results := [.lit (.bool true)], args := [d1, d2] }
  | _ => none }
def memTowersRow : OpenClaim := { program := "ytkbjbjkgohkkjaa", sum := "f2db7c4787835edf3fcb467cbf2893803fa232d0707b4abbcd0861ee1a43609f", func := "lectern/lecternlaw18.MemTowers", spec := "memTowers", inPlace := ["sync/atomic.LoadUint32", "sync/atomic.AddInt64", "internal/bytealg.Compare", "sync/atomic.LoadInt64"], unfollowed := true, recurses := true, apart := false }
def MemTowersSaid : Prop := memTowersRow.holds Try.pinned (OpenSpec.ofChange memTowersSpec)

/-- ITS FALSE NEIGHBOUR: 'it returns false'. Refute it at one input. -/
def memTowersWrong : ChangeSpec := { name := "memTowers", fn := fun _ => fun
  | [d1, d2] => { results := [.lit (.bool false)], args := [d1, d2] }
  | _ => none }
def MemTowersWrongFalsely : Prop := memTowersRow.holds Try.pinned (OpenSpec.ofChange memTowersWrong)

/-- 'lecternlaw18.MemDoes': WHATEVER THE INPUT: true; the input reads as it did. -/
def memDoesSpec : ChangeSpec := { name := "memDoes", fn := fun _ => fun
  | [d1, d2, d3] => { results := [.lit (.bool true)], args := [d1, d2, d3] }
  | _ => none }
def memDoesRow : OpenClaim := { program := "ytkbjbjkgohkkjaa", sum := "f2db7c4787835edf3fcb467cbf2893803fa232d0707b4abbcd0861ee1a43609f", func := "lectern/lecternlaw18.MemDoes", spec := "memDoes", inPlace := ["sync/atomic.LoadUint32", "sync/atomic.AddInt64", "internal/bytealg.Compare", "sync/atomic.LoadInt64"], unfollowed := true, recurses := true, apart := false }
def MemDoesSaid : Prop := memDoesRow.holds Try.pinned (OpenSpec.ofChange memDoesSpec)

/-- ITS FALSE NEIGHBOUR: 'it returns false'. Refute it at one input. -/
def memDoesWrong : ChangeSpec := { name := "memDoes", fn := fun _ => fun
  | [d1, d2, d3] => { results := [.lit (.bool false)], args := [d1, d2, d3] }
  | _ => none }
def MemDoesWrongFalsely : Prop := memDoesRow.holds Try.pinned (OpenSpec.ofChange memDoesWrong)

/-- 'lecternlaw18.MemEach': WHATEVER THE INPUT: true; the input reads as it did. -/
def memEachSpec : ChangeSpec := { name := "memEach", fn := fun _ => fun
  | [d1, d2, d3] => { results := [.lit (.bool true)], args := [d1, d2, d3] }
  | _ => none }
def memEachRow : OpenClaim := { program := "ytkbjbjkgohkkjaa", sum := "f2db7c4787835edf3fcb467cbf2893803fa232d0707b4abbcd0861ee1a43609f", func := "lectern/lecternlaw18.MemEach", spec := "memEach", inPlace := ["sync/atomic.LoadUint32", "sync/atomic.AddInt64", "internal/bytealg.Compare", "sync/atomic.LoadInt64"], unfollowed := true, recurses := true, apart := false }
def MemEachSaid : Prop := memEachRow.holds Try.pinned (OpenSpec.ofChange memEachSpec)

/-- ITS FALSE NEIGHBOUR: 'it returns false'. Refute it at one input. -/
def memEachWrong : ChangeSpec := { name := "memEach", fn := fun _ => fun
  | [d1, d2, d3] => { results := [.lit (.bool false)], args := [d1, d2, d3] }
  | _ => none }
def MemEachWrongFalsely : Prop := memEachRow.holds Try.pinned (OpenSpec.ofChange memEachWrong)

/-- 'lecternlaw18.MemSealed': WHATEVER THE INPUT: true; the input reads as it did. -/
def memSealedSpec : ChangeSpec := { name := "memSealed", fn := fun _ => fun
  | [d1, d2, d3] => { results := [.lit (.bool true)], args := [d1, d2, d3] }
  | _ => none }
def memSealedRow : OpenClaim := { program := "ytkbjbjkgohkkjaa", sum := "f2db7c4787835edf3fcb467cbf2893803fa232d0707b4abbcd0861ee1a43609f", func := "lectern/lecternlaw18.MemSealed", spec := "memSealed", inPlace := ["sync/atomic.LoadUint32", "sync/atomic.AddInt64", "internal/bytealg.Compare", "sync/atomic.LoadInt64", "sync/atomic.StoreUint32", "(*internal/sync.Mutex).Lock", "internal/race.Disable", "sync/atomic.CompareAndSwapInt32", "internal/race.Enable", "internal/race.Acquire", "(*internal/sync.Mutex).lockSlow", "internal/sync.runtime_canSpin", "internal/sync.runtime_doSpin", "internal/sync.throw", "internal/sync.runtime_nanotime", "internal/sync.runtime_SemacquireMutex", "sync/atomic.AddInt32", "(*internal/sync.Mutex).Unlock", "internal/race.ReleaseMerge", "(*internal/sync.Mutex).unlockSlow", "internal/sync.fatal", "internal/sync.runtime_Semrelease"], unfollowed := true, recurses := true, apart := false }
def MemSealedSaid : Prop := memSealedRow.holds Try.pinned (OpenSpec.ofChange memSealedSpec)

/-- ITS FALSE NEIGHBOUR: 'it returns false'. Refute it at one input. -/
def memSealedWrong : ChangeSpec := { name := "memSealed", fn := fun _ => fun
  | [d1, d2, d3] => { results := [.lit (.bool false)], args := [d1, d2, d3] }
  | _ => none }
def MemSealedWrongFalsely : Prop := memSealedRow.holds Try.pinned (OpenSpec.ofChange memSealedWrong)

/- THE SECOND FORM. 'bulk': how many values and letters a reading holds, each counted each time it is reached (what is shared counts as often as it is met; a slice's spare places count too). A statement '..UptoSaid' is the law's where the arguments, and the package variables that the reading takes, are together of bulk at most 1048576: NARROWER than '..Said'. Prove '..Said' where nothing that the law and all that it calls make is longer than what came in: it says more and counts as full. Else prove '..UptoSaid'. A law counts once. -/
mutual
def uptoBulk {H : Type} : DataW H → Nat
  | .lit (.string bytes) => bytes.length + 1
  | .lit _ => 1
  | .nil => 1
  | .ptr d => uptoBulk d + 1
  | .slice elems spare => uptoBulkAll elems + uptoBulkAll spare + 1
  | .agg parts => uptoBulkAll parts + 1
  | .iface _ d => uptoBulk d + 1
  | .map entries => uptoBulkEntries entries + 1
  | .held _ => 1
def uptoBulkAll {H : Type} : List (DataW H) → Nat
  | [] => 0
  | d :: r => uptoBulk d + uptoBulkAll r
def uptoBulkEntries {H : Type} : List (Lit × DataW H) → Nat
  | [] => 0
  | x :: r => uptoBulkEntry x + uptoBulkEntries r
def uptoBulkEntry {H : Type} : Lit × DataW H → Nat
  | (.string bytes, d) => bytes.length + uptoBulk d + 1
  | (_, d) => uptoBulk d + 1
 end
def uptoSmall : (H : Type) → List (DataW H) → Bool := fun _ ds => decide (uptoBulkAll ds ≤ 1048576)
def OpenSpec.upto (s : _root_.Go.ChangeSpec) : _root_.Go.OpenSpec := { _root_.Go.OpenSpec.ofChange s with cond := some uptoSmall }

/-- 'lecternlaw18.MemNone', WHERE WHAT IT READS IS OF BULK AT MOST 1048576: true; the input reads as it did. -/
def memNoneUptoRow : OpenClaim := { program := "ytkbjbjkgohkkjaa", sum := "f2db7c4787835edf3fcb467cbf2893803fa232d0707b4abbcd0861ee1a43609f", func := "lectern/lecternlaw18.MemNone", spec := "memNone", inPlace := ["sync/atomic.LoadUint32", "sync/atomic.AddInt64", "internal/bytealg.Compare", "sync/atomic.LoadInt64", "sync/atomic.StoreUint32", "(*internal/sync.Mutex).Lock", "internal/race.Disable", "sync/atomic.CompareAndSwapInt32", "internal/race.Enable", "internal/race.Acquire", "(*internal/sync.Mutex).lockSlow", "internal/sync.runtime_canSpin", "internal/sync.runtime_doSpin", "internal/sync.throw", "internal/sync.runtime_nanotime", "internal/sync.runtime_SemacquireMutex", "sync/atomic.AddInt32", "(*internal/sync.Mutex).Unlock", "internal/race.ReleaseMerge", "(*internal/sync.Mutex).unlockSlow", "internal/sync.fatal", "internal/sync.runtime_Semrelease"], unfollowed := true, recurses := true, apart := false, narrowed := true }
def MemNoneUptoSaid : Prop := memNoneUptoRow.holds Try.pinned (OpenSpec.upto memNoneSpec)

/-- 'lecternlaw18.MemTowers', WHERE WHAT IT READS IS OF BULK AT MOST 1048576: true; the input reads as it did. -/
def memTowersUptoRow : OpenClaim := { program := "ytkbjbjkgohkkjaa", sum := "f2db7c4787835edf3fcb467cbf2893803fa232d0707b4abbcd0861ee1a43609f", func := "lectern/lecternlaw18.MemTowers", spec := "memTowers", inPlace := ["sync/atomic.LoadUint32", "sync/atomic.AddInt64", "internal/bytealg.Compare", "sync/atomic.LoadInt64"], unfollowed := true, recurses := true, apart := false, narrowed := true }
def MemTowersUptoSaid : Prop := memTowersUptoRow.holds Try.pinned (OpenSpec.upto memTowersSpec)

/-- 'lecternlaw18.MemDoes', WHERE WHAT IT READS IS OF BULK AT MOST 1048576: true; the input reads as it did. -/
def memDoesUptoRow : OpenClaim := { program := "ytkbjbjkgohkkjaa", sum := "f2db7c4787835edf3fcb467cbf2893803fa232d0707b4abbcd0861ee1a43609f", func := "lectern/lecternlaw18.MemDoes", spec := "memDoes", inPlace := ["sync/atomic.LoadUint32", "sync/atomic.AddInt64", "internal/bytealg.Compare", "sync/atomic.LoadInt64"], unfollowed := true, recurses := true, apart := false, narrowed := true }
def MemDoesUptoSaid : Prop := memDoesUptoRow.holds Try.pinned (OpenSpec.upto memDoesSpec)

/-- 'lecternlaw18.MemEach', WHERE WHAT IT READS IS OF BULK AT MOST 1048576: true; the input reads as it did. -/
def memEachUptoRow : OpenClaim := { program := "ytkbjbjkgohkkjaa", sum := "f2db7c4787835edf3fcb467cbf2893803fa232d0707b4abbcd0861ee1a43609f", func := "lectern/lecternlaw18.MemEach", spec := "memEach", inPlace := ["sync/atomic.LoadUint32", "sync/atomic.AddInt64", "internal/bytealg.Compare", "sync/atomic.LoadInt64"], unfollowed := true, recurses := true, apart := false, narrowed := true }
def MemEachUptoSaid : Prop := memEachUptoRow.holds Try.pinned (OpenSpec.upto memEachSpec)

/-- 'lecternlaw18.MemSealed', WHERE WHAT IT READS IS OF BULK AT MOST 1048576: true; the input reads as it did. -/
def memSealedUptoRow : OpenClaim := { program := "ytkbjbjkgohkkjaa", sum := "f2db7c4787835edf3fcb467cbf2893803fa232d0707b4abbcd0861ee1a43609f", func := "lectern/lecternlaw18.MemSealed", spec := "memSealed", inPlace := ["sync/atomic.LoadUint32", "sync/atomic.AddInt64", "internal/bytealg.Compare", "sync/atomic.LoadInt64", "sync/atomic.StoreUint32", "(*internal/sync.Mutex).Lock", "internal/race.Disable", "sync/atomic.CompareAndSwapInt32", "internal/race.Enable", "internal/race.Acquire", "(*internal/sync.Mutex).lockSlow", "internal/sync.runtime_canSpin", "internal/sync.runtime_doSpin", "internal/sync.throw", "internal/sync.runtime_nanotime", "internal/sync.runtime_SemacquireMutex", "sync/atomic.AddInt32", "(*internal/sync.Mutex).Unlock", "internal/race.ReleaseMerge", "(*internal/sync.Mutex).unlockSlow", "internal/sync.fatal", "internal/sync.runtime_Semrelease"], unfollowed := true, recurses := true, apart := false, narrowed := true }
def MemSealedUptoSaid : Prop := memSealedUptoRow.holds Try.pinned (OpenSpec.upto memSealedSpec)

end Rows
end Go.Proofs.Ytkbjbjkgohkkjaa

/-
  No cell of these rows narrows 'for every input' (looked for: loops, veiled, ifaces, maps, wideKeys, modest, calm, conditions, laid).
  DERIVED. THE GIVEN ROWS OF THIS SEAT. 6 by the template 'for every input the law returns true; each argument reads behind the call as it read before'; 0 by the template 'total and deterministic' (their statements: YtdlbhppoknbnlaaTotals.lean).
  GIVEN WITH THE SEED: the statements are not yours to turn. If you find one false, say at which input.
  Laid BY PROGRAM, IN A SANDBOX (cutbox-rows.mjs): the forced cells as the released guide's own fill.sh prints them over the translation 6ee6d9d57c0af962… (all of the seat's roots in one cut). By AI agents, Wed Nov 11 2026. No macro, syntax, notation, axiom, sorry.
-/
import Derived.Test.YtdlbhppoknbnlaaChecked
import GoSem.Claim
import GoSem.ClaimJoined
import GoSem.ClaimMapViews
import Derived.JoinedTies
import Derived.KernelRfl
namespace Go.Proofs.Ytdlbhppoknbnlaa
/- THE CELL 'sum', in the pinned program and in every row, IS THE sha256 OF THE DUMP (.gsa) THAT YtdlbhppoknbnlaaProg.lean LOADS. Nothing in Lean hashes anything: it is a label: what it is worth is what the hold of that sum in a sandbox is worth. -/
noncomputable def Try.pinned : Pinned := { name := "ytdlbhppoknbnlaa", sum := "6ee6d9d57c0af962d0790a247330c4e873c7dd0842ecea2d6b4655dcab5da8c1", checked := Try.checked }
namespace Rows
def none {H : Type} : Left H := { results := [], args := [] }

/-- 'lecternlaw02.CodecShort': WHATEVER THE INPUT: true; the input reads as it did. -/
def codecShortSpec : ChangeSpec := { name := "codecShort", fn := fun _ => fun
  | [d1, d2] => { results := [.lit (.bool true)], args := [d1, d2] }
  | _ => none }
def codecShortRow : OpenClaim := { program := "ytdlbhppoknbnlaa", sum := "6ee6d9d57c0af962d0790a247330c4e873c7dd0842ecea2d6b4655dcab5da8c1", func := "lectern/lecternlaw02.CodecShort", spec := "codecShort", unfollowed := true, recurses := true, apart := false }
def CodecShortSaid : Prop := codecShortRow.holds Try.pinned (OpenSpec.ofChange codecShortSpec)

/-- ITS FALSE NEIGHBOUR: 'it returns false'. Refute it at one input. -/
def codecShortWrong : ChangeSpec := { name := "codecShort", fn := fun _ => fun
  | [d1, d2] => { results := [.lit (.bool false)], args := [d1, d2] }
  | _ => none }
def CodecShortWrongFalsely : Prop := codecShortRow.holds Try.pinned (OpenSpec.ofChange codecShortWrong)

/-- 'lecternlaw02.CodecNumbers': WHATEVER THE INPUT: true; the input reads as it did. -/
def codecNumbersSpec : ChangeSpec := { name := "codecNumbers", fn := fun _ => fun
  | [d1, d2, d3, d4] => { results := [.lit (.bool true)], args := [d1, d2, d3, d4] }
  | _ => none }
def codecNumbersRow : OpenClaim := { program := "ytdlbhppoknbnlaa", sum := "6ee6d9d57c0af962d0790a247330c4e873c7dd0842ecea2d6b4655dcab5da8c1", func := "lectern/lecternlaw02.CodecNumbers", spec := "codecNumbers", unfollowed := true, recurses := true, apart := false }
def CodecNumbersSaid : Prop := codecNumbersRow.holds Try.pinned (OpenSpec.ofChange codecNumbersSpec)

/-- ITS FALSE NEIGHBOUR: 'it returns false'. Refute it at one input. -/
def codecNumbersWrong : ChangeSpec := { name := "codecNumbers", fn := fun _ => fun
  | [d1, d2, d3, d4] => { results := [.lit (.bool false)], args := [d1, d2, d3, d4] }
  | _ => none }
def CodecNumbersWrongFalsely : Prop := codecNumbersRow.holds Try.pinned (OpenSpec.ofChange codecNumbersWrong)

/-- 'lecternlaw02.CodecOnce': WHATEVER THE INPUT: true; the input reads as it did. -/
def codecOnceSpec : ChangeSpec := { name := "codecOnce", fn := fun _ => fun
  | [d] => { results := [.lit (.bool true)], args := [d] }
  | _ => none }
def codecOnceRow : OpenClaim := { program := "ytdlbhppoknbnlaa", sum := "6ee6d9d57c0af962d0790a247330c4e873c7dd0842ecea2d6b4655dcab5da8c1", func := "lectern/lecternlaw02.CodecOnce", spec := "codecOnce", unfollowed := true, recurses := true, apart := false }
def CodecOnceSaid : Prop := codecOnceRow.holds Try.pinned (OpenSpec.ofChange codecOnceSpec)

/-- ITS FALSE NEIGHBOUR: 'it returns false'. Refute it at one input. -/
def codecOnceWrong : ChangeSpec := { name := "codecOnce", fn := fun _ => fun
  | [d] => { results := [.lit (.bool false)], args := [d] }
  | _ => none }
def CodecOnceWrongFalsely : Prop := codecOnceRow.holds Try.pinned (OpenSpec.ofChange codecOnceWrong)

/-- 'lecternlaw02.CodecReader': WHATEVER THE INPUT: true; the input reads as it did. -/
def codecReaderSpec : ChangeSpec := { name := "codecReader", fn := fun _ => fun
  | [d1, d2] => { results := [.lit (.bool true)], args := [d1, d2] }
  | _ => none }
def codecReaderRow : OpenClaim := { program := "ytdlbhppoknbnlaa", sum := "6ee6d9d57c0af962d0790a247330c4e873c7dd0842ecea2d6b4655dcab5da8c1", func := "lectern/lecternlaw02.CodecReader", spec := "codecReader", unfollowed := true, recurses := true, apart := false }
def CodecReaderSaid : Prop := codecReaderRow.holds Try.pinned (OpenSpec.ofChange codecReaderSpec)

/-- ITS FALSE NEIGHBOUR: 'it returns false'. Refute it at one input. -/
def codecReaderWrong : ChangeSpec := { name := "codecReader", fn := fun _ => fun
  | [d1, d2] => { results := [.lit (.bool false)], args := [d1, d2] }
  | _ => none }
def CodecReaderWrongFalsely : Prop := codecReaderRow.holds Try.pinned (OpenSpec.ofChange codecReaderWrong)

/-- 'lecternlaw02.CodecFields': WHATEVER THE INPUT: true; the input reads as it did. -/
def codecFieldsSpec : ChangeSpec := { name := "codecFields", fn := fun _ => fun
  | [d1, d2] => { results := [.lit (.bool true)], args := [d1, d2] }
  | _ => none }
def codecFieldsRow : OpenClaim := { program := "ytdlbhppoknbnlaa", sum := "6ee6d9d57c0af962d0790a247330c4e873c7dd0842ecea2d6b4655dcab5da8c1", func := "lectern/lecternlaw02.CodecFields", spec := "codecFields", unfollowed := true, recurses := true, apart := false }
def CodecFieldsSaid : Prop := codecFieldsRow.holds Try.pinned (OpenSpec.ofChange codecFieldsSpec)

/-- ITS FALSE NEIGHBOUR: 'it returns false'. Refute it at one input. -/
def codecFieldsWrong : ChangeSpec := { name := "codecFields", fn := fun _ => fun
  | [d1, d2] => { results := [.lit (.bool false)], args := [d1, d2] }
  | _ => none }
def CodecFieldsWrongFalsely : Prop := codecFieldsRow.holds Try.pinned (OpenSpec.ofChange codecFieldsWrong)

/-- 'lecternlaw02.CodecReads': WHATEVER THE INPUT: true; the input reads as it did. -/
def codecReadsSpec : ChangeSpec := { name := "codecReads", fn := fun _ => fun
  | [d1, d2] => { results := [.lit (.bool true)], args := [d1, d2] }
  | _ => none }
def codecReadsRow : OpenClaim := { program := "ytdlbhppoknbnlaa", sum := "6ee6d9d57c0af962d0790a247330c4e873c7dd0842ecea2d6b4655dcab5da8c1", func := "lectern/lecternlaw02.CodecReads", spec := "codecReads", unfollowed := true, recurses := true, apart := false }
def CodecReadsSaid : Prop := codecReadsRow.holds Try.pinned (OpenSpec.ofChange codecReadsSpec)

/-- ITS FALSE NEIGHBOUR: 'it returns false'. Refute it at one input. -/
def codecReadsWrong : ChangeSpec := { name := "codecReads", fn := fun _ => fun
  | [d1, d2] => { results := [.lit (.bool false)], args := [d1, d2] }
  | _ => none }
def CodecReadsWrongFalsely : Prop := codecReadsRow.holds Try.pinned (OpenSpec.ofChange codecReadsWrong)

/- THE SECOND FORM. 'bulk': how many values and letters a reading holds, each counted each time it is reached (what is shared counts as often as it is met; a slice's spare places count too). A statement '..UptoSaid' is the law's where the arguments, and the package variables that the reading takes, are together of bulk at most 1048576: NARROWER than '..Said'. Prove '..Said' where nothing that the law and all that it calls make is longer than what came in: it says more and counts as full. Else prove '..UptoSaid'. A law counts once. -/
mutual
def uptoBulk {H : Type} : DataW H → Nat
  | .lit (.string bytes) => bytes.length + 1
  | .lit _ => 1
  | .nil => 1
  | .ptr d => uptoBulk d + 1
  | .slice elems spare => uptoBulkAll elems + uptoBulkAll spare + 1
  | .agg parts => uptoBulkAll parts + 1
  | .iface _ d => uptoBulk d + 1
  | .map entries => uptoBulkEntries entries + 1
  | .held _ => 1
def uptoBulkAll {H : Type} : List (DataW H) → Nat
  | [] => 0
  | d :: r => uptoBulk d + uptoBulkAll r
def uptoBulkEntries {H : Type} : List (Lit × DataW H) → Nat
  | [] => 0
  | x :: r => uptoBulkEntry x + uptoBulkEntries r
def uptoBulkEntry {H : Type} : Lit × DataW H → Nat
  | (.string bytes, d) => bytes.length + uptoBulk d + 1
  | (_, d) => uptoBulk d + 1
 end
def uptoSmall : (H : Type) → List (DataW H) → Bool := fun _ ds => decide (uptoBulkAll ds ≤ 1048576)
def OpenSpec.upto (s : _root_.Go.ChangeSpec) : _root_.Go.OpenSpec := { _root_.Go.OpenSpec.ofChange s with cond := some uptoSmall }

/-- 'lecternlaw02.CodecShort', WHERE WHAT IT READS IS OF BULK AT MOST 1048576: true; the input reads as it did. -/
def codecShortUptoRow : OpenClaim := { program := "ytdlbhppoknbnlaa", sum := "6ee6d9d57c0af962d0790a247330c4e873c7dd0842ecea2d6b4655dcab5da8c1", func := "lectern/lecternlaw02.CodecShort", spec := "codecShort", unfollowed := true, recurses := true, apart := false, narrowed := true }
def CodecShortUptoSaid : Prop := codecShortUptoRow.holds Try.pinned (OpenSpec.upto codecShortSpec)

/-- 'lecternlaw02.CodecNumbers', WHERE WHAT IT READS IS OF BULK AT MOST 1048576: true; the input reads as it did. -/
def codecNumbersUptoRow : OpenClaim := { program := "ytdlbhppoknbnlaa", sum := "6ee6d9d57c0af962d0790a247330c4e873c7dd0842ecea2d6b4655dcab5da8c1", func := "lectern/lecternlaw02.CodecNumbers", spec := "codecNumbers", unfollowed := true, recurses := true, apart := false, narrowed := true }
def CodecNumbersUptoSaid : Prop := codecNumbersUptoRow.holds Try.pinned (OpenSpec.upto codecNumbersSpec)

/-- 'lecternlaw02.CodecOnce', WHERE WHAT IT READS IS OF BULK AT MOST 1048576: true; the input reads as it did. -/
def codecOnceUptoRow : OpenClaim := { program := "ytdlbhppoknbnlaa", sum := "6ee6d9d57c0af962d0790a247330c4e873c7dd0842ecea2d6b4655dcab5da8c1", func := "lectern/lecternlaw02.CodecOnce", spec := "codecOnce", unfollowed := true, recurses := true, apart := false, narrowed := true }
def CodecOnceUptoSaid : Prop := codecOnceUptoRow.holds Try.pinned (OpenSpec.upto codecOnceSpec)

/-- 'lecternlaw02.CodecReader', WHERE WHAT IT READS IS OF BULK AT MOST 1048576: true; the input reads as it did. -/
def codecReaderUptoRow : OpenClaim := { program := "ytdlbhppoknbnlaa", sum := "6ee6d9d57c0af962d0790a247330c4e873c7dd0842ecea2d6b4655dcab5da8c1", func := "lectern/lecternlaw02.CodecReader", spec := "codecReader", unfollowed := true, recurses := true, apart := false, narrowed := true }
def CodecReaderUptoSaid : Prop := codecReaderUptoRow.holds Try.pinned (OpenSpec.upto codecReaderSpec)

/-- 'lecternlaw02.CodecFields', WHERE WHAT IT READS IS OF BULK AT MOST 1048576: true; the input reads as it did. -/
def codecFieldsUptoRow : OpenClaim := { program := "ytdlbhppoknbnlaa", sum := "6ee6d9d57c0af962d0790a247330c4e873c7dd0842ecea2d6b4655dcab5da8c1", func := "lectern/lecternlaw02.CodecFields", spec := "codecFields", unfollowed := true, recurses := true, apart := false, narrowed := true }
def CodecFieldsUptoSaid : Prop := codecFieldsUptoRow.holds Try.pinned (OpenSpec.upto codecFieldsSpec)

/-- 'lecternlaw02.CodecReads', WHERE WHAT IT READS IS OF BULK AT MOST 1048576: true; the input reads as it did. -/
def codecReadsUptoRow : OpenClaim := { program := "ytdlbhppoknbnlaa", sum := "6ee6d9d57c0af962d0790a247330c4e873c7dd0842ecea2d6b4655dcab5da8c1", func := "lectern/lecternlaw02.CodecReads", spec := "codecReads", unfollowed := true, recurses := true, apart := false, narrowed := true }
def CodecReadsUptoSaid : Prop := codecReadsUptoRow.holds Try.pinned (OpenSpec.upto codecReadsSpec)

end Rows
end Go.Proofs.Ytdlbhppoknbnlaa

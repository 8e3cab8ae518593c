/-
  No cell of these rows narrows 'for every input' (looked for: loops, veiled, ifaces, maps, wideKeys, modest, calm, conditions, laid).
  DERIVED. THE GIVEN ROWS OF THIS SEAT. 4 by the template 'for every input the law returns true; each argument reads behind the call as it read before'; 0 by the template 'total and deterministic' (their statements: YtbppeodcnkghpaaTotals.lean).
  GIVEN WITH THE SEED: the statements are not yours to turn. If you find one false, say at which input.
  Laid BY PROGRAM, IN A SANDBOX (cutbox-rows.mjs): the forced cells as the released guide's own fill.sh prints them over the translation 474a59621f71b87b… (all of the seat's roots in one cut). By AI agents, Wed Nov 11 2026. No macro, syntax, notation, axiom, sorry.
-/
import Derived.Test.YtbppeodcnkghpaaChecked
import GoSem.Claim
import GoSem.ClaimJoined
import GoSem.ClaimMapViews
import Derived.JoinedTies
import Derived.KernelRfl
namespace Go.Proofs.Ytbppeodcnkghpaa
/- THE CELL 'sum', in the pinned program and in every row, IS THE sha256 OF THE DUMP (.gsa) THAT YtbppeodcnkghpaaProg.lean LOADS. Nothing in Lean hashes anything: it is a label: what it is worth is what the hold of that sum in a sandbox is worth. -/
noncomputable def Try.pinned : Pinned := { name := "ytbppeodcnkghpaa", sum := "474a59621f71b87bb58100dff559c3b9432b3def793ca44caf09e44d2ac050fe", checked := Try.checked }
namespace Rows
def none {H : Type} : Left H := { results := [], args := [] }

/-- 'posthouselaw7.ThreadsMatchSpec': WHATEVER THE INPUT: true; the input reads as it did. -/
def threadsMatchSpecSpec : ChangeSpec := { name := "threadsMatchSpec", fn := fun _ => fun
  | [d] => { results := [.lit (.bool true)], args := [d] }
  | _ => none }
def threadsMatchSpecRow : OpenClaim := { program := "ytbppeodcnkghpaa", sum := "474a59621f71b87bb58100dff559c3b9432b3def793ca44caf09e44d2ac050fe", func := "posthouse/posthouselaw7.ThreadsMatchSpec", spec := "threadsMatchSpec", unfollowed := true, recurses := true, apart := false }
def ThreadsMatchSpecSaid : Prop := threadsMatchSpecRow.holds Try.pinned (OpenSpec.ofChange threadsMatchSpecSpec)

/-- ITS FALSE NEIGHBOUR: 'it returns false'. Refute it at one input. -/
def threadsMatchSpecWrong : ChangeSpec := { name := "threadsMatchSpec", fn := fun _ => fun
  | [d] => { results := [.lit (.bool false)], args := [d] }
  | _ => none }
def ThreadsMatchSpecWrongFalsely : Prop := threadsMatchSpecRow.holds Try.pinned (OpenSpec.ofChange threadsMatchSpecWrong)

/-- 'posthouselaw7.ThreadsArrivalDoesNotMatter': WHATEVER THE INPUT: true; the input reads as it did. -/
def threadsArrivalDoesNotMatterSpec : ChangeSpec := { name := "threadsArrivalDoesNotMatter", fn := fun _ => fun
  | [d] => { results := [.lit (.bool true)], args := [d] }
  | _ => none }
def threadsArrivalDoesNotMatterRow : OpenClaim := { program := "ytbppeodcnkghpaa", sum := "474a59621f71b87bb58100dff559c3b9432b3def793ca44caf09e44d2ac050fe", func := "posthouse/posthouselaw7.ThreadsArrivalDoesNotMatter", spec := "threadsArrivalDoesNotMatter", unfollowed := true, recurses := true, apart := false }
def ThreadsArrivalDoesNotMatterSaid : Prop := threadsArrivalDoesNotMatterRow.holds Try.pinned (OpenSpec.ofChange threadsArrivalDoesNotMatterSpec)

/-- ITS FALSE NEIGHBOUR: 'it returns false'. Refute it at one input. -/
def threadsArrivalDoesNotMatterWrong : ChangeSpec := { name := "threadsArrivalDoesNotMatter", fn := fun _ => fun
  | [d] => { results := [.lit (.bool false)], args := [d] }
  | _ => none }
def ThreadsArrivalDoesNotMatterWrongFalsely : Prop := threadsArrivalDoesNotMatterRow.holds Try.pinned (OpenSpec.ofChange threadsArrivalDoesNotMatterWrong)

/-- 'posthouselaw7.ThreadsAnswersFollow': WHATEVER THE INPUT: true; the input reads as it did. -/
def threadsAnswersFollowSpec : ChangeSpec := { name := "threadsAnswersFollow", fn := fun _ => fun
  | [d] => { results := [.lit (.bool true)], args := [d] }
  | _ => none }
def threadsAnswersFollowRow : OpenClaim := { program := "ytbppeodcnkghpaa", sum := "474a59621f71b87bb58100dff559c3b9432b3def793ca44caf09e44d2ac050fe", func := "posthouse/posthouselaw7.ThreadsAnswersFollow", spec := "threadsAnswersFollow", unfollowed := true, recurses := true, apart := false }
def ThreadsAnswersFollowSaid : Prop := threadsAnswersFollowRow.holds Try.pinned (OpenSpec.ofChange threadsAnswersFollowSpec)

/-- ITS FALSE NEIGHBOUR: 'it returns false'. Refute it at one input. -/
def threadsAnswersFollowWrong : ChangeSpec := { name := "threadsAnswersFollow", fn := fun _ => fun
  | [d] => { results := [.lit (.bool false)], args := [d] }
  | _ => none }
def ThreadsAnswersFollowWrongFalsely : Prop := threadsAnswersFollowRow.holds Try.pinned (OpenSpec.ofChange threadsAnswersFollowWrong)

/-- 'posthouselaw7.ThreadsLaterLettersChangeNothing': WHATEVER THE INPUT: true; the input reads as it did. -/
def threadsLaterLettersChangeNothingSpec : ChangeSpec := { name := "threadsLaterLettersChangeNothing", fn := fun _ => fun
  | [d1, d2] => { results := [.lit (.bool true)], args := [d1, d2] }
  | _ => none }
def threadsLaterLettersChangeNothingRow : OpenClaim := { program := "ytbppeodcnkghpaa", sum := "474a59621f71b87bb58100dff559c3b9432b3def793ca44caf09e44d2ac050fe", func := "posthouse/posthouselaw7.ThreadsLaterLettersChangeNothing", spec := "threadsLaterLettersChangeNothing", unfollowed := true, recurses := true, apart := false }
def ThreadsLaterLettersChangeNothingSaid : Prop := threadsLaterLettersChangeNothingRow.holds Try.pinned (OpenSpec.ofChange threadsLaterLettersChangeNothingSpec)

/-- ITS FALSE NEIGHBOUR: 'it returns false'. Refute it at one input. -/
def threadsLaterLettersChangeNothingWrong : ChangeSpec := { name := "threadsLaterLettersChangeNothing", fn := fun _ => fun
  | [d1, d2] => { results := [.lit (.bool false)], args := [d1, d2] }
  | _ => none }
def ThreadsLaterLettersChangeNothingWrongFalsely : Prop := threadsLaterLettersChangeNothingRow.holds Try.pinned (OpenSpec.ofChange threadsLaterLettersChangeNothingWrong)

/- THE SECOND FORM. 'bulk': how many values and letters a reading holds, each counted each time it is reached (what is shared counts as often as it is met; a slice's spare places count too). A statement '..UptoSaid' is the law's where the arguments, and the package variables that the reading takes, are together of bulk at most 1048576: NARROWER than '..Said'. Prove '..Said' where nothing that the law and all that it calls make is longer than what came in: it says more and counts as full. Else prove '..UptoSaid'. A law counts once. -/
mutual
def uptoBulk {H : Type} : DataW H → Nat
  | .lit (.string bytes) => bytes.length + 1
  | .lit _ => 1
  | .nil => 1
  | .ptr d => uptoBulk d + 1
  | .slice elems spare => uptoBulkAll elems + uptoBulkAll spare + 1
  | .agg parts => uptoBulkAll parts + 1
  | .iface _ d => uptoBulk d + 1
  | .map entries => uptoBulkEntries entries + 1
  | .held _ => 1
def uptoBulkAll {H : Type} : List (DataW H) → Nat
  | [] => 0
  | d :: r => uptoBulk d + uptoBulkAll r
def uptoBulkEntries {H : Type} : List (Lit × DataW H) → Nat
  | [] => 0
  | x :: r => uptoBulkEntry x + uptoBulkEntries r
def uptoBulkEntry {H : Type} : Lit × DataW H → Nat
  | (.string bytes, d) => bytes.length + uptoBulk d + 1
  | (_, d) => uptoBulk d + 1
 end
def uptoSmall : (H : Type) → List (DataW H) → Bool := fun _ ds => decide (uptoBulkAll ds ≤ 1048576)
def OpenSpec.upto (s : _root_.Go.ChangeSpec) : _root_.Go.OpenSpec := { _root_.Go.OpenSpec.ofChange s with cond := some uptoSmall }

/-- 'posthouselaw7.ThreadsMatchSpec', WHERE WHAT IT READS IS OF BULK AT MOST 1048576: true; the input reads as it did. -/
def threadsMatchSpecUptoRow : OpenClaim := { program := "ytbppeodcnkghpaa", sum := "474a59621f71b87bb58100dff559c3b9432b3def793ca44caf09e44d2ac050fe", func := "posthouse/posthouselaw7.ThreadsMatchSpec", spec := "threadsMatchSpec", unfollowed := true, recurses := true, apart := false, narrowed := true }
def ThreadsMatchSpecUptoSaid : Prop := threadsMatchSpecUptoRow.holds Try.pinned (OpenSpec.upto threadsMatchSpecSpec)

/-- 'posthouselaw7.ThreadsArrivalDoesNotMatter', WHERE WHAT IT READS IS OF BULK AT MOST 1048576: true; the input reads as it did. -/
def threadsArrivalDoesNotMatterUptoRow : OpenClaim := { program := "ytbppeodcnkghpaa", sum := "474a59621f71b87bb58100dff559c3b9432b3def793ca44caf09e44d2ac050fe", func := "posthouse/posthouselaw7.ThreadsArrivalDoesNotMatter", spec := "threadsArrivalDoesNotMatter", unfollowed := true, recurses := true, apart := false, narrowed := true }
def ThreadsArrivalDoesNotMatterUptoSaid : Prop := threadsArrivalDoesNotMatterUptoRow.holds Try.pinned (OpenSpec.upto threadsArrivalDoesNotMatterSpec)

/-- 'posthouselaw7.ThreadsAnswersFollow', WHERE WHAT IT READS IS OF BULK AT MOST 1048576: true; the input reads as it did. -/
def threadsAnswersFollowUptoRow : OpenClaim := { program := "ytbppeodcnkghpaa", sum := "474a59621f71b87bb58100dff559c3b9432b3def793ca44caf09e44d2ac050fe", func := "posthouse/posthouselaw7.ThreadsAnswersFollow", spec := "threadsAnswersFollow", unfollowed := true, recurses := true, apart := false, narrowed := true }
def ThreadsAnswersFollowUptoSaid : Prop := threadsAnswersFollowUptoRow.holds Try.pinned (OpenSpec.upto threadsAnswersFollowSpec)

/-- 'posthouselaw7.ThreadsLaterLettersChangeNothing', WHERE WHAT IT READS IS OF BULK AT MOST 1048576: true; the input reads as it did. -/
def threadsLaterLettersChangeNothingUptoRow : OpenClaim := { program := "ytbppeodcnkghpaa", sum := "474a59621f71b87bb58100dff559c3b9432b3def793ca44caf09e44d2ac050fe", func := "posthouse/posthouselaw7.ThreadsLaterLettersChangeNothing", spec := "threadsLaterLettersChangeNothing", unfollowed := true, recurses := true, apart := false, narrowed := true }
def ThreadsLaterLettersChangeNothingUptoSaid : Prop := threadsLaterLettersChangeNothingUptoRow.holds Try.pinned (OpenSpec.upto threadsLaterLettersChangeNothingSpec)

end Rows
end Go.Proofs.Ytbppeodcnkghpaa

/-
  No cell of these rows narrows 'for every input' (looked for: loops, veiled, ifaces, maps, wideKeys, modest, calm, conditions, laid).
  DERIVED. THE GIVEN ROWS OF THIS SEAT. 4 by the template 'for every input the law returns true; each argument reads behind the call as it read before'; 0 by the template 'total and deterministic' (their statements: YtegmhhojpngklaaTotals.lean).
  GIVEN WITH THE SEED: the statements are not yours to turn. If you find one false, say at which input.
  Laid BY PROGRAM, IN A SANDBOX (cutbox-rows.mjs): the forced cells as the released guide's own fill.sh prints them over the translation 41c414c8963b87a0… (all of the seat's roots in one cut). By AI agents, Wed Nov 11 2026. No macro, syntax, notation, axiom, sorry.
-/
import Derived.Test.YtegmhhojpngklaaChecked
import GoSem.Claim
import GoSem.ClaimJoined
import GoSem.ClaimMapViews
import Derived.JoinedTies
import Derived.KernelRfl
namespace Go.Proofs.Ytegmhhojpngklaa
/- THE CELL 'sum', in the pinned program and in every row, IS THE sha256 OF THE DUMP (.gsa) THAT YtegmhhojpngklaaProg.lean LOADS. Nothing in Lean hashes anything: it is a label: what it is worth is what the hold of that sum in a sandbox is worth. -/
noncomputable def Try.pinned : Pinned := { name := "ytegmhhojpngklaa", sum := "41c414c8963b87a0de5ba71c5a4bd2d5988285c67cc7b63e5347a63113f241a9", checked := Try.checked }
namespace Rows
def none {H : Type} : Left H := { results := [], args := [] }

/-- 'posthouselaw7.RightsMatchSpec': WHATEVER THE INPUT: true; the input reads as it did. -/
def rightsMatchSpecSpec : ChangeSpec := { name := "rightsMatchSpec", fn := fun _ => fun
  | [d1, d2, d3, d4] => { results := [.lit (.bool true)], args := [d1, d2, d3, d4] }
  | _ => none }
def rightsMatchSpecRow : OpenClaim := { program := "ytegmhhojpngklaa", sum := "41c414c8963b87a0de5ba71c5a4bd2d5988285c67cc7b63e5347a63113f241a9", func := "posthouse/posthouselaw7.RightsMatchSpec", spec := "rightsMatchSpec", inPlace := ["slices.overlaps[posthouse/api.Grant]"], unfollowed := true, recurses := true, apart := false }
def RightsMatchSpecSaid : Prop := rightsMatchSpecRow.holds Try.pinned (OpenSpec.ofChange rightsMatchSpecSpec)

/-- ITS FALSE NEIGHBOUR: 'it returns false'. Refute it at one input. -/
def rightsMatchSpecWrong : ChangeSpec := { name := "rightsMatchSpec", fn := fun _ => fun
  | [d1, d2, d3, d4] => { results := [.lit (.bool false)], args := [d1, d2, d3, d4] }
  | _ => none }
def RightsMatchSpecWrongFalsely : Prop := rightsMatchSpecRow.holds Try.pinned (OpenSpec.ofChange rightsMatchSpecWrong)

/-- 'posthouselaw7.RightsSetIsSeen': WHATEVER THE INPUT: true; the input reads as it did. -/
def rightsSetIsSeenSpec : ChangeSpec := { name := "rightsSetIsSeen", fn := fun _ => fun
  | [d1, d2, d3, d4, d5] => { results := [.lit (.bool true)], args := [d1, d2, d3, d4, d5] }
  | _ => none }
def rightsSetIsSeenRow : OpenClaim := { program := "ytegmhhojpngklaa", sum := "41c414c8963b87a0de5ba71c5a4bd2d5988285c67cc7b63e5347a63113f241a9", func := "posthouse/posthouselaw7.RightsSetIsSeen", spec := "rightsSetIsSeen", inPlace := ["slices.overlaps[posthouse/api.Grant]"], unfollowed := true, recurses := true, apart := false }
def RightsSetIsSeenSaid : Prop := rightsSetIsSeenRow.holds Try.pinned (OpenSpec.ofChange rightsSetIsSeenSpec)

/-- ITS FALSE NEIGHBOUR: 'it returns false'. Refute it at one input. -/
def rightsSetIsSeenWrong : ChangeSpec := { name := "rightsSetIsSeen", fn := fun _ => fun
  | [d1, d2, d3, d4, d5] => { results := [.lit (.bool false)], args := [d1, d2, d3, d4, d5] }
  | _ => none }
def RightsSetIsSeenWrongFalsely : Prop := rightsSetIsSeenRow.holds Try.pinned (OpenSpec.ofChange rightsSetIsSeenWrong)

/-- 'posthouselaw7.RightsSetTwiceIsOnce': WHATEVER THE INPUT: true; the input reads as it did. -/
def rightsSetTwiceIsOnceSpec : ChangeSpec := { name := "rightsSetTwiceIsOnce", fn := fun _ => fun
  | [d1, d2] => { results := [.lit (.bool true)], args := [d1, d2] }
  | _ => none }
def rightsSetTwiceIsOnceRow : OpenClaim := { program := "ytegmhhojpngklaa", sum := "41c414c8963b87a0de5ba71c5a4bd2d5988285c67cc7b63e5347a63113f241a9", func := "posthouse/posthouselaw7.RightsSetTwiceIsOnce", spec := "rightsSetTwiceIsOnce", inPlace := ["slices.overlaps[posthouse/api.Grant]"], unfollowed := true, recurses := true, apart := false }
def RightsSetTwiceIsOnceSaid : Prop := rightsSetTwiceIsOnceRow.holds Try.pinned (OpenSpec.ofChange rightsSetTwiceIsOnceSpec)

/-- ITS FALSE NEIGHBOUR: 'it returns false'. Refute it at one input. -/
def rightsSetTwiceIsOnceWrong : ChangeSpec := { name := "rightsSetTwiceIsOnce", fn := fun _ => fun
  | [d1, d2] => { results := [.lit (.bool false)], args := [d1, d2] }
  | _ => none }
def RightsSetTwiceIsOnceWrongFalsely : Prop := rightsSetTwiceIsOnceRow.holds Try.pinned (OpenSpec.ofChange rightsSetTwiceIsOnceWrong)

/-- 'posthouselaw7.RightsStrangersAreUnaffected': WHATEVER THE INPUT: true; the input reads as it did. -/
def rightsStrangersAreUnaffectedSpec : ChangeSpec := { name := "rightsStrangersAreUnaffected", fn := fun _ => fun
  | [d1, d2, d3, d4, d5] => { results := [.lit (.bool true)], args := [d1, d2, d3, d4, d5] }
  | _ => none }
def rightsStrangersAreUnaffectedRow : OpenClaim := { program := "ytegmhhojpngklaa", sum := "41c414c8963b87a0de5ba71c5a4bd2d5988285c67cc7b63e5347a63113f241a9", func := "posthouse/posthouselaw7.RightsStrangersAreUnaffected", spec := "rightsStrangersAreUnaffected", inPlace := ["slices.overlaps[posthouse/api.Grant]"], unfollowed := true, recurses := true, apart := false }
def RightsStrangersAreUnaffectedSaid : Prop := rightsStrangersAreUnaffectedRow.holds Try.pinned (OpenSpec.ofChange rightsStrangersAreUnaffectedSpec)

/-- ITS FALSE NEIGHBOUR: 'it returns false'. Refute it at one input. -/
def rightsStrangersAreUnaffectedWrong : ChangeSpec := { name := "rightsStrangersAreUnaffected", fn := fun _ => fun
  | [d1, d2, d3, d4, d5] => { results := [.lit (.bool false)], args := [d1, d2, d3, d4, d5] }
  | _ => none }
def RightsStrangersAreUnaffectedWrongFalsely : Prop := rightsStrangersAreUnaffectedRow.holds Try.pinned (OpenSpec.ofChange rightsStrangersAreUnaffectedWrong)

/- THE SECOND FORM. 'bulk': how many values and letters a reading holds, each counted each time it is reached (what is shared counts as often as it is met; a slice's spare places count too). A statement '..UptoSaid' is the law's where the arguments, and the package variables that the reading takes, are together of bulk at most 1048576: NARROWER than '..Said'. Prove '..Said' where nothing that the law and all that it calls make is longer than what came in: it says more and counts as full. Else prove '..UptoSaid'. A law counts once. -/
mutual
def uptoBulk {H : Type} : DataW H → Nat
  | .lit (.string bytes) => bytes.length + 1
  | .lit _ => 1
  | .nil => 1
  | .ptr d => uptoBulk d + 1
  | .slice elems spare => uptoBulkAll elems + uptoBulkAll spare + 1
  | .agg parts => uptoBulkAll parts + 1
  | .iface _ d => uptoBulk d + 1
  | .map entries => uptoBulkEntries entries + 1
  | .held _ => 1
def uptoBulkAll {H : Type} : List (DataW H) → Nat
  | [] => 0
  | d :: r => uptoBulk d + uptoBulkAll r
def uptoBulkEntries {H : Type} : List (Lit × DataW H) → Nat
  | [] => 0
  | x :: r => uptoBulkEntry x + uptoBulkEntries r
def uptoBulkEntry {H : Type} : Lit × DataW H → Nat
  | (.string bytes, d) => bytes.length + uptoBulk d + 1
  | (_, d) => uptoBulk d + 1
 end
def uptoSmall : (H : Type) → List (DataW H) → Bool := fun _ ds => decide (uptoBulkAll ds ≤ 1048576)
def OpenSpec.upto (s : _root_.Go.ChangeSpec) : _root_.Go.OpenSpec := { _root_.Go.OpenSpec.ofChange s with cond := some uptoSmall }

/-- 'posthouselaw7.RightsMatchSpec', WHERE WHAT IT READS IS OF BULK AT MOST 1048576: true; the input reads as it did. -/
def rightsMatchSpecUptoRow : OpenClaim := { program := "ytegmhhojpngklaa", sum := "41c414c8963b87a0de5ba71c5a4bd2d5988285c67cc7b63e5347a63113f241a9", func := "posthouse/posthouselaw7.RightsMatchSpec", spec := "rightsMatchSpec", inPlace := ["slices.overlaps[posthouse/api.Grant]"], unfollowed := true, recurses := true, apart := false, narrowed := true }
def RightsMatchSpecUptoSaid : Prop := rightsMatchSpecUptoRow.holds Try.pinned (OpenSpec.upto rightsMatchSpecSpec)

/-- 'posthouselaw7.RightsSetIsSeen', WHERE WHAT IT READS IS OF BULK AT MOST 1048576: true; the input reads as it did. -/
def rightsSetIsSeenUptoRow : OpenClaim := { program := "ytegmhhojpngklaa", sum := "41c414c8963b87a0de5ba71c5a4bd2d5988285c67cc7b63e5347a63113f241a9", func := "posthouse/posthouselaw7.RightsSetIsSeen", spec := "rightsSetIsSeen", inPlace := ["slices.overlaps[posthouse/api.Grant]"], unfollowed := true, recurses := true, apart := false, narrowed := true }
def RightsSetIsSeenUptoSaid : Prop := rightsSetIsSeenUptoRow.holds Try.pinned (OpenSpec.upto rightsSetIsSeenSpec)

/-- 'posthouselaw7.RightsSetTwiceIsOnce', WHERE WHAT IT READS IS OF BULK AT MOST 1048576: true; the input reads as it did. -/
def rightsSetTwiceIsOnceUptoRow : OpenClaim := { program := "ytegmhhojpngklaa", sum := "41c414c8963b87a0de5ba71c5a4bd2d5988285c67cc7b63e5347a63113f241a9", func := "posthouse/posthouselaw7.RightsSetTwiceIsOnce", spec := "rightsSetTwiceIsOnce", inPlace := ["slices.overlaps[posthouse/api.Grant]"], unfollowed := true, recurses := true, apart := false, narrowed := true }
def RightsSetTwiceIsOnceUptoSaid : Prop := rightsSetTwiceIsOnceUptoRow.holds Try.pinned (OpenSpec.upto rightsSetTwiceIsOnceSpec)

/-- 'posthouselaw7.RightsStrangersAreUnaffected', WHERE WHAT IT READS IS OF BULK AT MOST 1048576: true; the input reads as it did. -/
def rightsStrangersAreUnaffectedUptoRow : OpenClaim := { program := "ytegmhhojpngklaa", sum := "41c414c8963b87a0de5ba71c5a4bd2d5988285c67cc7b63e5347a63113f241a9", func := "posthouse/posthouselaw7.RightsStrangersAreUnaffected", spec := "rightsStrangersAreUnaffected", inPlace := ["slices.overlaps[posthouse/api.Grant]"], unfollowed := true, recurses := true, apart := false, narrowed := true }
def RightsStrangersAreUnaffectedUptoSaid : Prop := rightsStrangersAreUnaffectedUptoRow.holds Try.pinned (OpenSpec.upto rightsStrangersAreUnaffectedSpec)

end Rows
end Go.Proofs.Ytegmhhojpngklaa

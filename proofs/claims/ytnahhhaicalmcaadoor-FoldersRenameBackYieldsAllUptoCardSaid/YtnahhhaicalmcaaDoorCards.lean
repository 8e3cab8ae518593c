/-
  DERIVED. GIVEN WITH THE SEED: THE CARDS: each row of YtnahhhaicalmcaaDoorRows.lean that lists a variable, with what it lists TIED to the program's text (the seventh form; the later family's looks); each row that meets fmt, with fmt's text TOLD by the authors' own Lean function (tested against real Go, not proved from fmt's source: count such statements apart). THE CARD IS WHAT COUNTS. Prove the row's statement (the work); the ties are given (YtnahhhaicalmcaaDoorTie.lean); close each card by the builder's one call (the guide's Derived/Test/ToyasCard.lean, 'card_holds'). Laid BY PROGRAM, IN A SANDBOX (cutbox-door.mjs). By AI agents, Wed Nov 11 2026. No macro, syntax, notation, axiom, sorry.
-/
import Derived.Test.YtnahhhaicalmcaaDoorRows
import GoSem.ClaimSeven
namespace Go.Proofs.YtnahhhaicalmcaaDoor
namespace Rows

/-- THE TIED CARD OF 'posthouselaw7.FoldersStayValid'. -/
def foldersStayValidCard : Claim7 := { stood := { row := foldersStayValidRow, standIns := [], harness := (true, "31c9e1ca6dc413d6a3f8be7bded878dd045627c095833d1cb59f33239b52a392"), looks := false }, kinds := [], alts := [], laidByText := true, laidKinds := [.data, .pinned], laidTests := true, laidLooks := .later }
def FoldersStayValidCardSaid : Prop := Claim7.holds Tryd.pinned (.plain (OpenSpec.ofChange foldersStayValidSpec)) foldersStayValidCard

/-- THE TIED CARD OF 'posthouselaw7.FoldersRenameBackYieldsAll'. -/
def foldersRenameBackYieldsAllCard : Claim7 := { stood := { row := foldersRenameBackYieldsAllRow, standIns := [], harness := (true, "31c9e1ca6dc413d6a3f8be7bded878dd045627c095833d1cb59f33239b52a392"), looks := false }, kinds := [], alts := [], laidByText := true, laidKinds := [.data, .pinned], laidTests := true, laidLooks := .later }
def FoldersRenameBackYieldsAllCardSaid : Prop := Claim7.holds Tryd.pinned (.plain (OpenSpec.ofChange foldersRenameBackYieldsAllSpec)) foldersRenameBackYieldsAllCard

/-- THE TIED CARD OF 'posthouselaw7.FoldersDeleteUndoesCreate'. -/
def foldersDeleteUndoesCreateCard : Claim7 := { stood := { row := foldersDeleteUndoesCreateRow, standIns := [], harness := (true, "31c9e1ca6dc413d6a3f8be7bded878dd045627c095833d1cb59f33239b52a392"), looks := false }, kinds := [], alts := [], laidByText := true, laidKinds := [.data, .pinned], laidTests := true, laidLooks := .later }
def FoldersDeleteUndoesCreateCardSaid : Prop := Claim7.holds Tryd.pinned (.plain (OpenSpec.ofChange foldersDeleteUndoesCreateSpec)) foldersDeleteUndoesCreateCard

/-- THE SECOND FORM's CARD OF 'posthouselaw7.FoldersStayValid'. -/
def foldersStayValidUptoCard : Claim7 := { stood := { row := foldersStayValidUptoRow, standIns := [], harness := (true, "31c9e1ca6dc413d6a3f8be7bded878dd045627c095833d1cb59f33239b52a392"), looks := false }, kinds := [], alts := [], laidByText := true, laidKinds := [.data, .pinned], laidTests := true, laidLooks := .later }
def FoldersStayValidUptoCardSaid : Prop := Claim7.holds Tryd.pinned (.plain (OpenSpec.upto foldersStayValidSpec)) foldersStayValidUptoCard

/-- THE SECOND FORM's CARD OF 'posthouselaw7.FoldersRenameBackYieldsAll'. -/
def foldersRenameBackYieldsAllUptoCard : Claim7 := { stood := { row := foldersRenameBackYieldsAllUptoRow, standIns := [], harness := (true, "31c9e1ca6dc413d6a3f8be7bded878dd045627c095833d1cb59f33239b52a392"), looks := false }, kinds := [], alts := [], laidByText := true, laidKinds := [.data, .pinned], laidTests := true, laidLooks := .later }
def FoldersRenameBackYieldsAllUptoCardSaid : Prop := Claim7.holds Tryd.pinned (.plain (OpenSpec.upto foldersRenameBackYieldsAllSpec)) foldersRenameBackYieldsAllUptoCard

/-- THE SECOND FORM's CARD OF 'posthouselaw7.FoldersDeleteUndoesCreate'. -/
def foldersDeleteUndoesCreateUptoCard : Claim7 := { stood := { row := foldersDeleteUndoesCreateUptoRow, standIns := [], harness := (true, "31c9e1ca6dc413d6a3f8be7bded878dd045627c095833d1cb59f33239b52a392"), looks := false }, kinds := [], alts := [], laidByText := true, laidKinds := [.data, .pinned], laidTests := true, laidLooks := .later }
def FoldersDeleteUndoesCreateUptoCardSaid : Prop := Claim7.holds Tryd.pinned (.plain (OpenSpec.upto foldersDeleteUndoesCreateSpec)) foldersDeleteUndoesCreateUptoCard
end Rows
end Go.Proofs.YtnahhhaicalmcaaDoor

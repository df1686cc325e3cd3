/-
  DERIVED. GIVEN WITH THE SEED: THE CARDS: each row of YtgonkdfednoclaaDoorRows.lean that lists a variable, with what it lists TIED to the program's text (the seventh form; the later family's looks); each row that meets fmt, with fmt's text TOLD by the authors' own Lean function (tested against real Go, not proved from fmt's source: count such statements apart). THE CARD IS WHAT COUNTS. Prove the row's statement (the work); the ties are given (YtgonkdfednoclaaDoorTie.lean); close each card by the builder's one call (the guide's Derived/Test/ToyasCard.lean, 'card_holds'). Laid BY PROGRAM, IN A SANDBOX (cutbox-door.mjs). By AI agents, Wed Nov 11 2026. No macro, syntax, notation, axiom, sorry.
-/
import Derived.Test.YtgonkdfednoclaaDoorRows
import GoSem.ClaimSeven
namespace Go.Proofs.YtgonkdfednoclaaDoor
namespace Rows

/-- THE TIED CARD OF 'grommetlaw02.RowsBoth'. -/
def rowsBothCard : Claim7 := { stood := { row := rowsBothRow, standIns := [], harness := (true, "460af65707471f7e73405eeb4fdb7890bc8aa82723fe28a1b7841d1ccdfb44ad"), looks := false }, kinds := [], alts := [], laidByText := true, laidKinds := [.data, .pinned], laidTests := true, laidLooks := .later }
def RowsBothCardSaid : Prop := Claim7.holds Tryd.pinned (.plain (OpenSpec.ofChange rowsBothSpec)) rowsBothCard

/-- THE TIED CARD OF 'grommetlaw02.RowsBelow'. -/
def rowsBelowCard : Claim7 := { stood := { row := rowsBelowRow, standIns := [], harness := (true, "460af65707471f7e73405eeb4fdb7890bc8aa82723fe28a1b7841d1ccdfb44ad"), looks := false }, kinds := [], alts := [], laidByText := true, laidKinds := [.data, .pinned], laidTests := true, laidLooks := .later }
def RowsBelowCardSaid : Prop := Claim7.holds Tryd.pinned (.plain (OpenSpec.ofChange rowsBelowSpec)) rowsBelowCard

/-- THE TIED CARD OF 'grommetlaw02.RowsBack'. -/
def rowsBackCard : Claim7 := { stood := { row := rowsBackRow, standIns := [], harness := (true, "460af65707471f7e73405eeb4fdb7890bc8aa82723fe28a1b7841d1ccdfb44ad"), looks := false }, kinds := [], alts := [], laidByText := true, laidKinds := [.data, .pinned], laidTests := true, laidLooks := .later }
def RowsBackCardSaid : Prop := Claim7.holds Tryd.pinned (.plain (OpenSpec.ofChange rowsBackSpec)) rowsBackCard

/-- THE TIED CARD OF 'grommetlaw02.RowsWrites'. -/
def rowsWritesCard : Claim7 := { stood := { row := rowsWritesRow, standIns := [], harness := (true, "460af65707471f7e73405eeb4fdb7890bc8aa82723fe28a1b7841d1ccdfb44ad"), looks := false }, kinds := [], alts := [], laidByText := true, laidKinds := [.data, .pinned], laidTests := true, laidLooks := .later }
def RowsWritesCardSaid : Prop := Claim7.holds Tryd.pinned (.plain (OpenSpec.ofChange rowsWritesSpec)) rowsWritesCard

/-- THE SECOND FORM's CARD OF 'grommetlaw02.RowsBoth'. -/
def rowsBothUptoCard : Claim7 := { stood := { row := rowsBothUptoRow, standIns := [], harness := (true, "460af65707471f7e73405eeb4fdb7890bc8aa82723fe28a1b7841d1ccdfb44ad"), looks := false }, kinds := [], alts := [], laidByText := true, laidKinds := [.data, .pinned], laidTests := true, laidLooks := .later }
def RowsBothUptoCardSaid : Prop := Claim7.holds Tryd.pinned (.plain (OpenSpec.upto rowsBothSpec)) rowsBothUptoCard

/-- THE SECOND FORM's CARD OF 'grommetlaw02.RowsBelow'. -/
def rowsBelowUptoCard : Claim7 := { stood := { row := rowsBelowUptoRow, standIns := [], harness := (true, "460af65707471f7e73405eeb4fdb7890bc8aa82723fe28a1b7841d1ccdfb44ad"), looks := false }, kinds := [], alts := [], laidByText := true, laidKinds := [.data, .pinned], laidTests := true, laidLooks := .later }
def RowsBelowUptoCardSaid : Prop := Claim7.holds Tryd.pinned (.plain (OpenSpec.upto rowsBelowSpec)) rowsBelowUptoCard

/-- THE SECOND FORM's CARD OF 'grommetlaw02.RowsBack'. -/
def rowsBackUptoCard : Claim7 := { stood := { row := rowsBackUptoRow, standIns := [], harness := (true, "460af65707471f7e73405eeb4fdb7890bc8aa82723fe28a1b7841d1ccdfb44ad"), looks := false }, kinds := [], alts := [], laidByText := true, laidKinds := [.data, .pinned], laidTests := true, laidLooks := .later }
def RowsBackUptoCardSaid : Prop := Claim7.holds Tryd.pinned (.plain (OpenSpec.upto rowsBackSpec)) rowsBackUptoCard

/-- THE SECOND FORM's CARD OF 'grommetlaw02.RowsWrites'. -/
def rowsWritesUptoCard : Claim7 := { stood := { row := rowsWritesUptoRow, standIns := [], harness := (true, "460af65707471f7e73405eeb4fdb7890bc8aa82723fe28a1b7841d1ccdfb44ad"), looks := false }, kinds := [], alts := [], laidByText := true, laidKinds := [.data, .pinned], laidTests := true, laidLooks := .later }
def RowsWritesUptoCardSaid : Prop := Claim7.holds Tryd.pinned (.plain (OpenSpec.upto rowsWritesSpec)) rowsWritesUptoCard
end Rows
end Go.Proofs.YtgonkdfednoclaaDoor

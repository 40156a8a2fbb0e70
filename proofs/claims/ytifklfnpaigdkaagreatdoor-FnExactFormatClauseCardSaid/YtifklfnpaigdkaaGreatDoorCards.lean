/-
  DERIVED. GIVEN WITH THE SEED: THE CARDS: each row of YtifklfnpaigdkaaGreatDoorRows.lean that lists a variable, with what it lists TIED to the program's text (the seventh form; the later family's looks); each row that meets fmt, with fmt's text TOLD by the authors' own Lean function (tested against real Go, not proved from fmt's source: count such statements apart). THE CARD IS WHAT COUNTS. Prove the row's statement (the work); the ties are given (YtifklfnpaigdkaaGreatDoorTie.lean); close each card by the builder's one call (the guide's Derived/Test/ToyasCard.lean, 'card_holds'). Laid BY PROGRAM, IN A SANDBOX (cutbox-door.mjs). By AI agents, Wed Nov 11 2026. No macro, syntax, notation, axiom, sorry.
-/
import Derived.Test.YtifklfnpaigdkaaGreatDoorRows
import GoSem.ClaimSeven
namespace Go.Proofs.YtifklfnpaigdkaaGreatDoor
namespace Rows

/-- THE TIED CARD OF 'laws.FnExactFormatClause'. -/
def fnExactFormatClauseCard : Claim7 := { stood := { row := fnExactFormatClauseRow, standIns := [], harness := (true, "d8d896c082dcfcdc22d26d202ae9ec0c7985c22e1022f5cb0f693bcaa99067b2"), looks := false }, kinds := [], alts := [], laidByText := true, laidKinds := [.data, .data, .data], laidTests := true, laidLooks := .later }
def FnExactFormatClauseCardSaid : Prop := Claim7.holds Tryz.pinned (.plain (OpenSpec.ofChange fnExactFormatClauseSpec)) fnExactFormatClauseCard

/-- THE TIED CARD OF 'laws.FnExactFormatProgram'. -/
def fnExactFormatProgramCard : Claim7 := { stood := { row := fnExactFormatProgramRow, standIns := [], harness := (true, "d8d896c082dcfcdc22d26d202ae9ec0c7985c22e1022f5cb0f693bcaa99067b2"), looks := false }, kinds := [], alts := [], laidByText := true, laidKinds := [.data, .data, .data], laidTests := true, laidLooks := .later }
def FnExactFormatProgramCardSaid : Prop := Claim7.holds Tryz.pinned (.plain (OpenSpec.ofChange fnExactFormatProgramSpec)) fnExactFormatProgramCard

/-- THE SECOND FORM's CARD OF 'laws.FnExactFormatClause'. -/
def fnExactFormatClauseUptoCard : Claim7 := { stood := { row := fnExactFormatClauseUptoRow, standIns := [], harness := (true, "d8d896c082dcfcdc22d26d202ae9ec0c7985c22e1022f5cb0f693bcaa99067b2"), looks := false }, kinds := [], alts := [], laidByText := true, laidKinds := [.data, .data, .data], laidTests := true, laidLooks := .later }
def FnExactFormatClauseUptoCardSaid : Prop := Claim7.holds Tryz.pinned (.plain (OpenSpec.upto fnExactFormatClauseSpec)) fnExactFormatClauseUptoCard

/-- THE SECOND FORM's CARD OF 'laws.FnExactFormatProgram'. -/
def fnExactFormatProgramUptoCard : Claim7 := { stood := { row := fnExactFormatProgramUptoRow, standIns := [], harness := (true, "d8d896c082dcfcdc22d26d202ae9ec0c7985c22e1022f5cb0f693bcaa99067b2"), looks := false }, kinds := [], alts := [], laidByText := true, laidKinds := [.data, .data, .data], laidTests := true, laidLooks := .later }
def FnExactFormatProgramUptoCardSaid : Prop := Claim7.holds Tryz.pinned (.plain (OpenSpec.upto fnExactFormatProgramSpec)) fnExactFormatProgramUptoCard
end Rows
end Go.Proofs.YtifklfnpaigdkaaGreatDoor

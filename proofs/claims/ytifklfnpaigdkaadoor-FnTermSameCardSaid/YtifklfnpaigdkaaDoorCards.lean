/-
  DERIVED. GIVEN WITH THE SEED: THE CARDS: each row of YtifklfnpaigdkaaDoorRows.lean that lists a variable, with what it lists TIED to the program's text (the seventh form; the later family's looks); each row that meets fmt, with fmt's text TOLD by the authors' own Lean function (tested against real Go, not proved from fmt's source: count such statements apart). THE CARD IS WHAT COUNTS. Prove the row's statement (the work); the ties are given (YtifklfnpaigdkaaDoorTie.lean); close each card by the builder's one call (the guide's Derived/Test/ToyasCard.lean, 'card_holds'). Laid BY PROGRAM, IN A SANDBOX (cutbox-door.mjs). By AI agents, Wed Nov 11 2026. No macro, syntax, notation, axiom, sorry.
-/
import Derived.Test.YtifklfnpaigdkaaDoorRows
import GoSem.ClaimSeven
namespace Go.Proofs.YtifklfnpaigdkaaDoor
namespace Rows

/-- THE TIED CARD OF 'laws.FnExactFormatTerm'. -/
def fnExactFormatTermCard : Claim7 := { stood := { row := fnExactFormatTermRow, standIns := [], harness := (true, "0b67ecbb2604b4d1b6f27536831d155df0e51643cddc244523c0cec399035d6c"), looks := false }, kinds := [], alts := [], laidByText := true, laidKinds := [.data, .data, .data], laidTests := true, laidLooks := .later }
def FnExactFormatTermCardSaid : Prop := Claim7.holds Tryd.pinned (.plain (OpenSpec.ofChange fnExactFormatTermSpec)) fnExactFormatTermCard

/-- THE TIED CARD OF 'laws.FnExactWriteTerm'. -/
def fnExactWriteTermCard : Claim7 := { stood := { row := fnExactWriteTermRow, standIns := [], harness := (true, "0b67ecbb2604b4d1b6f27536831d155df0e51643cddc244523c0cec399035d6c"), looks := false }, kinds := [], alts := [], laidByText := true, laidKinds := [.data, .data, .data], laidTests := true, laidLooks := .later }
def FnExactWriteTermCardSaid : Prop := Claim7.holds Tryd.pinned (.plain (OpenSpec.ofChange fnExactWriteTermSpec)) fnExactWriteTermCard

/-- THE TIED CARD OF 'laws.FnWriteShort'. -/
def fnWriteShortCard : Claim7 := { stood := { row := fnWriteShortRow, standIns := [], harness := (true, "0b67ecbb2604b4d1b6f27536831d155df0e51643cddc244523c0cec399035d6c"), looks := false }, kinds := [], alts := [], laidByText := true, laidKinds := [.data, .data, .data], laidTests := true, laidLooks := .later }
def FnWriteShortCardSaid : Prop := Claim7.holds Tryd.pinned (.plain (OpenSpec.ofChange fnWriteShortSpec)) fnWriteShortCard

/-- THE TIED CARD OF 'laws.FnOpLevel'. -/
def fnOpLevelCard : Claim7 := { stood := { row := fnOpLevelRow, standIns := [], harness := (true, "0b67ecbb2604b4d1b6f27536831d155df0e51643cddc244523c0cec399035d6c"), looks := false }, kinds := [], alts := [], laidByText := true, laidKinds := [.data, .data, .data], laidTests := true, laidLooks := .later }
def FnOpLevelCardSaid : Prop := Claim7.holds Tryd.pinned (.plain (OpenSpec.ofChange fnOpLevelSpec)) fnOpLevelCard

/-- THE TIED CARD OF 'laws.FnTermSame'. -/
def fnTermSameCard : Claim7 := { stood := { row := fnTermSameRow, standIns := [], harness := (true, "0b67ecbb2604b4d1b6f27536831d155df0e51643cddc244523c0cec399035d6c"), looks := false }, kinds := [], alts := [], laidByText := true, laidKinds := [.data, .data, .data], laidTests := true, laidLooks := .later }
def FnTermSameCardSaid : Prop := Claim7.holds Tryd.pinned (.plain (OpenSpec.ofChange fnTermSameSpec)) fnTermSameCard

/-- THE SECOND FORM's CARD OF 'laws.FnExactFormatTerm'. -/
def fnExactFormatTermUptoCard : Claim7 := { stood := { row := fnExactFormatTermUptoRow, standIns := [], harness := (true, "0b67ecbb2604b4d1b6f27536831d155df0e51643cddc244523c0cec399035d6c"), looks := false }, kinds := [], alts := [], laidByText := true, laidKinds := [.data, .data, .data], laidTests := true, laidLooks := .later }
def FnExactFormatTermUptoCardSaid : Prop := Claim7.holds Tryd.pinned (.plain (OpenSpec.upto fnExactFormatTermSpec)) fnExactFormatTermUptoCard

/-- THE SECOND FORM's CARD OF 'laws.FnExactWriteTerm'. -/
def fnExactWriteTermUptoCard : Claim7 := { stood := { row := fnExactWriteTermUptoRow, standIns := [], harness := (true, "0b67ecbb2604b4d1b6f27536831d155df0e51643cddc244523c0cec399035d6c"), looks := false }, kinds := [], alts := [], laidByText := true, laidKinds := [.data, .data, .data], laidTests := true, laidLooks := .later }
def FnExactWriteTermUptoCardSaid : Prop := Claim7.holds Tryd.pinned (.plain (OpenSpec.upto fnExactWriteTermSpec)) fnExactWriteTermUptoCard

/-- THE SECOND FORM's CARD OF 'laws.FnWriteShort'. -/
def fnWriteShortUptoCard : Claim7 := { stood := { row := fnWriteShortUptoRow, standIns := [], harness := (true, "0b67ecbb2604b4d1b6f27536831d155df0e51643cddc244523c0cec399035d6c"), looks := false }, kinds := [], alts := [], laidByText := true, laidKinds := [.data, .data, .data], laidTests := true, laidLooks := .later }
def FnWriteShortUptoCardSaid : Prop := Claim7.holds Tryd.pinned (.plain (OpenSpec.upto fnWriteShortSpec)) fnWriteShortUptoCard

/-- THE SECOND FORM's CARD OF 'laws.FnOpLevel'. -/
def fnOpLevelUptoCard : Claim7 := { stood := { row := fnOpLevelUptoRow, standIns := [], harness := (true, "0b67ecbb2604b4d1b6f27536831d155df0e51643cddc244523c0cec399035d6c"), looks := false }, kinds := [], alts := [], laidByText := true, laidKinds := [.data, .data, .data], laidTests := true, laidLooks := .later }
def FnOpLevelUptoCardSaid : Prop := Claim7.holds Tryd.pinned (.plain (OpenSpec.upto fnOpLevelSpec)) fnOpLevelUptoCard

/-- THE SECOND FORM's CARD OF 'laws.FnTermSame'. -/
def fnTermSameUptoCard : Claim7 := { stood := { row := fnTermSameUptoRow, standIns := [], harness := (true, "0b67ecbb2604b4d1b6f27536831d155df0e51643cddc244523c0cec399035d6c"), looks := false }, kinds := [], alts := [], laidByText := true, laidKinds := [.data, .data, .data], laidTests := true, laidLooks := .later }
def FnTermSameUptoCardSaid : Prop := Claim7.holds Tryd.pinned (.plain (OpenSpec.upto fnTermSameSpec)) fnTermSameUptoCard
end Rows
end Go.Proofs.YtifklfnpaigdkaaDoor

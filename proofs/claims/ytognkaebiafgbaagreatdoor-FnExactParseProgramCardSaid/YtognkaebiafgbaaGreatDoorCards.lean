/-
  DERIVED. GIVEN WITH THE SEED: THE CARDS: each row of YtognkaebiafgbaaGreatDoorRows.lean that lists a variable, with what it lists TIED to the program's text (the seventh form; the later family's looks); each row that meets fmt, with fmt's text TOLD by the authors' own Lean function (tested against real Go, not proved from fmt's source: count such statements apart). THE CARD IS WHAT COUNTS. Prove the row's statement (the work); the ties are given (YtognkaebiafgbaaGreatDoorTie.lean); close each card by the builder's one call (the guide's Derived/Test/ToyasCard.lean, 'card_holds'). Laid BY PROGRAM, IN A SANDBOX (cutbox-door.mjs). By AI agents, Wed Nov 11 2026. No macro, syntax, notation, axiom, sorry.
-/
import Derived.Test.YtognkaebiafgbaaGreatDoorRows
import GoSem.ClaimSeven
namespace Go.Proofs.YtognkaebiafgbaaGreatDoor
namespace Rows

/-- THE TIED CARD OF 'laws.FnClauseText'. -/
def fnClauseTextCard : Claim7 := { stood := { row := fnClauseTextRow, standIns := [], harness := (true, "d580ce3f0cecf76b5160c85a6af4b59b4c1fe95277ed45772955b74914e63acf"), looks := true }, kinds := [], alts := [], laidByText := true, laidKinds := [.data, .data, .data, .sentinel, .sentinel], laidTests := true, laidLooks := .later }
def FnClauseTextCardSaid : Prop := Claim7.holds Tryz.pinned (.plain (OpenSpec.ofChange fnClauseTextSpec)) fnClauseTextCard

/-- THE TIED CARD OF 'laws.FnExactParseProgram'. -/
def fnExactParseProgramCard : Claim7 := { stood := { row := fnExactParseProgramRow, standIns := [], harness := (true, "d580ce3f0cecf76b5160c85a6af4b59b4c1fe95277ed45772955b74914e63acf"), looks := true }, kinds := [], alts := [], laidByText := true, laidKinds := [.data, .data, .data, .data, .sentinel, .sentinel, .pinned], laidTests := true, laidLooks := .later }
def FnExactParseProgramCardSaid : Prop := Claim7.holds Tryz.pinned (.plain (OpenSpec.ofChange fnExactParseProgramSpec)) fnExactParseProgramCard

/-- THE TIED CARD OF 'laws.FnProgramText'. -/
def fnProgramTextCard : Claim7 := { stood := { row := fnProgramTextRow, standIns := [], harness := (true, "d580ce3f0cecf76b5160c85a6af4b59b4c1fe95277ed45772955b74914e63acf"), looks := true }, kinds := [], alts := [], laidByText := true, laidKinds := [.data, .data, .data, .data, .sentinel, .sentinel, .pinned], laidTests := true, laidLooks := .later }
def FnProgramTextCardSaid : Prop := Claim7.holds Tryz.pinned (.plain (OpenSpec.ofChange fnProgramTextSpec)) fnProgramTextCard

/-- THE TIED CARD OF 'laws.FnProgramParts'. -/
def fnProgramPartsCard : Claim7 := { stood := { row := fnProgramPartsRow, standIns := [], harness := (true, "d580ce3f0cecf76b5160c85a6af4b59b4c1fe95277ed45772955b74914e63acf"), looks := true }, kinds := [], alts := [], laidByText := true, laidKinds := [.data, .data, .data], laidTests := true, laidLooks := .later }
def FnProgramPartsCardSaid : Prop := Claim7.holds Tryz.pinned (.plain (OpenSpec.ofChange fnProgramPartsSpec)) fnProgramPartsCard

/-- THE TIED CARD OF 'laws.FnClauseSame'. -/
def fnClauseSameCard : Claim7 := { stood := { row := fnClauseSameRow, standIns := [], harness := (true, "d580ce3f0cecf76b5160c85a6af4b59b4c1fe95277ed45772955b74914e63acf"), looks := true }, kinds := [], alts := [], laidByText := true, laidKinds := [.data, .data, .data], laidTests := true, laidLooks := .later }
def FnClauseSameCardSaid : Prop := Claim7.holds Tryz.pinned (.plain (OpenSpec.ofChange fnClauseSameSpec)) fnClauseSameCard

/-- THE TIED CARD OF 'laws.FnExactParseTerm'. -/
def fnExactParseTermCard : Claim7 := { stood := { row := fnExactParseTermRow, standIns := [], harness := (true, "d580ce3f0cecf76b5160c85a6af4b59b4c1fe95277ed45772955b74914e63acf"), looks := true }, kinds := [], alts := [], laidByText := true, laidKinds := [.data, .data, .data, .sentinel, .sentinel], laidTests := true, laidLooks := .later }
def FnExactParseTermCardSaid : Prop := Claim7.holds Tryz.pinned (.plain (OpenSpec.ofChange fnExactParseTermSpec)) fnExactParseTermCard

/-- THE TIED CARD OF 'laws.FnTermText'. -/
def fnTermTextCard : Claim7 := { stood := { row := fnTermTextRow, standIns := [], harness := (true, "d580ce3f0cecf76b5160c85a6af4b59b4c1fe95277ed45772955b74914e63acf"), looks := true }, kinds := [], alts := [], laidByText := true, laidKinds := [.data, .data, .data, .sentinel, .sentinel], laidTests := true, laidLooks := .later }
def FnTermTextCardSaid : Prop := Claim7.holds Tryz.pinned (.plain (OpenSpec.ofChange fnTermTextSpec)) fnTermTextCard

/-- THE TIED CARD OF 'laws.FnExactParseClause'. -/
def fnExactParseClauseCard : Claim7 := { stood := { row := fnExactParseClauseRow, standIns := [], harness := (true, "d580ce3f0cecf76b5160c85a6af4b59b4c1fe95277ed45772955b74914e63acf"), looks := true }, kinds := [], alts := [], laidByText := true, laidKinds := [.data, .data, .data, .sentinel, .sentinel], laidTests := true, laidLooks := .later }
def FnExactParseClauseCardSaid : Prop := Claim7.holds Tryz.pinned (.plain (OpenSpec.ofChange fnExactParseClauseSpec)) fnExactParseClauseCard

/-- THE TIED CARD OF 'laws.FnFactText'. -/
def fnFactTextCard : Claim7 := { stood := { row := fnFactTextRow, standIns := [], harness := (true, "d580ce3f0cecf76b5160c85a6af4b59b4c1fe95277ed45772955b74914e63acf"), looks := true }, kinds := [], alts := [], laidByText := true, laidKinds := [.data, .data, .data, .sentinel, .sentinel], laidTests := true, laidLooks := .later }
def FnFactTextCardSaid : Prop := Claim7.holds Tryz.pinned (.plain (OpenSpec.ofChange fnFactTextSpec)) fnFactTextCard

/-- THE SECOND FORM's CARD OF 'laws.FnClauseText'. -/
def fnClauseTextUptoCard : Claim7 := { stood := { row := fnClauseTextUptoRow, standIns := [], harness := (true, "d580ce3f0cecf76b5160c85a6af4b59b4c1fe95277ed45772955b74914e63acf"), looks := true }, kinds := [], alts := [], laidByText := true, laidKinds := [.data, .data, .data, .sentinel, .sentinel], laidTests := true, laidLooks := .later }
def FnClauseTextUptoCardSaid : Prop := Claim7.holds Tryz.pinned (.plain (OpenSpec.upto fnClauseTextSpec)) fnClauseTextUptoCard

/-- THE SECOND FORM's CARD OF 'laws.FnExactParseProgram'. -/
def fnExactParseProgramUptoCard : Claim7 := { stood := { row := fnExactParseProgramUptoRow, standIns := [], harness := (true, "d580ce3f0cecf76b5160c85a6af4b59b4c1fe95277ed45772955b74914e63acf"), looks := true }, kinds := [], alts := [], laidByText := true, laidKinds := [.data, .data, .data, .data, .sentinel, .sentinel, .pinned], laidTests := true, laidLooks := .later }
def FnExactParseProgramUptoCardSaid : Prop := Claim7.holds Tryz.pinned (.plain (OpenSpec.upto fnExactParseProgramSpec)) fnExactParseProgramUptoCard

/-- THE SECOND FORM's CARD OF 'laws.FnProgramText'. -/
def fnProgramTextUptoCard : Claim7 := { stood := { row := fnProgramTextUptoRow, standIns := [], harness := (true, "d580ce3f0cecf76b5160c85a6af4b59b4c1fe95277ed45772955b74914e63acf"), looks := true }, kinds := [], alts := [], laidByText := true, laidKinds := [.data, .data, .data, .data, .sentinel, .sentinel, .pinned], laidTests := true, laidLooks := .later }
def FnProgramTextUptoCardSaid : Prop := Claim7.holds Tryz.pinned (.plain (OpenSpec.upto fnProgramTextSpec)) fnProgramTextUptoCard

/-- THE SECOND FORM's CARD OF 'laws.FnProgramParts'. -/
def fnProgramPartsUptoCard : Claim7 := { stood := { row := fnProgramPartsUptoRow, standIns := [], harness := (true, "d580ce3f0cecf76b5160c85a6af4b59b4c1fe95277ed45772955b74914e63acf"), looks := true }, kinds := [], alts := [], laidByText := true, laidKinds := [.data, .data, .data], laidTests := true, laidLooks := .later }
def FnProgramPartsUptoCardSaid : Prop := Claim7.holds Tryz.pinned (.plain (OpenSpec.upto fnProgramPartsSpec)) fnProgramPartsUptoCard

/-- THE SECOND FORM's CARD OF 'laws.FnClauseSame'. -/
def fnClauseSameUptoCard : Claim7 := { stood := { row := fnClauseSameUptoRow, standIns := [], harness := (true, "d580ce3f0cecf76b5160c85a6af4b59b4c1fe95277ed45772955b74914e63acf"), looks := true }, kinds := [], alts := [], laidByText := true, laidKinds := [.data, .data, .data], laidTests := true, laidLooks := .later }
def FnClauseSameUptoCardSaid : Prop := Claim7.holds Tryz.pinned (.plain (OpenSpec.upto fnClauseSameSpec)) fnClauseSameUptoCard

/-- THE SECOND FORM's CARD OF 'laws.FnExactParseTerm'. -/
def fnExactParseTermUptoCard : Claim7 := { stood := { row := fnExactParseTermUptoRow, standIns := [], harness := (true, "d580ce3f0cecf76b5160c85a6af4b59b4c1fe95277ed45772955b74914e63acf"), looks := true }, kinds := [], alts := [], laidByText := true, laidKinds := [.data, .data, .data, .sentinel, .sentinel], laidTests := true, laidLooks := .later }
def FnExactParseTermUptoCardSaid : Prop := Claim7.holds Tryz.pinned (.plain (OpenSpec.upto fnExactParseTermSpec)) fnExactParseTermUptoCard

/-- THE SECOND FORM's CARD OF 'laws.FnTermText'. -/
def fnTermTextUptoCard : Claim7 := { stood := { row := fnTermTextUptoRow, standIns := [], harness := (true, "d580ce3f0cecf76b5160c85a6af4b59b4c1fe95277ed45772955b74914e63acf"), looks := true }, kinds := [], alts := [], laidByText := true, laidKinds := [.data, .data, .data, .sentinel, .sentinel], laidTests := true, laidLooks := .later }
def FnTermTextUptoCardSaid : Prop := Claim7.holds Tryz.pinned (.plain (OpenSpec.upto fnTermTextSpec)) fnTermTextUptoCard

/-- THE SECOND FORM's CARD OF 'laws.FnExactParseClause'. -/
def fnExactParseClauseUptoCard : Claim7 := { stood := { row := fnExactParseClauseUptoRow, standIns := [], harness := (true, "d580ce3f0cecf76b5160c85a6af4b59b4c1fe95277ed45772955b74914e63acf"), looks := true }, kinds := [], alts := [], laidByText := true, laidKinds := [.data, .data, .data, .sentinel, .sentinel], laidTests := true, laidLooks := .later }
def FnExactParseClauseUptoCardSaid : Prop := Claim7.holds Tryz.pinned (.plain (OpenSpec.upto fnExactParseClauseSpec)) fnExactParseClauseUptoCard

/-- THE SECOND FORM's CARD OF 'laws.FnFactText'. -/
def fnFactTextUptoCard : Claim7 := { stood := { row := fnFactTextUptoRow, standIns := [], harness := (true, "d580ce3f0cecf76b5160c85a6af4b59b4c1fe95277ed45772955b74914e63acf"), looks := true }, kinds := [], alts := [], laidByText := true, laidKinds := [.data, .data, .data, .sentinel, .sentinel], laidTests := true, laidLooks := .later }
def FnFactTextUptoCardSaid : Prop := Claim7.holds Tryz.pinned (.plain (OpenSpec.upto fnFactTextSpec)) fnFactTextUptoCard
end Rows
end Go.Proofs.YtognkaebiafgbaaGreatDoor

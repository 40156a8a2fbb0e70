/-
  NARROWER THAN 'FOR EVERY INPUT', by the rows' own cells (each row's printed sentence says how): FnExactCompareTerms: loops · FnExactTermVars: loops · FnExactShiftTerm: loops · FnExactClauseSame: loops · FnExactClauseValid: loops · FnExactEvalArith: loops · FnExactRenumberTerms: loops.
  DERIVED. THE GIVEN ROWS OF THIS SEAT. 12 by the template 'for every input the law returns true; each argument reads behind the call as it read before'; 0 by the template 'total and deterministic' (their statements: YtmbapobjopbceaaTotals.lean).
  GIVEN WITH THE SEED: the statements are not yours to turn. If you find one false, say at which input.
  Laid BY PROGRAM, IN A SANDBOX (cutbox-rows.mjs): the forced cells as the released guide's own fill.sh prints them over the translation 3ae5029999c16402… (all of the seat's roots in one cut). By AI agents, Wed Nov 11 2026. No macro, syntax, notation, axiom, sorry.
-/
import Derived.Test.YtmbapobjopbceaaChecked
import GoSem.Claim
import GoSem.ClaimJoined
import GoSem.ClaimMapViews
import Derived.JoinedTies
import Derived.KernelRfl
namespace Go.Proofs.Ytmbapobjopbceaa
/- THE CELL 'sum', in the pinned program and in every row, IS THE sha256 OF THE DUMP (.gsa) THAT YtmbapobjopbceaaProg.lean LOADS. Nothing in Lean hashes anything: it is a label: what it is worth is what the hold of that sum in a sandbox is worth. -/
noncomputable def Try.pinned : Pinned := { name := "ytmbapobjopbceaa", sum := "3ae5029999c16402528a451a9754cb988863723e39a7e23e45a197f7594cc2db", checked := Try.checked }
namespace Rows
def none {H : Type} : Left H := { results := [], args := [] }

/-- 'laws.FnExactCompareTerms': WHATEVER THE INPUT: true; the input reads as it did. -/
def fnExactCompareTermsSpec : ChangeSpec := { name := "fnExactCompareTerms", fn := fun _ => fun
  | [d1, d2] => { results := [.lit (.bool true)], args := [d1, d2] }
  | _ => none }
def fnExactCompareTermsRow : OpenClaim := { program := "ytmbapobjopbceaa", sum := "3ae5029999c16402528a451a9754cb988863723e39a7e23e45a197f7594cc2db", func := "loop.example/prologserver/laws.FnExactCompareTerms", spec := "fnExactCompareTerms", unfollowed := true, recurses := true, loops := true, apart := false }
def FnExactCompareTermsSaid : Prop := fnExactCompareTermsRow.holds Try.pinned (OpenSpec.ofChange fnExactCompareTermsSpec)

/-- ITS FALSE NEIGHBOUR: 'it returns false'. Refute it at one input. -/
def fnExactCompareTermsWrong : ChangeSpec := { name := "fnExactCompareTerms", fn := fun _ => fun
  | [d1, d2] => { results := [.lit (.bool false)], args := [d1, d2] }
  | _ => none }
def FnExactCompareTermsWrongFalsely : Prop := fnExactCompareTermsRow.holds Try.pinned (OpenSpec.ofChange fnExactCompareTermsWrong)

/-- 'laws.FnCompareVars': WHATEVER THE INPUT: true; the input reads as it did. -/
def fnCompareVarsSpec : ChangeSpec := { name := "fnCompareVars", fn := fun _ => fun
  | [d] => { results := [.lit (.bool true)], args := [d] }
  | _ => none }
def fnCompareVarsRow : OpenClaim := { program := "ytmbapobjopbceaa", sum := "3ae5029999c16402528a451a9754cb988863723e39a7e23e45a197f7594cc2db", func := "loop.example/prologserver/laws.FnCompareVars", spec := "fnCompareVars", unfollowed := true, recurses := true, apart := false }
def FnCompareVarsSaid : Prop := fnCompareVarsRow.holds Try.pinned (OpenSpec.ofChange fnCompareVarsSpec)

/-- ITS FALSE NEIGHBOUR: 'it returns false'. Refute it at one input. -/
def fnCompareVarsWrong : ChangeSpec := { name := "fnCompareVars", fn := fun _ => fun
  | [d] => { results := [.lit (.bool false)], args := [d] }
  | _ => none }
def FnCompareVarsWrongFalsely : Prop := fnCompareVarsRow.holds Try.pinned (OpenSpec.ofChange fnCompareVarsWrong)

/-- 'laws.FnCompareThree': WHATEVER THE INPUT: true; the input reads as it did. -/
def fnCompareThreeSpec : ChangeSpec := { name := "fnCompareThree", fn := fun _ => fun
  | [d1, d2] => { results := [.lit (.bool true)], args := [d1, d2] }
  | _ => none }
def fnCompareThreeRow : OpenClaim := { program := "ytmbapobjopbceaa", sum := "3ae5029999c16402528a451a9754cb988863723e39a7e23e45a197f7594cc2db", func := "loop.example/prologserver/laws.FnCompareThree", spec := "fnCompareThree", unfollowed := true, recurses := true, apart := false }
def FnCompareThreeSaid : Prop := fnCompareThreeRow.holds Try.pinned (OpenSpec.ofChange fnCompareThreeSpec)

/-- ITS FALSE NEIGHBOUR: 'it returns false'. Refute it at one input. -/
def fnCompareThreeWrong : ChangeSpec := { name := "fnCompareThree", fn := fun _ => fun
  | [d1, d2] => { results := [.lit (.bool false)], args := [d1, d2] }
  | _ => none }
def FnCompareThreeWrongFalsely : Prop := fnCompareThreeRow.holds Try.pinned (OpenSpec.ofChange fnCompareThreeWrong)

/-- 'laws.FnCompareTerms': WHATEVER THE INPUT: true; the input reads as it did. -/
def fnCompareTermsSpec : ChangeSpec := { name := "fnCompareTerms", fn := fun _ => fun
  | [d] => { results := [.lit (.bool true)], args := [d] }
  | _ => none }
def fnCompareTermsRow : OpenClaim := { program := "ytmbapobjopbceaa", sum := "3ae5029999c16402528a451a9754cb988863723e39a7e23e45a197f7594cc2db", func := "loop.example/prologserver/laws.FnCompareTerms", spec := "fnCompareTerms", unfollowed := true, recurses := true, apart := false }
def FnCompareTermsSaid : Prop := fnCompareTermsRow.holds Try.pinned (OpenSpec.ofChange fnCompareTermsSpec)

/-- ITS FALSE NEIGHBOUR: 'it returns false'. Refute it at one input. -/
def fnCompareTermsWrong : ChangeSpec := { name := "fnCompareTerms", fn := fun _ => fun
  | [d] => { results := [.lit (.bool false)], args := [d] }
  | _ => none }
def FnCompareTermsWrongFalsely : Prop := fnCompareTermsRow.holds Try.pinned (OpenSpec.ofChange fnCompareTermsWrong)

/-- 'laws.FnExactTermVars': WHATEVER THE INPUT: true; the input reads as it did. -/
def fnExactTermVarsSpec : ChangeSpec := { name := "fnExactTermVars", fn := fun _ => fun
  | [d] => { results := [.lit (.bool true)], args := [d] }
  | _ => none }
def fnExactTermVarsRow : OpenClaim := { program := "ytmbapobjopbceaa", sum := "3ae5029999c16402528a451a9754cb988863723e39a7e23e45a197f7594cc2db", func := "loop.example/prologserver/laws.FnExactTermVars", spec := "fnExactTermVars", unfollowed := true, recurses := true, loops := true, apart := false }
def FnExactTermVarsSaid : Prop := fnExactTermVarsRow.holds Try.pinned (OpenSpec.ofChange fnExactTermVarsSpec)

/-- ITS FALSE NEIGHBOUR: 'it returns false'. Refute it at one input. -/
def fnExactTermVarsWrong : ChangeSpec := { name := "fnExactTermVars", fn := fun _ => fun
  | [d] => { results := [.lit (.bool false)], args := [d] }
  | _ => none }
def FnExactTermVarsWrongFalsely : Prop := fnExactTermVarsRow.holds Try.pinned (OpenSpec.ofChange fnExactTermVarsWrong)

/-- 'laws.FnExactShiftTerm': WHATEVER THE INPUT: true; the input reads as it did. -/
def fnExactShiftTermSpec : ChangeSpec := { name := "fnExactShiftTerm", fn := fun _ => fun
  | [d1, d2] => { results := [.lit (.bool true)], args := [d1, d2] }
  | _ => none }
def fnExactShiftTermRow : OpenClaim := { program := "ytmbapobjopbceaa", sum := "3ae5029999c16402528a451a9754cb988863723e39a7e23e45a197f7594cc2db", func := "loop.example/prologserver/laws.FnExactShiftTerm", spec := "fnExactShiftTerm", unfollowed := true, recurses := true, loops := true, apart := false }
def FnExactShiftTermSaid : Prop := fnExactShiftTermRow.holds Try.pinned (OpenSpec.ofChange fnExactShiftTermSpec)

/-- ITS FALSE NEIGHBOUR: 'it returns false'. Refute it at one input. -/
def fnExactShiftTermWrong : ChangeSpec := { name := "fnExactShiftTerm", fn := fun _ => fun
  | [d1, d2] => { results := [.lit (.bool false)], args := [d1, d2] }
  | _ => none }
def FnExactShiftTermWrongFalsely : Prop := fnExactShiftTermRow.holds Try.pinned (OpenSpec.ofChange fnExactShiftTermWrong)

/-- 'laws.FnExactClauseSame': WHATEVER THE INPUT: true; the input reads as it did. -/
def fnExactClauseSameSpec : ChangeSpec := { name := "fnExactClauseSame", fn := fun _ => fun
  | [d1, d2] => { results := [.lit (.bool true)], args := [d1, d2] }
  | _ => none }
def fnExactClauseSameRow : OpenClaim := { program := "ytmbapobjopbceaa", sum := "3ae5029999c16402528a451a9754cb988863723e39a7e23e45a197f7594cc2db", func := "loop.example/prologserver/laws.FnExactClauseSame", spec := "fnExactClauseSame", unfollowed := true, recurses := true, loops := true, apart := false }
def FnExactClauseSameSaid : Prop := fnExactClauseSameRow.holds Try.pinned (OpenSpec.ofChange fnExactClauseSameSpec)

/-- ITS FALSE NEIGHBOUR: 'it returns false'. Refute it at one input. -/
def fnExactClauseSameWrong : ChangeSpec := { name := "fnExactClauseSame", fn := fun _ => fun
  | [d1, d2] => { results := [.lit (.bool false)], args := [d1, d2] }
  | _ => none }
def FnExactClauseSameWrongFalsely : Prop := fnExactClauseSameRow.holds Try.pinned (OpenSpec.ofChange fnExactClauseSameWrong)

/-- 'laws.FnExactClauseValid': WHATEVER THE INPUT: true; the input reads as it did. -/
def fnExactClauseValidSpec : ChangeSpec := { name := "fnExactClauseValid", fn := fun _ => fun
  | [d] => { results := [.lit (.bool true)], args := [d] }
  | _ => none }
def fnExactClauseValidRow : OpenClaim := { program := "ytmbapobjopbceaa", sum := "3ae5029999c16402528a451a9754cb988863723e39a7e23e45a197f7594cc2db", func := "loop.example/prologserver/laws.FnExactClauseValid", spec := "fnExactClauseValid", unfollowed := true, recurses := true, loops := true, apart := false }
def FnExactClauseValidSaid : Prop := fnExactClauseValidRow.holds Try.pinned (OpenSpec.ofChange fnExactClauseValidSpec)

/-- ITS FALSE NEIGHBOUR: 'it returns false'. Refute it at one input. -/
def fnExactClauseValidWrong : ChangeSpec := { name := "fnExactClauseValid", fn := fun _ => fun
  | [d] => { results := [.lit (.bool false)], args := [d] }
  | _ => none }
def FnExactClauseValidWrongFalsely : Prop := fnExactClauseValidRow.holds Try.pinned (OpenSpec.ofChange fnExactClauseValidWrong)

/-- 'laws.FnExactEvalArith': WHATEVER THE INPUT: true; the input reads as it did. -/
def fnExactEvalArithSpec : ChangeSpec := { name := "fnExactEvalArith", fn := fun _ => fun
  | [d] => { results := [.lit (.bool true)], args := [d] }
  | _ => none }
def fnExactEvalArithRow : OpenClaim := { program := "ytmbapobjopbceaa", sum := "3ae5029999c16402528a451a9754cb988863723e39a7e23e45a197f7594cc2db", func := "loop.example/prologserver/laws.FnExactEvalArith", spec := "fnExactEvalArith", unfollowed := true, recurses := true, loops := true, apart := false }
def FnExactEvalArithSaid : Prop := fnExactEvalArithRow.holds Try.pinned (OpenSpec.ofChange fnExactEvalArithSpec)

/-- ITS FALSE NEIGHBOUR: 'it returns false'. Refute it at one input. -/
def fnExactEvalArithWrong : ChangeSpec := { name := "fnExactEvalArith", fn := fun _ => fun
  | [d] => { results := [.lit (.bool false)], args := [d] }
  | _ => none }
def FnExactEvalArithWrongFalsely : Prop := fnExactEvalArithRow.holds Try.pinned (OpenSpec.ofChange fnExactEvalArithWrong)

/-- 'laws.FnDivMod': WHATEVER THE INPUT: true; the input reads as it did. -/
def fnDivModSpec : ChangeSpec := { name := "fnDivMod", fn := fun _ => fun
  | [d1, d2] => { results := [.lit (.bool true)], args := [d1, d2] }
  | _ => none }
def fnDivModRow : OpenClaim := { program := "ytmbapobjopbceaa", sum := "3ae5029999c16402528a451a9754cb988863723e39a7e23e45a197f7594cc2db", func := "loop.example/prologserver/laws.FnDivMod", spec := "fnDivMod", unfollowed := true, recurses := true, apart := false }
def FnDivModSaid : Prop := fnDivModRow.holds Try.pinned (OpenSpec.ofChange fnDivModSpec)

/-- ITS FALSE NEIGHBOUR: 'it returns false'. Refute it at one input. -/
def fnDivModWrong : ChangeSpec := { name := "fnDivMod", fn := fun _ => fun
  | [d1, d2] => { results := [.lit (.bool false)], args := [d1, d2] }
  | _ => none }
def FnDivModWrongFalsely : Prop := fnDivModRow.holds Try.pinned (OpenSpec.ofChange fnDivModWrong)

/-- 'laws.FnEvalArith': WHATEVER THE INPUT: true; the input reads as it did. -/
def fnEvalArithSpec : ChangeSpec := { name := "fnEvalArith", fn := fun _ => fun
  | [d1, d2] => { results := [.lit (.bool true)], args := [d1, d2] }
  | _ => none }
def fnEvalArithRow : OpenClaim := { program := "ytmbapobjopbceaa", sum := "3ae5029999c16402528a451a9754cb988863723e39a7e23e45a197f7594cc2db", func := "loop.example/prologserver/laws.FnEvalArith", spec := "fnEvalArith", unfollowed := true, recurses := true, apart := false }
def FnEvalArithSaid : Prop := fnEvalArithRow.holds Try.pinned (OpenSpec.ofChange fnEvalArithSpec)

/-- ITS FALSE NEIGHBOUR: 'it returns false'. Refute it at one input. -/
def fnEvalArithWrong : ChangeSpec := { name := "fnEvalArith", fn := fun _ => fun
  | [d1, d2] => { results := [.lit (.bool false)], args := [d1, d2] }
  | _ => none }
def FnEvalArithWrongFalsely : Prop := fnEvalArithRow.holds Try.pinned (OpenSpec.ofChange fnEvalArithWrong)

/-- 'laws.FnExactRenumberTerms': WHATEVER THE INPUT: true; the input reads as it did. -/
def fnExactRenumberTermsSpec : ChangeSpec := { name := "fnExactRenumberTerms", fn := fun _ => fun
  | [d] => { results := [.lit (.bool true)], args := [d] }
  | _ => none }
def fnExactRenumberTermsRow : OpenClaim := { program := "ytmbapobjopbceaa", sum := "3ae5029999c16402528a451a9754cb988863723e39a7e23e45a197f7594cc2db", func := "loop.example/prologserver/laws.FnExactRenumberTerms", spec := "fnExactRenumberTerms", unfollowed := true, recurses := true, loops := true, apart := false }
def FnExactRenumberTermsSaid : Prop := fnExactRenumberTermsRow.holds Try.pinned (OpenSpec.ofChange fnExactRenumberTermsSpec)

/-- ITS FALSE NEIGHBOUR: 'it returns false'. Refute it at one input. -/
def fnExactRenumberTermsWrong : ChangeSpec := { name := "fnExactRenumberTerms", fn := fun _ => fun
  | [d] => { results := [.lit (.bool false)], args := [d] }
  | _ => none }
def FnExactRenumberTermsWrongFalsely : Prop := fnExactRenumberTermsRow.holds Try.pinned (OpenSpec.ofChange fnExactRenumberTermsWrong)

/- THE SECOND FORM. 'bulk': how many values and letters a reading holds, each counted each time it is reached (what is shared counts as often as it is met; a slice's spare places count too). A statement '..UptoSaid' is the law's where the arguments, and the package variables that the reading takes, are together of bulk at most 1048576: NARROWER than '..Said'. Prove '..Said' where nothing that the law and all that it calls make is longer than what came in: it says more and counts as full. Else prove '..UptoSaid'. A law counts once. -/
mutual
def uptoBulk {H : Type} : DataW H → Nat
  | .lit (.string bytes) => bytes.length + 1
  | .lit _ => 1
  | .nil => 1
  | .ptr d => uptoBulk d + 1
  | .slice elems spare => uptoBulkAll elems + uptoBulkAll spare + 1
  | .agg parts => uptoBulkAll parts + 1
  | .iface _ d => uptoBulk d + 1
  | .map entries => uptoBulkEntries entries + 1
  | .held _ => 1
def uptoBulkAll {H : Type} : List (DataW H) → Nat
  | [] => 0
  | d :: r => uptoBulk d + uptoBulkAll r
def uptoBulkEntries {H : Type} : List (Lit × DataW H) → Nat
  | [] => 0
  | x :: r => uptoBulkEntry x + uptoBulkEntries r
def uptoBulkEntry {H : Type} : Lit × DataW H → Nat
  | (.string bytes, d) => bytes.length + uptoBulk d + 1
  | (_, d) => uptoBulk d + 1
 end
def uptoSmall : (H : Type) → List (DataW H) → Bool := fun _ ds => decide (uptoBulkAll ds ≤ 1048576)
def OpenSpec.upto (s : _root_.Go.ChangeSpec) : _root_.Go.OpenSpec := { _root_.Go.OpenSpec.ofChange s with cond := some uptoSmall }

/-- 'laws.FnExactCompareTerms', WHERE WHAT IT READS IS OF BULK AT MOST 1048576: true; the input reads as it did. -/
def fnExactCompareTermsUptoRow : OpenClaim := { program := "ytmbapobjopbceaa", sum := "3ae5029999c16402528a451a9754cb988863723e39a7e23e45a197f7594cc2db", func := "loop.example/prologserver/laws.FnExactCompareTerms", spec := "fnExactCompareTerms", unfollowed := true, recurses := true, loops := true, apart := false, narrowed := true }
def FnExactCompareTermsUptoSaid : Prop := fnExactCompareTermsUptoRow.holds Try.pinned (OpenSpec.upto fnExactCompareTermsSpec)

/-- 'laws.FnCompareVars', WHERE WHAT IT READS IS OF BULK AT MOST 1048576: true; the input reads as it did. -/
def fnCompareVarsUptoRow : OpenClaim := { program := "ytmbapobjopbceaa", sum := "3ae5029999c16402528a451a9754cb988863723e39a7e23e45a197f7594cc2db", func := "loop.example/prologserver/laws.FnCompareVars", spec := "fnCompareVars", unfollowed := true, recurses := true, apart := false, narrowed := true }
def FnCompareVarsUptoSaid : Prop := fnCompareVarsUptoRow.holds Try.pinned (OpenSpec.upto fnCompareVarsSpec)

/-- 'laws.FnCompareThree', WHERE WHAT IT READS IS OF BULK AT MOST 1048576: true; the input reads as it did. -/
def fnCompareThreeUptoRow : OpenClaim := { program := "ytmbapobjopbceaa", sum := "3ae5029999c16402528a451a9754cb988863723e39a7e23e45a197f7594cc2db", func := "loop.example/prologserver/laws.FnCompareThree", spec := "fnCompareThree", unfollowed := true, recurses := true, apart := false, narrowed := true }
def FnCompareThreeUptoSaid : Prop := fnCompareThreeUptoRow.holds Try.pinned (OpenSpec.upto fnCompareThreeSpec)

/-- 'laws.FnCompareTerms', WHERE WHAT IT READS IS OF BULK AT MOST 1048576: true; the input reads as it did. -/
def fnCompareTermsUptoRow : OpenClaim := { program := "ytmbapobjopbceaa", sum := "3ae5029999c16402528a451a9754cb988863723e39a7e23e45a197f7594cc2db", func := "loop.example/prologserver/laws.FnCompareTerms", spec := "fnCompareTerms", unfollowed := true, recurses := true, apart := false, narrowed := true }
def FnCompareTermsUptoSaid : Prop := fnCompareTermsUptoRow.holds Try.pinned (OpenSpec.upto fnCompareTermsSpec)

/-- 'laws.FnExactTermVars', WHERE WHAT IT READS IS OF BULK AT MOST 1048576: true; the input reads as it did. -/
def fnExactTermVarsUptoRow : OpenClaim := { program := "ytmbapobjopbceaa", sum := "3ae5029999c16402528a451a9754cb988863723e39a7e23e45a197f7594cc2db", func := "loop.example/prologserver/laws.FnExactTermVars", spec := "fnExactTermVars", unfollowed := true, recurses := true, loops := true, apart := false, narrowed := true }
def FnExactTermVarsUptoSaid : Prop := fnExactTermVarsUptoRow.holds Try.pinned (OpenSpec.upto fnExactTermVarsSpec)

/-- 'laws.FnExactShiftTerm', WHERE WHAT IT READS IS OF BULK AT MOST 1048576: true; the input reads as it did. -/
def fnExactShiftTermUptoRow : OpenClaim := { program := "ytmbapobjopbceaa", sum := "3ae5029999c16402528a451a9754cb988863723e39a7e23e45a197f7594cc2db", func := "loop.example/prologserver/laws.FnExactShiftTerm", spec := "fnExactShiftTerm", unfollowed := true, recurses := true, loops := true, apart := false, narrowed := true }
def FnExactShiftTermUptoSaid : Prop := fnExactShiftTermUptoRow.holds Try.pinned (OpenSpec.upto fnExactShiftTermSpec)

/-- 'laws.FnExactClauseSame', WHERE WHAT IT READS IS OF BULK AT MOST 1048576: true; the input reads as it did. -/
def fnExactClauseSameUptoRow : OpenClaim := { program := "ytmbapobjopbceaa", sum := "3ae5029999c16402528a451a9754cb988863723e39a7e23e45a197f7594cc2db", func := "loop.example/prologserver/laws.FnExactClauseSame", spec := "fnExactClauseSame", unfollowed := true, recurses := true, loops := true, apart := false, narrowed := true }
def FnExactClauseSameUptoSaid : Prop := fnExactClauseSameUptoRow.holds Try.pinned (OpenSpec.upto fnExactClauseSameSpec)

/-- 'laws.FnExactClauseValid', WHERE WHAT IT READS IS OF BULK AT MOST 1048576: true; the input reads as it did. -/
def fnExactClauseValidUptoRow : OpenClaim := { program := "ytmbapobjopbceaa", sum := "3ae5029999c16402528a451a9754cb988863723e39a7e23e45a197f7594cc2db", func := "loop.example/prologserver/laws.FnExactClauseValid", spec := "fnExactClauseValid", unfollowed := true, recurses := true, loops := true, apart := false, narrowed := true }
def FnExactClauseValidUptoSaid : Prop := fnExactClauseValidUptoRow.holds Try.pinned (OpenSpec.upto fnExactClauseValidSpec)

/-- 'laws.FnExactEvalArith', WHERE WHAT IT READS IS OF BULK AT MOST 1048576: true; the input reads as it did. -/
def fnExactEvalArithUptoRow : OpenClaim := { program := "ytmbapobjopbceaa", sum := "3ae5029999c16402528a451a9754cb988863723e39a7e23e45a197f7594cc2db", func := "loop.example/prologserver/laws.FnExactEvalArith", spec := "fnExactEvalArith", unfollowed := true, recurses := true, loops := true, apart := false, narrowed := true }
def FnExactEvalArithUptoSaid : Prop := fnExactEvalArithUptoRow.holds Try.pinned (OpenSpec.upto fnExactEvalArithSpec)

/-- 'laws.FnDivMod', WHERE WHAT IT READS IS OF BULK AT MOST 1048576: true; the input reads as it did. -/
def fnDivModUptoRow : OpenClaim := { program := "ytmbapobjopbceaa", sum := "3ae5029999c16402528a451a9754cb988863723e39a7e23e45a197f7594cc2db", func := "loop.example/prologserver/laws.FnDivMod", spec := "fnDivMod", unfollowed := true, recurses := true, apart := false, narrowed := true }
def FnDivModUptoSaid : Prop := fnDivModUptoRow.holds Try.pinned (OpenSpec.upto fnDivModSpec)

/-- 'laws.FnEvalArith', WHERE WHAT IT READS IS OF BULK AT MOST 1048576: true; the input reads as it did. -/
def fnEvalArithUptoRow : OpenClaim := { program := "ytmbapobjopbceaa", sum := "3ae5029999c16402528a451a9754cb988863723e39a7e23e45a197f7594cc2db", func := "loop.example/prologserver/laws.FnEvalArith", spec := "fnEvalArith", unfollowed := true, recurses := true, apart := false, narrowed := true }
def FnEvalArithUptoSaid : Prop := fnEvalArithUptoRow.holds Try.pinned (OpenSpec.upto fnEvalArithSpec)

/-- 'laws.FnExactRenumberTerms', WHERE WHAT IT READS IS OF BULK AT MOST 1048576: true; the input reads as it did. -/
def fnExactRenumberTermsUptoRow : OpenClaim := { program := "ytmbapobjopbceaa", sum := "3ae5029999c16402528a451a9754cb988863723e39a7e23e45a197f7594cc2db", func := "loop.example/prologserver/laws.FnExactRenumberTerms", spec := "fnExactRenumberTerms", unfollowed := true, recurses := true, loops := true, apart := false, narrowed := true }
def FnExactRenumberTermsUptoSaid : Prop := fnExactRenumberTermsUptoRow.holds Try.pinned (OpenSpec.upto fnExactRenumberTermsSpec)

end Rows
end Go.Proofs.Ytmbapobjopbceaa

/-
  NARROWER THAN 'FOR EVERY INPUT', by the rows' own cells (each row's printed sentence says how): FnExactRenumberTerms: loops · FnExactClauseSame: loops · FnExactClauseValid: loops · FnExactProgramValid: loops · FnExactInstanceOf: loops · FnExactVariantTerms: loops · FnExactGeneralize: loops · FnExactClausesFor: loops.
  DERIVED. THE GIVEN ROWS OF THIS SEAT. 12 by the template 'for every input the law returns true; each argument reads behind the call as it read before'; 0 by the template 'total and deterministic' (their statements: YtagaciadcgijoaaTotals.lean).
  GIVEN WITH THE SEED: the statements are not yours to turn. If you find one false, say at which input.
  Laid BY PROGRAM, IN A SANDBOX (cutbox-rows.mjs): the forced cells as the released guide's own fill.sh prints them over the translation eed28b265372c6b5… (all of the seat's roots in one cut). By AI agents, Wed Nov 11 2026. No macro, syntax, notation, axiom, sorry.
-/
import Derived.Test.YtagaciadcgijoaaChecked
import GoSem.Claim
import GoSem.ClaimJoined
import GoSem.ClaimMapViews
import Derived.JoinedTies
import Derived.KernelRfl
namespace Go.Proofs.Ytagaciadcgijoaa
/- THE CELL 'sum', in the pinned program and in every row, IS THE sha256 OF THE DUMP (.gsa) THAT YtagaciadcgijoaaProg.lean LOADS. Nothing in Lean hashes anything: it is a label: what it is worth is what the hold of that sum in a sandbox is worth. -/
noncomputable def Try.pinned : Pinned := { name := "ytagaciadcgijoaa", sum := "eed28b265372c6b57bd9f3b8fe6fc9f0de9f3b4c599466fe7d0dff544d970d27", checked := Try.checked }
namespace Rows
def none {H : Type} : Left H := { results := [], args := [] }

/-- 'laws.FnDivMod': WHATEVER THE INPUT: true; the input reads as it did. -/
def fnDivModSpec : ChangeSpec := { name := "fnDivMod", fn := fun _ => fun
  | [d1, d2] => { results := [.lit (.bool true)], args := [d1, d2] }
  | _ => none }
def fnDivModRow : OpenClaim := { program := "ytagaciadcgijoaa", sum := "eed28b265372c6b57bd9f3b8fe6fc9f0de9f3b4c599466fe7d0dff544d970d27", func := "loop.example/prologserver/laws.FnDivMod", spec := "fnDivMod", unfollowed := true, recurses := true, apart := false }
def FnDivModSaid : Prop := fnDivModRow.holds Try.pinned (OpenSpec.ofChange fnDivModSpec)

/-- ITS FALSE NEIGHBOUR: 'it returns false'. Refute it at one input. -/
def fnDivModWrong : ChangeSpec := { name := "fnDivMod", fn := fun _ => fun
  | [d1, d2] => { results := [.lit (.bool false)], args := [d1, d2] }
  | _ => none }
def FnDivModWrongFalsely : Prop := fnDivModRow.holds Try.pinned (OpenSpec.ofChange fnDivModWrong)

/-- 'laws.FnEvalArith': WHATEVER THE INPUT: true; the input reads as it did. -/
def fnEvalArithSpec : ChangeSpec := { name := "fnEvalArith", fn := fun _ => fun
  | [d1, d2] => { results := [.lit (.bool true)], args := [d1, d2] }
  | _ => none }
def fnEvalArithRow : OpenClaim := { program := "ytagaciadcgijoaa", sum := "eed28b265372c6b57bd9f3b8fe6fc9f0de9f3b4c599466fe7d0dff544d970d27", func := "loop.example/prologserver/laws.FnEvalArith", spec := "fnEvalArith", unfollowed := true, recurses := true, apart := false }
def FnEvalArithSaid : Prop := fnEvalArithRow.holds Try.pinned (OpenSpec.ofChange fnEvalArithSpec)

/-- ITS FALSE NEIGHBOUR: 'it returns false'. Refute it at one input. -/
def fnEvalArithWrong : ChangeSpec := { name := "fnEvalArith", fn := fun _ => fun
  | [d1, d2] => { results := [.lit (.bool false)], args := [d1, d2] }
  | _ => none }
def FnEvalArithWrongFalsely : Prop := fnEvalArithRow.holds Try.pinned (OpenSpec.ofChange fnEvalArithWrong)

/-- 'laws.FnExactRenumberTerms': WHATEVER THE INPUT: true; the input reads as it did. -/
def fnExactRenumberTermsSpec : ChangeSpec := { name := "fnExactRenumberTerms", fn := fun _ => fun
  | [d] => { results := [.lit (.bool true)], args := [d] }
  | _ => none }
def fnExactRenumberTermsRow : OpenClaim := { program := "ytagaciadcgijoaa", sum := "eed28b265372c6b57bd9f3b8fe6fc9f0de9f3b4c599466fe7d0dff544d970d27", func := "loop.example/prologserver/laws.FnExactRenumberTerms", spec := "fnExactRenumberTerms", unfollowed := true, recurses := true, loops := true, apart := false }
def FnExactRenumberTermsSaid : Prop := fnExactRenumberTermsRow.holds Try.pinned (OpenSpec.ofChange fnExactRenumberTermsSpec)

/-- ITS FALSE NEIGHBOUR: 'it returns false'. Refute it at one input. -/
def fnExactRenumberTermsWrong : ChangeSpec := { name := "fnExactRenumberTerms", fn := fun _ => fun
  | [d] => { results := [.lit (.bool false)], args := [d] }
  | _ => none }
def FnExactRenumberTermsWrongFalsely : Prop := fnExactRenumberTermsRow.holds Try.pinned (OpenSpec.ofChange fnExactRenumberTermsWrong)

/-- 'laws.FnExactClauseSame': WHATEVER THE INPUT: true; the input reads as it did. -/
def fnExactClauseSameSpec : ChangeSpec := { name := "fnExactClauseSame", fn := fun _ => fun
  | [d1, d2] => { results := [.lit (.bool true)], args := [d1, d2] }
  | _ => none }
def fnExactClauseSameRow : OpenClaim := { program := "ytagaciadcgijoaa", sum := "eed28b265372c6b57bd9f3b8fe6fc9f0de9f3b4c599466fe7d0dff544d970d27", func := "loop.example/prologserver/laws.FnExactClauseSame", spec := "fnExactClauseSame", unfollowed := true, recurses := true, loops := true, apart := false }
def FnExactClauseSameSaid : Prop := fnExactClauseSameRow.holds Try.pinned (OpenSpec.ofChange fnExactClauseSameSpec)

/-- ITS FALSE NEIGHBOUR: 'it returns false'. Refute it at one input. -/
def fnExactClauseSameWrong : ChangeSpec := { name := "fnExactClauseSame", fn := fun _ => fun
  | [d1, d2] => { results := [.lit (.bool false)], args := [d1, d2] }
  | _ => none }
def FnExactClauseSameWrongFalsely : Prop := fnExactClauseSameRow.holds Try.pinned (OpenSpec.ofChange fnExactClauseSameWrong)

/-- 'laws.FnExactClauseValid': WHATEVER THE INPUT: true; the input reads as it did. -/
def fnExactClauseValidSpec : ChangeSpec := { name := "fnExactClauseValid", fn := fun _ => fun
  | [d] => { results := [.lit (.bool true)], args := [d] }
  | _ => none }
def fnExactClauseValidRow : OpenClaim := { program := "ytagaciadcgijoaa", sum := "eed28b265372c6b57bd9f3b8fe6fc9f0de9f3b4c599466fe7d0dff544d970d27", func := "loop.example/prologserver/laws.FnExactClauseValid", spec := "fnExactClauseValid", unfollowed := true, recurses := true, loops := true, apart := false }
def FnExactClauseValidSaid : Prop := fnExactClauseValidRow.holds Try.pinned (OpenSpec.ofChange fnExactClauseValidSpec)

/-- ITS FALSE NEIGHBOUR: 'it returns false'. Refute it at one input. -/
def fnExactClauseValidWrong : ChangeSpec := { name := "fnExactClauseValid", fn := fun _ => fun
  | [d] => { results := [.lit (.bool false)], args := [d] }
  | _ => none }
def FnExactClauseValidWrongFalsely : Prop := fnExactClauseValidRow.holds Try.pinned (OpenSpec.ofChange fnExactClauseValidWrong)

/-- 'laws.FnShiftTerm': WHATEVER THE INPUT: true; the input reads as it did. -/
def fnShiftTermSpec : ChangeSpec := { name := "fnShiftTerm", fn := fun _ => fun
  | [d] => { results := [.lit (.bool true)], args := [d] }
  | _ => none }
def fnShiftTermRow : OpenClaim := { program := "ytagaciadcgijoaa", sum := "eed28b265372c6b57bd9f3b8fe6fc9f0de9f3b4c599466fe7d0dff544d970d27", func := "loop.example/prologserver/laws.FnShiftTerm", spec := "fnShiftTerm", unfollowed := true, recurses := true, apart := false }
def FnShiftTermSaid : Prop := fnShiftTermRow.holds Try.pinned (OpenSpec.ofChange fnShiftTermSpec)

/-- ITS FALSE NEIGHBOUR: 'it returns false'. Refute it at one input. -/
def fnShiftTermWrong : ChangeSpec := { name := "fnShiftTerm", fn := fun _ => fun
  | [d] => { results := [.lit (.bool false)], args := [d] }
  | _ => none }
def FnShiftTermWrongFalsely : Prop := fnShiftTermRow.holds Try.pinned (OpenSpec.ofChange fnShiftTermWrong)

/-- 'laws.FnExactProgramValid': WHATEVER THE INPUT: true; the input reads as it did. -/
def fnExactProgramValidSpec : ChangeSpec := { name := "fnExactProgramValid", fn := fun _ => fun
  | [d] => { results := [.lit (.bool true)], args := [d] }
  | _ => none }
def fnExactProgramValidRow : OpenClaim := { program := "ytagaciadcgijoaa", sum := "eed28b265372c6b57bd9f3b8fe6fc9f0de9f3b4c599466fe7d0dff544d970d27", func := "loop.example/prologserver/laws.FnExactProgramValid", spec := "fnExactProgramValid", unfollowed := true, recurses := true, loops := true, apart := false }
def FnExactProgramValidSaid : Prop := fnExactProgramValidRow.holds Try.pinned (OpenSpec.ofChange fnExactProgramValidSpec)

/-- ITS FALSE NEIGHBOUR: 'it returns false'. Refute it at one input. -/
def fnExactProgramValidWrong : ChangeSpec := { name := "fnExactProgramValid", fn := fun _ => fun
  | [d] => { results := [.lit (.bool false)], args := [d] }
  | _ => none }
def FnExactProgramValidWrongFalsely : Prop := fnExactProgramValidRow.holds Try.pinned (OpenSpec.ofChange fnExactProgramValidWrong)

/-- 'laws.FnExactInstanceOf': WHATEVER THE INPUT: true; the input reads as it did. -/
def fnExactInstanceOfSpec : ChangeSpec := { name := "fnExactInstanceOf", fn := fun _ => fun
  | [d1, d2] => { results := [.lit (.bool true)], args := [d1, d2] }
  | _ => none }
def fnExactInstanceOfRow : OpenClaim := { program := "ytagaciadcgijoaa", sum := "eed28b265372c6b57bd9f3b8fe6fc9f0de9f3b4c599466fe7d0dff544d970d27", func := "loop.example/prologserver/laws.FnExactInstanceOf", spec := "fnExactInstanceOf", unfollowed := true, recurses := true, loops := true, apart := false }
def FnExactInstanceOfSaid : Prop := fnExactInstanceOfRow.holds Try.pinned (OpenSpec.ofChange fnExactInstanceOfSpec)

/-- ITS FALSE NEIGHBOUR: 'it returns false'. Refute it at one input. -/
def fnExactInstanceOfWrong : ChangeSpec := { name := "fnExactInstanceOf", fn := fun _ => fun
  | [d1, d2] => { results := [.lit (.bool false)], args := [d1, d2] }
  | _ => none }
def FnExactInstanceOfWrongFalsely : Prop := fnExactInstanceOfRow.holds Try.pinned (OpenSpec.ofChange fnExactInstanceOfWrong)

/-- 'laws.FnExactVariantTerms': WHATEVER THE INPUT: true; the input reads as it did. -/
def fnExactVariantTermsSpec : ChangeSpec := { name := "fnExactVariantTerms", fn := fun _ => fun
  | [d1, d2] => { results := [.lit (.bool true)], args := [d1, d2] }
  | _ => none }
def fnExactVariantTermsRow : OpenClaim := { program := "ytagaciadcgijoaa", sum := "eed28b265372c6b57bd9f3b8fe6fc9f0de9f3b4c599466fe7d0dff544d970d27", func := "loop.example/prologserver/laws.FnExactVariantTerms", spec := "fnExactVariantTerms", unfollowed := true, recurses := true, loops := true, apart := false }
def FnExactVariantTermsSaid : Prop := fnExactVariantTermsRow.holds Try.pinned (OpenSpec.ofChange fnExactVariantTermsSpec)

/-- ITS FALSE NEIGHBOUR: 'it returns false'. Refute it at one input. -/
def fnExactVariantTermsWrong : ChangeSpec := { name := "fnExactVariantTerms", fn := fun _ => fun
  | [d1, d2] => { results := [.lit (.bool false)], args := [d1, d2] }
  | _ => none }
def FnExactVariantTermsWrongFalsely : Prop := fnExactVariantTermsRow.holds Try.pinned (OpenSpec.ofChange fnExactVariantTermsWrong)

/-- 'laws.FnExactGeneralize': WHATEVER THE INPUT: true; the input reads as it did. -/
def fnExactGeneralizeSpec : ChangeSpec := { name := "fnExactGeneralize", fn := fun _ => fun
  | [d1, d2] => { results := [.lit (.bool true)], args := [d1, d2] }
  | _ => none }
def fnExactGeneralizeRow : OpenClaim := { program := "ytagaciadcgijoaa", sum := "eed28b265372c6b57bd9f3b8fe6fc9f0de9f3b4c599466fe7d0dff544d970d27", func := "loop.example/prologserver/laws.FnExactGeneralize", spec := "fnExactGeneralize", unfollowed := true, recurses := true, loops := true, apart := false }
def FnExactGeneralizeSaid : Prop := fnExactGeneralizeRow.holds Try.pinned (OpenSpec.ofChange fnExactGeneralizeSpec)

/-- ITS FALSE NEIGHBOUR: 'it returns false'. Refute it at one input. -/
def fnExactGeneralizeWrong : ChangeSpec := { name := "fnExactGeneralize", fn := fun _ => fun
  | [d1, d2] => { results := [.lit (.bool false)], args := [d1, d2] }
  | _ => none }
def FnExactGeneralizeWrongFalsely : Prop := fnExactGeneralizeRow.holds Try.pinned (OpenSpec.ofChange fnExactGeneralizeWrong)

/-- 'laws.FnRenumberTerms': WHATEVER THE INPUT: true; the input reads as it did. -/
def fnRenumberTermsSpec : ChangeSpec := { name := "fnRenumberTerms", fn := fun _ => fun
  | [d] => { results := [.lit (.bool true)], args := [d] }
  | _ => none }
def fnRenumberTermsRow : OpenClaim := { program := "ytagaciadcgijoaa", sum := "eed28b265372c6b57bd9f3b8fe6fc9f0de9f3b4c599466fe7d0dff544d970d27", func := "loop.example/prologserver/laws.FnRenumberTerms", spec := "fnRenumberTerms", unfollowed := true, recurses := true, apart := false }
def FnRenumberTermsSaid : Prop := fnRenumberTermsRow.holds Try.pinned (OpenSpec.ofChange fnRenumberTermsSpec)

/-- ITS FALSE NEIGHBOUR: 'it returns false'. Refute it at one input. -/
def fnRenumberTermsWrong : ChangeSpec := { name := "fnRenumberTerms", fn := fun _ => fun
  | [d] => { results := [.lit (.bool false)], args := [d] }
  | _ => none }
def FnRenumberTermsWrongFalsely : Prop := fnRenumberTermsRow.holds Try.pinned (OpenSpec.ofChange fnRenumberTermsWrong)

/-- 'laws.FnExactClausesFor': WHATEVER THE INPUT: true; the input reads as it did. -/
def fnExactClausesForSpec : ChangeSpec := { name := "fnExactClausesFor", fn := fun _ => fun
  | [d1, d2] => { results := [.lit (.bool true)], args := [d1, d2] }
  | _ => none }
def fnExactClausesForRow : OpenClaim := { program := "ytagaciadcgijoaa", sum := "eed28b265372c6b57bd9f3b8fe6fc9f0de9f3b4c599466fe7d0dff544d970d27", func := "loop.example/prologserver/laws.FnExactClausesFor", spec := "fnExactClausesFor", unfollowed := true, recurses := true, loops := true, apart := false }
def FnExactClausesForSaid : Prop := fnExactClausesForRow.holds Try.pinned (OpenSpec.ofChange fnExactClausesForSpec)

/-- ITS FALSE NEIGHBOUR: 'it returns false'. Refute it at one input. -/
def fnExactClausesForWrong : ChangeSpec := { name := "fnExactClausesFor", fn := fun _ => fun
  | [d1, d2] => { results := [.lit (.bool false)], args := [d1, d2] }
  | _ => none }
def FnExactClausesForWrongFalsely : Prop := fnExactClausesForRow.holds Try.pinned (OpenSpec.ofChange fnExactClausesForWrong)

/- THE SECOND FORM. 'bulk': how many values and letters a reading holds, each counted each time it is reached (what is shared counts as often as it is met; a slice's spare places count too). A statement '..UptoSaid' is the law's where the arguments, and the package variables that the reading takes, are together of bulk at most 1048576: NARROWER than '..Said'. Prove '..Said' where nothing that the law and all that it calls make is longer than what came in: it says more and counts as full. Else prove '..UptoSaid'. A law counts once. -/
mutual
def uptoBulk {H : Type} : DataW H → Nat
  | .lit (.string bytes) => bytes.length + 1
  | .lit _ => 1
  | .nil => 1
  | .ptr d => uptoBulk d + 1
  | .slice elems spare => uptoBulkAll elems + uptoBulkAll spare + 1
  | .agg parts => uptoBulkAll parts + 1
  | .iface _ d => uptoBulk d + 1
  | .map entries => uptoBulkEntries entries + 1
  | .held _ => 1
def uptoBulkAll {H : Type} : List (DataW H) → Nat
  | [] => 0
  | d :: r => uptoBulk d + uptoBulkAll r
def uptoBulkEntries {H : Type} : List (Lit × DataW H) → Nat
  | [] => 0
  | x :: r => uptoBulkEntry x + uptoBulkEntries r
def uptoBulkEntry {H : Type} : Lit × DataW H → Nat
  | (.string bytes, d) => bytes.length + uptoBulk d + 1
  | (_, d) => uptoBulk d + 1
 end
def uptoSmall : (H : Type) → List (DataW H) → Bool := fun _ ds => decide (uptoBulkAll ds ≤ 1048576)
def OpenSpec.upto (s : _root_.Go.ChangeSpec) : _root_.Go.OpenSpec := { _root_.Go.OpenSpec.ofChange s with cond := some uptoSmall }

/-- 'laws.FnDivMod', WHERE WHAT IT READS IS OF BULK AT MOST 1048576: true; the input reads as it did. -/
def fnDivModUptoRow : OpenClaim := { program := "ytagaciadcgijoaa", sum := "eed28b265372c6b57bd9f3b8fe6fc9f0de9f3b4c599466fe7d0dff544d970d27", func := "loop.example/prologserver/laws.FnDivMod", spec := "fnDivMod", unfollowed := true, recurses := true, apart := false, narrowed := true }
def FnDivModUptoSaid : Prop := fnDivModUptoRow.holds Try.pinned (OpenSpec.upto fnDivModSpec)

/-- 'laws.FnEvalArith', WHERE WHAT IT READS IS OF BULK AT MOST 1048576: true; the input reads as it did. -/
def fnEvalArithUptoRow : OpenClaim := { program := "ytagaciadcgijoaa", sum := "eed28b265372c6b57bd9f3b8fe6fc9f0de9f3b4c599466fe7d0dff544d970d27", func := "loop.example/prologserver/laws.FnEvalArith", spec := "fnEvalArith", unfollowed := true, recurses := true, apart := false, narrowed := true }
def FnEvalArithUptoSaid : Prop := fnEvalArithUptoRow.holds Try.pinned (OpenSpec.upto fnEvalArithSpec)

/-- 'laws.FnExactRenumberTerms', WHERE WHAT IT READS IS OF BULK AT MOST 1048576: true; the input reads as it did. -/
def fnExactRenumberTermsUptoRow : OpenClaim := { program := "ytagaciadcgijoaa", sum := "eed28b265372c6b57bd9f3b8fe6fc9f0de9f3b4c599466fe7d0dff544d970d27", func := "loop.example/prologserver/laws.FnExactRenumberTerms", spec := "fnExactRenumberTerms", unfollowed := true, recurses := true, loops := true, apart := false, narrowed := true }
def FnExactRenumberTermsUptoSaid : Prop := fnExactRenumberTermsUptoRow.holds Try.pinned (OpenSpec.upto fnExactRenumberTermsSpec)

/-- 'laws.FnExactClauseSame', WHERE WHAT IT READS IS OF BULK AT MOST 1048576: true; the input reads as it did. -/
def fnExactClauseSameUptoRow : OpenClaim := { program := "ytagaciadcgijoaa", sum := "eed28b265372c6b57bd9f3b8fe6fc9f0de9f3b4c599466fe7d0dff544d970d27", func := "loop.example/prologserver/laws.FnExactClauseSame", spec := "fnExactClauseSame", unfollowed := true, recurses := true, loops := true, apart := false, narrowed := true }
def FnExactClauseSameUptoSaid : Prop := fnExactClauseSameUptoRow.holds Try.pinned (OpenSpec.upto fnExactClauseSameSpec)

/-- 'laws.FnExactClauseValid', WHERE WHAT IT READS IS OF BULK AT MOST 1048576: true; the input reads as it did. -/
def fnExactClauseValidUptoRow : OpenClaim := { program := "ytagaciadcgijoaa", sum := "eed28b265372c6b57bd9f3b8fe6fc9f0de9f3b4c599466fe7d0dff544d970d27", func := "loop.example/prologserver/laws.FnExactClauseValid", spec := "fnExactClauseValid", unfollowed := true, recurses := true, loops := true, apart := false, narrowed := true }
def FnExactClauseValidUptoSaid : Prop := fnExactClauseValidUptoRow.holds Try.pinned (OpenSpec.upto fnExactClauseValidSpec)

/-- 'laws.FnShiftTerm', WHERE WHAT IT READS IS OF BULK AT MOST 1048576: true; the input reads as it did. -/
def fnShiftTermUptoRow : OpenClaim := { program := "ytagaciadcgijoaa", sum := "eed28b265372c6b57bd9f3b8fe6fc9f0de9f3b4c599466fe7d0dff544d970d27", func := "loop.example/prologserver/laws.FnShiftTerm", spec := "fnShiftTerm", unfollowed := true, recurses := true, apart := false, narrowed := true }
def FnShiftTermUptoSaid : Prop := fnShiftTermUptoRow.holds Try.pinned (OpenSpec.upto fnShiftTermSpec)

/-- 'laws.FnExactProgramValid', WHERE WHAT IT READS IS OF BULK AT MOST 1048576: true; the input reads as it did. -/
def fnExactProgramValidUptoRow : OpenClaim := { program := "ytagaciadcgijoaa", sum := "eed28b265372c6b57bd9f3b8fe6fc9f0de9f3b4c599466fe7d0dff544d970d27", func := "loop.example/prologserver/laws.FnExactProgramValid", spec := "fnExactProgramValid", unfollowed := true, recurses := true, loops := true, apart := false, narrowed := true }
def FnExactProgramValidUptoSaid : Prop := fnExactProgramValidUptoRow.holds Try.pinned (OpenSpec.upto fnExactProgramValidSpec)

/-- 'laws.FnExactInstanceOf', WHERE WHAT IT READS IS OF BULK AT MOST 1048576: true; the input reads as it did. -/
def fnExactInstanceOfUptoRow : OpenClaim := { program := "ytagaciadcgijoaa", sum := "eed28b265372c6b57bd9f3b8fe6fc9f0de9f3b4c599466fe7d0dff544d970d27", func := "loop.example/prologserver/laws.FnExactInstanceOf", spec := "fnExactInstanceOf", unfollowed := true, recurses := true, loops := true, apart := false, narrowed := true }
def FnExactInstanceOfUptoSaid : Prop := fnExactInstanceOfUptoRow.holds Try.pinned (OpenSpec.upto fnExactInstanceOfSpec)

/-- 'laws.FnExactVariantTerms', WHERE WHAT IT READS IS OF BULK AT MOST 1048576: true; the input reads as it did. -/
def fnExactVariantTermsUptoRow : OpenClaim := { program := "ytagaciadcgijoaa", sum := "eed28b265372c6b57bd9f3b8fe6fc9f0de9f3b4c599466fe7d0dff544d970d27", func := "loop.example/prologserver/laws.FnExactVariantTerms", spec := "fnExactVariantTerms", unfollowed := true, recurses := true, loops := true, apart := false, narrowed := true }
def FnExactVariantTermsUptoSaid : Prop := fnExactVariantTermsUptoRow.holds Try.pinned (OpenSpec.upto fnExactVariantTermsSpec)

/-- 'laws.FnExactGeneralize', WHERE WHAT IT READS IS OF BULK AT MOST 1048576: true; the input reads as it did. -/
def fnExactGeneralizeUptoRow : OpenClaim := { program := "ytagaciadcgijoaa", sum := "eed28b265372c6b57bd9f3b8fe6fc9f0de9f3b4c599466fe7d0dff544d970d27", func := "loop.example/prologserver/laws.FnExactGeneralize", spec := "fnExactGeneralize", unfollowed := true, recurses := true, loops := true, apart := false, narrowed := true }
def FnExactGeneralizeUptoSaid : Prop := fnExactGeneralizeUptoRow.holds Try.pinned (OpenSpec.upto fnExactGeneralizeSpec)

/-- 'laws.FnRenumberTerms', WHERE WHAT IT READS IS OF BULK AT MOST 1048576: true; the input reads as it did. -/
def fnRenumberTermsUptoRow : OpenClaim := { program := "ytagaciadcgijoaa", sum := "eed28b265372c6b57bd9f3b8fe6fc9f0de9f3b4c599466fe7d0dff544d970d27", func := "loop.example/prologserver/laws.FnRenumberTerms", spec := "fnRenumberTerms", unfollowed := true, recurses := true, apart := false, narrowed := true }
def FnRenumberTermsUptoSaid : Prop := fnRenumberTermsUptoRow.holds Try.pinned (OpenSpec.upto fnRenumberTermsSpec)

/-- 'laws.FnExactClausesFor', WHERE WHAT IT READS IS OF BULK AT MOST 1048576: true; the input reads as it did. -/
def fnExactClausesForUptoRow : OpenClaim := { program := "ytagaciadcgijoaa", sum := "eed28b265372c6b57bd9f3b8fe6fc9f0de9f3b4c599466fe7d0dff544d970d27", func := "loop.example/prologserver/laws.FnExactClausesFor", spec := "fnExactClausesFor", unfollowed := true, recurses := true, loops := true, apart := false, narrowed := true }
def FnExactClausesForUptoSaid : Prop := fnExactClausesForUptoRow.holds Try.pinned (OpenSpec.upto fnExactClausesForSpec)

end Rows
end Go.Proofs.Ytagaciadcgijoaa

/-
  NARROWER THAN 'FOR EVERY INPUT', by the rows' own cells (each row's printed sentence says how): FnExactClauseSame: loops · FnExactTermValid: loops · FnExactCountNodes: loops · FnExactCompareGoal: loops · FnExactGoalValid: loops · FnExactInstanceOf: loops · FnExactTermVars: loops · FnExactVariantTerms: loops · FnExactShiftTerm: loops.
  DERIVED. THE GIVEN ROWS OF THIS SEAT. 12 by the template 'for every input the law returns true; each argument reads behind the call as it read before'; 0 by the template 'total and deterministic' (their statements: YtkbnohfmdbmemaaTotals.lean).
  GIVEN WITH THE SEED: the statements are not yours to turn. If you find one false, say at which input.
  Laid BY PROGRAM, IN A SANDBOX (cutbox-rows.mjs): the forced cells as the released guide's own fill.sh prints them over the translation 6ee3df9d37810907… (all of the seat's roots in one cut). By AI agents, Wed Nov 11 2026. No macro, syntax, notation, axiom, sorry.
-/
import Derived.Test.YtkbnohfmdbmemaaChecked
import GoSem.Claim
import GoSem.ClaimJoined
import GoSem.ClaimMapViews
import Derived.JoinedTies
import Derived.KernelRfl
namespace Go.Proofs.Ytkbnohfmdbmemaa
/- THE CELL 'sum', in the pinned program and in every row, IS THE sha256 OF THE DUMP (.gsa) THAT YtkbnohfmdbmemaaProg.lean LOADS. Nothing in Lean hashes anything: it is a label: what it is worth is what the hold of that sum in a sandbox is worth. -/
noncomputable def Try.pinned : Pinned := { name := "ytkbnohfmdbmemaa", sum := "6ee3df9d378109076d0c3a9e9bfac00447c8d4c583d34659bd1cb7d60fa6c785", checked := Try.checked }
namespace Rows
def none {H : Type} : Left H := { results := [], args := [] }

/-- 'laws.FnTermParts': WHATEVER THE INPUT: true; the input reads as it did. -/
def fnTermPartsSpec : ChangeSpec := { name := "fnTermParts", fn := fun _ => fun
  | [d] => { results := [.lit (.bool true)], args := [d] }
  | _ => none }
def fnTermPartsRow : OpenClaim := { program := "ytkbnohfmdbmemaa", sum := "6ee3df9d378109076d0c3a9e9bfac00447c8d4c583d34659bd1cb7d60fa6c785", func := "loop.example/prologserver/laws.FnTermParts", spec := "fnTermParts", unfollowed := true, recurses := true, apart := false }
def FnTermPartsSaid : Prop := fnTermPartsRow.holds Try.pinned (OpenSpec.ofChange fnTermPartsSpec)

/-- ITS FALSE NEIGHBOUR: 'it returns false'. Refute it at one input. -/
def fnTermPartsWrong : ChangeSpec := { name := "fnTermParts", fn := fun _ => fun
  | [d] => { results := [.lit (.bool false)], args := [d] }
  | _ => none }
def FnTermPartsWrongFalsely : Prop := fnTermPartsRow.holds Try.pinned (OpenSpec.ofChange fnTermPartsWrong)

/-- 'laws.FnExactClauseSame': WHATEVER THE INPUT: true; the input reads as it did. -/
def fnExactClauseSameSpec : ChangeSpec := { name := "fnExactClauseSame", fn := fun _ => fun
  | [d1, d2] => { results := [.lit (.bool true)], args := [d1, d2] }
  | _ => none }
def fnExactClauseSameRow : OpenClaim := { program := "ytkbnohfmdbmemaa", sum := "6ee3df9d378109076d0c3a9e9bfac00447c8d4c583d34659bd1cb7d60fa6c785", func := "loop.example/prologserver/laws.FnExactClauseSame", spec := "fnExactClauseSame", unfollowed := true, recurses := true, loops := true, apart := false }
def FnExactClauseSameSaid : Prop := fnExactClauseSameRow.holds Try.pinned (OpenSpec.ofChange fnExactClauseSameSpec)

/-- ITS FALSE NEIGHBOUR: 'it returns false'. Refute it at one input. -/
def fnExactClauseSameWrong : ChangeSpec := { name := "fnExactClauseSame", fn := fun _ => fun
  | [d1, d2] => { results := [.lit (.bool false)], args := [d1, d2] }
  | _ => none }
def FnExactClauseSameWrongFalsely : Prop := fnExactClauseSameRow.holds Try.pinned (OpenSpec.ofChange fnExactClauseSameWrong)

/-- 'laws.FnExactTermValid': WHATEVER THE INPUT: true; the input reads as it did. -/
def fnExactTermValidSpec : ChangeSpec := { name := "fnExactTermValid", fn := fun _ => fun
  | [d] => { results := [.lit (.bool true)], args := [d] }
  | _ => none }
def fnExactTermValidRow : OpenClaim := { program := "ytkbnohfmdbmemaa", sum := "6ee3df9d378109076d0c3a9e9bfac00447c8d4c583d34659bd1cb7d60fa6c785", func := "loop.example/prologserver/laws.FnExactTermValid", spec := "fnExactTermValid", unfollowed := true, recurses := true, loops := true, apart := false }
def FnExactTermValidSaid : Prop := fnExactTermValidRow.holds Try.pinned (OpenSpec.ofChange fnExactTermValidSpec)

/-- ITS FALSE NEIGHBOUR: 'it returns false'. Refute it at one input. -/
def fnExactTermValidWrong : ChangeSpec := { name := "fnExactTermValid", fn := fun _ => fun
  | [d] => { results := [.lit (.bool false)], args := [d] }
  | _ => none }
def FnExactTermValidWrongFalsely : Prop := fnExactTermValidRow.holds Try.pinned (OpenSpec.ofChange fnExactTermValidWrong)

/-- 'laws.FnExactCountNodes': WHATEVER THE INPUT: true; the input reads as it did. -/
def fnExactCountNodesSpec : ChangeSpec := { name := "fnExactCountNodes", fn := fun _ => fun
  | [d] => { results := [.lit (.bool true)], args := [d] }
  | _ => none }
def fnExactCountNodesRow : OpenClaim := { program := "ytkbnohfmdbmemaa", sum := "6ee3df9d378109076d0c3a9e9bfac00447c8d4c583d34659bd1cb7d60fa6c785", func := "loop.example/prologserver/laws.FnExactCountNodes", spec := "fnExactCountNodes", unfollowed := true, recurses := true, loops := true, apart := false }
def FnExactCountNodesSaid : Prop := fnExactCountNodesRow.holds Try.pinned (OpenSpec.ofChange fnExactCountNodesSpec)

/-- ITS FALSE NEIGHBOUR: 'it returns false'. Refute it at one input. -/
def fnExactCountNodesWrong : ChangeSpec := { name := "fnExactCountNodes", fn := fun _ => fun
  | [d] => { results := [.lit (.bool false)], args := [d] }
  | _ => none }
def FnExactCountNodesWrongFalsely : Prop := fnExactCountNodesRow.holds Try.pinned (OpenSpec.ofChange fnExactCountNodesWrong)

/-- 'laws.FnExactCompareGoal': WHATEVER THE INPUT: true; the input reads as it did. -/
def fnExactCompareGoalSpec : ChangeSpec := { name := "fnExactCompareGoal", fn := fun _ => fun
  | [d] => { results := [.lit (.bool true)], args := [d] }
  | _ => none }
def fnExactCompareGoalRow : OpenClaim := { program := "ytkbnohfmdbmemaa", sum := "6ee3df9d378109076d0c3a9e9bfac00447c8d4c583d34659bd1cb7d60fa6c785", func := "loop.example/prologserver/laws.FnExactCompareGoal", spec := "fnExactCompareGoal", unfollowed := true, recurses := true, loops := true, apart := false }
def FnExactCompareGoalSaid : Prop := fnExactCompareGoalRow.holds Try.pinned (OpenSpec.ofChange fnExactCompareGoalSpec)

/-- ITS FALSE NEIGHBOUR: 'it returns false'. Refute it at one input. -/
def fnExactCompareGoalWrong : ChangeSpec := { name := "fnExactCompareGoal", fn := fun _ => fun
  | [d] => { results := [.lit (.bool false)], args := [d] }
  | _ => none }
def FnExactCompareGoalWrongFalsely : Prop := fnExactCompareGoalRow.holds Try.pinned (OpenSpec.ofChange fnExactCompareGoalWrong)

/-- 'laws.FnCountNodes': WHATEVER THE INPUT: true; the input reads as it did. -/
def fnCountNodesSpec : ChangeSpec := { name := "fnCountNodes", fn := fun _ => fun
  | [d] => { results := [.lit (.bool true)], args := [d] }
  | _ => none }
def fnCountNodesRow : OpenClaim := { program := "ytkbnohfmdbmemaa", sum := "6ee3df9d378109076d0c3a9e9bfac00447c8d4c583d34659bd1cb7d60fa6c785", func := "loop.example/prologserver/laws.FnCountNodes", spec := "fnCountNodes", unfollowed := true, recurses := true, apart := false }
def FnCountNodesSaid : Prop := fnCountNodesRow.holds Try.pinned (OpenSpec.ofChange fnCountNodesSpec)

/-- ITS FALSE NEIGHBOUR: 'it returns false'. Refute it at one input. -/
def fnCountNodesWrong : ChangeSpec := { name := "fnCountNodes", fn := fun _ => fun
  | [d] => { results := [.lit (.bool false)], args := [d] }
  | _ => none }
def FnCountNodesWrongFalsely : Prop := fnCountNodesRow.holds Try.pinned (OpenSpec.ofChange fnCountNodesWrong)

/-- 'laws.FnExactGoalValid': WHATEVER THE INPUT: true; the input reads as it did. -/
def fnExactGoalValidSpec : ChangeSpec := { name := "fnExactGoalValid", fn := fun _ => fun
  | [d] => { results := [.lit (.bool true)], args := [d] }
  | _ => none }
def fnExactGoalValidRow : OpenClaim := { program := "ytkbnohfmdbmemaa", sum := "6ee3df9d378109076d0c3a9e9bfac00447c8d4c583d34659bd1cb7d60fa6c785", func := "loop.example/prologserver/laws.FnExactGoalValid", spec := "fnExactGoalValid", unfollowed := true, recurses := true, loops := true, apart := false }
def FnExactGoalValidSaid : Prop := fnExactGoalValidRow.holds Try.pinned (OpenSpec.ofChange fnExactGoalValidSpec)

/-- ITS FALSE NEIGHBOUR: 'it returns false'. Refute it at one input. -/
def fnExactGoalValidWrong : ChangeSpec := { name := "fnExactGoalValid", fn := fun _ => fun
  | [d] => { results := [.lit (.bool false)], args := [d] }
  | _ => none }
def FnExactGoalValidWrongFalsely : Prop := fnExactGoalValidRow.holds Try.pinned (OpenSpec.ofChange fnExactGoalValidWrong)

/-- 'laws.FnTermVars': WHATEVER THE INPUT: true; the input reads as it did. -/
def fnTermVarsSpec : ChangeSpec := { name := "fnTermVars", fn := fun _ => fun
  | [d] => { results := [.lit (.bool true)], args := [d] }
  | _ => none }
def fnTermVarsRow : OpenClaim := { program := "ytkbnohfmdbmemaa", sum := "6ee3df9d378109076d0c3a9e9bfac00447c8d4c583d34659bd1cb7d60fa6c785", func := "loop.example/prologserver/laws.FnTermVars", spec := "fnTermVars", unfollowed := true, recurses := true, apart := false }
def FnTermVarsSaid : Prop := fnTermVarsRow.holds Try.pinned (OpenSpec.ofChange fnTermVarsSpec)

/-- ITS FALSE NEIGHBOUR: 'it returns false'. Refute it at one input. -/
def fnTermVarsWrong : ChangeSpec := { name := "fnTermVars", fn := fun _ => fun
  | [d] => { results := [.lit (.bool false)], args := [d] }
  | _ => none }
def FnTermVarsWrongFalsely : Prop := fnTermVarsRow.holds Try.pinned (OpenSpec.ofChange fnTermVarsWrong)

/-- 'laws.FnExactInstanceOf': WHATEVER THE INPUT: true; the input reads as it did. -/
def fnExactInstanceOfSpec : ChangeSpec := { name := "fnExactInstanceOf", fn := fun _ => fun
  | [d1, d2] => { results := [.lit (.bool true)], args := [d1, d2] }
  | _ => none }
def fnExactInstanceOfRow : OpenClaim := { program := "ytkbnohfmdbmemaa", sum := "6ee3df9d378109076d0c3a9e9bfac00447c8d4c583d34659bd1cb7d60fa6c785", func := "loop.example/prologserver/laws.FnExactInstanceOf", spec := "fnExactInstanceOf", unfollowed := true, recurses := true, loops := true, apart := false }
def FnExactInstanceOfSaid : Prop := fnExactInstanceOfRow.holds Try.pinned (OpenSpec.ofChange fnExactInstanceOfSpec)

/-- ITS FALSE NEIGHBOUR: 'it returns false'. Refute it at one input. -/
def fnExactInstanceOfWrong : ChangeSpec := { name := "fnExactInstanceOf", fn := fun _ => fun
  | [d1, d2] => { results := [.lit (.bool false)], args := [d1, d2] }
  | _ => none }
def FnExactInstanceOfWrongFalsely : Prop := fnExactInstanceOfRow.holds Try.pinned (OpenSpec.ofChange fnExactInstanceOfWrong)

/-- 'laws.FnExactTermVars': WHATEVER THE INPUT: true; the input reads as it did. -/
def fnExactTermVarsSpec : ChangeSpec := { name := "fnExactTermVars", fn := fun _ => fun
  | [d] => { results := [.lit (.bool true)], args := [d] }
  | _ => none }
def fnExactTermVarsRow : OpenClaim := { program := "ytkbnohfmdbmemaa", sum := "6ee3df9d378109076d0c3a9e9bfac00447c8d4c583d34659bd1cb7d60fa6c785", func := "loop.example/prologserver/laws.FnExactTermVars", spec := "fnExactTermVars", unfollowed := true, recurses := true, loops := true, apart := false }
def FnExactTermVarsSaid : Prop := fnExactTermVarsRow.holds Try.pinned (OpenSpec.ofChange fnExactTermVarsSpec)

/-- ITS FALSE NEIGHBOUR: 'it returns false'. Refute it at one input. -/
def fnExactTermVarsWrong : ChangeSpec := { name := "fnExactTermVars", fn := fun _ => fun
  | [d] => { results := [.lit (.bool false)], args := [d] }
  | _ => none }
def FnExactTermVarsWrongFalsely : Prop := fnExactTermVarsRow.holds Try.pinned (OpenSpec.ofChange fnExactTermVarsWrong)

/-- 'laws.FnExactVariantTerms': WHATEVER THE INPUT: true; the input reads as it did. -/
def fnExactVariantTermsSpec : ChangeSpec := { name := "fnExactVariantTerms", fn := fun _ => fun
  | [d1, d2] => { results := [.lit (.bool true)], args := [d1, d2] }
  | _ => none }
def fnExactVariantTermsRow : OpenClaim := { program := "ytkbnohfmdbmemaa", sum := "6ee3df9d378109076d0c3a9e9bfac00447c8d4c583d34659bd1cb7d60fa6c785", func := "loop.example/prologserver/laws.FnExactVariantTerms", spec := "fnExactVariantTerms", unfollowed := true, recurses := true, loops := true, apart := false }
def FnExactVariantTermsSaid : Prop := fnExactVariantTermsRow.holds Try.pinned (OpenSpec.ofChange fnExactVariantTermsSpec)

/-- ITS FALSE NEIGHBOUR: 'it returns false'. Refute it at one input. -/
def fnExactVariantTermsWrong : ChangeSpec := { name := "fnExactVariantTerms", fn := fun _ => fun
  | [d1, d2] => { results := [.lit (.bool false)], args := [d1, d2] }
  | _ => none }
def FnExactVariantTermsWrongFalsely : Prop := fnExactVariantTermsRow.holds Try.pinned (OpenSpec.ofChange fnExactVariantTermsWrong)

/-- 'laws.FnExactShiftTerm': WHATEVER THE INPUT: true; the input reads as it did. -/
def fnExactShiftTermSpec : ChangeSpec := { name := "fnExactShiftTerm", fn := fun _ => fun
  | [d1, d2] => { results := [.lit (.bool true)], args := [d1, d2] }
  | _ => none }
def fnExactShiftTermRow : OpenClaim := { program := "ytkbnohfmdbmemaa", sum := "6ee3df9d378109076d0c3a9e9bfac00447c8d4c583d34659bd1cb7d60fa6c785", func := "loop.example/prologserver/laws.FnExactShiftTerm", spec := "fnExactShiftTerm", unfollowed := true, recurses := true, loops := true, apart := false }
def FnExactShiftTermSaid : Prop := fnExactShiftTermRow.holds Try.pinned (OpenSpec.ofChange fnExactShiftTermSpec)

/-- ITS FALSE NEIGHBOUR: 'it returns false'. Refute it at one input. -/
def fnExactShiftTermWrong : ChangeSpec := { name := "fnExactShiftTerm", fn := fun _ => fun
  | [d1, d2] => { results := [.lit (.bool false)], args := [d1, d2] }
  | _ => none }
def FnExactShiftTermWrongFalsely : Prop := fnExactShiftTermRow.holds Try.pinned (OpenSpec.ofChange fnExactShiftTermWrong)

/- THE SECOND FORM. 'bulk': how many values and letters a reading holds, each counted each time it is reached (what is shared counts as often as it is met; a slice's spare places count too). A statement '..UptoSaid' is the law's where the arguments, and the package variables that the reading takes, are together of bulk at most 1048576: NARROWER than '..Said'. Prove '..Said' where nothing that the law and all that it calls make is longer than what came in: it says more and counts as full. Else prove '..UptoSaid'. A law counts once. -/
mutual
def uptoBulk {H : Type} : DataW H → Nat
  | .lit (.string bytes) => bytes.length + 1
  | .lit _ => 1
  | .nil => 1
  | .ptr d => uptoBulk d + 1
  | .slice elems spare => uptoBulkAll elems + uptoBulkAll spare + 1
  | .agg parts => uptoBulkAll parts + 1
  | .iface _ d => uptoBulk d + 1
  | .map entries => uptoBulkEntries entries + 1
  | .held _ => 1
def uptoBulkAll {H : Type} : List (DataW H) → Nat
  | [] => 0
  | d :: r => uptoBulk d + uptoBulkAll r
def uptoBulkEntries {H : Type} : List (Lit × DataW H) → Nat
  | [] => 0
  | x :: r => uptoBulkEntry x + uptoBulkEntries r
def uptoBulkEntry {H : Type} : Lit × DataW H → Nat
  | (.string bytes, d) => bytes.length + uptoBulk d + 1
  | (_, d) => uptoBulk d + 1
 end
def uptoSmall : (H : Type) → List (DataW H) → Bool := fun _ ds => decide (uptoBulkAll ds ≤ 1048576)
def OpenSpec.upto (s : _root_.Go.ChangeSpec) : _root_.Go.OpenSpec := { _root_.Go.OpenSpec.ofChange s with cond := some uptoSmall }

/-- 'laws.FnTermParts', WHERE WHAT IT READS IS OF BULK AT MOST 1048576: true; the input reads as it did. -/
def fnTermPartsUptoRow : OpenClaim := { program := "ytkbnohfmdbmemaa", sum := "6ee3df9d378109076d0c3a9e9bfac00447c8d4c583d34659bd1cb7d60fa6c785", func := "loop.example/prologserver/laws.FnTermParts", spec := "fnTermParts", unfollowed := true, recurses := true, apart := false, narrowed := true }
def FnTermPartsUptoSaid : Prop := fnTermPartsUptoRow.holds Try.pinned (OpenSpec.upto fnTermPartsSpec)

/-- 'laws.FnExactClauseSame', WHERE WHAT IT READS IS OF BULK AT MOST 1048576: true; the input reads as it did. -/
def fnExactClauseSameUptoRow : OpenClaim := { program := "ytkbnohfmdbmemaa", sum := "6ee3df9d378109076d0c3a9e9bfac00447c8d4c583d34659bd1cb7d60fa6c785", func := "loop.example/prologserver/laws.FnExactClauseSame", spec := "fnExactClauseSame", unfollowed := true, recurses := true, loops := true, apart := false, narrowed := true }
def FnExactClauseSameUptoSaid : Prop := fnExactClauseSameUptoRow.holds Try.pinned (OpenSpec.upto fnExactClauseSameSpec)

/-- 'laws.FnExactTermValid', WHERE WHAT IT READS IS OF BULK AT MOST 1048576: true; the input reads as it did. -/
def fnExactTermValidUptoRow : OpenClaim := { program := "ytkbnohfmdbmemaa", sum := "6ee3df9d378109076d0c3a9e9bfac00447c8d4c583d34659bd1cb7d60fa6c785", func := "loop.example/prologserver/laws.FnExactTermValid", spec := "fnExactTermValid", unfollowed := true, recurses := true, loops := true, apart := false, narrowed := true }
def FnExactTermValidUptoSaid : Prop := fnExactTermValidUptoRow.holds Try.pinned (OpenSpec.upto fnExactTermValidSpec)

/-- 'laws.FnExactCountNodes', WHERE WHAT IT READS IS OF BULK AT MOST 1048576: true; the input reads as it did. -/
def fnExactCountNodesUptoRow : OpenClaim := { program := "ytkbnohfmdbmemaa", sum := "6ee3df9d378109076d0c3a9e9bfac00447c8d4c583d34659bd1cb7d60fa6c785", func := "loop.example/prologserver/laws.FnExactCountNodes", spec := "fnExactCountNodes", unfollowed := true, recurses := true, loops := true, apart := false, narrowed := true }
def FnExactCountNodesUptoSaid : Prop := fnExactCountNodesUptoRow.holds Try.pinned (OpenSpec.upto fnExactCountNodesSpec)

/-- 'laws.FnExactCompareGoal', WHERE WHAT IT READS IS OF BULK AT MOST 1048576: true; the input reads as it did. -/
def fnExactCompareGoalUptoRow : OpenClaim := { program := "ytkbnohfmdbmemaa", sum := "6ee3df9d378109076d0c3a9e9bfac00447c8d4c583d34659bd1cb7d60fa6c785", func := "loop.example/prologserver/laws.FnExactCompareGoal", spec := "fnExactCompareGoal", unfollowed := true, recurses := true, loops := true, apart := false, narrowed := true }
def FnExactCompareGoalUptoSaid : Prop := fnExactCompareGoalUptoRow.holds Try.pinned (OpenSpec.upto fnExactCompareGoalSpec)

/-- 'laws.FnCountNodes', WHERE WHAT IT READS IS OF BULK AT MOST 1048576: true; the input reads as it did. -/
def fnCountNodesUptoRow : OpenClaim := { program := "ytkbnohfmdbmemaa", sum := "6ee3df9d378109076d0c3a9e9bfac00447c8d4c583d34659bd1cb7d60fa6c785", func := "loop.example/prologserver/laws.FnCountNodes", spec := "fnCountNodes", unfollowed := true, recurses := true, apart := false, narrowed := true }
def FnCountNodesUptoSaid : Prop := fnCountNodesUptoRow.holds Try.pinned (OpenSpec.upto fnCountNodesSpec)

/-- 'laws.FnExactGoalValid', WHERE WHAT IT READS IS OF BULK AT MOST 1048576: true; the input reads as it did. -/
def fnExactGoalValidUptoRow : OpenClaim := { program := "ytkbnohfmdbmemaa", sum := "6ee3df9d378109076d0c3a9e9bfac00447c8d4c583d34659bd1cb7d60fa6c785", func := "loop.example/prologserver/laws.FnExactGoalValid", spec := "fnExactGoalValid", unfollowed := true, recurses := true, loops := true, apart := false, narrowed := true }
def FnExactGoalValidUptoSaid : Prop := fnExactGoalValidUptoRow.holds Try.pinned (OpenSpec.upto fnExactGoalValidSpec)

/-- 'laws.FnTermVars', WHERE WHAT IT READS IS OF BULK AT MOST 1048576: true; the input reads as it did. -/
def fnTermVarsUptoRow : OpenClaim := { program := "ytkbnohfmdbmemaa", sum := "6ee3df9d378109076d0c3a9e9bfac00447c8d4c583d34659bd1cb7d60fa6c785", func := "loop.example/prologserver/laws.FnTermVars", spec := "fnTermVars", unfollowed := true, recurses := true, apart := false, narrowed := true }
def FnTermVarsUptoSaid : Prop := fnTermVarsUptoRow.holds Try.pinned (OpenSpec.upto fnTermVarsSpec)

/-- 'laws.FnExactInstanceOf', WHERE WHAT IT READS IS OF BULK AT MOST 1048576: true; the input reads as it did. -/
def fnExactInstanceOfUptoRow : OpenClaim := { program := "ytkbnohfmdbmemaa", sum := "6ee3df9d378109076d0c3a9e9bfac00447c8d4c583d34659bd1cb7d60fa6c785", func := "loop.example/prologserver/laws.FnExactInstanceOf", spec := "fnExactInstanceOf", unfollowed := true, recurses := true, loops := true, apart := false, narrowed := true }
def FnExactInstanceOfUptoSaid : Prop := fnExactInstanceOfUptoRow.holds Try.pinned (OpenSpec.upto fnExactInstanceOfSpec)

/-- 'laws.FnExactTermVars', WHERE WHAT IT READS IS OF BULK AT MOST 1048576: true; the input reads as it did. -/
def fnExactTermVarsUptoRow : OpenClaim := { program := "ytkbnohfmdbmemaa", sum := "6ee3df9d378109076d0c3a9e9bfac00447c8d4c583d34659bd1cb7d60fa6c785", func := "loop.example/prologserver/laws.FnExactTermVars", spec := "fnExactTermVars", unfollowed := true, recurses := true, loops := true, apart := false, narrowed := true }
def FnExactTermVarsUptoSaid : Prop := fnExactTermVarsUptoRow.holds Try.pinned (OpenSpec.upto fnExactTermVarsSpec)

/-- 'laws.FnExactVariantTerms', WHERE WHAT IT READS IS OF BULK AT MOST 1048576: true; the input reads as it did. -/
def fnExactVariantTermsUptoRow : OpenClaim := { program := "ytkbnohfmdbmemaa", sum := "6ee3df9d378109076d0c3a9e9bfac00447c8d4c583d34659bd1cb7d60fa6c785", func := "loop.example/prologserver/laws.FnExactVariantTerms", spec := "fnExactVariantTerms", unfollowed := true, recurses := true, loops := true, apart := false, narrowed := true }
def FnExactVariantTermsUptoSaid : Prop := fnExactVariantTermsUptoRow.holds Try.pinned (OpenSpec.upto fnExactVariantTermsSpec)

/-- 'laws.FnExactShiftTerm', WHERE WHAT IT READS IS OF BULK AT MOST 1048576: true; the input reads as it did. -/
def fnExactShiftTermUptoRow : OpenClaim := { program := "ytkbnohfmdbmemaa", sum := "6ee3df9d378109076d0c3a9e9bfac00447c8d4c583d34659bd1cb7d60fa6c785", func := "loop.example/prologserver/laws.FnExactShiftTerm", spec := "fnExactShiftTerm", unfollowed := true, recurses := true, loops := true, apart := false, narrowed := true }
def FnExactShiftTermUptoSaid : Prop := fnExactShiftTermUptoRow.holds Try.pinned (OpenSpec.upto fnExactShiftTermSpec)

end Rows
end Go.Proofs.Ytkbnohfmdbmemaa

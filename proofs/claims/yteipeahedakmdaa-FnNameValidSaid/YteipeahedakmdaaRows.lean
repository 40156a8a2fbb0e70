/-
  NARROWER THAN 'FOR EVERY INPUT', by the rows' own cells (each row's printed sentence says how): FnExactTermSame: loops.
  DERIVED. THE GIVEN ROWS OF THIS SEAT. 6 by the template 'for every input the law returns true; each argument reads behind the call as it read before'; 0 by the template 'total and deterministic' (their statements: YteipeahedakmdaaTotals.lean).
  GIVEN WITH THE SEED: the statements are not yours to turn. If you find one false, say at which input.
  Laid BY PROGRAM, IN A SANDBOX (cutbox-rows.mjs): the forced cells as the released guide's own fill.sh prints them over the translation 5e92076ca811b4e2… (all of the seat's roots in one cut). By AI agents, Wed Nov 11 2026. No macro, syntax, notation, axiom, sorry.
-/
import Derived.Test.YteipeahedakmdaaChecked
import GoSem.Claim
import GoSem.ClaimJoined
import GoSem.ClaimMapViews
import Derived.JoinedTies
import Derived.KernelRfl
namespace Go.Proofs.Yteipeahedakmdaa
/- THE CELL 'sum', in the pinned program and in every row, IS THE sha256 OF THE DUMP (.gsa) THAT YteipeahedakmdaaProg.lean LOADS. Nothing in Lean hashes anything: it is a label: what it is worth is what the hold of that sum in a sandbox is worth. -/
noncomputable def Try.pinned : Pinned := { name := "yteipeahedakmdaa", sum := "5e92076ca811b4e2f2fe49f68f799f8bb0c6d65abec9404e7f192807516d69d5", checked := Try.checked }
namespace Rows
def none {H : Type} : Left H := { results := [], args := [] }

/-- 'laws.FnExactConstants': WHATEVER THE INPUT: true; the input reads as it did. -/
def fnExactConstantsSpec : ChangeSpec := { name := "fnExactConstants", fn := fun _ => fun
  | [] => { results := [.lit (.bool true)], args := [] }
  | _ => none }
def fnExactConstantsRow : OpenClaim := { program := "yteipeahedakmdaa", sum := "5e92076ca811b4e2f2fe49f68f799f8bb0c6d65abec9404e7f192807516d69d5", func := "loop.example/prologserver/laws.FnExactConstants", spec := "fnExactConstants", apart := false }
def FnExactConstantsSaid : Prop := fnExactConstantsRow.holds Try.pinned (OpenSpec.ofChange fnExactConstantsSpec)

/-- ITS FALSE NEIGHBOUR: 'it returns false'. Refute it at one input. -/
def fnExactConstantsWrong : ChangeSpec := { name := "fnExactConstants", fn := fun _ => fun
  | [] => { results := [.lit (.bool false)], args := [] }
  | _ => none }
def FnExactConstantsWrongFalsely : Prop := fnExactConstantsRow.holds Try.pinned (OpenSpec.ofChange fnExactConstantsWrong)

/-- 'laws.FnExactIsBuiltin': WHATEVER THE INPUT: true; the input reads as it did. -/
def fnExactIsBuiltinSpec : ChangeSpec := { name := "fnExactIsBuiltin", fn := fun _ => fun
  | [d1, d2] => { results := [.lit (.bool true)], args := [d1, d2] }
  | _ => none }
def fnExactIsBuiltinRow : OpenClaim := { program := "yteipeahedakmdaa", sum := "5e92076ca811b4e2f2fe49f68f799f8bb0c6d65abec9404e7f192807516d69d5", func := "loop.example/prologserver/laws.FnExactIsBuiltin", spec := "fnExactIsBuiltin", apart := false }
def FnExactIsBuiltinSaid : Prop := fnExactIsBuiltinRow.holds Try.pinned (OpenSpec.ofChange fnExactIsBuiltinSpec)

/-- ITS FALSE NEIGHBOUR: 'it returns false'. Refute it at one input. -/
def fnExactIsBuiltinWrong : ChangeSpec := { name := "fnExactIsBuiltin", fn := fun _ => fun
  | [d1, d2] => { results := [.lit (.bool false)], args := [d1, d2] }
  | _ => none }
def FnExactIsBuiltinWrongFalsely : Prop := fnExactIsBuiltinRow.holds Try.pinned (OpenSpec.ofChange fnExactIsBuiltinWrong)

/-- 'laws.FnExactOpLevel': WHATEVER THE INPUT: true; the input reads as it did. -/
def fnExactOpLevelSpec : ChangeSpec := { name := "fnExactOpLevel", fn := fun _ => fun
  | [d] => { results := [.lit (.bool true)], args := [d] }
  | _ => none }
def fnExactOpLevelRow : OpenClaim := { program := "yteipeahedakmdaa", sum := "5e92076ca811b4e2f2fe49f68f799f8bb0c6d65abec9404e7f192807516d69d5", func := "loop.example/prologserver/laws.FnExactOpLevel", spec := "fnExactOpLevel", apart := false }
def FnExactOpLevelSaid : Prop := fnExactOpLevelRow.holds Try.pinned (OpenSpec.ofChange fnExactOpLevelSpec)

/-- ITS FALSE NEIGHBOUR: 'it returns false'. Refute it at one input. -/
def fnExactOpLevelWrong : ChangeSpec := { name := "fnExactOpLevel", fn := fun _ => fun
  | [d] => { results := [.lit (.bool false)], args := [d] }
  | _ => none }
def FnExactOpLevelWrongFalsely : Prop := fnExactOpLevelRow.holds Try.pinned (OpenSpec.ofChange fnExactOpLevelWrong)

/-- 'laws.FnExactNameValid': WHATEVER THE INPUT: true; the input reads as it did. -/
def fnExactNameValidSpec : ChangeSpec := { name := "fnExactNameValid", fn := fun _ => fun
  | [d] => { results := [.lit (.bool true)], args := [d] }
  | _ => none }
def fnExactNameValidRow : OpenClaim := { program := "yteipeahedakmdaa", sum := "5e92076ca811b4e2f2fe49f68f799f8bb0c6d65abec9404e7f192807516d69d5", func := "loop.example/prologserver/laws.FnExactNameValid", spec := "fnExactNameValid", apart := false }
def FnExactNameValidSaid : Prop := fnExactNameValidRow.holds Try.pinned (OpenSpec.ofChange fnExactNameValidSpec)

/-- ITS FALSE NEIGHBOUR: 'it returns false'. Refute it at one input. -/
def fnExactNameValidWrong : ChangeSpec := { name := "fnExactNameValid", fn := fun _ => fun
  | [d] => { results := [.lit (.bool false)], args := [d] }
  | _ => none }
def FnExactNameValidWrongFalsely : Prop := fnExactNameValidRow.holds Try.pinned (OpenSpec.ofChange fnExactNameValidWrong)

/-- 'laws.FnExactTermSame': WHATEVER THE INPUT: true; the input reads as it did. -/
def fnExactTermSameSpec : ChangeSpec := { name := "fnExactTermSame", fn := fun _ => fun
  | [d1, d2] => { results := [.lit (.bool true)], args := [d1, d2] }
  | _ => none }
def fnExactTermSameRow : OpenClaim := { program := "yteipeahedakmdaa", sum := "5e92076ca811b4e2f2fe49f68f799f8bb0c6d65abec9404e7f192807516d69d5", func := "loop.example/prologserver/laws.FnExactTermSame", spec := "fnExactTermSame", unfollowed := true, recurses := true, loops := true, apart := false }
def FnExactTermSameSaid : Prop := fnExactTermSameRow.holds Try.pinned (OpenSpec.ofChange fnExactTermSameSpec)

/-- ITS FALSE NEIGHBOUR: 'it returns false'. Refute it at one input. -/
def fnExactTermSameWrong : ChangeSpec := { name := "fnExactTermSame", fn := fun _ => fun
  | [d1, d2] => { results := [.lit (.bool false)], args := [d1, d2] }
  | _ => none }
def FnExactTermSameWrongFalsely : Prop := fnExactTermSameRow.holds Try.pinned (OpenSpec.ofChange fnExactTermSameWrong)

/-- 'laws.FnNameValid': WHATEVER THE INPUT: true; the input reads as it did. -/
def fnNameValidSpec : ChangeSpec := { name := "fnNameValid", fn := fun _ => fun
  | [d] => { results := [.lit (.bool true)], args := [d] }
  | _ => none }
def fnNameValidRow : OpenClaim := { program := "yteipeahedakmdaa", sum := "5e92076ca811b4e2f2fe49f68f799f8bb0c6d65abec9404e7f192807516d69d5", func := "loop.example/prologserver/laws.FnNameValid", spec := "fnNameValid", unfollowed := true, recurses := true, apart := false }
def FnNameValidSaid : Prop := fnNameValidRow.holds Try.pinned (OpenSpec.ofChange fnNameValidSpec)

/-- ITS FALSE NEIGHBOUR: 'it returns false'. Refute it at one input. -/
def fnNameValidWrong : ChangeSpec := { name := "fnNameValid", fn := fun _ => fun
  | [d] => { results := [.lit (.bool false)], args := [d] }
  | _ => none }
def FnNameValidWrongFalsely : Prop := fnNameValidRow.holds Try.pinned (OpenSpec.ofChange fnNameValidWrong)

/- THE SECOND FORM. 'bulk': how many values and letters a reading holds, each counted each time it is reached (what is shared counts as often as it is met; a slice's spare places count too). A statement '..UptoSaid' is the law's where the arguments, and the package variables that the reading takes, are together of bulk at most 1048576: NARROWER than '..Said'. Prove '..Said' where nothing that the law and all that it calls make is longer than what came in: it says more and counts as full. Else prove '..UptoSaid'. A law counts once. -/
mutual
def uptoBulk {H : Type} : DataW H → Nat
  | .lit (.string bytes) => bytes.length + 1
  | .lit _ => 1
  | .nil => 1
  | .ptr d => uptoBulk d + 1
  | .slice elems spare => uptoBulkAll elems + uptoBulkAll spare + 1
  | .agg parts => uptoBulkAll parts + 1
  | .iface _ d => uptoBulk d + 1
  | .map entries => uptoBulkEntries entries + 1
  | .held _ => 1
def uptoBulkAll {H : Type} : List (DataW H) → Nat
  | [] => 0
  | d :: r => uptoBulk d + uptoBulkAll r
def uptoBulkEntries {H : Type} : List (Lit × DataW H) → Nat
  | [] => 0
  | x :: r => uptoBulkEntry x + uptoBulkEntries r
def uptoBulkEntry {H : Type} : Lit × DataW H → Nat
  | (.string bytes, d) => bytes.length + uptoBulk d + 1
  | (_, d) => uptoBulk d + 1
 end
def uptoSmall : (H : Type) → List (DataW H) → Bool := fun _ ds => decide (uptoBulkAll ds ≤ 1048576)
def OpenSpec.upto (s : _root_.Go.ChangeSpec) : _root_.Go.OpenSpec := { _root_.Go.OpenSpec.ofChange s with cond := some uptoSmall }

/-- 'laws.FnExactConstants', WHERE WHAT IT READS IS OF BULK AT MOST 1048576: true; the input reads as it did. -/
def fnExactConstantsUptoRow : OpenClaim := { program := "yteipeahedakmdaa", sum := "5e92076ca811b4e2f2fe49f68f799f8bb0c6d65abec9404e7f192807516d69d5", func := "loop.example/prologserver/laws.FnExactConstants", spec := "fnExactConstants", apart := false, narrowed := true }
def FnExactConstantsUptoSaid : Prop := fnExactConstantsUptoRow.holds Try.pinned (OpenSpec.upto fnExactConstantsSpec)

/-- 'laws.FnExactIsBuiltin', WHERE WHAT IT READS IS OF BULK AT MOST 1048576: true; the input reads as it did. -/
def fnExactIsBuiltinUptoRow : OpenClaim := { program := "yteipeahedakmdaa", sum := "5e92076ca811b4e2f2fe49f68f799f8bb0c6d65abec9404e7f192807516d69d5", func := "loop.example/prologserver/laws.FnExactIsBuiltin", spec := "fnExactIsBuiltin", apart := false, narrowed := true }
def FnExactIsBuiltinUptoSaid : Prop := fnExactIsBuiltinUptoRow.holds Try.pinned (OpenSpec.upto fnExactIsBuiltinSpec)

/-- 'laws.FnExactOpLevel', WHERE WHAT IT READS IS OF BULK AT MOST 1048576: true; the input reads as it did. -/
def fnExactOpLevelUptoRow : OpenClaim := { program := "yteipeahedakmdaa", sum := "5e92076ca811b4e2f2fe49f68f799f8bb0c6d65abec9404e7f192807516d69d5", func := "loop.example/prologserver/laws.FnExactOpLevel", spec := "fnExactOpLevel", apart := false, narrowed := true }
def FnExactOpLevelUptoSaid : Prop := fnExactOpLevelUptoRow.holds Try.pinned (OpenSpec.upto fnExactOpLevelSpec)

/-- 'laws.FnExactNameValid', WHERE WHAT IT READS IS OF BULK AT MOST 1048576: true; the input reads as it did. -/
def fnExactNameValidUptoRow : OpenClaim := { program := "yteipeahedakmdaa", sum := "5e92076ca811b4e2f2fe49f68f799f8bb0c6d65abec9404e7f192807516d69d5", func := "loop.example/prologserver/laws.FnExactNameValid", spec := "fnExactNameValid", apart := false, narrowed := true }
def FnExactNameValidUptoSaid : Prop := fnExactNameValidUptoRow.holds Try.pinned (OpenSpec.upto fnExactNameValidSpec)

/-- 'laws.FnExactTermSame', WHERE WHAT IT READS IS OF BULK AT MOST 1048576: true; the input reads as it did. -/
def fnExactTermSameUptoRow : OpenClaim := { program := "yteipeahedakmdaa", sum := "5e92076ca811b4e2f2fe49f68f799f8bb0c6d65abec9404e7f192807516d69d5", func := "loop.example/prologserver/laws.FnExactTermSame", spec := "fnExactTermSame", unfollowed := true, recurses := true, loops := true, apart := false, narrowed := true }
def FnExactTermSameUptoSaid : Prop := fnExactTermSameUptoRow.holds Try.pinned (OpenSpec.upto fnExactTermSameSpec)

/-- 'laws.FnNameValid', WHERE WHAT IT READS IS OF BULK AT MOST 1048576: true; the input reads as it did. -/
def fnNameValidUptoRow : OpenClaim := { program := "yteipeahedakmdaa", sum := "5e92076ca811b4e2f2fe49f68f799f8bb0c6d65abec9404e7f192807516d69d5", func := "loop.example/prologserver/laws.FnNameValid", spec := "fnNameValid", unfollowed := true, recurses := true, apart := false, narrowed := true }
def FnNameValidUptoSaid : Prop := fnNameValidUptoRow.holds Try.pinned (OpenSpec.upto fnNameValidSpec)

end Rows
end Go.Proofs.Yteipeahedakmdaa

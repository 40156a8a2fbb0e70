/-
  NARROWER THAN 'FOR EVERY INPUT', by the rows' own cells (each row's printed sentence says how): FnExactInstanceOf: loops · FnExactGeneralize: loops · FnExactUnifyTerms: loops.
  DERIVED. THE GIVEN ROWS OF THIS SEAT. 8 by the template 'for every input the law returns true; each argument reads behind the call as it read before'; 0 by the template 'total and deterministic' (their statements: YteplfajhmpmklaaTotals.lean).
  GIVEN WITH THE SEED: the statements are not yours to turn. If you find one false, say at which input.
  Laid BY PROGRAM, IN A SANDBOX (cutbox-rows.mjs): the forced cells as the released guide's own fill.sh prints them over the translation d8a5d56315624a05… (all of the seat's roots in one cut). By AI agents, Wed Nov 11 2026. No macro, syntax, notation, axiom, sorry.
-/
import Derived.Test.YteplfajhmpmklaaChecked
import GoSem.Claim
import GoSem.ClaimJoined
import GoSem.ClaimMapViews
import Derived.JoinedTies
import Derived.KernelRfl
namespace Go.Proofs.Yteplfajhmpmklaa
/- THE CELL 'sum', in the pinned program and in every row, IS THE sha256 OF THE DUMP (.gsa) THAT YteplfajhmpmklaaProg.lean LOADS. Nothing in Lean hashes anything: it is a label: what it is worth is what the hold of that sum in a sandbox is worth. -/
noncomputable def Try.pinned : Pinned := { name := "yteplfajhmpmklaa", sum := "d8a5d56315624a05161130118db3752c987e5fb3db6680055950bc9b4797133d", checked := Try.checked }
namespace Rows
def none {H : Type} : Left H := { results := [], args := [] }

/-- 'laws.FnExactInstanceOf': WHATEVER THE INPUT: true; the input reads as it did. -/
def fnExactInstanceOfSpec : ChangeSpec := { name := "fnExactInstanceOf", fn := fun _ => fun
  | [d1, d2] => { results := [.lit (.bool true)], args := [d1, d2] }
  | _ => none }
def fnExactInstanceOfRow : OpenClaim := { program := "yteplfajhmpmklaa", sum := "d8a5d56315624a05161130118db3752c987e5fb3db6680055950bc9b4797133d", func := "loop.example/prologserver/laws.FnExactInstanceOf", spec := "fnExactInstanceOf", unfollowed := true, recurses := true, loops := true, apart := false }
def FnExactInstanceOfSaid : Prop := fnExactInstanceOfRow.holds Try.pinned (OpenSpec.ofChange fnExactInstanceOfSpec)

/-- ITS FALSE NEIGHBOUR: 'it returns false'. Refute it at one input. -/
def fnExactInstanceOfWrong : ChangeSpec := { name := "fnExactInstanceOf", fn := fun _ => fun
  | [d1, d2] => { results := [.lit (.bool false)], args := [d1, d2] }
  | _ => none }
def FnExactInstanceOfWrongFalsely : Prop := fnExactInstanceOfRow.holds Try.pinned (OpenSpec.ofChange fnExactInstanceOfWrong)

/-- 'laws.FnVariantTerms': WHATEVER THE INPUT: true; the input reads as it did. -/
def fnVariantTermsSpec : ChangeSpec := { name := "fnVariantTerms", fn := fun _ => fun
  | [d] => { results := [.lit (.bool true)], args := [d] }
  | _ => none }
def fnVariantTermsRow : OpenClaim := { program := "yteplfajhmpmklaa", sum := "d8a5d56315624a05161130118db3752c987e5fb3db6680055950bc9b4797133d", func := "loop.example/prologserver/laws.FnVariantTerms", spec := "fnVariantTerms", unfollowed := true, recurses := true, apart := false }
def FnVariantTermsSaid : Prop := fnVariantTermsRow.holds Try.pinned (OpenSpec.ofChange fnVariantTermsSpec)

/-- ITS FALSE NEIGHBOUR: 'it returns false'. Refute it at one input. -/
def fnVariantTermsWrong : ChangeSpec := { name := "fnVariantTerms", fn := fun _ => fun
  | [d] => { results := [.lit (.bool false)], args := [d] }
  | _ => none }
def FnVariantTermsWrongFalsely : Prop := fnVariantTermsRow.holds Try.pinned (OpenSpec.ofChange fnVariantTermsWrong)

/-- 'laws.FnExactGeneralize': WHATEVER THE INPUT: true; the input reads as it did. -/
def fnExactGeneralizeSpec : ChangeSpec := { name := "fnExactGeneralize", fn := fun _ => fun
  | [d1, d2] => { results := [.lit (.bool true)], args := [d1, d2] }
  | _ => none }
def fnExactGeneralizeRow : OpenClaim := { program := "yteplfajhmpmklaa", sum := "d8a5d56315624a05161130118db3752c987e5fb3db6680055950bc9b4797133d", func := "loop.example/prologserver/laws.FnExactGeneralize", spec := "fnExactGeneralize", unfollowed := true, recurses := true, loops := true, apart := false }
def FnExactGeneralizeSaid : Prop := fnExactGeneralizeRow.holds Try.pinned (OpenSpec.ofChange fnExactGeneralizeSpec)

/-- ITS FALSE NEIGHBOUR: 'it returns false'. Refute it at one input. -/
def fnExactGeneralizeWrong : ChangeSpec := { name := "fnExactGeneralize", fn := fun _ => fun
  | [d1, d2] => { results := [.lit (.bool false)], args := [d1, d2] }
  | _ => none }
def FnExactGeneralizeWrongFalsely : Prop := fnExactGeneralizeRow.holds Try.pinned (OpenSpec.ofChange fnExactGeneralizeWrong)

/-- 'laws.FnInstanceOf': WHATEVER THE INPUT: true; the input reads as it did. -/
def fnInstanceOfSpec : ChangeSpec := { name := "fnInstanceOf", fn := fun _ => fun
  | [d1, d2] => { results := [.lit (.bool true)], args := [d1, d2] }
  | _ => none }
def fnInstanceOfRow : OpenClaim := { program := "yteplfajhmpmklaa", sum := "d8a5d56315624a05161130118db3752c987e5fb3db6680055950bc9b4797133d", func := "loop.example/prologserver/laws.FnInstanceOf", spec := "fnInstanceOf", unfollowed := true, recurses := true, apart := false }
def FnInstanceOfSaid : Prop := fnInstanceOfRow.holds Try.pinned (OpenSpec.ofChange fnInstanceOfSpec)

/-- ITS FALSE NEIGHBOUR: 'it returns false'. Refute it at one input. -/
def fnInstanceOfWrong : ChangeSpec := { name := "fnInstanceOf", fn := fun _ => fun
  | [d1, d2] => { results := [.lit (.bool false)], args := [d1, d2] }
  | _ => none }
def FnInstanceOfWrongFalsely : Prop := fnInstanceOfRow.holds Try.pinned (OpenSpec.ofChange fnInstanceOfWrong)

/-- 'laws.FnGeneralizeSelf': WHATEVER THE INPUT: true; the input reads as it did. -/
def fnGeneralizeSelfSpec : ChangeSpec := { name := "fnGeneralizeSelf", fn := fun _ => fun
  | [d] => { results := [.lit (.bool true)], args := [d] }
  | _ => none }
def fnGeneralizeSelfRow : OpenClaim := { program := "yteplfajhmpmklaa", sum := "d8a5d56315624a05161130118db3752c987e5fb3db6680055950bc9b4797133d", func := "loop.example/prologserver/laws.FnGeneralizeSelf", spec := "fnGeneralizeSelf", unfollowed := true, recurses := true, apart := false }
def FnGeneralizeSelfSaid : Prop := fnGeneralizeSelfRow.holds Try.pinned (OpenSpec.ofChange fnGeneralizeSelfSpec)

/-- ITS FALSE NEIGHBOUR: 'it returns false'. Refute it at one input. -/
def fnGeneralizeSelfWrong : ChangeSpec := { name := "fnGeneralizeSelf", fn := fun _ => fun
  | [d] => { results := [.lit (.bool false)], args := [d] }
  | _ => none }
def FnGeneralizeSelfWrongFalsely : Prop := fnGeneralizeSelfRow.holds Try.pinned (OpenSpec.ofChange fnGeneralizeSelfWrong)

/-- 'laws.FnGeneralize': WHATEVER THE INPUT: true; the input reads as it did. -/
def fnGeneralizeSpec : ChangeSpec := { name := "fnGeneralize", fn := fun _ => fun
  | [d1, d2] => { results := [.lit (.bool true)], args := [d1, d2] }
  | _ => none }
def fnGeneralizeRow : OpenClaim := { program := "yteplfajhmpmklaa", sum := "d8a5d56315624a05161130118db3752c987e5fb3db6680055950bc9b4797133d", func := "loop.example/prologserver/laws.FnGeneralize", spec := "fnGeneralize", unfollowed := true, recurses := true, apart := false }
def FnGeneralizeSaid : Prop := fnGeneralizeRow.holds Try.pinned (OpenSpec.ofChange fnGeneralizeSpec)

/-- ITS FALSE NEIGHBOUR: 'it returns false'. Refute it at one input. -/
def fnGeneralizeWrong : ChangeSpec := { name := "fnGeneralize", fn := fun _ => fun
  | [d1, d2] => { results := [.lit (.bool false)], args := [d1, d2] }
  | _ => none }
def FnGeneralizeWrongFalsely : Prop := fnGeneralizeRow.holds Try.pinned (OpenSpec.ofChange fnGeneralizeWrong)

/-- 'laws.FnExactUnifyTerms': WHATEVER THE INPUT: true; the input reads as it did. -/
def fnExactUnifyTermsSpec : ChangeSpec := { name := "fnExactUnifyTerms", fn := fun _ => fun
  | [d1, d2] => { results := [.lit (.bool true)], args := [d1, d2] }
  | _ => none }
def fnExactUnifyTermsRow : OpenClaim := { program := "yteplfajhmpmklaa", sum := "d8a5d56315624a05161130118db3752c987e5fb3db6680055950bc9b4797133d", func := "loop.example/prologserver/laws.FnExactUnifyTerms", spec := "fnExactUnifyTerms", unfollowed := true, recurses := true, loops := true, apart := false }
def FnExactUnifyTermsSaid : Prop := fnExactUnifyTermsRow.holds Try.pinned (OpenSpec.ofChange fnExactUnifyTermsSpec)

/-- ITS FALSE NEIGHBOUR: 'it returns false'. Refute it at one input. -/
def fnExactUnifyTermsWrong : ChangeSpec := { name := "fnExactUnifyTerms", fn := fun _ => fun
  | [d1, d2] => { results := [.lit (.bool false)], args := [d1, d2] }
  | _ => none }
def FnExactUnifyTermsWrongFalsely : Prop := fnExactUnifyTermsRow.holds Try.pinned (OpenSpec.ofChange fnExactUnifyTermsWrong)

/-- 'laws.FnUnifySelf': WHATEVER THE INPUT: true; the input reads as it did. -/
def fnUnifySelfSpec : ChangeSpec := { name := "fnUnifySelf", fn := fun _ => fun
  | [d] => { results := [.lit (.bool true)], args := [d] }
  | _ => none }
def fnUnifySelfRow : OpenClaim := { program := "yteplfajhmpmklaa", sum := "d8a5d56315624a05161130118db3752c987e5fb3db6680055950bc9b4797133d", func := "loop.example/prologserver/laws.FnUnifySelf", spec := "fnUnifySelf", unfollowed := true, recurses := true, apart := false }
def FnUnifySelfSaid : Prop := fnUnifySelfRow.holds Try.pinned (OpenSpec.ofChange fnUnifySelfSpec)

/-- ITS FALSE NEIGHBOUR: 'it returns false'. Refute it at one input. -/
def fnUnifySelfWrong : ChangeSpec := { name := "fnUnifySelf", fn := fun _ => fun
  | [d] => { results := [.lit (.bool false)], args := [d] }
  | _ => none }
def FnUnifySelfWrongFalsely : Prop := fnUnifySelfRow.holds Try.pinned (OpenSpec.ofChange fnUnifySelfWrong)

/- THE SECOND FORM. 'bulk': how many values and letters a reading holds, each counted each time it is reached (what is shared counts as often as it is met; a slice's spare places count too). A statement '..UptoSaid' is the law's where the arguments, and the package variables that the reading takes, are together of bulk at most 1048576: NARROWER than '..Said'. Prove '..Said' where nothing that the law and all that it calls make is longer than what came in: it says more and counts as full. Else prove '..UptoSaid'. A law counts once. -/
mutual
def uptoBulk {H : Type} : DataW H → Nat
  | .lit (.string bytes) => bytes.length + 1
  | .lit _ => 1
  | .nil => 1
  | .ptr d => uptoBulk d + 1
  | .slice elems spare => uptoBulkAll elems + uptoBulkAll spare + 1
  | .agg parts => uptoBulkAll parts + 1
  | .iface _ d => uptoBulk d + 1
  | .map entries => uptoBulkEntries entries + 1
  | .held _ => 1
def uptoBulkAll {H : Type} : List (DataW H) → Nat
  | [] => 0
  | d :: r => uptoBulk d + uptoBulkAll r
def uptoBulkEntries {H : Type} : List (Lit × DataW H) → Nat
  | [] => 0
  | x :: r => uptoBulkEntry x + uptoBulkEntries r
def uptoBulkEntry {H : Type} : Lit × DataW H → Nat
  | (.string bytes, d) => bytes.length + uptoBulk d + 1
  | (_, d) => uptoBulk d + 1
 end
def uptoSmall : (H : Type) → List (DataW H) → Bool := fun _ ds => decide (uptoBulkAll ds ≤ 1048576)
def OpenSpec.upto (s : _root_.Go.ChangeSpec) : _root_.Go.OpenSpec := { _root_.Go.OpenSpec.ofChange s with cond := some uptoSmall }

/-- 'laws.FnExactInstanceOf', WHERE WHAT IT READS IS OF BULK AT MOST 1048576: true; the input reads as it did. -/
def fnExactInstanceOfUptoRow : OpenClaim := { program := "yteplfajhmpmklaa", sum := "d8a5d56315624a05161130118db3752c987e5fb3db6680055950bc9b4797133d", func := "loop.example/prologserver/laws.FnExactInstanceOf", spec := "fnExactInstanceOf", unfollowed := true, recurses := true, loops := true, apart := false, narrowed := true }
def FnExactInstanceOfUptoSaid : Prop := fnExactInstanceOfUptoRow.holds Try.pinned (OpenSpec.upto fnExactInstanceOfSpec)

/-- 'laws.FnVariantTerms', WHERE WHAT IT READS IS OF BULK AT MOST 1048576: true; the input reads as it did. -/
def fnVariantTermsUptoRow : OpenClaim := { program := "yteplfajhmpmklaa", sum := "d8a5d56315624a05161130118db3752c987e5fb3db6680055950bc9b4797133d", func := "loop.example/prologserver/laws.FnVariantTerms", spec := "fnVariantTerms", unfollowed := true, recurses := true, apart := false, narrowed := true }
def FnVariantTermsUptoSaid : Prop := fnVariantTermsUptoRow.holds Try.pinned (OpenSpec.upto fnVariantTermsSpec)

/-- 'laws.FnExactGeneralize', WHERE WHAT IT READS IS OF BULK AT MOST 1048576: true; the input reads as it did. -/
def fnExactGeneralizeUptoRow : OpenClaim := { program := "yteplfajhmpmklaa", sum := "d8a5d56315624a05161130118db3752c987e5fb3db6680055950bc9b4797133d", func := "loop.example/prologserver/laws.FnExactGeneralize", spec := "fnExactGeneralize", unfollowed := true, recurses := true, loops := true, apart := false, narrowed := true }
def FnExactGeneralizeUptoSaid : Prop := fnExactGeneralizeUptoRow.holds Try.pinned (OpenSpec.upto fnExactGeneralizeSpec)

/-- 'laws.FnInstanceOf', WHERE WHAT IT READS IS OF BULK AT MOST 1048576: true; the input reads as it did. -/
def fnInstanceOfUptoRow : OpenClaim := { program := "yteplfajhmpmklaa", sum := "d8a5d56315624a05161130118db3752c987e5fb3db6680055950bc9b4797133d", func := "loop.example/prologserver/laws.FnInstanceOf", spec := "fnInstanceOf", unfollowed := true, recurses := true, apart := false, narrowed := true }
def FnInstanceOfUptoSaid : Prop := fnInstanceOfUptoRow.holds Try.pinned (OpenSpec.upto fnInstanceOfSpec)

/-- 'laws.FnGeneralizeSelf', WHERE WHAT IT READS IS OF BULK AT MOST 1048576: true; the input reads as it did. -/
def fnGeneralizeSelfUptoRow : OpenClaim := { program := "yteplfajhmpmklaa", sum := "d8a5d56315624a05161130118db3752c987e5fb3db6680055950bc9b4797133d", func := "loop.example/prologserver/laws.FnGeneralizeSelf", spec := "fnGeneralizeSelf", unfollowed := true, recurses := true, apart := false, narrowed := true }
def FnGeneralizeSelfUptoSaid : Prop := fnGeneralizeSelfUptoRow.holds Try.pinned (OpenSpec.upto fnGeneralizeSelfSpec)

/-- 'laws.FnGeneralize', WHERE WHAT IT READS IS OF BULK AT MOST 1048576: true; the input reads as it did. -/
def fnGeneralizeUptoRow : OpenClaim := { program := "yteplfajhmpmklaa", sum := "d8a5d56315624a05161130118db3752c987e5fb3db6680055950bc9b4797133d", func := "loop.example/prologserver/laws.FnGeneralize", spec := "fnGeneralize", unfollowed := true, recurses := true, apart := false, narrowed := true }
def FnGeneralizeUptoSaid : Prop := fnGeneralizeUptoRow.holds Try.pinned (OpenSpec.upto fnGeneralizeSpec)

/-- 'laws.FnExactUnifyTerms', WHERE WHAT IT READS IS OF BULK AT MOST 1048576: true; the input reads as it did. -/
def fnExactUnifyTermsUptoRow : OpenClaim := { program := "yteplfajhmpmklaa", sum := "d8a5d56315624a05161130118db3752c987e5fb3db6680055950bc9b4797133d", func := "loop.example/prologserver/laws.FnExactUnifyTerms", spec := "fnExactUnifyTerms", unfollowed := true, recurses := true, loops := true, apart := false, narrowed := true }
def FnExactUnifyTermsUptoSaid : Prop := fnExactUnifyTermsUptoRow.holds Try.pinned (OpenSpec.upto fnExactUnifyTermsSpec)

/-- 'laws.FnUnifySelf', WHERE WHAT IT READS IS OF BULK AT MOST 1048576: true; the input reads as it did. -/
def fnUnifySelfUptoRow : OpenClaim := { program := "yteplfajhmpmklaa", sum := "d8a5d56315624a05161130118db3752c987e5fb3db6680055950bc9b4797133d", func := "loop.example/prologserver/laws.FnUnifySelf", spec := "fnUnifySelf", unfollowed := true, recurses := true, apart := false, narrowed := true }
def FnUnifySelfUptoSaid : Prop := fnUnifySelfUptoRow.holds Try.pinned (OpenSpec.upto fnUnifySelfSpec)

end Rows
end Go.Proofs.Yteplfajhmpmklaa

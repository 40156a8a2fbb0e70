/-
  NARROWER THAN 'FOR EVERY INPUT', by the rows' own cells (each row's printed sentence says how): FnExactUnifyTerms: loops · FnExactCallBuiltin: loops.
  DERIVED. THE GIVEN ROWS OF THIS SEAT. 8 by the template 'for every input the law returns true; each argument reads behind the call as it read before'; 0 by the template 'total and deterministic' (their statements: YtdelhgodhkbjdaaTotals.lean).
  GIVEN WITH THE SEED: the statements are not yours to turn. If you find one false, say at which input.
  Laid BY PROGRAM, IN A SANDBOX (cutbox-rows.mjs): the forced cells as the released guide's own fill.sh prints them over the translation cf7261ceca9f1594… (all of the seat's roots in one cut). By AI agents, Wed Nov 11 2026. No macro, syntax, notation, axiom, sorry.
-/
import Derived.Test.YtdelhgodhkbjdaaChecked
import GoSem.Claim
import GoSem.ClaimJoined
import GoSem.ClaimMapViews
import Derived.JoinedTies
import Derived.KernelRfl
namespace Go.Proofs.Ytdelhgodhkbjdaa
/- THE CELL 'sum', in the pinned program and in every row, IS THE sha256 OF THE DUMP (.gsa) THAT YtdelhgodhkbjdaaProg.lean LOADS. Nothing in Lean hashes anything: it is a label: what it is worth is what the hold of that sum in a sandbox is worth. -/
noncomputable def Try.pinned : Pinned := { name := "ytdelhgodhkbjdaa", sum := "cf7261ceca9f1594d0a5c81ec917b6365a150b9d713e4fb197728a4ae0b423b6", checked := Try.checked }
namespace Rows
def none {H : Type} : Left H := { results := [], args := [] }

/-- 'laws.FnTestGoal': WHATEVER THE INPUT: true; the input reads as it did. -/
def fnTestGoalSpec : ChangeSpec := { name := "fnTestGoal", fn := fun _ => fun
  | [d] => { results := [.lit (.bool true)], args := [d] }
  | _ => none }
def fnTestGoalRow : OpenClaim := { program := "ytdelhgodhkbjdaa", sum := "cf7261ceca9f1594d0a5c81ec917b6365a150b9d713e4fb197728a4ae0b423b6", func := "loop.example/prologserver/laws.FnTestGoal", spec := "fnTestGoal", unfollowed := true, recurses := true, apart := false }
def FnTestGoalSaid : Prop := fnTestGoalRow.holds Try.pinned (OpenSpec.ofChange fnTestGoalSpec)

/-- ITS FALSE NEIGHBOUR: 'it returns false'. Refute it at one input. -/
def fnTestGoalWrong : ChangeSpec := { name := "fnTestGoal", fn := fun _ => fun
  | [d] => { results := [.lit (.bool false)], args := [d] }
  | _ => none }
def FnTestGoalWrongFalsely : Prop := fnTestGoalRow.holds Try.pinned (OpenSpec.ofChange fnTestGoalWrong)

/-- 'laws.FnCompareGoal': WHATEVER THE INPUT: true; the input reads as it did. -/
def fnCompareGoalSpec : ChangeSpec := { name := "fnCompareGoal", fn := fun _ => fun
  | [d] => { results := [.lit (.bool true)], args := [d] }
  | _ => none }
def fnCompareGoalRow : OpenClaim := { program := "ytdelhgodhkbjdaa", sum := "cf7261ceca9f1594d0a5c81ec917b6365a150b9d713e4fb197728a4ae0b423b6", func := "loop.example/prologserver/laws.FnCompareGoal", spec := "fnCompareGoal", unfollowed := true, recurses := true, apart := false }
def FnCompareGoalSaid : Prop := fnCompareGoalRow.holds Try.pinned (OpenSpec.ofChange fnCompareGoalSpec)

/-- ITS FALSE NEIGHBOUR: 'it returns false'. Refute it at one input. -/
def fnCompareGoalWrong : ChangeSpec := { name := "fnCompareGoal", fn := fun _ => fun
  | [d] => { results := [.lit (.bool false)], args := [d] }
  | _ => none }
def FnCompareGoalWrongFalsely : Prop := fnCompareGoalRow.holds Try.pinned (OpenSpec.ofChange fnCompareGoalWrong)

/-- 'laws.FnIsGoal': WHATEVER THE INPUT: true; the input reads as it did. -/
def fnIsGoalSpec : ChangeSpec := { name := "fnIsGoal", fn := fun _ => fun
  | [d] => { results := [.lit (.bool true)], args := [d] }
  | _ => none }
def fnIsGoalRow : OpenClaim := { program := "ytdelhgodhkbjdaa", sum := "cf7261ceca9f1594d0a5c81ec917b6365a150b9d713e4fb197728a4ae0b423b6", func := "loop.example/prologserver/laws.FnIsGoal", spec := "fnIsGoal", unfollowed := true, recurses := true, apart := false }
def FnIsGoalSaid : Prop := fnIsGoalRow.holds Try.pinned (OpenSpec.ofChange fnIsGoalSpec)

/-- ITS FALSE NEIGHBOUR: 'it returns false'. Refute it at one input. -/
def fnIsGoalWrong : ChangeSpec := { name := "fnIsGoal", fn := fun _ => fun
  | [d] => { results := [.lit (.bool false)], args := [d] }
  | _ => none }
def FnIsGoalWrongFalsely : Prop := fnIsGoalRow.holds Try.pinned (OpenSpec.ofChange fnIsGoalWrong)

/-- 'laws.FnArgGoal': WHATEVER THE INPUT: true; the input reads as it did. -/
def fnArgGoalSpec : ChangeSpec := { name := "fnArgGoal", fn := fun _ => fun
  | [d1, d2] => { results := [.lit (.bool true)], args := [d1, d2] }
  | _ => none }
def fnArgGoalRow : OpenClaim := { program := "ytdelhgodhkbjdaa", sum := "cf7261ceca9f1594d0a5c81ec917b6365a150b9d713e4fb197728a4ae0b423b6", func := "loop.example/prologserver/laws.FnArgGoal", spec := "fnArgGoal", unfollowed := true, recurses := true, apart := false }
def FnArgGoalSaid : Prop := fnArgGoalRow.holds Try.pinned (OpenSpec.ofChange fnArgGoalSpec)

/-- ITS FALSE NEIGHBOUR: 'it returns false'. Refute it at one input. -/
def fnArgGoalWrong : ChangeSpec := { name := "fnArgGoal", fn := fun _ => fun
  | [d1, d2] => { results := [.lit (.bool false)], args := [d1, d2] }
  | _ => none }
def FnArgGoalWrongFalsely : Prop := fnArgGoalRow.holds Try.pinned (OpenSpec.ofChange fnArgGoalWrong)

/-- 'laws.FnUnifySelf': WHATEVER THE INPUT: true; the input reads as it did. -/
def fnUnifySelfSpec : ChangeSpec := { name := "fnUnifySelf", fn := fun _ => fun
  | [d] => { results := [.lit (.bool true)], args := [d] }
  | _ => none }
def fnUnifySelfRow : OpenClaim := { program := "ytdelhgodhkbjdaa", sum := "cf7261ceca9f1594d0a5c81ec917b6365a150b9d713e4fb197728a4ae0b423b6", func := "loop.example/prologserver/laws.FnUnifySelf", spec := "fnUnifySelf", unfollowed := true, recurses := true, apart := false }
def FnUnifySelfSaid : Prop := fnUnifySelfRow.holds Try.pinned (OpenSpec.ofChange fnUnifySelfSpec)

/-- ITS FALSE NEIGHBOUR: 'it returns false'. Refute it at one input. -/
def fnUnifySelfWrong : ChangeSpec := { name := "fnUnifySelf", fn := fun _ => fun
  | [d] => { results := [.lit (.bool false)], args := [d] }
  | _ => none }
def FnUnifySelfWrongFalsely : Prop := fnUnifySelfRow.holds Try.pinned (OpenSpec.ofChange fnUnifySelfWrong)

/-- 'laws.FnExactUnifyTerms': WHATEVER THE INPUT: true; the input reads as it did. -/
def fnExactUnifyTermsSpec : ChangeSpec := { name := "fnExactUnifyTerms", fn := fun _ => fun
  | [d1, d2] => { results := [.lit (.bool true)], args := [d1, d2] }
  | _ => none }
def fnExactUnifyTermsRow : OpenClaim := { program := "ytdelhgodhkbjdaa", sum := "cf7261ceca9f1594d0a5c81ec917b6365a150b9d713e4fb197728a4ae0b423b6", func := "loop.example/prologserver/laws.FnExactUnifyTerms", spec := "fnExactUnifyTerms", unfollowed := true, recurses := true, loops := true, apart := false }
def FnExactUnifyTermsSaid : Prop := fnExactUnifyTermsRow.holds Try.pinned (OpenSpec.ofChange fnExactUnifyTermsSpec)

/-- ITS FALSE NEIGHBOUR: 'it returns false'. Refute it at one input. -/
def fnExactUnifyTermsWrong : ChangeSpec := { name := "fnExactUnifyTerms", fn := fun _ => fun
  | [d1, d2] => { results := [.lit (.bool false)], args := [d1, d2] }
  | _ => none }
def FnExactUnifyTermsWrongFalsely : Prop := fnExactUnifyTermsRow.holds Try.pinned (OpenSpec.ofChange fnExactUnifyTermsWrong)

/-- 'laws.FnUnifyGoal': WHATEVER THE INPUT: true; the input reads as it did. -/
def fnUnifyGoalSpec : ChangeSpec := { name := "fnUnifyGoal", fn := fun _ => fun
  | [d] => { results := [.lit (.bool true)], args := [d] }
  | _ => none }
def fnUnifyGoalRow : OpenClaim := { program := "ytdelhgodhkbjdaa", sum := "cf7261ceca9f1594d0a5c81ec917b6365a150b9d713e4fb197728a4ae0b423b6", func := "loop.example/prologserver/laws.FnUnifyGoal", spec := "fnUnifyGoal", unfollowed := true, recurses := true, apart := false }
def FnUnifyGoalSaid : Prop := fnUnifyGoalRow.holds Try.pinned (OpenSpec.ofChange fnUnifyGoalSpec)

/-- ITS FALSE NEIGHBOUR: 'it returns false'. Refute it at one input. -/
def fnUnifyGoalWrong : ChangeSpec := { name := "fnUnifyGoal", fn := fun _ => fun
  | [d] => { results := [.lit (.bool false)], args := [d] }
  | _ => none }
def FnUnifyGoalWrongFalsely : Prop := fnUnifyGoalRow.holds Try.pinned (OpenSpec.ofChange fnUnifyGoalWrong)

/-- 'laws.FnExactCallBuiltin': WHATEVER THE INPUT: true; the input reads as it did. -/
def fnExactCallBuiltinSpec : ChangeSpec := { name := "fnExactCallBuiltin", fn := fun _ => fun
  | [d] => { results := [.lit (.bool true)], args := [d] }
  | _ => none }
def fnExactCallBuiltinRow : OpenClaim := { program := "ytdelhgodhkbjdaa", sum := "cf7261ceca9f1594d0a5c81ec917b6365a150b9d713e4fb197728a4ae0b423b6", func := "loop.example/prologserver/laws.FnExactCallBuiltin", spec := "fnExactCallBuiltin", unfollowed := true, recurses := true, loops := true, apart := false }
def FnExactCallBuiltinSaid : Prop := fnExactCallBuiltinRow.holds Try.pinned (OpenSpec.ofChange fnExactCallBuiltinSpec)

/-- ITS FALSE NEIGHBOUR: 'it returns false'. Refute it at one input. -/
def fnExactCallBuiltinWrong : ChangeSpec := { name := "fnExactCallBuiltin", fn := fun _ => fun
  | [d] => { results := [.lit (.bool false)], args := [d] }
  | _ => none }
def FnExactCallBuiltinWrongFalsely : Prop := fnExactCallBuiltinRow.holds Try.pinned (OpenSpec.ofChange fnExactCallBuiltinWrong)

/- THE SECOND FORM. 'bulk': how many values and letters a reading holds, each counted each time it is reached (what is shared counts as often as it is met; a slice's spare places count too). A statement '..UptoSaid' is the law's where the arguments, and the package variables that the reading takes, are together of bulk at most 1048576: NARROWER than '..Said'. Prove '..Said' where nothing that the law and all that it calls make is longer than what came in: it says more and counts as full. Else prove '..UptoSaid'. A law counts once. -/
mutual
def uptoBulk {H : Type} : DataW H → Nat
  | .lit (.string bytes) => bytes.length + 1
  | .lit _ => 1
  | .nil => 1
  | .ptr d => uptoBulk d + 1
  | .slice elems spare => uptoBulkAll elems + uptoBulkAll spare + 1
  | .agg parts => uptoBulkAll parts + 1
  | .iface _ d => uptoBulk d + 1
  | .map entries => uptoBulkEntries entries + 1
  | .held _ => 1
def uptoBulkAll {H : Type} : List (DataW H) → Nat
  | [] => 0
  | d :: r => uptoBulk d + uptoBulkAll r
def uptoBulkEntries {H : Type} : List (Lit × DataW H) → Nat
  | [] => 0
  | x :: r => uptoBulkEntry x + uptoBulkEntries r
def uptoBulkEntry {H : Type} : Lit × DataW H → Nat
  | (.string bytes, d) => bytes.length + uptoBulk d + 1
  | (_, d) => uptoBulk d + 1
 end
def uptoSmall : (H : Type) → List (DataW H) → Bool := fun _ ds => decide (uptoBulkAll ds ≤ 1048576)
def OpenSpec.upto (s : _root_.Go.ChangeSpec) : _root_.Go.OpenSpec := { _root_.Go.OpenSpec.ofChange s with cond := some uptoSmall }

/-- 'laws.FnTestGoal', WHERE WHAT IT READS IS OF BULK AT MOST 1048576: true; the input reads as it did. -/
def fnTestGoalUptoRow : OpenClaim := { program := "ytdelhgodhkbjdaa", sum := "cf7261ceca9f1594d0a5c81ec917b6365a150b9d713e4fb197728a4ae0b423b6", func := "loop.example/prologserver/laws.FnTestGoal", spec := "fnTestGoal", unfollowed := true, recurses := true, apart := false, narrowed := true }
def FnTestGoalUptoSaid : Prop := fnTestGoalUptoRow.holds Try.pinned (OpenSpec.upto fnTestGoalSpec)

/-- 'laws.FnCompareGoal', WHERE WHAT IT READS IS OF BULK AT MOST 1048576: true; the input reads as it did. -/
def fnCompareGoalUptoRow : OpenClaim := { program := "ytdelhgodhkbjdaa", sum := "cf7261ceca9f1594d0a5c81ec917b6365a150b9d713e4fb197728a4ae0b423b6", func := "loop.example/prologserver/laws.FnCompareGoal", spec := "fnCompareGoal", unfollowed := true, recurses := true, apart := false, narrowed := true }
def FnCompareGoalUptoSaid : Prop := fnCompareGoalUptoRow.holds Try.pinned (OpenSpec.upto fnCompareGoalSpec)

/-- 'laws.FnIsGoal', WHERE WHAT IT READS IS OF BULK AT MOST 1048576: true; the input reads as it did. -/
def fnIsGoalUptoRow : OpenClaim := { program := "ytdelhgodhkbjdaa", sum := "cf7261ceca9f1594d0a5c81ec917b6365a150b9d713e4fb197728a4ae0b423b6", func := "loop.example/prologserver/laws.FnIsGoal", spec := "fnIsGoal", unfollowed := true, recurses := true, apart := false, narrowed := true }
def FnIsGoalUptoSaid : Prop := fnIsGoalUptoRow.holds Try.pinned (OpenSpec.upto fnIsGoalSpec)

/-- 'laws.FnArgGoal', WHERE WHAT IT READS IS OF BULK AT MOST 1048576: true; the input reads as it did. -/
def fnArgGoalUptoRow : OpenClaim := { program := "ytdelhgodhkbjdaa", sum := "cf7261ceca9f1594d0a5c81ec917b6365a150b9d713e4fb197728a4ae0b423b6", func := "loop.example/prologserver/laws.FnArgGoal", spec := "fnArgGoal", unfollowed := true, recurses := true, apart := false, narrowed := true }
def FnArgGoalUptoSaid : Prop := fnArgGoalUptoRow.holds Try.pinned (OpenSpec.upto fnArgGoalSpec)

/-- 'laws.FnUnifySelf', WHERE WHAT IT READS IS OF BULK AT MOST 1048576: true; the input reads as it did. -/
def fnUnifySelfUptoRow : OpenClaim := { program := "ytdelhgodhkbjdaa", sum := "cf7261ceca9f1594d0a5c81ec917b6365a150b9d713e4fb197728a4ae0b423b6", func := "loop.example/prologserver/laws.FnUnifySelf", spec := "fnUnifySelf", unfollowed := true, recurses := true, apart := false, narrowed := true }
def FnUnifySelfUptoSaid : Prop := fnUnifySelfUptoRow.holds Try.pinned (OpenSpec.upto fnUnifySelfSpec)

/-- 'laws.FnExactUnifyTerms', WHERE WHAT IT READS IS OF BULK AT MOST 1048576: true; the input reads as it did. -/
def fnExactUnifyTermsUptoRow : OpenClaim := { program := "ytdelhgodhkbjdaa", sum := "cf7261ceca9f1594d0a5c81ec917b6365a150b9d713e4fb197728a4ae0b423b6", func := "loop.example/prologserver/laws.FnExactUnifyTerms", spec := "fnExactUnifyTerms", unfollowed := true, recurses := true, loops := true, apart := false, narrowed := true }
def FnExactUnifyTermsUptoSaid : Prop := fnExactUnifyTermsUptoRow.holds Try.pinned (OpenSpec.upto fnExactUnifyTermsSpec)

/-- 'laws.FnUnifyGoal', WHERE WHAT IT READS IS OF BULK AT MOST 1048576: true; the input reads as it did. -/
def fnUnifyGoalUptoRow : OpenClaim := { program := "ytdelhgodhkbjdaa", sum := "cf7261ceca9f1594d0a5c81ec917b6365a150b9d713e4fb197728a4ae0b423b6", func := "loop.example/prologserver/laws.FnUnifyGoal", spec := "fnUnifyGoal", unfollowed := true, recurses := true, apart := false, narrowed := true }
def FnUnifyGoalUptoSaid : Prop := fnUnifyGoalUptoRow.holds Try.pinned (OpenSpec.upto fnUnifyGoalSpec)

/-- 'laws.FnExactCallBuiltin', WHERE WHAT IT READS IS OF BULK AT MOST 1048576: true; the input reads as it did. -/
def fnExactCallBuiltinUptoRow : OpenClaim := { program := "ytdelhgodhkbjdaa", sum := "cf7261ceca9f1594d0a5c81ec917b6365a150b9d713e4fb197728a4ae0b423b6", func := "loop.example/prologserver/laws.FnExactCallBuiltin", spec := "fnExactCallBuiltin", unfollowed := true, recurses := true, loops := true, apart := false, narrowed := true }
def FnExactCallBuiltinUptoSaid : Prop := fnExactCallBuiltinUptoRow.holds Try.pinned (OpenSpec.upto fnExactCallBuiltinSpec)

end Rows
end Go.Proofs.Ytdelhgodhkbjdaa

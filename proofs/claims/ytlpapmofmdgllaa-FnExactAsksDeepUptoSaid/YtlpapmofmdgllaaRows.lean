/-
  No cell of these rows narrows 'for every input' (looked for: loops, veiled, ifaces, maps, wideKeys, modest, calm, conditions, laid).
  DERIVED. THE GIVEN ROWS OF THIS SEAT. 7 by the template 'for every input the law returns true; each argument reads behind the call as it read before'; 0 by the template 'total and deterministic' (their statements: YtlpapmofmdgllaaTotals.lean).
  GIVEN WITH THE SEED: the statements are not yours to turn. If you find one false, say at which input.
  Laid BY PROGRAM, IN A SANDBOX (cutbox-rows.mjs): the forced cells as the released guide's own fill.sh prints them over the translation 08ffbac43ccb3b69… (all of the seat's roots in one cut). By AI agents, Wed Nov 11 2026. No macro, syntax, notation, axiom, sorry.
-/
import Derived.Test.YtlpapmofmdgllaaChecked
import GoSem.Claim
import GoSem.ClaimJoined
import GoSem.ClaimMapViews
import Derived.JoinedTies
import Derived.KernelRfl
namespace Go.Proofs.Ytlpapmofmdgllaa
/- THE CELL 'sum', in the pinned program and in every row, IS THE sha256 OF THE DUMP (.gsa) THAT YtlpapmofmdgllaaProg.lean LOADS. Nothing in Lean hashes anything: it is a label: what it is worth is what the hold of that sum in a sandbox is worth. -/
noncomputable def Try.pinned : Pinned := { name := "ytlpapmofmdgllaa", sum := "08ffbac43ccb3b6914aa4fb120c5aebcfc770f9ebffabafe655415ffba9216c5", checked := Try.checked }
namespace Rows
def none {H : Type} : Left H := { results := [], args := [] }

/-- 'laws.FnExactAsksOk': WHATEVER THE INPUT: true; the input reads as it did. -/
def fnExactAsksOkSpec : ChangeSpec := { name := "fnExactAsksOk", fn := fun _ => fun
  | [d] => { results := [.lit (.bool true)], args := [d] }
  | _ => none }
def fnExactAsksOkRow : OpenClaim := { program := "ytlpapmofmdgllaa", sum := "08ffbac43ccb3b6914aa4fb120c5aebcfc770f9ebffabafe655415ffba9216c5", func := "loop.example/g00395/laws.FnExactAsksOk", spec := "fnExactAsksOk", unfollowed := true, recurses := true, apart := false }
def FnExactAsksOkSaid : Prop := fnExactAsksOkRow.holds Try.pinned (OpenSpec.ofChange fnExactAsksOkSpec)

/-- ITS FALSE NEIGHBOUR: 'it returns false'. Refute it at one input. -/
def fnExactAsksOkWrong : ChangeSpec := { name := "fnExactAsksOk", fn := fun _ => fun
  | [d] => { results := [.lit (.bool false)], args := [d] }
  | _ => none }
def FnExactAsksOkWrongFalsely : Prop := fnExactAsksOkRow.holds Try.pinned (OpenSpec.ofChange fnExactAsksOkWrong)

/-- 'laws.FnExactAsksDeep': WHATEVER THE INPUT: true; the input reads as it did. -/
def fnExactAsksDeepSpec : ChangeSpec := { name := "fnExactAsksDeep", fn := fun _ => fun
  | [d] => { results := [.lit (.bool true)], args := [d] }
  | _ => none }
def fnExactAsksDeepRow : OpenClaim := { program := "ytlpapmofmdgllaa", sum := "08ffbac43ccb3b6914aa4fb120c5aebcfc770f9ebffabafe655415ffba9216c5", func := "loop.example/g00395/laws.FnExactAsksDeep", spec := "fnExactAsksDeep", unfollowed := true, recurses := true, apart := false }
def FnExactAsksDeepSaid : Prop := fnExactAsksDeepRow.holds Try.pinned (OpenSpec.ofChange fnExactAsksDeepSpec)

/-- ITS FALSE NEIGHBOUR: 'it returns false'. Refute it at one input. -/
def fnExactAsksDeepWrong : ChangeSpec := { name := "fnExactAsksDeep", fn := fun _ => fun
  | [d] => { results := [.lit (.bool false)], args := [d] }
  | _ => none }
def FnExactAsksDeepWrongFalsely : Prop := fnExactAsksDeepRow.holds Try.pinned (OpenSpec.ofChange fnExactAsksDeepWrong)

/-- 'laws.FnExactAsksRun': WHATEVER THE INPUT: true; the input reads as it did. -/
def fnExactAsksRunSpec : ChangeSpec := { name := "fnExactAsksRun", fn := fun _ => fun
  | [d1, d2] => { results := [.lit (.bool true)], args := [d1, d2] }
  | _ => none }
def fnExactAsksRunRow : OpenClaim := { program := "ytlpapmofmdgllaa", sum := "08ffbac43ccb3b6914aa4fb120c5aebcfc770f9ebffabafe655415ffba9216c5", func := "loop.example/g00395/laws.FnExactAsksRun", spec := "fnExactAsksRun", unfollowed := true, recurses := true, apart := false }
def FnExactAsksRunSaid : Prop := fnExactAsksRunRow.holds Try.pinned (OpenSpec.ofChange fnExactAsksRunSpec)

/-- ITS FALSE NEIGHBOUR: 'it returns false'. Refute it at one input. -/
def fnExactAsksRunWrong : ChangeSpec := { name := "fnExactAsksRun", fn := fun _ => fun
  | [d1, d2] => { results := [.lit (.bool false)], args := [d1, d2] }
  | _ => none }
def FnExactAsksRunWrongFalsely : Prop := fnExactAsksRunRow.holds Try.pinned (OpenSpec.ofChange fnExactAsksRunWrong)

/-- 'laws.FnExactFirstHit': WHATEVER THE INPUT: true; the input reads as it did. -/
def fnExactFirstHitSpec : ChangeSpec := { name := "fnExactFirstHit", fn := fun _ => fun
  | [d1, d2] => { results := [.lit (.bool true)], args := [d1, d2] }
  | _ => none }
def fnExactFirstHitRow : OpenClaim := { program := "ytlpapmofmdgllaa", sum := "08ffbac43ccb3b6914aa4fb120c5aebcfc770f9ebffabafe655415ffba9216c5", func := "loop.example/g00395/laws.FnExactFirstHit", spec := "fnExactFirstHit", unfollowed := true, recurses := true, apart := false }
def FnExactFirstHitSaid : Prop := fnExactFirstHitRow.holds Try.pinned (OpenSpec.ofChange fnExactFirstHitSpec)

/-- ITS FALSE NEIGHBOUR: 'it returns false'. Refute it at one input. -/
def fnExactFirstHitWrong : ChangeSpec := { name := "fnExactFirstHit", fn := fun _ => fun
  | [d1, d2] => { results := [.lit (.bool false)], args := [d1, d2] }
  | _ => none }
def FnExactFirstHitWrongFalsely : Prop := fnExactFirstHitRow.holds Try.pinned (OpenSpec.ofChange fnExactFirstHitWrong)

/-- 'laws.FnExactHit': WHATEVER THE INPUT: true; the input reads as it did. -/
def fnExactHitSpec : ChangeSpec := { name := "fnExactHit", fn := fun _ => fun
  | [d1, d2] => { results := [.lit (.bool true)], args := [d1, d2] }
  | _ => none }
def fnExactHitRow : OpenClaim := { program := "ytlpapmofmdgllaa", sum := "08ffbac43ccb3b6914aa4fb120c5aebcfc770f9ebffabafe655415ffba9216c5", func := "loop.example/g00395/laws.FnExactHit", spec := "fnExactHit", unfollowed := true, recurses := true, apart := false }
def FnExactHitSaid : Prop := fnExactHitRow.holds Try.pinned (OpenSpec.ofChange fnExactHitSpec)

/-- ITS FALSE NEIGHBOUR: 'it returns false'. Refute it at one input. -/
def fnExactHitWrong : ChangeSpec := { name := "fnExactHit", fn := fun _ => fun
  | [d1, d2] => { results := [.lit (.bool false)], args := [d1, d2] }
  | _ => none }
def FnExactHitWrongFalsely : Prop := fnExactHitRow.holds Try.pinned (OpenSpec.ofChange fnExactHitWrong)

/-- 'laws.FnExactAsksOf': WHATEVER THE INPUT: true; the input reads as it did. -/
def fnExactAsksOfSpec : ChangeSpec := { name := "fnExactAsksOf", fn := fun _ => fun
  | [d] => { results := [.lit (.bool true)], args := [d] }
  | _ => none }
def fnExactAsksOfRow : OpenClaim := { program := "ytlpapmofmdgllaa", sum := "08ffbac43ccb3b6914aa4fb120c5aebcfc770f9ebffabafe655415ffba9216c5", func := "loop.example/g00395/laws.FnExactAsksOf", spec := "fnExactAsksOf", unfollowed := true, recurses := true, apart := false }
def FnExactAsksOfSaid : Prop := fnExactAsksOfRow.holds Try.pinned (OpenSpec.ofChange fnExactAsksOfSpec)

/-- ITS FALSE NEIGHBOUR: 'it returns false'. Refute it at one input. -/
def fnExactAsksOfWrong : ChangeSpec := { name := "fnExactAsksOf", fn := fun _ => fun
  | [d] => { results := [.lit (.bool false)], args := [d] }
  | _ => none }
def FnExactAsksOfWrongFalsely : Prop := fnExactAsksOfRow.holds Try.pinned (OpenSpec.ofChange fnExactAsksOfWrong)

/-- 'laws.FnExactAsksArms': WHATEVER THE INPUT: true; the input reads as it did. -/
def fnExactAsksArmsSpec : ChangeSpec := { name := "fnExactAsksArms", fn := fun _ => fun
  | [d] => { results := [.lit (.bool true)], args := [d] }
  | _ => none }
def fnExactAsksArmsRow : OpenClaim := { program := "ytlpapmofmdgllaa", sum := "08ffbac43ccb3b6914aa4fb120c5aebcfc770f9ebffabafe655415ffba9216c5", func := "loop.example/g00395/laws.FnExactAsksArms", spec := "fnExactAsksArms", unfollowed := true, recurses := true, apart := false }
def FnExactAsksArmsSaid : Prop := fnExactAsksArmsRow.holds Try.pinned (OpenSpec.ofChange fnExactAsksArmsSpec)

/-- ITS FALSE NEIGHBOUR: 'it returns false'. Refute it at one input. -/
def fnExactAsksArmsWrong : ChangeSpec := { name := "fnExactAsksArms", fn := fun _ => fun
  | [d] => { results := [.lit (.bool false)], args := [d] }
  | _ => none }
def FnExactAsksArmsWrongFalsely : Prop := fnExactAsksArmsRow.holds Try.pinned (OpenSpec.ofChange fnExactAsksArmsWrong)

/- THE SECOND FORM. 'bulk': how many values and letters a reading holds, each counted each time it is reached (what is shared counts as often as it is met; a slice's spare places count too). A statement '..UptoSaid' is the law's where the arguments, and the package variables that the reading takes, are together of bulk at most 1048576: NARROWER than '..Said'. Prove '..Said' where nothing that the law and all that it calls make is longer than what came in: it says more and counts as full. Else prove '..UptoSaid'. A law counts once. -/
mutual
def uptoBulk {H : Type} : DataW H → Nat
  | .lit (.string bytes) => bytes.length + 1
  | .lit _ => 1
  | .nil => 1
  | .ptr d => uptoBulk d + 1
  | .slice elems spare => uptoBulkAll elems + uptoBulkAll spare + 1
  | .agg parts => uptoBulkAll parts + 1
  | .iface _ d => uptoBulk d + 1
  | .map entries => uptoBulkEntries entries + 1
  | .held _ => 1
def uptoBulkAll {H : Type} : List (DataW H) → Nat
  | [] => 0
  | d :: r => uptoBulk d + uptoBulkAll r
def uptoBulkEntries {H : Type} : List (Lit × DataW H) → Nat
  | [] => 0
  | x :: r => uptoBulkEntry x + uptoBulkEntries r
def uptoBulkEntry {H : Type} : Lit × DataW H → Nat
  | (.string bytes, d) => bytes.length + uptoBulk d + 1
  | (_, d) => uptoBulk d + 1
 end
def uptoSmall : (H : Type) → List (DataW H) → Bool := fun _ ds => decide (uptoBulkAll ds ≤ 1048576)
def OpenSpec.upto (s : _root_.Go.ChangeSpec) : _root_.Go.OpenSpec := { _root_.Go.OpenSpec.ofChange s with cond := some uptoSmall }

/-- 'laws.FnExactAsksOk', WHERE WHAT IT READS IS OF BULK AT MOST 1048576: true; the input reads as it did. -/
def fnExactAsksOkUptoRow : OpenClaim := { program := "ytlpapmofmdgllaa", sum := "08ffbac43ccb3b6914aa4fb120c5aebcfc770f9ebffabafe655415ffba9216c5", func := "loop.example/g00395/laws.FnExactAsksOk", spec := "fnExactAsksOk", unfollowed := true, recurses := true, apart := false, narrowed := true }
def FnExactAsksOkUptoSaid : Prop := fnExactAsksOkUptoRow.holds Try.pinned (OpenSpec.upto fnExactAsksOkSpec)

/-- 'laws.FnExactAsksDeep', WHERE WHAT IT READS IS OF BULK AT MOST 1048576: true; the input reads as it did. -/
def fnExactAsksDeepUptoRow : OpenClaim := { program := "ytlpapmofmdgllaa", sum := "08ffbac43ccb3b6914aa4fb120c5aebcfc770f9ebffabafe655415ffba9216c5", func := "loop.example/g00395/laws.FnExactAsksDeep", spec := "fnExactAsksDeep", unfollowed := true, recurses := true, apart := false, narrowed := true }
def FnExactAsksDeepUptoSaid : Prop := fnExactAsksDeepUptoRow.holds Try.pinned (OpenSpec.upto fnExactAsksDeepSpec)

/-- 'laws.FnExactAsksRun', WHERE WHAT IT READS IS OF BULK AT MOST 1048576: true; the input reads as it did. -/
def fnExactAsksRunUptoRow : OpenClaim := { program := "ytlpapmofmdgllaa", sum := "08ffbac43ccb3b6914aa4fb120c5aebcfc770f9ebffabafe655415ffba9216c5", func := "loop.example/g00395/laws.FnExactAsksRun", spec := "fnExactAsksRun", unfollowed := true, recurses := true, apart := false, narrowed := true }
def FnExactAsksRunUptoSaid : Prop := fnExactAsksRunUptoRow.holds Try.pinned (OpenSpec.upto fnExactAsksRunSpec)

/-- 'laws.FnExactFirstHit', WHERE WHAT IT READS IS OF BULK AT MOST 1048576: true; the input reads as it did. -/
def fnExactFirstHitUptoRow : OpenClaim := { program := "ytlpapmofmdgllaa", sum := "08ffbac43ccb3b6914aa4fb120c5aebcfc770f9ebffabafe655415ffba9216c5", func := "loop.example/g00395/laws.FnExactFirstHit", spec := "fnExactFirstHit", unfollowed := true, recurses := true, apart := false, narrowed := true }
def FnExactFirstHitUptoSaid : Prop := fnExactFirstHitUptoRow.holds Try.pinned (OpenSpec.upto fnExactFirstHitSpec)

/-- 'laws.FnExactHit', WHERE WHAT IT READS IS OF BULK AT MOST 1048576: true; the input reads as it did. -/
def fnExactHitUptoRow : OpenClaim := { program := "ytlpapmofmdgllaa", sum := "08ffbac43ccb3b6914aa4fb120c5aebcfc770f9ebffabafe655415ffba9216c5", func := "loop.example/g00395/laws.FnExactHit", spec := "fnExactHit", unfollowed := true, recurses := true, apart := false, narrowed := true }
def FnExactHitUptoSaid : Prop := fnExactHitUptoRow.holds Try.pinned (OpenSpec.upto fnExactHitSpec)

/-- 'laws.FnExactAsksOf', WHERE WHAT IT READS IS OF BULK AT MOST 1048576: true; the input reads as it did. -/
def fnExactAsksOfUptoRow : OpenClaim := { program := "ytlpapmofmdgllaa", sum := "08ffbac43ccb3b6914aa4fb120c5aebcfc770f9ebffabafe655415ffba9216c5", func := "loop.example/g00395/laws.FnExactAsksOf", spec := "fnExactAsksOf", unfollowed := true, recurses := true, apart := false, narrowed := true }
def FnExactAsksOfUptoSaid : Prop := fnExactAsksOfUptoRow.holds Try.pinned (OpenSpec.upto fnExactAsksOfSpec)

/-- 'laws.FnExactAsksArms', WHERE WHAT IT READS IS OF BULK AT MOST 1048576: true; the input reads as it did. -/
def fnExactAsksArmsUptoRow : OpenClaim := { program := "ytlpapmofmdgllaa", sum := "08ffbac43ccb3b6914aa4fb120c5aebcfc770f9ebffabafe655415ffba9216c5", func := "loop.example/g00395/laws.FnExactAsksArms", spec := "fnExactAsksArms", unfollowed := true, recurses := true, apart := false, narrowed := true }
def FnExactAsksArmsUptoSaid : Prop := fnExactAsksArmsUptoRow.holds Try.pinned (OpenSpec.upto fnExactAsksArmsSpec)

end Rows
end Go.Proofs.Ytlpapmofmdgllaa

/-
  No cell of these rows narrows 'for every input' (looked for: loops, veiled, ifaces, maps, wideKeys, modest, calm, conditions, laid).
  DERIVED. THE GIVEN ROWS OF THIS SEAT. 7 by the template 'for every input the law returns true; each argument reads behind the call as it read before'; 0 by the template 'total and deterministic' (their statements: YtfkchfdbaikccaaGreatTotals.lean).
  GIVEN WITH THE SEED: the statements are not yours to turn. If you find one false, say at which input.
  Laid BY PROGRAM, IN A SANDBOX (cutbox-rows.mjs): the forced cells as the released guide's own fill.sh prints them over the translation 6113876b3a6a6733… (all of the seat's roots in one cut). By AI agents, Wed Nov 11 2026. No macro, syntax, notation, axiom, sorry.
-/
import Derived.Test.YtfkchfdbaikccaaGreatChecked
import GoSem.Claim
import GoSem.ClaimJoined
import GoSem.ClaimMapViews
import Derived.JoinedTies
import Derived.KernelRfl
namespace Go.Proofs.YtfkchfdbaikccaaGreat
/- THE CELL 'sum', in the pinned program and in every row, IS THE sha256 OF THE DUMP (.gsa) THAT YtfkchfdbaikccaaGreatProg.lean LOADS. Nothing in Lean hashes anything: it is a label: what it is worth is what the hold of that sum in a sandbox is worth. -/
noncomputable def Tryz.pinned : Pinned := { name := "ytfkchfdbaikccaagreat", sum := "6113876b3a6a673349ff15ae65d36a56ca63b9ce722f3cd6672483114c52a6a0", checked := Tryz.checked }
namespace Rows
def none {H : Type} : Left H := { results := [], args := [] }

/-- 'laws.FnHit': WHATEVER THE INPUT: true; the input reads as it did. -/
def fnHitSpec : ChangeSpec := { name := "fnHit", fn := fun _ => fun
  | [d] => { results := [.lit (.bool true)], args := [d] }
  | _ => none }
def fnHitRow : OpenClaim := { program := "ytfkchfdbaikccaagreat", sum := "6113876b3a6a673349ff15ae65d36a56ca63b9ce722f3cd6672483114c52a6a0", func := "loop.example/g00395/laws.FnHit", spec := "fnHit", unfollowed := true, recurses := true, apart := false }
def FnHitSaid : Prop := fnHitRow.holds Tryz.pinned (OpenSpec.ofChange fnHitSpec)

/-- ITS FALSE NEIGHBOUR: 'it returns false'. Refute it at one input. -/
def fnHitWrong : ChangeSpec := { name := "fnHit", fn := fun _ => fun
  | [d] => { results := [.lit (.bool false)], args := [d] }
  | _ => none }
def FnHitWrongFalsely : Prop := fnHitRow.holds Tryz.pinned (OpenSpec.ofChange fnHitWrong)

/-- 'laws.FnAsks': WHATEVER THE INPUT: true; the input reads as it did. -/
def fnAsksSpec : ChangeSpec := { name := "fnAsks", fn := fun _ => fun
  | [d] => { results := [.lit (.bool true)], args := [d] }
  | _ => none }
def fnAsksRow : OpenClaim := { program := "ytfkchfdbaikccaagreat", sum := "6113876b3a6a673349ff15ae65d36a56ca63b9ce722f3cd6672483114c52a6a0", func := "loop.example/g00395/laws.FnAsks", spec := "fnAsks", unfollowed := true, recurses := true, apart := false }
def FnAsksSaid : Prop := fnAsksRow.holds Tryz.pinned (OpenSpec.ofChange fnAsksSpec)

/-- ITS FALSE NEIGHBOUR: 'it returns false'. Refute it at one input. -/
def fnAsksWrong : ChangeSpec := { name := "fnAsks", fn := fun _ => fun
  | [d] => { results := [.lit (.bool false)], args := [d] }
  | _ => none }
def FnAsksWrongFalsely : Prop := fnAsksRow.holds Tryz.pinned (OpenSpec.ofChange fnAsksWrong)

/-- 'laws.FnArms': WHATEVER THE INPUT: true; the input reads as it did. -/
def fnArmsSpec : ChangeSpec := { name := "fnArms", fn := fun _ => fun
  | [d] => { results := [.lit (.bool true)], args := [d] }
  | _ => none }
def fnArmsRow : OpenClaim := { program := "ytfkchfdbaikccaagreat", sum := "6113876b3a6a673349ff15ae65d36a56ca63b9ce722f3cd6672483114c52a6a0", func := "loop.example/g00395/laws.FnArms", spec := "fnArms", unfollowed := true, recurses := true, apart := false }
def FnArmsSaid : Prop := fnArmsRow.holds Tryz.pinned (OpenSpec.ofChange fnArmsSpec)

/-- ITS FALSE NEIGHBOUR: 'it returns false'. Refute it at one input. -/
def fnArmsWrong : ChangeSpec := { name := "fnArms", fn := fun _ => fun
  | [d] => { results := [.lit (.bool false)], args := [d] }
  | _ => none }
def FnArmsWrongFalsely : Prop := fnArmsRow.holds Tryz.pinned (OpenSpec.ofChange fnArmsWrong)

/-- 'laws.FnExactReached': WHATEVER THE INPUT: true; the input reads as it did. -/
def fnExactReachedSpec : ChangeSpec := { name := "fnExactReached", fn := fun _ => fun
  | [d] => { results := [.lit (.bool true)], args := [d] }
  | _ => none }
def fnExactReachedRow : OpenClaim := { program := "ytfkchfdbaikccaagreat", sum := "6113876b3a6a673349ff15ae65d36a56ca63b9ce722f3cd6672483114c52a6a0", func := "loop.example/g00395/laws.FnExactReached", spec := "fnExactReached", unfollowed := true, recurses := true, apart := false }
def FnExactReachedSaid : Prop := fnExactReachedRow.holds Tryz.pinned (OpenSpec.ofChange fnExactReachedSpec)

/-- ITS FALSE NEIGHBOUR: 'it returns false'. Refute it at one input. -/
def fnExactReachedWrong : ChangeSpec := { name := "fnExactReached", fn := fun _ => fun
  | [d] => { results := [.lit (.bool false)], args := [d] }
  | _ => none }
def FnExactReachedWrongFalsely : Prop := fnExactReachedRow.holds Tryz.pinned (OpenSpec.ofChange fnExactReachedWrong)

/-- 'laws.FnExactDeepest': WHATEVER THE INPUT: true; the input reads as it did. -/
def fnExactDeepestSpec : ChangeSpec := { name := "fnExactDeepest", fn := fun _ => fun
  | [d] => { results := [.lit (.bool true)], args := [d] }
  | _ => none }
def fnExactDeepestRow : OpenClaim := { program := "ytfkchfdbaikccaagreat", sum := "6113876b3a6a673349ff15ae65d36a56ca63b9ce722f3cd6672483114c52a6a0", func := "loop.example/g00395/laws.FnExactDeepest", spec := "fnExactDeepest", unfollowed := true, recurses := true, apart := false }
def FnExactDeepestSaid : Prop := fnExactDeepestRow.holds Tryz.pinned (OpenSpec.ofChange fnExactDeepestSpec)

/-- ITS FALSE NEIGHBOUR: 'it returns false'. Refute it at one input. -/
def fnExactDeepestWrong : ChangeSpec := { name := "fnExactDeepest", fn := fun _ => fun
  | [d] => { results := [.lit (.bool false)], args := [d] }
  | _ => none }
def FnExactDeepestWrongFalsely : Prop := fnExactDeepestRow.holds Tryz.pinned (OpenSpec.ofChange fnExactDeepestWrong)

/-- 'laws.FnExactHeights': WHATEVER THE INPUT: true; the input reads as it did. -/
def fnExactHeightsSpec : ChangeSpec := { name := "fnExactHeights", fn := fun _ => fun
  | [d] => { results := [.lit (.bool true)], args := [d] }
  | _ => none }
def fnExactHeightsRow : OpenClaim := { program := "ytfkchfdbaikccaagreat", sum := "6113876b3a6a673349ff15ae65d36a56ca63b9ce722f3cd6672483114c52a6a0", func := "loop.example/g00395/laws.FnExactHeights", spec := "fnExactHeights", unfollowed := true, recurses := true, apart := false }
def FnExactHeightsSaid : Prop := fnExactHeightsRow.holds Tryz.pinned (OpenSpec.ofChange fnExactHeightsSpec)

/-- ITS FALSE NEIGHBOUR: 'it returns false'. Refute it at one input. -/
def fnExactHeightsWrong : ChangeSpec := { name := "fnExactHeights", fn := fun _ => fun
  | [d] => { results := [.lit (.bool false)], args := [d] }
  | _ => none }
def FnExactHeightsWrongFalsely : Prop := fnExactHeightsRow.holds Tryz.pinned (OpenSpec.ofChange fnExactHeightsWrong)

/-- 'laws.FnExactRunCode': WHATEVER THE INPUT: true; the input reads as it did. -/
def fnExactRunCodeSpec : ChangeSpec := { name := "fnExactRunCode", fn := fun _ => fun
  | [d1, d2, d3, d4] => { results := [.lit (.bool true)], args := [d1, d2, d3, d4] }
  | _ => none }
def fnExactRunCodeRow : OpenClaim := { program := "ytfkchfdbaikccaagreat", sum := "6113876b3a6a673349ff15ae65d36a56ca63b9ce722f3cd6672483114c52a6a0", func := "loop.example/g00395/laws.FnExactRunCode", spec := "fnExactRunCode", unfollowed := true, recurses := true, apart := false }
def FnExactRunCodeSaid : Prop := fnExactRunCodeRow.holds Tryz.pinned (OpenSpec.ofChange fnExactRunCodeSpec)

/-- ITS FALSE NEIGHBOUR: 'it returns false'. Refute it at one input. -/
def fnExactRunCodeWrong : ChangeSpec := { name := "fnExactRunCode", fn := fun _ => fun
  | [d1, d2, d3, d4] => { results := [.lit (.bool false)], args := [d1, d2, d3, d4] }
  | _ => none }
def FnExactRunCodeWrongFalsely : Prop := fnExactRunCodeRow.holds Tryz.pinned (OpenSpec.ofChange fnExactRunCodeWrong)

/- THE SECOND FORM. 'bulk': how many values and letters a reading holds, each counted each time it is reached (what is shared counts as often as it is met; a slice's spare places count too). A statement '..UptoSaid' is the law's where the arguments, and the package variables that the reading takes, are together of bulk at most 1048576: NARROWER than '..Said'. Prove '..Said' where nothing that the law and all that it calls make is longer than what came in: it says more and counts as full. Else prove '..UptoSaid'. A law counts once. -/
mutual
def uptoBulk {H : Type} : DataW H → Nat
  | .lit (.string bytes) => bytes.length + 1
  | .lit _ => 1
  | .nil => 1
  | .ptr d => uptoBulk d + 1
  | .slice elems spare => uptoBulkAll elems + uptoBulkAll spare + 1
  | .agg parts => uptoBulkAll parts + 1
  | .iface _ d => uptoBulk d + 1
  | .map entries => uptoBulkEntries entries + 1
  | .held _ => 1
def uptoBulkAll {H : Type} : List (DataW H) → Nat
  | [] => 0
  | d :: r => uptoBulk d + uptoBulkAll r
def uptoBulkEntries {H : Type} : List (Lit × DataW H) → Nat
  | [] => 0
  | x :: r => uptoBulkEntry x + uptoBulkEntries r
def uptoBulkEntry {H : Type} : Lit × DataW H → Nat
  | (.string bytes, d) => bytes.length + uptoBulk d + 1
  | (_, d) => uptoBulk d + 1
 end
def uptoSmall : (H : Type) → List (DataW H) → Bool := fun _ ds => decide (uptoBulkAll ds ≤ 1048576)
def OpenSpec.upto (s : _root_.Go.ChangeSpec) : _root_.Go.OpenSpec := { _root_.Go.OpenSpec.ofChange s with cond := some uptoSmall }

/-- 'laws.FnHit', WHERE WHAT IT READS IS OF BULK AT MOST 1048576: true; the input reads as it did. -/
def fnHitUptoRow : OpenClaim := { program := "ytfkchfdbaikccaagreat", sum := "6113876b3a6a673349ff15ae65d36a56ca63b9ce722f3cd6672483114c52a6a0", func := "loop.example/g00395/laws.FnHit", spec := "fnHit", unfollowed := true, recurses := true, apart := false, narrowed := true }
def FnHitUptoSaid : Prop := fnHitUptoRow.holds Tryz.pinned (OpenSpec.upto fnHitSpec)

/-- 'laws.FnAsks', WHERE WHAT IT READS IS OF BULK AT MOST 1048576: true; the input reads as it did. -/
def fnAsksUptoRow : OpenClaim := { program := "ytfkchfdbaikccaagreat", sum := "6113876b3a6a673349ff15ae65d36a56ca63b9ce722f3cd6672483114c52a6a0", func := "loop.example/g00395/laws.FnAsks", spec := "fnAsks", unfollowed := true, recurses := true, apart := false, narrowed := true }
def FnAsksUptoSaid : Prop := fnAsksUptoRow.holds Tryz.pinned (OpenSpec.upto fnAsksSpec)

/-- 'laws.FnArms', WHERE WHAT IT READS IS OF BULK AT MOST 1048576: true; the input reads as it did. -/
def fnArmsUptoRow : OpenClaim := { program := "ytfkchfdbaikccaagreat", sum := "6113876b3a6a673349ff15ae65d36a56ca63b9ce722f3cd6672483114c52a6a0", func := "loop.example/g00395/laws.FnArms", spec := "fnArms", unfollowed := true, recurses := true, apart := false, narrowed := true }
def FnArmsUptoSaid : Prop := fnArmsUptoRow.holds Tryz.pinned (OpenSpec.upto fnArmsSpec)

/-- 'laws.FnExactReached', WHERE WHAT IT READS IS OF BULK AT MOST 1048576: true; the input reads as it did. -/
def fnExactReachedUptoRow : OpenClaim := { program := "ytfkchfdbaikccaagreat", sum := "6113876b3a6a673349ff15ae65d36a56ca63b9ce722f3cd6672483114c52a6a0", func := "loop.example/g00395/laws.FnExactReached", spec := "fnExactReached", unfollowed := true, recurses := true, apart := false, narrowed := true }
def FnExactReachedUptoSaid : Prop := fnExactReachedUptoRow.holds Tryz.pinned (OpenSpec.upto fnExactReachedSpec)

/-- 'laws.FnExactDeepest', WHERE WHAT IT READS IS OF BULK AT MOST 1048576: true; the input reads as it did. -/
def fnExactDeepestUptoRow : OpenClaim := { program := "ytfkchfdbaikccaagreat", sum := "6113876b3a6a673349ff15ae65d36a56ca63b9ce722f3cd6672483114c52a6a0", func := "loop.example/g00395/laws.FnExactDeepest", spec := "fnExactDeepest", unfollowed := true, recurses := true, apart := false, narrowed := true }
def FnExactDeepestUptoSaid : Prop := fnExactDeepestUptoRow.holds Tryz.pinned (OpenSpec.upto fnExactDeepestSpec)

/-- 'laws.FnExactHeights', WHERE WHAT IT READS IS OF BULK AT MOST 1048576: true; the input reads as it did. -/
def fnExactHeightsUptoRow : OpenClaim := { program := "ytfkchfdbaikccaagreat", sum := "6113876b3a6a673349ff15ae65d36a56ca63b9ce722f3cd6672483114c52a6a0", func := "loop.example/g00395/laws.FnExactHeights", spec := "fnExactHeights", unfollowed := true, recurses := true, apart := false, narrowed := true }
def FnExactHeightsUptoSaid : Prop := fnExactHeightsUptoRow.holds Tryz.pinned (OpenSpec.upto fnExactHeightsSpec)

/-- 'laws.FnExactRunCode', WHERE WHAT IT READS IS OF BULK AT MOST 1048576: true; the input reads as it did. -/
def fnExactRunCodeUptoRow : OpenClaim := { program := "ytfkchfdbaikccaagreat", sum := "6113876b3a6a673349ff15ae65d36a56ca63b9ce722f3cd6672483114c52a6a0", func := "loop.example/g00395/laws.FnExactRunCode", spec := "fnExactRunCode", unfollowed := true, recurses := true, apart := false, narrowed := true }
def FnExactRunCodeUptoSaid : Prop := fnExactRunCodeUptoRow.holds Tryz.pinned (OpenSpec.upto fnExactRunCodeSpec)

end Rows
end Go.Proofs.YtfkchfdbaikccaaGreat

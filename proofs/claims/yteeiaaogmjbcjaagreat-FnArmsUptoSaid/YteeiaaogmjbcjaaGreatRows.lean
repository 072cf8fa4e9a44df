/-
  No cell of these rows narrows 'for every input' (looked for: loops, veiled, ifaces, maps, wideKeys, modest, calm, conditions, laid).
  DERIVED. THE GIVEN ROWS OF THIS SEAT. 3 by the template 'for every input the law returns true; each argument reads behind the call as it read before'; 0 by the template 'total and deterministic' (their statements: YteeiaaogmjbcjaaGreatTotals.lean).
  GIVEN WITH THE SEED: the statements are not yours to turn. If you find one false, say at which input.
  Laid BY PROGRAM, IN A SANDBOX (cutbox-rows.mjs): the forced cells as the released guide's own fill.sh prints them over the translation 00e0750bdbd26ba1… (all of the seat's roots in one cut). By AI agents, Wed Nov 11 2026. No macro, syntax, notation, axiom, sorry.
-/
import Derived.Test.YteeiaaogmjbcjaaGreatChecked
import GoSem.Claim
import GoSem.ClaimJoined
import GoSem.ClaimMapViews
import Derived.JoinedTies
import Derived.KernelRfl
namespace Go.Proofs.YteeiaaogmjbcjaaGreat
/- THE CELL 'sum', in the pinned program and in every row, IS THE sha256 OF THE DUMP (.gsa) THAT YteeiaaogmjbcjaaGreatProg.lean LOADS. Nothing in Lean hashes anything: it is a label: what it is worth is what the hold of that sum in a sandbox is worth. -/
noncomputable def Tryz.pinned : Pinned := { name := "yteeiaaogmjbcjaagreat", sum := "00e0750bdbd26ba1152d32f44940edbd798574c1d70a5779dd506e3c0532e39e", checked := Tryz.checked }
namespace Rows
def none {H : Type} : Left H := { results := [], args := [] }

/-- 'laws.FnHit': WHATEVER THE INPUT: true; the input reads as it did. -/
def fnHitSpec : ChangeSpec := { name := "fnHit", fn := fun _ => fun
  | [d] => { results := [.lit (.bool true)], args := [d] }
  | _ => none }
def fnHitRow : OpenClaim := { program := "yteeiaaogmjbcjaagreat", sum := "00e0750bdbd26ba1152d32f44940edbd798574c1d70a5779dd506e3c0532e39e", func := "loop.example/g00395/laws.FnHit", spec := "fnHit", unfollowed := true, recurses := true, apart := false }
def FnHitSaid : Prop := fnHitRow.holds Tryz.pinned (OpenSpec.ofChange fnHitSpec)

/-- ITS FALSE NEIGHBOUR: 'it returns false'. Refute it at one input. -/
def fnHitWrong : ChangeSpec := { name := "fnHit", fn := fun _ => fun
  | [d] => { results := [.lit (.bool false)], args := [d] }
  | _ => none }
def FnHitWrongFalsely : Prop := fnHitRow.holds Tryz.pinned (OpenSpec.ofChange fnHitWrong)

/-- 'laws.FnAsks': WHATEVER THE INPUT: true; the input reads as it did. -/
def fnAsksSpec : ChangeSpec := { name := "fnAsks", fn := fun _ => fun
  | [d] => { results := [.lit (.bool true)], args := [d] }
  | _ => none }
def fnAsksRow : OpenClaim := { program := "yteeiaaogmjbcjaagreat", sum := "00e0750bdbd26ba1152d32f44940edbd798574c1d70a5779dd506e3c0532e39e", func := "loop.example/g00395/laws.FnAsks", spec := "fnAsks", unfollowed := true, recurses := true, apart := false }
def FnAsksSaid : Prop := fnAsksRow.holds Tryz.pinned (OpenSpec.ofChange fnAsksSpec)

/-- ITS FALSE NEIGHBOUR: 'it returns false'. Refute it at one input. -/
def fnAsksWrong : ChangeSpec := { name := "fnAsks", fn := fun _ => fun
  | [d] => { results := [.lit (.bool false)], args := [d] }
  | _ => none }
def FnAsksWrongFalsely : Prop := fnAsksRow.holds Tryz.pinned (OpenSpec.ofChange fnAsksWrong)

/-- 'laws.FnArms': WHATEVER THE INPUT: true; the input reads as it did. -/
def fnArmsSpec : ChangeSpec := { name := "fnArms", fn := fun _ => fun
  | [d] => { results := [.lit (.bool true)], args := [d] }
  | _ => none }
def fnArmsRow : OpenClaim := { program := "yteeiaaogmjbcjaagreat", sum := "00e0750bdbd26ba1152d32f44940edbd798574c1d70a5779dd506e3c0532e39e", func := "loop.example/g00395/laws.FnArms", spec := "fnArms", unfollowed := true, recurses := true, apart := false }
def FnArmsSaid : Prop := fnArmsRow.holds Tryz.pinned (OpenSpec.ofChange fnArmsSpec)

/-- ITS FALSE NEIGHBOUR: 'it returns false'. Refute it at one input. -/
def fnArmsWrong : ChangeSpec := { name := "fnArms", fn := fun _ => fun
  | [d] => { results := [.lit (.bool false)], args := [d] }
  | _ => none }
def FnArmsWrongFalsely : Prop := fnArmsRow.holds Tryz.pinned (OpenSpec.ofChange fnArmsWrong)

/- THE SECOND FORM. 'bulk': how many values and letters a reading holds, each counted each time it is reached (what is shared counts as often as it is met; a slice's spare places count too). A statement '..UptoSaid' is the law's where the arguments, and the package variables that the reading takes, are together of bulk at most 1048576: NARROWER than '..Said'. Prove '..Said' where nothing that the law and all that it calls make is longer than what came in: it says more and counts as full. Else prove '..UptoSaid'. A law counts once. -/
mutual
def uptoBulk {H : Type} : DataW H → Nat
  | .lit (.string bytes) => bytes.length + 1
  | .lit _ => 1
  | .nil => 1
  | .ptr d => uptoBulk d + 1
  | .slice elems spare => uptoBulkAll elems + uptoBulkAll spare + 1
  | .agg parts => uptoBulkAll parts + 1
  | .iface _ d => uptoBulk d + 1
  | .map entries => uptoBulkEntries entries + 1
  | .held _ => 1
def uptoBulkAll {H : Type} : List (DataW H) → Nat
  | [] => 0
  | d :: r => uptoBulk d + uptoBulkAll r
def uptoBulkEntries {H : Type} : List (Lit × DataW H) → Nat
  | [] => 0
  | x :: r => uptoBulkEntry x + uptoBulkEntries r
def uptoBulkEntry {H : Type} : Lit × DataW H → Nat
  | (.string bytes, d) => bytes.length + uptoBulk d + 1
  | (_, d) => uptoBulk d + 1
 end
def uptoSmall : (H : Type) → List (DataW H) → Bool := fun _ ds => decide (uptoBulkAll ds ≤ 1048576)
def OpenSpec.upto (s : _root_.Go.ChangeSpec) : _root_.Go.OpenSpec := { _root_.Go.OpenSpec.ofChange s with cond := some uptoSmall }

/-- 'laws.FnHit', WHERE WHAT IT READS IS OF BULK AT MOST 1048576: true; the input reads as it did. -/
def fnHitUptoRow : OpenClaim := { program := "yteeiaaogmjbcjaagreat", sum := "00e0750bdbd26ba1152d32f44940edbd798574c1d70a5779dd506e3c0532e39e", func := "loop.example/g00395/laws.FnHit", spec := "fnHit", unfollowed := true, recurses := true, apart := false, narrowed := true }
def FnHitUptoSaid : Prop := fnHitUptoRow.holds Tryz.pinned (OpenSpec.upto fnHitSpec)

/-- 'laws.FnAsks', WHERE WHAT IT READS IS OF BULK AT MOST 1048576: true; the input reads as it did. -/
def fnAsksUptoRow : OpenClaim := { program := "yteeiaaogmjbcjaagreat", sum := "00e0750bdbd26ba1152d32f44940edbd798574c1d70a5779dd506e3c0532e39e", func := "loop.example/g00395/laws.FnAsks", spec := "fnAsks", unfollowed := true, recurses := true, apart := false, narrowed := true }
def FnAsksUptoSaid : Prop := fnAsksUptoRow.holds Tryz.pinned (OpenSpec.upto fnAsksSpec)

/-- 'laws.FnArms', WHERE WHAT IT READS IS OF BULK AT MOST 1048576: true; the input reads as it did. -/
def fnArmsUptoRow : OpenClaim := { program := "yteeiaaogmjbcjaagreat", sum := "00e0750bdbd26ba1152d32f44940edbd798574c1d70a5779dd506e3c0532e39e", func := "loop.example/g00395/laws.FnArms", spec := "fnArms", unfollowed := true, recurses := true, apart := false, narrowed := true }
def FnArmsUptoSaid : Prop := fnArmsUptoRow.holds Tryz.pinned (OpenSpec.upto fnArmsSpec)

end Rows
end Go.Proofs.YteeiaaogmjbcjaaGreat

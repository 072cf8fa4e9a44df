/-
  No cell of these rows narrows 'for every input' (looked for: loops, veiled, ifaces, maps, wideKeys, modest, calm, conditions, laid).
  DERIVED. THE GIVEN ROWS OF THIS SEAT. 5 by the template 'for every input the law returns true; each argument reads behind the call as it read before'; 0 by the template 'total and deterministic' (their statements: YtfkchfdbaikccaaTotals.lean).
  GIVEN WITH THE SEED: the statements are not yours to turn. If you find one false, say at which input.
  Laid BY PROGRAM, IN A SANDBOX (cutbox-rows.mjs): the forced cells as the released guide's own fill.sh prints them over the translation 236ced34440e78d2… (all of the seat's roots in one cut). By AI agents, Wed Nov 11 2026. No macro, syntax, notation, axiom, sorry.
-/
import Derived.Test.YtfkchfdbaikccaaChecked
import GoSem.Claim
import GoSem.ClaimJoined
import GoSem.ClaimMapViews
import Derived.JoinedTies
import Derived.KernelRfl
namespace Go.Proofs.Ytfkchfdbaikccaa
/- THE CELL 'sum', in the pinned program and in every row, IS THE sha256 OF THE DUMP (.gsa) THAT YtfkchfdbaikccaaProg.lean LOADS. Nothing in Lean hashes anything: it is a label: what it is worth is what the hold of that sum in a sandbox is worth. -/
noncomputable def Try.pinned : Pinned := { name := "ytfkchfdbaikccaa", sum := "236ced34440e78d225e15fa765a8e46eb878b6cb6833cecb0ca4eec7743e352d", checked := Try.checked }
namespace Rows
def none {H : Type} : Left H := { results := [], args := [] }

/-- 'laws.FnExactAsksRun': WHATEVER THE INPUT: true; the input reads as it did. -/
def fnExactAsksRunSpec : ChangeSpec := { name := "fnExactAsksRun", fn := fun _ => fun
  | [d1, d2] => { results := [.lit (.bool true)], args := [d1, d2] }
  | _ => none }
def fnExactAsksRunRow : OpenClaim := { program := "ytfkchfdbaikccaa", sum := "236ced34440e78d225e15fa765a8e46eb878b6cb6833cecb0ca4eec7743e352d", func := "loop.example/g00395/laws.FnExactAsksRun", spec := "fnExactAsksRun", unfollowed := true, recurses := true, apart := false }
def FnExactAsksRunSaid : Prop := fnExactAsksRunRow.holds Try.pinned (OpenSpec.ofChange fnExactAsksRunSpec)

/-- ITS FALSE NEIGHBOUR: 'it returns false'. Refute it at one input. -/
def fnExactAsksRunWrong : ChangeSpec := { name := "fnExactAsksRun", fn := fun _ => fun
  | [d1, d2] => { results := [.lit (.bool false)], args := [d1, d2] }
  | _ => none }
def FnExactAsksRunWrongFalsely : Prop := fnExactAsksRunRow.holds Try.pinned (OpenSpec.ofChange fnExactAsksRunWrong)

/-- 'laws.FnExactFirstHit': WHATEVER THE INPUT: true; the input reads as it did. -/
def fnExactFirstHitSpec : ChangeSpec := { name := "fnExactFirstHit", fn := fun _ => fun
  | [d1, d2] => { results := [.lit (.bool true)], args := [d1, d2] }
  | _ => none }
def fnExactFirstHitRow : OpenClaim := { program := "ytfkchfdbaikccaa", sum := "236ced34440e78d225e15fa765a8e46eb878b6cb6833cecb0ca4eec7743e352d", func := "loop.example/g00395/laws.FnExactFirstHit", spec := "fnExactFirstHit", unfollowed := true, recurses := true, apart := false }
def FnExactFirstHitSaid : Prop := fnExactFirstHitRow.holds Try.pinned (OpenSpec.ofChange fnExactFirstHitSpec)

/-- ITS FALSE NEIGHBOUR: 'it returns false'. Refute it at one input. -/
def fnExactFirstHitWrong : ChangeSpec := { name := "fnExactFirstHit", fn := fun _ => fun
  | [d1, d2] => { results := [.lit (.bool false)], args := [d1, d2] }
  | _ => none }
def FnExactFirstHitWrongFalsely : Prop := fnExactFirstHitRow.holds Try.pinned (OpenSpec.ofChange fnExactFirstHitWrong)

/-- 'laws.FnExactHit': WHATEVER THE INPUT: true; the input reads as it did. -/
def fnExactHitSpec : ChangeSpec := { name := "fnExactHit", fn := fun _ => fun
  | [d1, d2] => { results := [.lit (.bool true)], args := [d1, d2] }
  | _ => none }
def fnExactHitRow : OpenClaim := { program := "ytfkchfdbaikccaa", sum := "236ced34440e78d225e15fa765a8e46eb878b6cb6833cecb0ca4eec7743e352d", func := "loop.example/g00395/laws.FnExactHit", spec := "fnExactHit", unfollowed := true, recurses := true, apart := false }
def FnExactHitSaid : Prop := fnExactHitRow.holds Try.pinned (OpenSpec.ofChange fnExactHitSpec)

/-- ITS FALSE NEIGHBOUR: 'it returns false'. Refute it at one input. -/
def fnExactHitWrong : ChangeSpec := { name := "fnExactHit", fn := fun _ => fun
  | [d1, d2] => { results := [.lit (.bool false)], args := [d1, d2] }
  | _ => none }
def FnExactHitWrongFalsely : Prop := fnExactHitRow.holds Try.pinned (OpenSpec.ofChange fnExactHitWrong)

/-- 'laws.FnExactAsksOf': WHATEVER THE INPUT: true; the input reads as it did. -/
def fnExactAsksOfSpec : ChangeSpec := { name := "fnExactAsksOf", fn := fun _ => fun
  | [d] => { results := [.lit (.bool true)], args := [d] }
  | _ => none }
def fnExactAsksOfRow : OpenClaim := { program := "ytfkchfdbaikccaa", sum := "236ced34440e78d225e15fa765a8e46eb878b6cb6833cecb0ca4eec7743e352d", func := "loop.example/g00395/laws.FnExactAsksOf", spec := "fnExactAsksOf", unfollowed := true, recurses := true, apart := false }
def FnExactAsksOfSaid : Prop := fnExactAsksOfRow.holds Try.pinned (OpenSpec.ofChange fnExactAsksOfSpec)

/-- ITS FALSE NEIGHBOUR: 'it returns false'. Refute it at one input. -/
def fnExactAsksOfWrong : ChangeSpec := { name := "fnExactAsksOf", fn := fun _ => fun
  | [d] => { results := [.lit (.bool false)], args := [d] }
  | _ => none }
def FnExactAsksOfWrongFalsely : Prop := fnExactAsksOfRow.holds Try.pinned (OpenSpec.ofChange fnExactAsksOfWrong)

/-- 'laws.FnExactAsksArms': WHATEVER THE INPUT: true; the input reads as it did. -/
def fnExactAsksArmsSpec : ChangeSpec := { name := "fnExactAsksArms", fn := fun _ => fun
  | [d] => { results := [.lit (.bool true)], args := [d] }
  | _ => none }
def fnExactAsksArmsRow : OpenClaim := { program := "ytfkchfdbaikccaa", sum := "236ced34440e78d225e15fa765a8e46eb878b6cb6833cecb0ca4eec7743e352d", func := "loop.example/g00395/laws.FnExactAsksArms", spec := "fnExactAsksArms", unfollowed := true, recurses := true, apart := false }
def FnExactAsksArmsSaid : Prop := fnExactAsksArmsRow.holds Try.pinned (OpenSpec.ofChange fnExactAsksArmsSpec)

/-- ITS FALSE NEIGHBOUR: 'it returns false'. Refute it at one input. -/
def fnExactAsksArmsWrong : ChangeSpec := { name := "fnExactAsksArms", fn := fun _ => fun
  | [d] => { results := [.lit (.bool false)], args := [d] }
  | _ => none }
def FnExactAsksArmsWrongFalsely : Prop := fnExactAsksArmsRow.holds Try.pinned (OpenSpec.ofChange fnExactAsksArmsWrong)

/- THE SECOND FORM. 'bulk': how many values and letters a reading holds, each counted each time it is reached (what is shared counts as often as it is met; a slice's spare places count too). A statement '..UptoSaid' is the law's where the arguments, and the package variables that the reading takes, are together of bulk at most 1048576: NARROWER than '..Said'. Prove '..Said' where nothing that the law and all that it calls make is longer than what came in: it says more and counts as full. Else prove '..UptoSaid'. A law counts once. -/
mutual
def uptoBulk {H : Type} : DataW H → Nat
  | .lit (.string bytes) => bytes.length + 1
  | .lit _ => 1
  | .nil => 1
  | .ptr d => uptoBulk d + 1
  | .slice elems spare => uptoBulkAll elems + uptoBulkAll spare + 1
  | .agg parts => uptoBulkAll parts + 1
  | .iface _ d => uptoBulk d + 1
  | .map entries => uptoBulkEntries entries + 1
  | .held _ => 1
def uptoBulkAll {H : Type} : List (DataW H) → Nat
  | [] => 0
  | d :: r => uptoBulk d + uptoBulkAll r
def uptoBulkEntries {H : Type} : List (Lit × DataW H) → Nat
  | [] => 0
  | x :: r => uptoBulkEntry x + uptoBulkEntries r
def uptoBulkEntry {H : Type} : Lit × DataW H → Nat
  | (.string bytes, d) => bytes.length + uptoBulk d + 1
  | (_, d) => uptoBulk d + 1
 end
def uptoSmall : (H : Type) → List (DataW H) → Bool := fun _ ds => decide (uptoBulkAll ds ≤ 1048576)
def OpenSpec.upto (s : _root_.Go.ChangeSpec) : _root_.Go.OpenSpec := { _root_.Go.OpenSpec.ofChange s with cond := some uptoSmall }

/-- 'laws.FnExactAsksRun', WHERE WHAT IT READS IS OF BULK AT MOST 1048576: true; the input reads as it did. -/
def fnExactAsksRunUptoRow : OpenClaim := { program := "ytfkchfdbaikccaa", sum := "236ced34440e78d225e15fa765a8e46eb878b6cb6833cecb0ca4eec7743e352d", func := "loop.example/g00395/laws.FnExactAsksRun", spec := "fnExactAsksRun", unfollowed := true, recurses := true, apart := false, narrowed := true }
def FnExactAsksRunUptoSaid : Prop := fnExactAsksRunUptoRow.holds Try.pinned (OpenSpec.upto fnExactAsksRunSpec)

/-- 'laws.FnExactFirstHit', WHERE WHAT IT READS IS OF BULK AT MOST 1048576: true; the input reads as it did. -/
def fnExactFirstHitUptoRow : OpenClaim := { program := "ytfkchfdbaikccaa", sum := "236ced34440e78d225e15fa765a8e46eb878b6cb6833cecb0ca4eec7743e352d", func := "loop.example/g00395/laws.FnExactFirstHit", spec := "fnExactFirstHit", unfollowed := true, recurses := true, apart := false, narrowed := true }
def FnExactFirstHitUptoSaid : Prop := fnExactFirstHitUptoRow.holds Try.pinned (OpenSpec.upto fnExactFirstHitSpec)

/-- 'laws.FnExactHit', WHERE WHAT IT READS IS OF BULK AT MOST 1048576: true; the input reads as it did. -/
def fnExactHitUptoRow : OpenClaim := { program := "ytfkchfdbaikccaa", sum := "236ced34440e78d225e15fa765a8e46eb878b6cb6833cecb0ca4eec7743e352d", func := "loop.example/g00395/laws.FnExactHit", spec := "fnExactHit", unfollowed := true, recurses := true, apart := false, narrowed := true }
def FnExactHitUptoSaid : Prop := fnExactHitUptoRow.holds Try.pinned (OpenSpec.upto fnExactHitSpec)

/-- 'laws.FnExactAsksOf', WHERE WHAT IT READS IS OF BULK AT MOST 1048576: true; the input reads as it did. -/
def fnExactAsksOfUptoRow : OpenClaim := { program := "ytfkchfdbaikccaa", sum := "236ced34440e78d225e15fa765a8e46eb878b6cb6833cecb0ca4eec7743e352d", func := "loop.example/g00395/laws.FnExactAsksOf", spec := "fnExactAsksOf", unfollowed := true, recurses := true, apart := false, narrowed := true }
def FnExactAsksOfUptoSaid : Prop := fnExactAsksOfUptoRow.holds Try.pinned (OpenSpec.upto fnExactAsksOfSpec)

/-- 'laws.FnExactAsksArms', WHERE WHAT IT READS IS OF BULK AT MOST 1048576: true; the input reads as it did. -/
def fnExactAsksArmsUptoRow : OpenClaim := { program := "ytfkchfdbaikccaa", sum := "236ced34440e78d225e15fa765a8e46eb878b6cb6833cecb0ca4eec7743e352d", func := "loop.example/g00395/laws.FnExactAsksArms", spec := "fnExactAsksArms", unfollowed := true, recurses := true, apart := false, narrowed := true }
def FnExactAsksArmsUptoSaid : Prop := fnExactAsksArmsUptoRow.holds Try.pinned (OpenSpec.upto fnExactAsksArmsSpec)

end Rows
end Go.Proofs.Ytfkchfdbaikccaa

/-
  No cell of these rows narrows 'for every input' (looked for: loops, veiled, ifaces, maps, wideKeys, modest, calm, conditions, laid).
  DERIVED. THE GIVEN ROWS OF THIS SEAT. 3 by the template 'for every input the law returns true; each argument reads behind the call as it read before'; 0 by the template 'total and deterministic' (their statements: YtmlckdffkbbbhaaGreatTotals.lean).
  GIVEN WITH THE SEED: the statements are not yours to turn. If you find one false, say at which input.
  Laid BY PROGRAM, IN A SANDBOX (cutbox-rows.mjs): the forced cells as the released guide's own fill.sh prints them over the translation fae5a43df6a90a2a… (all of the seat's roots in one cut). By AI agents, Wed Nov 11 2026. No macro, syntax, notation, axiom, sorry.
-/
import Derived.Test.YtmlckdffkbbbhaaGreatChecked
import GoSem.Claim
import GoSem.ClaimJoined
import GoSem.ClaimMapViews
import Derived.JoinedTies
import Derived.KernelRfl
namespace Go.Proofs.YtmlckdffkbbbhaaGreat
/- THE CELL 'sum', in the pinned program and in every row, IS THE sha256 OF THE DUMP (.gsa) THAT YtmlckdffkbbbhaaGreatProg.lean LOADS. Nothing in Lean hashes anything: it is a label: what it is worth is what the hold of that sum in a sandbox is worth. -/
noncomputable def Tryz.pinned : Pinned := { name := "ytmlckdffkbbbhaagreat", sum := "fae5a43df6a90a2a13474328e532767e6f5fce7dc8418c80a125573eb0974fc8", checked := Tryz.checked }
namespace Rows
def none {H : Type} : Left H := { results := [], args := [] }

/-- 'laws.FnExactSpread': WHATEVER THE INPUT: true; the input reads as it did. -/
def fnExactSpreadSpec : ChangeSpec := { name := "fnExactSpread", fn := fun _ => fun
  | [d] => { results := [.lit (.bool true)], args := [d] }
  | _ => none }
def fnExactSpreadRow : OpenClaim := { program := "ytmlckdffkbbbhaagreat", sum := "fae5a43df6a90a2a13474328e532767e6f5fce7dc8418c80a125573eb0974fc8", func := "loop.example/g00395/laws.FnExactSpread", spec := "fnExactSpread", unfollowed := true, recurses := true, apart := false }
def FnExactSpreadSaid : Prop := fnExactSpreadRow.holds Tryz.pinned (OpenSpec.ofChange fnExactSpreadSpec)

/-- ITS FALSE NEIGHBOUR: 'it returns false'. Refute it at one input. -/
def fnExactSpreadWrong : ChangeSpec := { name := "fnExactSpread", fn := fun _ => fun
  | [d] => { results := [.lit (.bool false)], args := [d] }
  | _ => none }
def FnExactSpreadWrongFalsely : Prop := fnExactSpreadRow.holds Tryz.pinned (OpenSpec.ofChange fnExactSpreadWrong)

/-- 'laws.FnExactChosen': WHATEVER THE INPUT: true; the input reads as it did. -/
def fnExactChosenSpec : ChangeSpec := { name := "fnExactChosen", fn := fun _ => fun
  | [d] => { results := [.lit (.bool true)], args := [d] }
  | _ => none }
def fnExactChosenRow : OpenClaim := { program := "ytmlckdffkbbbhaagreat", sum := "fae5a43df6a90a2a13474328e532767e6f5fce7dc8418c80a125573eb0974fc8", func := "loop.example/g00395/laws.FnExactChosen", spec := "fnExactChosen", unfollowed := true, recurses := true, apart := false }
def FnExactChosenSaid : Prop := fnExactChosenRow.holds Tryz.pinned (OpenSpec.ofChange fnExactChosenSpec)

/-- ITS FALSE NEIGHBOUR: 'it returns false'. Refute it at one input. -/
def fnExactChosenWrong : ChangeSpec := { name := "fnExactChosen", fn := fun _ => fun
  | [d] => { results := [.lit (.bool false)], args := [d] }
  | _ => none }
def FnExactChosenWrongFalsely : Prop := fnExactChosenRow.holds Tryz.pinned (OpenSpec.ofChange fnExactChosenWrong)

/-- 'laws.FnExactSimple': WHATEVER THE INPUT: true; the input reads as it did. -/
def fnExactSimpleSpec : ChangeSpec := { name := "fnExactSimple", fn := fun _ => fun
  | [d1, d2] => { results := [.lit (.bool true)], args := [d1, d2] }
  | _ => none }
def fnExactSimpleRow : OpenClaim := { program := "ytmlckdffkbbbhaagreat", sum := "fae5a43df6a90a2a13474328e532767e6f5fce7dc8418c80a125573eb0974fc8", func := "loop.example/g00395/laws.FnExactSimple", spec := "fnExactSimple", unfollowed := true, recurses := true, apart := false }
def FnExactSimpleSaid : Prop := fnExactSimpleRow.holds Tryz.pinned (OpenSpec.ofChange fnExactSimpleSpec)

/-- ITS FALSE NEIGHBOUR: 'it returns false'. Refute it at one input. -/
def fnExactSimpleWrong : ChangeSpec := { name := "fnExactSimple", fn := fun _ => fun
  | [d1, d2] => { results := [.lit (.bool false)], args := [d1, d2] }
  | _ => none }
def FnExactSimpleWrongFalsely : Prop := fnExactSimpleRow.holds Tryz.pinned (OpenSpec.ofChange fnExactSimpleWrong)

/- THE SECOND FORM. 'bulk': how many values and letters a reading holds, each counted each time it is reached (what is shared counts as often as it is met; a slice's spare places count too). A statement '..UptoSaid' is the law's where the arguments, and the package variables that the reading takes, are together of bulk at most 1048576: NARROWER than '..Said'. Prove '..Said' where nothing that the law and all that it calls make is longer than what came in: it says more and counts as full. Else prove '..UptoSaid'. A law counts once. -/
mutual
def uptoBulk {H : Type} : DataW H → Nat
  | .lit (.string bytes) => bytes.length + 1
  | .lit _ => 1
  | .nil => 1
  | .ptr d => uptoBulk d + 1
  | .slice elems spare => uptoBulkAll elems + uptoBulkAll spare + 1
  | .agg parts => uptoBulkAll parts + 1
  | .iface _ d => uptoBulk d + 1
  | .map entries => uptoBulkEntries entries + 1
  | .held _ => 1
def uptoBulkAll {H : Type} : List (DataW H) → Nat
  | [] => 0
  | d :: r => uptoBulk d + uptoBulkAll r
def uptoBulkEntries {H : Type} : List (Lit × DataW H) → Nat
  | [] => 0
  | x :: r => uptoBulkEntry x + uptoBulkEntries r
def uptoBulkEntry {H : Type} : Lit × DataW H → Nat
  | (.string bytes, d) => bytes.length + uptoBulk d + 1
  | (_, d) => uptoBulk d + 1
 end
def uptoSmall : (H : Type) → List (DataW H) → Bool := fun _ ds => decide (uptoBulkAll ds ≤ 1048576)
def OpenSpec.upto (s : _root_.Go.ChangeSpec) : _root_.Go.OpenSpec := { _root_.Go.OpenSpec.ofChange s with cond := some uptoSmall }

/-- 'laws.FnExactSpread', WHERE WHAT IT READS IS OF BULK AT MOST 1048576: true; the input reads as it did. -/
def fnExactSpreadUptoRow : OpenClaim := { program := "ytmlckdffkbbbhaagreat", sum := "fae5a43df6a90a2a13474328e532767e6f5fce7dc8418c80a125573eb0974fc8", func := "loop.example/g00395/laws.FnExactSpread", spec := "fnExactSpread", unfollowed := true, recurses := true, apart := false, narrowed := true }
def FnExactSpreadUptoSaid : Prop := fnExactSpreadUptoRow.holds Tryz.pinned (OpenSpec.upto fnExactSpreadSpec)

/-- 'laws.FnExactChosen', WHERE WHAT IT READS IS OF BULK AT MOST 1048576: true; the input reads as it did. -/
def fnExactChosenUptoRow : OpenClaim := { program := "ytmlckdffkbbbhaagreat", sum := "fae5a43df6a90a2a13474328e532767e6f5fce7dc8418c80a125573eb0974fc8", func := "loop.example/g00395/laws.FnExactChosen", spec := "fnExactChosen", unfollowed := true, recurses := true, apart := false, narrowed := true }
def FnExactChosenUptoSaid : Prop := fnExactChosenUptoRow.holds Tryz.pinned (OpenSpec.upto fnExactChosenSpec)

/-- 'laws.FnExactSimple', WHERE WHAT IT READS IS OF BULK AT MOST 1048576: true; the input reads as it did. -/
def fnExactSimpleUptoRow : OpenClaim := { program := "ytmlckdffkbbbhaagreat", sum := "fae5a43df6a90a2a13474328e532767e6f5fce7dc8418c80a125573eb0974fc8", func := "loop.example/g00395/laws.FnExactSimple", spec := "fnExactSimple", unfollowed := true, recurses := true, apart := false, narrowed := true }
def FnExactSimpleUptoSaid : Prop := fnExactSimpleUptoRow.holds Tryz.pinned (OpenSpec.upto fnExactSimpleSpec)

end Rows
end Go.Proofs.YtmlckdffkbbbhaaGreat

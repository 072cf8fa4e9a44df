/-
  No cell of these rows narrows 'for every input' (looked for: loops, veiled, ifaces, maps, wideKeys, modest, calm, conditions, laid).
  DERIVED. THE GIVEN ROWS OF THIS SEAT. 4 by the template 'for every input the law returns true; each argument reads behind the call as it read before'; 0 by the template 'total and deterministic' (their statements: YtjifpdcflankpaaGreatTotals.lean).
  GIVEN WITH THE SEED: the statements are not yours to turn. If you find one false, say at which input.
  Laid BY PROGRAM, IN A SANDBOX (cutbox-rows.mjs): the forced cells as the released guide's own fill.sh prints them over the translation a666f976067b0406… (all of the seat's roots in one cut). By AI agents, Wed Nov 11 2026. No macro, syntax, notation, axiom, sorry.
-/
import Derived.Test.YtjifpdcflankpaaGreatChecked
import GoSem.Claim
import GoSem.ClaimJoined
import GoSem.ClaimMapViews
import Derived.JoinedTies
import Derived.KernelRfl
namespace Go.Proofs.YtjifpdcflankpaaGreat
/- THE CELL 'sum', in the pinned program and in every row, IS THE sha256 OF THE DUMP (.gsa) THAT YtjifpdcflankpaaGreatProg.lean LOADS. Nothing in Lean hashes anything: it is a label: what it is worth is what the hold of that sum in a sandbox is worth. -/
noncomputable def Tryz.pinned : Pinned := { name := "ytjifpdcflankpaagreat", sum := "a666f976067b0406bbd59dce75d22c5353d2f0b3753d2dd243ac383b3be3c909", checked := Tryz.checked }
namespace Rows
def none {H : Type} : Left H := { results := [], args := [] }

/-- 'laws.FnExactToCore': WHATEVER THE INPUT: true; the input reads as it did. -/
def fnExactToCoreSpec : ChangeSpec := { name := "fnExactToCore", fn := fun _ => fun
  | [d] => { results := [.lit (.bool true)], args := [d] }
  | _ => none }
def fnExactToCoreRow : OpenClaim := { program := "ytjifpdcflankpaagreat", sum := "a666f976067b0406bbd59dce75d22c5353d2f0b3753d2dd243ac383b3be3c909", func := "loop.example/g00395/laws.FnExactToCore", spec := "fnExactToCore", unfollowed := true, recurses := true, apart := false }
def FnExactToCoreSaid : Prop := fnExactToCoreRow.holds Tryz.pinned (OpenSpec.ofChange fnExactToCoreSpec)

/-- ITS FALSE NEIGHBOUR: 'it returns false'. Refute it at one input. -/
def fnExactToCoreWrong : ChangeSpec := { name := "fnExactToCore", fn := fun _ => fun
  | [d] => { results := [.lit (.bool false)], args := [d] }
  | _ => none }
def FnExactToCoreWrongFalsely : Prop := fnExactToCoreRow.holds Tryz.pinned (OpenSpec.ofChange fnExactToCoreWrong)

/-- 'laws.FnExactCoreOk': WHATEVER THE INPUT: true; the input reads as it did. -/
def fnExactCoreOkSpec : ChangeSpec := { name := "fnExactCoreOk", fn := fun _ => fun
  | [d] => { results := [.lit (.bool true)], args := [d] }
  | _ => none }
def fnExactCoreOkRow : OpenClaim := { program := "ytjifpdcflankpaagreat", sum := "a666f976067b0406bbd59dce75d22c5353d2f0b3753d2dd243ac383b3be3c909", func := "loop.example/g00395/laws.FnExactCoreOk", spec := "fnExactCoreOk", unfollowed := true, recurses := true, apart := false }
def FnExactCoreOkSaid : Prop := fnExactCoreOkRow.holds Tryz.pinned (OpenSpec.ofChange fnExactCoreOkSpec)

/-- ITS FALSE NEIGHBOUR: 'it returns false'. Refute it at one input. -/
def fnExactCoreOkWrong : ChangeSpec := { name := "fnExactCoreOk", fn := fun _ => fun
  | [d] => { results := [.lit (.bool false)], args := [d] }
  | _ => none }
def FnExactCoreOkWrongFalsely : Prop := fnExactCoreOkRow.holds Tryz.pinned (OpenSpec.ofChange fnExactCoreOkWrong)

/-- 'laws.FnExactFromCore': WHATEVER THE INPUT: true; the input reads as it did. -/
def fnExactFromCoreSpec : ChangeSpec := { name := "fnExactFromCore", fn := fun _ => fun
  | [d] => { results := [.lit (.bool true)], args := [d] }
  | _ => none }
def fnExactFromCoreRow : OpenClaim := { program := "ytjifpdcflankpaagreat", sum := "a666f976067b0406bbd59dce75d22c5353d2f0b3753d2dd243ac383b3be3c909", func := "loop.example/g00395/laws.FnExactFromCore", spec := "fnExactFromCore", unfollowed := true, recurses := true, apart := false }
def FnExactFromCoreSaid : Prop := fnExactFromCoreRow.holds Tryz.pinned (OpenSpec.ofChange fnExactFromCoreSpec)

/-- ITS FALSE NEIGHBOUR: 'it returns false'. Refute it at one input. -/
def fnExactFromCoreWrong : ChangeSpec := { name := "fnExactFromCore", fn := fun _ => fun
  | [d] => { results := [.lit (.bool false)], args := [d] }
  | _ => none }
def FnExactFromCoreWrongFalsely : Prop := fnExactFromCoreRow.holds Tryz.pinned (OpenSpec.ofChange fnExactFromCoreWrong)

/-- 'laws.FnExactSameUp': WHATEVER THE INPUT: true; the input reads as it did. -/
def fnExactSameUpSpec : ChangeSpec := { name := "fnExactSameUp", fn := fun _ => fun
  | [d1, d2] => { results := [.lit (.bool true)], args := [d1, d2] }
  | _ => none }
def fnExactSameUpRow : OpenClaim := { program := "ytjifpdcflankpaagreat", sum := "a666f976067b0406bbd59dce75d22c5353d2f0b3753d2dd243ac383b3be3c909", func := "loop.example/g00395/laws.FnExactSameUp", spec := "fnExactSameUp", unfollowed := true, recurses := true, apart := false }
def FnExactSameUpSaid : Prop := fnExactSameUpRow.holds Tryz.pinned (OpenSpec.ofChange fnExactSameUpSpec)

/-- ITS FALSE NEIGHBOUR: 'it returns false'. Refute it at one input. -/
def fnExactSameUpWrong : ChangeSpec := { name := "fnExactSameUp", fn := fun _ => fun
  | [d1, d2] => { results := [.lit (.bool false)], args := [d1, d2] }
  | _ => none }
def FnExactSameUpWrongFalsely : Prop := fnExactSameUpRow.holds Tryz.pinned (OpenSpec.ofChange fnExactSameUpWrong)

/- THE SECOND FORM. 'bulk': how many values and letters a reading holds, each counted each time it is reached (what is shared counts as often as it is met; a slice's spare places count too). A statement '..UptoSaid' is the law's where the arguments, and the package variables that the reading takes, are together of bulk at most 1048576: NARROWER than '..Said'. Prove '..Said' where nothing that the law and all that it calls make is longer than what came in: it says more and counts as full. Else prove '..UptoSaid'. A law counts once. -/
mutual
def uptoBulk {H : Type} : DataW H → Nat
  | .lit (.string bytes) => bytes.length + 1
  | .lit _ => 1
  | .nil => 1
  | .ptr d => uptoBulk d + 1
  | .slice elems spare => uptoBulkAll elems + uptoBulkAll spare + 1
  | .agg parts => uptoBulkAll parts + 1
  | .iface _ d => uptoBulk d + 1
  | .map entries => uptoBulkEntries entries + 1
  | .held _ => 1
def uptoBulkAll {H : Type} : List (DataW H) → Nat
  | [] => 0
  | d :: r => uptoBulk d + uptoBulkAll r
def uptoBulkEntries {H : Type} : List (Lit × DataW H) → Nat
  | [] => 0
  | x :: r => uptoBulkEntry x + uptoBulkEntries r
def uptoBulkEntry {H : Type} : Lit × DataW H → Nat
  | (.string bytes, d) => bytes.length + uptoBulk d + 1
  | (_, d) => uptoBulk d + 1
 end
def uptoSmall : (H : Type) → List (DataW H) → Bool := fun _ ds => decide (uptoBulkAll ds ≤ 1048576)
def OpenSpec.upto (s : _root_.Go.ChangeSpec) : _root_.Go.OpenSpec := { _root_.Go.OpenSpec.ofChange s with cond := some uptoSmall }

/-- 'laws.FnExactToCore', WHERE WHAT IT READS IS OF BULK AT MOST 1048576: true; the input reads as it did. -/
def fnExactToCoreUptoRow : OpenClaim := { program := "ytjifpdcflankpaagreat", sum := "a666f976067b0406bbd59dce75d22c5353d2f0b3753d2dd243ac383b3be3c909", func := "loop.example/g00395/laws.FnExactToCore", spec := "fnExactToCore", unfollowed := true, recurses := true, apart := false, narrowed := true }
def FnExactToCoreUptoSaid : Prop := fnExactToCoreUptoRow.holds Tryz.pinned (OpenSpec.upto fnExactToCoreSpec)

/-- 'laws.FnExactCoreOk', WHERE WHAT IT READS IS OF BULK AT MOST 1048576: true; the input reads as it did. -/
def fnExactCoreOkUptoRow : OpenClaim := { program := "ytjifpdcflankpaagreat", sum := "a666f976067b0406bbd59dce75d22c5353d2f0b3753d2dd243ac383b3be3c909", func := "loop.example/g00395/laws.FnExactCoreOk", spec := "fnExactCoreOk", unfollowed := true, recurses := true, apart := false, narrowed := true }
def FnExactCoreOkUptoSaid : Prop := fnExactCoreOkUptoRow.holds Tryz.pinned (OpenSpec.upto fnExactCoreOkSpec)

/-- 'laws.FnExactFromCore', WHERE WHAT IT READS IS OF BULK AT MOST 1048576: true; the input reads as it did. -/
def fnExactFromCoreUptoRow : OpenClaim := { program := "ytjifpdcflankpaagreat", sum := "a666f976067b0406bbd59dce75d22c5353d2f0b3753d2dd243ac383b3be3c909", func := "loop.example/g00395/laws.FnExactFromCore", spec := "fnExactFromCore", unfollowed := true, recurses := true, apart := false, narrowed := true }
def FnExactFromCoreUptoSaid : Prop := fnExactFromCoreUptoRow.holds Tryz.pinned (OpenSpec.upto fnExactFromCoreSpec)

/-- 'laws.FnExactSameUp', WHERE WHAT IT READS IS OF BULK AT MOST 1048576: true; the input reads as it did. -/
def fnExactSameUpUptoRow : OpenClaim := { program := "ytjifpdcflankpaagreat", sum := "a666f976067b0406bbd59dce75d22c5353d2f0b3753d2dd243ac383b3be3c909", func := "loop.example/g00395/laws.FnExactSameUp", spec := "fnExactSameUp", unfollowed := true, recurses := true, apart := false, narrowed := true }
def FnExactSameUpUptoSaid : Prop := fnExactSameUpUptoRow.holds Tryz.pinned (OpenSpec.upto fnExactSameUpSpec)

end Rows
end Go.Proofs.YtjifpdcflankpaaGreat

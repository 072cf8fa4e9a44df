/-
  No cell of these rows narrows 'for every input' (looked for: loops, veiled, ifaces, maps, wideKeys, modest, calm, conditions, laid).
  DERIVED. THE GIVEN ROWS OF THIS SEAT. 9 by the template 'for every input the law returns true; each argument reads behind the call as it read before'; 0 by the template 'total and deterministic' (their statements: YtbgphlpiknnajaaTotals.lean).
  GIVEN WITH THE SEED: the statements are not yours to turn. If you find one false, say at which input.
  Laid BY PROGRAM, IN A SANDBOX (cutbox-rows.mjs): the forced cells as the released guide's own fill.sh prints them over the translation 620457e8e83b8a1e… (all of the seat's roots in one cut). By AI agents, Wed Nov 11 2026. No macro, syntax, notation, axiom, sorry.
-/
import Derived.Test.YtbgphlpiknnajaaChecked
import GoSem.Claim
import GoSem.ClaimJoined
import GoSem.ClaimMapViews
import Derived.JoinedTies
import Derived.KernelRfl
namespace Go.Proofs.Ytbgphlpiknnajaa
/- THE CELL 'sum', in the pinned program and in every row, IS THE sha256 OF THE DUMP (.gsa) THAT YtbgphlpiknnajaaProg.lean LOADS. Nothing in Lean hashes anything: it is a label: what it is worth is what the hold of that sum in a sandbox is worth. -/
noncomputable def Try.pinned : Pinned := { name := "ytbgphlpiknnajaa", sum := "620457e8e83b8a1eab802650840b0421a5c32a87a0e321ab508f139c57799d9b", checked := Try.checked }
namespace Rows
def none {H : Type} : Left H := { results := [], args := [] }

/-- 'laws.FnExactGoesOn': WHATEVER THE INPUT: true; the input reads as it did. -/
def fnExactGoesOnSpec : ChangeSpec := { name := "fnExactGoesOn", fn := fun _ => fun
  | [d] => { results := [.lit (.bool true)], args := [d] }
  | _ => none }
def fnExactGoesOnRow : OpenClaim := { program := "ytbgphlpiknnajaa", sum := "620457e8e83b8a1eab802650840b0421a5c32a87a0e321ab508f139c57799d9b", func := "loop.example/g00395/laws.FnExactGoesOn", spec := "fnExactGoesOn", apart := false }
def FnExactGoesOnSaid : Prop := fnExactGoesOnRow.holds Try.pinned (OpenSpec.ofChange fnExactGoesOnSpec)

/-- ITS FALSE NEIGHBOUR: 'it returns false'. Refute it at one input. -/
def fnExactGoesOnWrong : ChangeSpec := { name := "fnExactGoesOn", fn := fun _ => fun
  | [d] => { results := [.lit (.bool false)], args := [d] }
  | _ => none }
def FnExactGoesOnWrongFalsely : Prop := fnExactGoesOnRow.holds Try.pinned (OpenSpec.ofChange fnExactGoesOnWrong)

/-- 'laws.FnExactCaret': WHATEVER THE INPUT: true; the input reads as it did. -/
def fnExactCaretSpec : ChangeSpec := { name := "fnExactCaret", fn := fun _ => fun
  | [d1, d2] => { results := [.lit (.bool true)], args := [d1, d2] }
  | _ => none }
def fnExactCaretRow : OpenClaim := { program := "ytbgphlpiknnajaa", sum := "620457e8e83b8a1eab802650840b0421a5c32a87a0e321ab508f139c57799d9b", func := "loop.example/g00395/laws.FnExactCaret", spec := "fnExactCaret", apart := false }
def FnExactCaretSaid : Prop := fnExactCaretRow.holds Try.pinned (OpenSpec.ofChange fnExactCaretSpec)

/-- ITS FALSE NEIGHBOUR: 'it returns false'. Refute it at one input. -/
def fnExactCaretWrong : ChangeSpec := { name := "fnExactCaret", fn := fun _ => fun
  | [d1, d2] => { results := [.lit (.bool false)], args := [d1, d2] }
  | _ => none }
def FnExactCaretWrongFalsely : Prop := fnExactCaretRow.holds Try.pinned (OpenSpec.ofChange fnExactCaretWrong)

/-- 'laws.FnExactMessage': WHATEVER THE INPUT: true; the input reads as it did. -/
def fnExactMessageSpec : ChangeSpec := { name := "fnExactMessage", fn := fun _ => fun
  | [d] => { results := [.lit (.bool true)], args := [d] }
  | _ => none }
def fnExactMessageRow : OpenClaim := { program := "ytbgphlpiknnajaa", sum := "620457e8e83b8a1eab802650840b0421a5c32a87a0e321ab508f139c57799d9b", func := "loop.example/g00395/laws.FnExactMessage", spec := "fnExactMessage", apart := false }
def FnExactMessageSaid : Prop := fnExactMessageRow.holds Try.pinned (OpenSpec.ofChange fnExactMessageSpec)

/-- ITS FALSE NEIGHBOUR: 'it returns false'. Refute it at one input. -/
def fnExactMessageWrong : ChangeSpec := { name := "fnExactMessage", fn := fun _ => fun
  | [d] => { results := [.lit (.bool false)], args := [d] }
  | _ => none }
def FnExactMessageWrongFalsely : Prop := fnExactMessageRow.holds Try.pinned (OpenSpec.ofChange fnExactMessageWrong)

/-- 'laws.FnExactTargets': WHATEVER THE INPUT: true; the input reads as it did. -/
def fnExactTargetsSpec : ChangeSpec := { name := "fnExactTargets", fn := fun _ => fun
  | [d] => { results := [.lit (.bool true)], args := [d] }
  | _ => none }
def fnExactTargetsRow : OpenClaim := { program := "ytbgphlpiknnajaa", sum := "620457e8e83b8a1eab802650840b0421a5c32a87a0e321ab508f139c57799d9b", func := "loop.example/g00395/laws.FnExactTargets", spec := "fnExactTargets", apart := false }
def FnExactTargetsSaid : Prop := fnExactTargetsRow.holds Try.pinned (OpenSpec.ofChange fnExactTargetsSpec)

/-- ITS FALSE NEIGHBOUR: 'it returns false'. Refute it at one input. -/
def fnExactTargetsWrong : ChangeSpec := { name := "fnExactTargets", fn := fun _ => fun
  | [d] => { results := [.lit (.bool false)], args := [d] }
  | _ => none }
def FnExactTargetsWrongFalsely : Prop := fnExactTargetsRow.holds Try.pinned (OpenSpec.ofChange fnExactTargetsWrong)

/-- 'laws.FnExactBegins': WHATEVER THE INPUT: true; the input reads as it did. -/
def fnExactBeginsSpec : ChangeSpec := { name := "fnExactBegins", fn := fun _ => fun
  | [d1, d2] => { results := [.lit (.bool true)], args := [d1, d2] }
  | _ => none }
def fnExactBeginsRow : OpenClaim := { program := "ytbgphlpiknnajaa", sum := "620457e8e83b8a1eab802650840b0421a5c32a87a0e321ab508f139c57799d9b", func := "loop.example/g00395/laws.FnExactBegins", spec := "fnExactBegins", apart := false }
def FnExactBeginsSaid : Prop := fnExactBeginsRow.holds Try.pinned (OpenSpec.ofChange fnExactBeginsSpec)

/-- ITS FALSE NEIGHBOUR: 'it returns false'. Refute it at one input. -/
def fnExactBeginsWrong : ChangeSpec := { name := "fnExactBegins", fn := fun _ => fun
  | [d1, d2] => { results := [.lit (.bool false)], args := [d1, d2] }
  | _ => none }
def FnExactBeginsWrongFalsely : Prop := fnExactBeginsRow.holds Try.pinned (OpenSpec.ofChange fnExactBeginsWrong)

/-- 'laws.FnExactAlike': WHATEVER THE INPUT: true; the input reads as it did. -/
def fnExactAlikeSpec : ChangeSpec := { name := "fnExactAlike", fn := fun _ => fun
  | [d1, d2] => { results := [.lit (.bool true)], args := [d1, d2] }
  | _ => none }
def fnExactAlikeRow : OpenClaim := { program := "ytbgphlpiknnajaa", sum := "620457e8e83b8a1eab802650840b0421a5c32a87a0e321ab508f139c57799d9b", func := "loop.example/g00395/laws.FnExactAlike", spec := "fnExactAlike", apart := false }
def FnExactAlikeSaid : Prop := fnExactAlikeRow.holds Try.pinned (OpenSpec.ofChange fnExactAlikeSpec)

/-- ITS FALSE NEIGHBOUR: 'it returns false'. Refute it at one input. -/
def fnExactAlikeWrong : ChangeSpec := { name := "fnExactAlike", fn := fun _ => fun
  | [d1, d2] => { results := [.lit (.bool false)], args := [d1, d2] }
  | _ => none }
def FnExactAlikeWrongFalsely : Prop := fnExactAlikeRow.holds Try.pinned (OpenSpec.ofChange fnExactAlikeWrong)

/-- 'laws.FnExactAgree': WHATEVER THE INPUT: true; the input reads as it did. -/
def fnExactAgreeSpec : ChangeSpec := { name := "fnExactAgree", fn := fun _ => fun
  | [d1, d2] => { results := [.lit (.bool true)], args := [d1, d2] }
  | _ => none }
def fnExactAgreeRow : OpenClaim := { program := "ytbgphlpiknnajaa", sum := "620457e8e83b8a1eab802650840b0421a5c32a87a0e321ab508f139c57799d9b", func := "loop.example/g00395/laws.FnExactAgree", spec := "fnExactAgree", apart := false }
def FnExactAgreeSaid : Prop := fnExactAgreeRow.holds Try.pinned (OpenSpec.ofChange fnExactAgreeSpec)

/-- ITS FALSE NEIGHBOUR: 'it returns false'. Refute it at one input. -/
def fnExactAgreeWrong : ChangeSpec := { name := "fnExactAgree", fn := fun _ => fun
  | [d1, d2] => { results := [.lit (.bool false)], args := [d1, d2] }
  | _ => none }
def FnExactAgreeWrongFalsely : Prop := fnExactAgreeRow.holds Try.pinned (OpenSpec.ofChange fnExactAgreeWrong)

/-- 'laws.FnExactLines': WHATEVER THE INPUT: true; the input reads as it did. -/
def fnExactLinesSpec : ChangeSpec := { name := "fnExactLines", fn := fun _ => fun
  | [d] => { results := [.lit (.bool true)], args := [d] }
  | _ => none }
def fnExactLinesRow : OpenClaim := { program := "ytbgphlpiknnajaa", sum := "620457e8e83b8a1eab802650840b0421a5c32a87a0e321ab508f139c57799d9b", func := "loop.example/g00395/laws.FnExactLines", spec := "fnExactLines", inPlace := ["internal/bytealg.CountString", "internal/bytealg.IndexByteString", "internal/bytealg.IndexString"], named := ["internal/bytealg.MaxLen"], apart := false }
def FnExactLinesSaid : Prop := fnExactLinesRow.holds Try.pinned (OpenSpec.ofChange fnExactLinesSpec)

/-- ITS FALSE NEIGHBOUR: 'it returns false'. Refute it at one input. -/
def fnExactLinesWrong : ChangeSpec := { name := "fnExactLines", fn := fun _ => fun
  | [d] => { results := [.lit (.bool false)], args := [d] }
  | _ => none }
def FnExactLinesWrongFalsely : Prop := fnExactLinesRow.holds Try.pinned (OpenSpec.ofChange fnExactLinesWrong)

/-- 'laws.FnExactWhere': WHATEVER THE INPUT: true; the input reads as it did. -/
def fnExactWhereSpec : ChangeSpec := { name := "fnExactWhere", fn := fun _ => fun
  | [d1, d2] => { results := [.lit (.bool true)], args := [d1, d2] }
  | _ => none }
def fnExactWhereRow : OpenClaim := { program := "ytbgphlpiknnajaa", sum := "620457e8e83b8a1eab802650840b0421a5c32a87a0e321ab508f139c57799d9b", func := "loop.example/g00395/laws.FnExactWhere", spec := "fnExactWhere", inPlace := ["internal/bytealg.CountString", "internal/bytealg.IndexByteString", "internal/bytealg.IndexString"], named := ["internal/bytealg.MaxLen"], apart := false }
def FnExactWhereSaid : Prop := fnExactWhereRow.holds Try.pinned (OpenSpec.ofChange fnExactWhereSpec)

/-- ITS FALSE NEIGHBOUR: 'it returns false'. Refute it at one input. -/
def fnExactWhereWrong : ChangeSpec := { name := "fnExactWhere", fn := fun _ => fun
  | [d1, d2] => { results := [.lit (.bool false)], args := [d1, d2] }
  | _ => none }
def FnExactWhereWrongFalsely : Prop := fnExactWhereRow.holds Try.pinned (OpenSpec.ofChange fnExactWhereWrong)

/- THE SECOND FORM. 'bulk': how many values and letters a reading holds, each counted each time it is reached (what is shared counts as often as it is met; a slice's spare places count too). A statement '..UptoSaid' is the law's where the arguments, and the package variables that the reading takes, are together of bulk at most 1048576: NARROWER than '..Said'. Prove '..Said' where nothing that the law and all that it calls make is longer than what came in: it says more and counts as full. Else prove '..UptoSaid'. A law counts once. -/
mutual
def uptoBulk {H : Type} : DataW H → Nat
  | .lit (.string bytes) => bytes.length + 1
  | .lit _ => 1
  | .nil => 1
  | .ptr d => uptoBulk d + 1
  | .slice elems spare => uptoBulkAll elems + uptoBulkAll spare + 1
  | .agg parts => uptoBulkAll parts + 1
  | .iface _ d => uptoBulk d + 1
  | .map entries => uptoBulkEntries entries + 1
  | .held _ => 1
def uptoBulkAll {H : Type} : List (DataW H) → Nat
  | [] => 0
  | d :: r => uptoBulk d + uptoBulkAll r
def uptoBulkEntries {H : Type} : List (Lit × DataW H) → Nat
  | [] => 0
  | x :: r => uptoBulkEntry x + uptoBulkEntries r
def uptoBulkEntry {H : Type} : Lit × DataW H → Nat
  | (.string bytes, d) => bytes.length + uptoBulk d + 1
  | (_, d) => uptoBulk d + 1
 end
def uptoSmall : (H : Type) → List (DataW H) → Bool := fun _ ds => decide (uptoBulkAll ds ≤ 1048576)
def OpenSpec.upto (s : _root_.Go.ChangeSpec) : _root_.Go.OpenSpec := { _root_.Go.OpenSpec.ofChange s with cond := some uptoSmall }

/-- 'laws.FnExactGoesOn', WHERE WHAT IT READS IS OF BULK AT MOST 1048576: true; the input reads as it did. -/
def fnExactGoesOnUptoRow : OpenClaim := { program := "ytbgphlpiknnajaa", sum := "620457e8e83b8a1eab802650840b0421a5c32a87a0e321ab508f139c57799d9b", func := "loop.example/g00395/laws.FnExactGoesOn", spec := "fnExactGoesOn", apart := false, narrowed := true }
def FnExactGoesOnUptoSaid : Prop := fnExactGoesOnUptoRow.holds Try.pinned (OpenSpec.upto fnExactGoesOnSpec)

/-- 'laws.FnExactCaret', WHERE WHAT IT READS IS OF BULK AT MOST 1048576: true; the input reads as it did. -/
def fnExactCaretUptoRow : OpenClaim := { program := "ytbgphlpiknnajaa", sum := "620457e8e83b8a1eab802650840b0421a5c32a87a0e321ab508f139c57799d9b", func := "loop.example/g00395/laws.FnExactCaret", spec := "fnExactCaret", apart := false, narrowed := true }
def FnExactCaretUptoSaid : Prop := fnExactCaretUptoRow.holds Try.pinned (OpenSpec.upto fnExactCaretSpec)

/-- 'laws.FnExactMessage', WHERE WHAT IT READS IS OF BULK AT MOST 1048576: true; the input reads as it did. -/
def fnExactMessageUptoRow : OpenClaim := { program := "ytbgphlpiknnajaa", sum := "620457e8e83b8a1eab802650840b0421a5c32a87a0e321ab508f139c57799d9b", func := "loop.example/g00395/laws.FnExactMessage", spec := "fnExactMessage", apart := false, narrowed := true }
def FnExactMessageUptoSaid : Prop := fnExactMessageUptoRow.holds Try.pinned (OpenSpec.upto fnExactMessageSpec)

/-- 'laws.FnExactTargets', WHERE WHAT IT READS IS OF BULK AT MOST 1048576: true; the input reads as it did. -/
def fnExactTargetsUptoRow : OpenClaim := { program := "ytbgphlpiknnajaa", sum := "620457e8e83b8a1eab802650840b0421a5c32a87a0e321ab508f139c57799d9b", func := "loop.example/g00395/laws.FnExactTargets", spec := "fnExactTargets", apart := false, narrowed := true }
def FnExactTargetsUptoSaid : Prop := fnExactTargetsUptoRow.holds Try.pinned (OpenSpec.upto fnExactTargetsSpec)

/-- 'laws.FnExactBegins', WHERE WHAT IT READS IS OF BULK AT MOST 1048576: true; the input reads as it did. -/
def fnExactBeginsUptoRow : OpenClaim := { program := "ytbgphlpiknnajaa", sum := "620457e8e83b8a1eab802650840b0421a5c32a87a0e321ab508f139c57799d9b", func := "loop.example/g00395/laws.FnExactBegins", spec := "fnExactBegins", apart := false, narrowed := true }
def FnExactBeginsUptoSaid : Prop := fnExactBeginsUptoRow.holds Try.pinned (OpenSpec.upto fnExactBeginsSpec)

/-- 'laws.FnExactAlike', WHERE WHAT IT READS IS OF BULK AT MOST 1048576: true; the input reads as it did. -/
def fnExactAlikeUptoRow : OpenClaim := { program := "ytbgphlpiknnajaa", sum := "620457e8e83b8a1eab802650840b0421a5c32a87a0e321ab508f139c57799d9b", func := "loop.example/g00395/laws.FnExactAlike", spec := "fnExactAlike", apart := false, narrowed := true }
def FnExactAlikeUptoSaid : Prop := fnExactAlikeUptoRow.holds Try.pinned (OpenSpec.upto fnExactAlikeSpec)

/-- 'laws.FnExactAgree', WHERE WHAT IT READS IS OF BULK AT MOST 1048576: true; the input reads as it did. -/
def fnExactAgreeUptoRow : OpenClaim := { program := "ytbgphlpiknnajaa", sum := "620457e8e83b8a1eab802650840b0421a5c32a87a0e321ab508f139c57799d9b", func := "loop.example/g00395/laws.FnExactAgree", spec := "fnExactAgree", apart := false, narrowed := true }
def FnExactAgreeUptoSaid : Prop := fnExactAgreeUptoRow.holds Try.pinned (OpenSpec.upto fnExactAgreeSpec)

/-- 'laws.FnExactLines', WHERE WHAT IT READS IS OF BULK AT MOST 1048576: true; the input reads as it did. -/
def fnExactLinesUptoRow : OpenClaim := { program := "ytbgphlpiknnajaa", sum := "620457e8e83b8a1eab802650840b0421a5c32a87a0e321ab508f139c57799d9b", func := "loop.example/g00395/laws.FnExactLines", spec := "fnExactLines", inPlace := ["internal/bytealg.CountString", "internal/bytealg.IndexByteString", "internal/bytealg.IndexString"], named := ["internal/bytealg.MaxLen"], apart := false, narrowed := true }
def FnExactLinesUptoSaid : Prop := fnExactLinesUptoRow.holds Try.pinned (OpenSpec.upto fnExactLinesSpec)

/-- 'laws.FnExactWhere', WHERE WHAT IT READS IS OF BULK AT MOST 1048576: true; the input reads as it did. -/
def fnExactWhereUptoRow : OpenClaim := { program := "ytbgphlpiknnajaa", sum := "620457e8e83b8a1eab802650840b0421a5c32a87a0e321ab508f139c57799d9b", func := "loop.example/g00395/laws.FnExactWhere", spec := "fnExactWhere", inPlace := ["internal/bytealg.CountString", "internal/bytealg.IndexByteString", "internal/bytealg.IndexString"], named := ["internal/bytealg.MaxLen"], apart := false, narrowed := true }
def FnExactWhereUptoSaid : Prop := fnExactWhereUptoRow.holds Try.pinned (OpenSpec.upto fnExactWhereSpec)

end Rows
end Go.Proofs.Ytbgphlpiknnajaa

/-
  No cell of these rows narrows 'for every input' (looked for: loops, veiled, ifaces, maps, wideKeys, modest, calm, conditions, laid).
  DERIVED. THE GIVEN ROWS OF THIS SEAT. 4 by the template 'for every input the law returns true; each argument reads behind the call as it read before'; 0 by the template 'total and deterministic' (their statements: YtpnnhgminiihnaaTotals.lean).
  GIVEN WITH THE SEED: the statements are not yours to turn. If you find one false, say at which input.
  Laid BY PROGRAM, IN A SANDBOX (cutbox-rows.mjs): the forced cells as the released guide's own fill.sh prints them over the translation 47cbf943c53e4dbf… (all of the seat's roots in one cut). By AI agents, Wed Nov 11 2026. No macro, syntax, notation, axiom, sorry.
-/
import Derived.Test.YtpnnhgminiihnaaChecked
import GoSem.Claim
import GoSem.ClaimJoined
import GoSem.ClaimMapViews
import Derived.JoinedTies
import Derived.KernelRfl
namespace Go.Proofs.Ytpnnhgminiihnaa
/- THE CELL 'sum', in the pinned program and in every row, IS THE sha256 OF THE DUMP (.gsa) THAT YtpnnhgminiihnaaProg.lean LOADS. Nothing in Lean hashes anything: it is a label: what it is worth is what the hold of that sum in a sandbox is worth. -/
noncomputable def Try.pinned : Pinned := { name := "ytpnnhgminiihnaa", sum := "47cbf943c53e4dbfdf8227d0840cc00d25ad7f97ad182a0bed2019fde5400ecd", checked := Try.checked }
namespace Rows
def none {H : Type} : Left H := { results := [], args := [] }

/-- 'laws.FnExactShow': WHATEVER THE INPUT: true; the input reads as it did. -/
def fnExactShowSpec : ChangeSpec := { name := "fnExactShow", fn := fun _ => fun
  | [d1, d2, d3] => { results := [.lit (.bool true)], args := [d1, d2, d3] }
  | _ => none }
def fnExactShowRow : OpenClaim := { program := "ytpnnhgminiihnaa", sum := "47cbf943c53e4dbfdf8227d0840cc00d25ad7f97ad182a0bed2019fde5400ecd", func := "loop.example/g00395/laws.FnExactShow", spec := "fnExactShow", unfollowed := true, recurses := true, apart := false }
def FnExactShowSaid : Prop := fnExactShowRow.holds Try.pinned (OpenSpec.ofChange fnExactShowSpec)

/-- ITS FALSE NEIGHBOUR: 'it returns false'. Refute it at one input. -/
def fnExactShowWrong : ChangeSpec := { name := "fnExactShow", fn := fun _ => fun
  | [d1, d2, d3] => { results := [.lit (.bool false)], args := [d1, d2, d3] }
  | _ => none }
def FnExactShowWrongFalsely : Prop := fnExactShowRow.holds Try.pinned (OpenSpec.ofChange fnExactShowWrong)

/-- 'laws.FnExactSweep': WHATEVER THE INPUT: true; the input reads as it did. -/
def fnExactSweepSpec : ChangeSpec := { name := "fnExactSweep", fn := fun _ => fun
  | [d1, d2] => { results := [.lit (.bool true)], args := [d1, d2] }
  | _ => none }
def fnExactSweepRow : OpenClaim := { program := "ytpnnhgminiihnaa", sum := "47cbf943c53e4dbfdf8227d0840cc00d25ad7f97ad182a0bed2019fde5400ecd", func := "loop.example/g00395/laws.FnExactSweep", spec := "fnExactSweep", unfollowed := true, recurses := true, apart := false }
def FnExactSweepSaid : Prop := fnExactSweepRow.holds Try.pinned (OpenSpec.ofChange fnExactSweepSpec)

/-- ITS FALSE NEIGHBOUR: 'it returns false'. Refute it at one input. -/
def fnExactSweepWrong : ChangeSpec := { name := "fnExactSweep", fn := fun _ => fun
  | [d1, d2] => { results := [.lit (.bool false)], args := [d1, d2] }
  | _ => none }
def FnExactSweepWrongFalsely : Prop := fnExactSweepRow.holds Try.pinned (OpenSpec.ofChange fnExactSweepWrong)

/-- 'laws.FnExactCopy': WHATEVER THE INPUT: true; the input reads as it did. -/
def fnExactCopySpec : ChangeSpec := { name := "fnExactCopy", fn := fun _ => fun
  | [d1, d2] => { results := [.lit (.bool true)], args := [d1, d2] }
  | _ => none }
def fnExactCopyRow : OpenClaim := { program := "ytpnnhgminiihnaa", sum := "47cbf943c53e4dbfdf8227d0840cc00d25ad7f97ad182a0bed2019fde5400ecd", func := "loop.example/g00395/laws.FnExactCopy", spec := "fnExactCopy", unfollowed := true, recurses := true, apart := false }
def FnExactCopySaid : Prop := fnExactCopyRow.holds Try.pinned (OpenSpec.ofChange fnExactCopySpec)

/-- ITS FALSE NEIGHBOUR: 'it returns false'. Refute it at one input. -/
def fnExactCopyWrong : ChangeSpec := { name := "fnExactCopy", fn := fun _ => fun
  | [d1, d2] => { results := [.lit (.bool false)], args := [d1, d2] }
  | _ => none }
def FnExactCopyWrongFalsely : Prop := fnExactCopyRow.holds Try.pinned (OpenSpec.ofChange fnExactCopyWrong)

/-- 'laws.FnExactReach': WHATEVER THE INPUT: true; the input reads as it did. -/
def fnExactReachSpec : ChangeSpec := { name := "fnExactReach", fn := fun _ => fun
  | [d1, d2] => { results := [.lit (.bool true)], args := [d1, d2] }
  | _ => none }
def fnExactReachRow : OpenClaim := { program := "ytpnnhgminiihnaa", sum := "47cbf943c53e4dbfdf8227d0840cc00d25ad7f97ad182a0bed2019fde5400ecd", func := "loop.example/g00395/laws.FnExactReach", spec := "fnExactReach", unfollowed := true, recurses := true, apart := false }
def FnExactReachSaid : Prop := fnExactReachRow.holds Try.pinned (OpenSpec.ofChange fnExactReachSpec)

/-- ITS FALSE NEIGHBOUR: 'it returns false'. Refute it at one input. -/
def fnExactReachWrong : ChangeSpec := { name := "fnExactReach", fn := fun _ => fun
  | [d1, d2] => { results := [.lit (.bool false)], args := [d1, d2] }
  | _ => none }
def FnExactReachWrongFalsely : Prop := fnExactReachRow.holds Try.pinned (OpenSpec.ofChange fnExactReachWrong)

/- THE SECOND FORM. 'bulk': how many values and letters a reading holds, each counted each time it is reached (what is shared counts as often as it is met; a slice's spare places count too). A statement '..UptoSaid' is the law's where the arguments, and the package variables that the reading takes, are together of bulk at most 1048576: NARROWER than '..Said'. Prove '..Said' where nothing that the law and all that it calls make is longer than what came in: it says more and counts as full. Else prove '..UptoSaid'. A law counts once. -/
mutual
def uptoBulk {H : Type} : DataW H → Nat
  | .lit (.string bytes) => bytes.length + 1
  | .lit _ => 1
  | .nil => 1
  | .ptr d => uptoBulk d + 1
  | .slice elems spare => uptoBulkAll elems + uptoBulkAll spare + 1
  | .agg parts => uptoBulkAll parts + 1
  | .iface _ d => uptoBulk d + 1
  | .map entries => uptoBulkEntries entries + 1
  | .held _ => 1
def uptoBulkAll {H : Type} : List (DataW H) → Nat
  | [] => 0
  | d :: r => uptoBulk d + uptoBulkAll r
def uptoBulkEntries {H : Type} : List (Lit × DataW H) → Nat
  | [] => 0
  | x :: r => uptoBulkEntry x + uptoBulkEntries r
def uptoBulkEntry {H : Type} : Lit × DataW H → Nat
  | (.string bytes, d) => bytes.length + uptoBulk d + 1
  | (_, d) => uptoBulk d + 1
 end
def uptoSmall : (H : Type) → List (DataW H) → Bool := fun _ ds => decide (uptoBulkAll ds ≤ 1048576)
def OpenSpec.upto (s : _root_.Go.ChangeSpec) : _root_.Go.OpenSpec := { _root_.Go.OpenSpec.ofChange s with cond := some uptoSmall }

/-- 'laws.FnExactShow', WHERE WHAT IT READS IS OF BULK AT MOST 1048576: true; the input reads as it did. -/
def fnExactShowUptoRow : OpenClaim := { program := "ytpnnhgminiihnaa", sum := "47cbf943c53e4dbfdf8227d0840cc00d25ad7f97ad182a0bed2019fde5400ecd", func := "loop.example/g00395/laws.FnExactShow", spec := "fnExactShow", unfollowed := true, recurses := true, apart := false, narrowed := true }
def FnExactShowUptoSaid : Prop := fnExactShowUptoRow.holds Try.pinned (OpenSpec.upto fnExactShowSpec)

/-- 'laws.FnExactSweep', WHERE WHAT IT READS IS OF BULK AT MOST 1048576: true; the input reads as it did. -/
def fnExactSweepUptoRow : OpenClaim := { program := "ytpnnhgminiihnaa", sum := "47cbf943c53e4dbfdf8227d0840cc00d25ad7f97ad182a0bed2019fde5400ecd", func := "loop.example/g00395/laws.FnExactSweep", spec := "fnExactSweep", unfollowed := true, recurses := true, apart := false, narrowed := true }
def FnExactSweepUptoSaid : Prop := fnExactSweepUptoRow.holds Try.pinned (OpenSpec.upto fnExactSweepSpec)

/-- 'laws.FnExactCopy', WHERE WHAT IT READS IS OF BULK AT MOST 1048576: true; the input reads as it did. -/
def fnExactCopyUptoRow : OpenClaim := { program := "ytpnnhgminiihnaa", sum := "47cbf943c53e4dbfdf8227d0840cc00d25ad7f97ad182a0bed2019fde5400ecd", func := "loop.example/g00395/laws.FnExactCopy", spec := "fnExactCopy", unfollowed := true, recurses := true, apart := false, narrowed := true }
def FnExactCopyUptoSaid : Prop := fnExactCopyUptoRow.holds Try.pinned (OpenSpec.upto fnExactCopySpec)

/-- 'laws.FnExactReach', WHERE WHAT IT READS IS OF BULK AT MOST 1048576: true; the input reads as it did. -/
def fnExactReachUptoRow : OpenClaim := { program := "ytpnnhgminiihnaa", sum := "47cbf943c53e4dbfdf8227d0840cc00d25ad7f97ad182a0bed2019fde5400ecd", func := "loop.example/g00395/laws.FnExactReach", spec := "fnExactReach", unfollowed := true, recurses := true, apart := false, narrowed := true }
def FnExactReachUptoSaid : Prop := fnExactReachUptoRow.holds Try.pinned (OpenSpec.upto fnExactReachSpec)

end Rows
end Go.Proofs.Ytpnnhgminiihnaa

/-
  THE ABSTRACT TEXTS OF FUNCTIONS (LFirst), printed by irgen.py, and that they are the functions' own. Conditions: none.
-/
import Derived.Test.YtfdkgbejhdmpbaaProg
import Derived.Test.YtfdkgbejhdmpbaaAvDraw
set_option linter.unusedVariables false
set_option maxRecDepth 100000
namespace Go.Proofs.Ytfdkgbejhdmpbaa
open Go.Proofs.Ytfdkgbejhdmpbaa.Av

theorem follows_LFirst : Try.prog.follows .mixedOrders = true := by kernel_rfl

def ir_laws_FnExactFirstHit : ICode := (.seq (.region [⟨some 3, none, .boxP (.t 1)⟩, ⟨some 4, none, .mov (.c (.bool false))⟩]) (.seq (.region [⟨some 5, none, .mov (.c (.int .i64 1048576))⟩]) (.seq (.region [⟨some 10, none, .mov (.t 0)⟩, ⟨some 11, none, .mov (.t 5)⟩, ⟨some 12, none, .callH 5 [(.t 10), (.t 11)]⟩, ⟨some 5, none, .mov (.t 12)⟩]) (.seq (.seq (.region [⟨some 13, none, .mov (.t 5)⟩, ⟨some 14, none, .bin .lss .other (.t 13) (.c (.int .i64 0))⟩]) (.cond (.t 14) (.seq (.region [⟨some 4, none, .mov (.c (.bool true))⟩]) .ret) .skip)) (.seq (.region [⟨some 15, none, .load true 1 (.t 3)⟩, ⟨some 16, none, .mov (.t 5)⟩, ⟨some 17, none, .callH 6 [(.t 15), (.t 16)]⟩, ⟨some 5, none, .mov (.t 17)⟩]) (.seq (.seq (.region [⟨some 18, none, .mov (.t 5)⟩, ⟨some 19, none, .bin .lss .other (.t 18) (.c (.int .i64 0))⟩]) (.cond (.t 19) (.seq (.region [⟨some 4, none, .mov (.c (.bool true))⟩]) .ret) .skip)) (.seq (.draw [⟨some 20, none, .mov (.t 0)⟩, ⟨some 21, none, .call 8 [(.t 20)]⟩, ⟨some 22, none, .load true 1 (.t 3)⟩, ⟨some 23, none, .call 9 [(.t 22)]⟩, ⟨some 24, none, .call 7 [(.t 21), (.t 23)]⟩, ⟨some 6, none, .mov (.t 24)⟩]) (.seq (.region [⟨some 25, none, .mov (.t 0)⟩, ⟨some 26, none, .call 8 [(.t 25)]⟩, ⟨some 7, none, .mov (.t 26)⟩]) (.seq (.region [⟨some 27, none, .load true 1 (.t 3)⟩, ⟨some 28, none, .call 9 [(.t 27)]⟩, ⟨some 8, none, .boxO 8 33 1 (.c (.agg [.nils]))⟩, ⟨none, none, .store 1 (.t 8) (.t 28)⟩]) (.seq (.region [⟨some 29, none, .mov (.t 7)⟩, ⟨some 30, none, .load true 1 (.t 8)⟩, ⟨some 31, none, .call 10 [(.t 29), (.t 30)]⟩, ⟨some 9, none, .mov (.t 31)⟩]) (.seq (.seq (.region [⟨some 32, none, .mov (.t 9)⟩, ⟨some 33, none, .mov (.t 6)⟩, ⟨some 34, none, .bin .neq .other (.t 32) (.t 33)⟩]) (.cond (.t 34) (.seq (.region [⟨some 4, none, .mov (.c (.bool false))⟩]) .ret) .skip)) (.seq (.seq (.region [⟨some 35, none, .mov (.t 7)⟩, ⟨some 36, none, .mov (.t 0)⟩, ⟨some 37, none, .call 8 [(.t 36)]⟩, ⟨some 38, none, .call 11 [(.t 35), (.t 37)]⟩, ⟨some 39, none, .un .not (.t 38)⟩]) (.cond (.t 39) (.seq (.region [⟨some 4, none, .mov (.c (.bool false))⟩]) .ret) .skip)) (.seq (.seq (.draw [⟨some 40, none, .load true 1 (.t 8)⟩, ⟨some 41, none, .load true 1 (.t 3)⟩, ⟨some 42, none, .call 9 [(.t 41)]⟩, ⟨some 43, none, .call 12 [(.t 40), (.t 42)]⟩, ⟨some 44, none, .un .not (.t 43)⟩]) (.cond (.t 44) (.seq (.region [⟨some 4, none, .mov (.c (.bool false))⟩]) .ret) .skip)) (.seq (.region [⟨some 4, none, .mov (.c (.bool true))⟩]) .ret))))))))))))))
def rs_laws_FnExactFirstHit : List IRes := [(.t 4)]
theorem low_laws_FnExactFirstHit : lowF Try.prog [(12, 7777), (17, 7777)] [] 2 Try.f3 = some (ir_laws_FnExactFirstHit, rs_laws_FnExactFirstHit) := by kernel_rfl
theorem fun_laws_FnExactFirstHit {args : List AV} {res : AV} (hn : args.length = 2) (h1 : ∀ x ∈ args, AvPure x) (h2 : AvPure res) (h : awp Try.prog ir_laws_FnExactFirstHit (Ret rs_laws_FnExactFirstHit res) ⟨entry 0 args, []⟩) : CallsF Try.prog 3 args res :=
  callsF follows_LFirst Try.func3 (by kernel_rfl) (by rw [hn]; exact low_laws_FnExactFirstHit) h1 h2 h

end Go.Proofs.Ytfdkgbejhdmpbaa

/-
  THE ABSTRACT TEXTS OF FUNCTIONS (LDeepest), printed by irgen.py, and that they are the functions' own. Conditions: none.
-/
import Derived.Test.YtabifanjbckchaaGreatProg
import Derived.Test.YtabifanjbckchaaGreatAvDraw
set_option linter.unusedVariables false
set_option maxRecDepth 100000
namespace Go.Proofs.YtabifanjbckchaaGreat
open Go.Proofs.YtabifanjbckchaaGreat.Av

theorem follows_LDeepest : Tryz.prog.follows .mixedOrders = true := by kernel_rfl

def ir_laws_FnExactDeepest : ICode := (.seq (.region [⟨some 1, none, .boxP (.t 0)⟩, ⟨some 2, none, .mov (.c (.bool false))⟩]) (.seq (.region [⟨some 3, none, .mov (.c (.int .i64 1048576))⟩]) (.seq (.region [⟨some 7, none, .load true 2 (.t 1)⟩, ⟨some 8, none, .mov (.t 3)⟩, ⟨some 9, none, .callH 5 [(.t 7), (.t 8)]⟩, ⟨some 3, none, .mov (.t 9)⟩]) (.seq (.seq (.region [⟨some 10, none, .mov (.t 3)⟩, ⟨some 11, none, .bin .lss .other (.t 10) (.c (.int .i64 0))⟩]) (.cond (.t 11) (.seq (.region [⟨some 2, none, .mov (.c (.bool true))⟩]) .ret) .skip)) (.seq (.region [⟨some 12, none, .load true 2 (.t 1)⟩, ⟨some 13, none, .call 7 [(.t 12)]⟩, ⟨some 14, none, .call 14 [(.t 13)]⟩, ⟨some 4, none, .mov (.t 14)⟩]) (.seq (.region [⟨some 15, none, .load true 2 (.t 1)⟩, ⟨some 16, none, .call 7 [(.t 15)]⟩, ⟨some 5, none, .boxO 5 33 2 (.c (.agg [.nils, .nils]))⟩, ⟨none, none, .store 2 (.t 5) (.t 16)⟩]) (.seq (.region [⟨some 17, none, .load true 2 (.t 5)⟩, ⟨some 18, none, .call 15 [(.t 17)]⟩, ⟨some 6, none, .mov (.t 18)⟩]) (.seq (.seq (.region [⟨some 19, none, .mov (.t 6)⟩, ⟨some 20, none, .mov (.t 4)⟩, ⟨some 21, none, .bin .neq .other (.t 19) (.t 20)⟩]) (.cond (.t 21) (.seq (.region [⟨some 2, none, .mov (.c (.bool false))⟩]) .ret) .skip)) (.seq (.seq (.draw [⟨some 22, none, .load true 2 (.t 5)⟩, ⟨some 23, none, .load true 2 (.t 1)⟩, ⟨some 24, none, .call 7 [(.t 23)]⟩, ⟨some 25, none, .call 10 [(.t 22), (.t 24)]⟩, ⟨some 26, none, .un .not (.t 25)⟩]) (.cond (.t 26) (.seq (.region [⟨some 2, none, .mov (.c (.bool false))⟩]) .ret) .skip)) (.seq (.region [⟨some 2, none, .mov (.c (.bool true))⟩]) .ret))))))))))
def rs_laws_FnExactDeepest : List IRes := [(.t 2)]
theorem low_laws_FnExactDeepest : lowF Tryz.prog [(9, 7777)] [] 1 Tryz.f4 = some (ir_laws_FnExactDeepest, rs_laws_FnExactDeepest) := by kernel_rfl
theorem fun_laws_FnExactDeepest {args : List AV} {res : AV} (hn : args.length = 1) (h1 : ∀ x ∈ args, AvPure x) (h2 : AvPure res) (h : awp Tryz.prog ir_laws_FnExactDeepest (Ret rs_laws_FnExactDeepest res) ⟨entry 0 args, []⟩) : CallsF Tryz.prog 4 args res :=
  callsF follows_LDeepest Tryz.func4 (by kernel_rfl) (by rw [hn]; exact low_laws_FnExactDeepest) h1 h2 h

end Go.Proofs.YtabifanjbckchaaGreat

/-
  THE ABSTRACT TEXTS OF FUNCTIONS (GStr), printed by irgen.py, and that they are the functions' own. Conditions: none.
-/
import Derived.Test.YtbcifdnfhoikiaaGreatProg
import Derived.Test.YtbcifdnfhoikiaaGreatAvDraw
set_option linter.unusedVariables false
set_option maxRecDepth 100000
namespace Go.Proofs.YtbcifdnfhoikiaaGreat
open Go.Proofs.YtbcifdnfhoikiaaGreat.Av

theorem follows_GStr : Tryz.prog.follows .mixedOrders = true := by kernel_rfl

def ir_laws_eqStringS : ICode := (.seq (.region [⟨some 4, none, .mov (.c (.bool false))⟩]) (.seq (.seq (.region [⟨some 6, none, .mov (.t 0)⟩, ⟨some 7, none, .len false (.t 6)⟩, ⟨some 8, none, .mov (.t 1)⟩, ⟨some 9, none, .len false (.t 8)⟩, ⟨some 10, none, .bin .neq .other (.t 7) (.t 9)⟩]) (.cond (.t 10) (.seq (.region [⟨some 4, none, .mov (.c (.bool false))⟩]) .ret) .skip)) (.seq (.seq (.region [⟨some 5, none, .mov (.c (.int .i64 0))⟩]) (.block 0 (.loop (.seq (.seq (.region [⟨some 11, none, .mov (.t 5)⟩, ⟨some 12, none, .mov (.t 0)⟩, ⟨some 13, none, .len false (.t 12)⟩, ⟨some 14, none, .bin .lss .other (.t 11) (.t 13)⟩]) (.cond (.t 14) .skip (.exit 0))) (.seq (.block 1 (.seq (.draw [⟨some 17, none, .mov (.t 0)⟩, ⟨some 18, none, .mov (.t 5)⟩, ⟨some 19, none, .iaddr 1 (.t 17) (.t 18)⟩, ⟨some 20, none, .load false 1 (.t 19)⟩, ⟨some 21, none, .mov (.t 1)⟩, ⟨some 22, none, .mov (.t 5)⟩, ⟨some 23, none, .iaddr 1 (.t 21) (.t 22)⟩, ⟨some 24, none, .load false 1 (.t 23)⟩, ⟨some 25, none, .bin .neq .other (.t 20) (.t 24)⟩]) (.cond (.t 25) (.seq (.region [⟨some 4, none, .mov (.c (.bool false))⟩]) .ret) .skip))) (.region [⟨some 15, none, .mov (.t 5)⟩, ⟨some 16, none, .bin .add .other (.t 15) (.c (.int .i64 1))⟩, ⟨some 5, none, .mov (.t 16)⟩])))))) (.seq (.region [⟨some 4, none, .mov (.c (.bool true))⟩]) .ret))))
def rs_laws_eqStringS : List IRes := [(.t 4)]
theorem low_laws_eqStringS : lowF Tryz.prog [] [] 2 Tryz.f10 = some (ir_laws_eqStringS, rs_laws_eqStringS) := by kernel_rfl
theorem fun_laws_eqStringS {args : List AV} {res : AV} (hn : args.length = 2) (h1 : ∀ x ∈ args, AvPure x) (h2 : AvPure res) (h : awp Tryz.prog ir_laws_eqStringS (Ret rs_laws_eqStringS res) ⟨entry 0 args, []⟩) : CallsF Tryz.prog 10 args res :=
  callsF follows_GStr Tryz.func10 (by kernel_rfl) (by rw [hn]; exact low_laws_eqStringS) h1 h2 h

end Go.Proofs.YtbcifdnfhoikiaaGreat

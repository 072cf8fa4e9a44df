/-
  THE ABSTRACT TEXTS OF FUNCTIONS (OStr), printed by irgen.py, and that they are the functions' own. Conditions: none.
-/
import Derived.Test.YtbcifdnfhoikiaaGreatProg
import Derived.Test.YtbcifdnfhoikiaaGreatAvDraw
set_option linter.unusedVariables false
set_option maxRecDepth 100000
namespace Go.Proofs.YtbcifdnfhoikiaaGreat
open Go.Proofs.YtbcifdnfhoikiaaGreat.Av

theorem follows_OStr : Tryz.prog.follows .mixedOrders = true := by kernel_rfl

def ir_laws_markStringS : ICode := (.seq (.region [⟨some 4, none, .mov (.c (.int .i64 0))⟩]) (.seq (.seq (.region [⟨some 5, none, .mov (.c (.int .i64 0))⟩]) (.block 0 (.loop (.seq (.seq (.region [⟨some 6, none, .mov (.t 5)⟩, ⟨some 7, none, .mov (.t 0)⟩, ⟨some 8, none, .len false (.t 7)⟩, ⟨some 9, none, .bin .lss .other (.t 6) (.t 8)⟩]) (.cond (.t 9) .skip (.exit 0))) (.seq (.block 1 (.seq (.region [⟨some 12, none, .mov (.t 0)⟩, ⟨some 13, none, .mov (.t 5)⟩, ⟨some 14, none, .mov (.t 1)⟩, ⟨some 15, none, .call 35 [(.t 14)]⟩, ⟨some 16, none, .iaddr 1 (.t 12) (.t 13)⟩, ⟨none, none, .store 1 (.t 16) (.t 15)⟩]) (.region [⟨some 17, none, .mov (.t 1)⟩, ⟨some 18, none, .bin .add .other (.t 17) (.c (.int .i64 1))⟩, ⟨some 1, none, .mov (.t 18)⟩]))) (.region [⟨some 10, none, .mov (.t 5)⟩, ⟨some 11, none, .bin .add .other (.t 10) (.c (.int .i64 1))⟩, ⟨some 5, none, .mov (.t 11)⟩])))))) (.seq (.region [⟨some 19, none, .mov (.t 1)⟩, ⟨some 4, none, .mov (.t 19)⟩]) .retK)))
def rs_laws_markStringS : List IRes := [(.t 4)]
theorem low_laws_markStringS : lowF Tryz.prog [] [9999] 2 Tryz.f13 = some (ir_laws_markStringS, rs_laws_markStringS) := by kernel_rfl
theorem funH_laws_markStringS {args : List AV} {hp : Hp} {Post : AV → Hp → Prop} (hn : args.length = 2) (h : awp Tryz.prog ir_laws_markStringS (RetH rs_laws_markStringS Post) ⟨entry 0 args, hp⟩) : CallsH Tryz.prog 13 args hp Post :=
  callsH follows_OStr Tryz.func13 (by kernel_rfl) (by rw [hn]; exact low_laws_markStringS) h

def ir_laws_heldStringS : ICode := (.seq (.region [⟨some 4, none, .mov (.c (.int .i64 0))⟩]) (.seq (.seq (.region [⟨some 5, none, .mov (.c (.int .i64 0))⟩]) (.block 0 (.loop (.seq (.seq (.region [⟨some 6, none, .mov (.t 5)⟩, ⟨some 7, none, .mov (.t 0)⟩, ⟨some 8, none, .len false (.t 7)⟩, ⟨some 9, none, .bin .lss .other (.t 6) (.t 8)⟩]) (.cond (.t 9) .skip (.exit 0))) (.seq (.block 1 (.seq (.seq (.draw [⟨some 12, none, .mov (.t 0)⟩, ⟨some 13, none, .mov (.t 5)⟩, ⟨some 14, none, .iaddr 1 (.t 12) (.t 13)⟩, ⟨some 15, none, .load false 1 (.t 14)⟩, ⟨some 16, none, .mov (.t 1)⟩, ⟨some 17, none, .call 35 [(.t 16)]⟩, ⟨some 18, none, .bin .neq .other (.t 15) (.t 17)⟩]) (.cond (.t 18) (.seq (.region [⟨some 4, none, .mov (.c (.int .i64 (-1)))⟩]) .ret) .skip)) (.region [⟨some 19, none, .mov (.t 1)⟩, ⟨some 20, none, .bin .add .other (.t 19) (.c (.int .i64 1))⟩, ⟨some 1, none, .mov (.t 20)⟩]))) (.region [⟨some 10, none, .mov (.t 5)⟩, ⟨some 11, none, .bin .add .other (.t 10) (.c (.int .i64 1))⟩, ⟨some 5, none, .mov (.t 11)⟩])))))) (.seq (.region [⟨some 21, none, .mov (.t 1)⟩, ⟨some 4, none, .mov (.t 21)⟩]) .ret)))
def rs_laws_heldStringS : List IRes := [(.t 4)]
theorem low_laws_heldStringS : lowF Tryz.prog [] [] 2 Tryz.f14 = some (ir_laws_heldStringS, rs_laws_heldStringS) := by kernel_rfl
theorem fun_laws_heldStringS {args : List AV} {res : AV} (hn : args.length = 2) (h1 : ∀ x ∈ args, AvPure x) (h2 : AvPure res) (h : awp Tryz.prog ir_laws_heldStringS (Ret rs_laws_heldStringS res) ⟨entry 0 args, []⟩) : CallsF Tryz.prog 14 args res :=
  callsF follows_OStr Tryz.func14 (by kernel_rfl) (by rw [hn]; exact low_laws_heldStringS) h1 h2 h

end Go.Proofs.YtbcifdnfhoikiaaGreat

/-
  THE ABSTRACT TEXTS OF FUNCTIONS (MarksI), printed by irgen.py, and that they are the functions' own. Conditions: none.
-/
import Derived.Test.YtpnnhgminiihnaaDoorProg
import Derived.Test.YtpnnhgminiihnaaDoorAvDraw
set_option linter.unusedVariables false
set_option maxRecDepth 100000
namespace Go.Proofs.YtpnnhgminiihnaaDoor
open Go.Proofs.YtpnnhgminiihnaaDoor.Av

theorem follows_MarksI : Tryd.prog.follows .mixedOrders = true := by kernel_rfl

def ir_laws_markIntS : ICode := (.seq (.region [⟨(some 4), none, (.mov (.c (.int .i64 0)))⟩]) (.seq (.seq (.region [⟨(some 5), none, (.mov (.c (.int .i64 0)))⟩]) (.block 0 (.loop (.seq (.seq (.region [⟨(some 6), none, (.mov (.t 5))⟩, ⟨(some 7), none, (.mov (.t 0))⟩, ⟨(some 8), none, (.len false (.t 7))⟩, ⟨(some 9), none, (.bin .lss .other (.t 6) (.t 8))⟩]) (.cond (.t 9) .skip (.exit 0))) (.seq (.block 1 (.seq (.region [⟨(some 12), none, (.mov (.t 0))⟩, ⟨(some 13), none, (.mov (.t 5))⟩, ⟨(some 14), none, (.mov (.t 1))⟩, ⟨(some 15), none, (.iaddr 1 (.t 12) (.t 13))⟩, ⟨none, none, (.store 1 (.t 15) (.t 14))⟩]) (.region [⟨(some 16), none, (.mov (.t 1))⟩, ⟨(some 17), none, (.bin .add .other (.t 16) (.c (.int .i64 1)))⟩, ⟨(some 1), none, (.mov (.t 17))⟩]))) (.region [⟨(some 10), none, (.mov (.t 5))⟩, ⟨(some 11), none, (.bin .add .other (.t 10) (.c (.int .i64 1)))⟩, ⟨(some 5), none, (.mov (.t 11))⟩])))))) (.seq (.region [⟨(some 18), none, (.mov (.t 1))⟩, ⟨(some 4), none, (.mov (.t 18))⟩]) .retK)))
def rs_laws_markIntS : List IRes := [(.t 4)]
theorem low_laws_markIntS : lowF Tryd.prog [] [9999] 2 Tryd.f11 = some (ir_laws_markIntS, rs_laws_markIntS) := by kernel_rfl
theorem funH_laws_markIntS {args : List AV} {hp : Hp} {Post : AV → Hp → Prop} (hn : args.length = 2) (h : awp Tryd.prog ir_laws_markIntS (RetH rs_laws_markIntS Post) ⟨entry 0 args, hp⟩) : CallsH Tryd.prog 11 args hp Post :=
  callsH follows_MarksI Tryd.func11 (by kernel_rfl) (by rw [hn]; exact low_laws_markIntS) h

def ir_laws_heldIntS : ICode := (.seq (.region [⟨(some 4), none, (.mov (.c (.int .i64 0)))⟩]) (.seq (.seq (.region [⟨(some 5), none, (.mov (.c (.int .i64 0)))⟩]) (.block 0 (.loop (.seq (.seq (.region [⟨(some 6), none, (.mov (.t 5))⟩, ⟨(some 7), none, (.mov (.t 0))⟩, ⟨(some 8), none, (.len false (.t 7))⟩, ⟨(some 9), none, (.bin .lss .other (.t 6) (.t 8))⟩]) (.cond (.t 9) .skip (.exit 0))) (.seq (.block 1 (.seq (.seq (.region [⟨(some 12), none, (.mov (.t 0))⟩, ⟨(some 13), none, (.mov (.t 5))⟩, ⟨(some 14), none, (.iaddr 1 (.t 12) (.t 13))⟩, ⟨(some 15), none, (.load false 1 (.t 14))⟩, ⟨(some 16), none, (.mov (.t 1))⟩, ⟨(some 17), none, (.bin .neq .other (.t 15) (.t 16))⟩]) (.cond (.t 17) (.seq (.region [⟨(some 4), none, (.mov (.c (.int .i64 (-1))))⟩]) .ret) .skip)) (.region [⟨(some 18), none, (.mov (.t 1))⟩, ⟨(some 19), none, (.bin .add .other (.t 18) (.c (.int .i64 1)))⟩, ⟨(some 1), none, (.mov (.t 19))⟩]))) (.region [⟨(some 10), none, (.mov (.t 5))⟩, ⟨(some 11), none, (.bin .add .other (.t 10) (.c (.int .i64 1)))⟩, ⟨(some 5), none, (.mov (.t 11))⟩])))))) (.seq (.region [⟨(some 20), none, (.mov (.t 1))⟩, ⟨(some 4), none, (.mov (.t 20))⟩]) .ret)))
def rs_laws_heldIntS : List IRes := [(.t 4)]
theorem low_laws_heldIntS : lowF Tryd.prog [] [] 2 Tryd.f12 = some (ir_laws_heldIntS, rs_laws_heldIntS) := by kernel_rfl
theorem fun_laws_heldIntS {args : List AV} {res : AV} (hn : args.length = 2) (h1 : ∀ x ∈ args, AvPure x) (h2 : AvPure res) (h : awp Tryd.prog ir_laws_heldIntS (Ret rs_laws_heldIntS res) ⟨entry 0 args, []⟩) : CallsF Tryd.prog 12 args res :=
  callsF follows_MarksI Tryd.func12 (by kernel_rfl) (by rw [hn]; exact low_laws_heldIntS) h1 h2 h

def ir_laws_eqIntS : ICode := (.seq (.region [⟨(some 4), none, (.mov (.c (.bool false)))⟩]) (.seq (.seq (.region [⟨(some 6), none, (.mov (.t 0))⟩, ⟨(some 7), none, (.len false (.t 6))⟩, ⟨(some 8), none, (.mov (.t 1))⟩, ⟨(some 9), none, (.len false (.t 8))⟩, ⟨(some 10), none, (.bin .neq .other (.t 7) (.t 9))⟩]) (.cond (.t 10) (.seq (.region [⟨(some 4), none, (.mov (.c (.bool false)))⟩]) .ret) .skip)) (.seq (.seq (.region [⟨(some 5), none, (.mov (.c (.int .i64 0)))⟩]) (.block 0 (.loop (.seq (.seq (.region [⟨(some 11), none, (.mov (.t 5))⟩, ⟨(some 12), none, (.mov (.t 0))⟩, ⟨(some 13), none, (.len false (.t 12))⟩, ⟨(some 14), none, (.bin .lss .other (.t 11) (.t 13))⟩]) (.cond (.t 14) .skip (.exit 0))) (.seq (.block 1 (.seq (.draw [⟨(some 17), none, (.mov (.t 0))⟩, ⟨(some 18), none, (.mov (.t 5))⟩, ⟨(some 19), none, (.iaddr 1 (.t 17) (.t 18))⟩, ⟨(some 20), none, (.load false 1 (.t 19))⟩, ⟨(some 21), none, (.mov (.t 1))⟩, ⟨(some 22), none, (.mov (.t 5))⟩, ⟨(some 23), none, (.iaddr 1 (.t 21) (.t 22))⟩, ⟨(some 24), none, (.load false 1 (.t 23))⟩, ⟨(some 25), none, (.bin .neq .other (.t 20) (.t 24))⟩]) (.cond (.t 25) (.seq (.region [⟨(some 4), none, (.mov (.c (.bool false)))⟩]) .ret) .skip))) (.region [⟨(some 15), none, (.mov (.t 5))⟩, ⟨(some 16), none, (.bin .add .other (.t 15) (.c (.int .i64 1)))⟩, ⟨(some 5), none, (.mov (.t 16))⟩])))))) (.seq (.region [⟨(some 4), none, (.mov (.c (.bool true)))⟩]) .ret))))
def rs_laws_eqIntS : List IRes := [(.t 4)]
theorem low_laws_eqIntS : lowF Tryd.prog [] [] 2 Tryd.f10 = some (ir_laws_eqIntS, rs_laws_eqIntS) := by kernel_rfl
theorem fun_laws_eqIntS {args : List AV} {res : AV} (hn : args.length = 2) (h1 : ∀ x ∈ args, AvPure x) (h2 : AvPure res) (h : awp Tryd.prog ir_laws_eqIntS (Ret rs_laws_eqIntS res) ⟨entry 0 args, []⟩) : CallsF Tryd.prog 10 args res :=
  callsF follows_MarksI Tryd.func10 (by kernel_rfl) (by rw [hn]; exact low_laws_eqIntS) h1 h2 h

end Go.Proofs.YtpnnhgminiihnaaDoor

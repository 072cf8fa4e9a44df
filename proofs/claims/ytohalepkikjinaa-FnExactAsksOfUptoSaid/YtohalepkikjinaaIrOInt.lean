/-
  THE ABSTRACT TEXTS OF FUNCTIONS (OInt), printed by irgen.py, and that they are the functions' own. Conditions: none.
-/
import Derived.Test.YtohalepkikjinaaProg
import Derived.Test.YtohalepkikjinaaAvDraw
set_option linter.unusedVariables false
set_option maxRecDepth 100000
namespace Go.Proofs.Ytohalepkikjinaa
open Go.Proofs.Ytohalepkikjinaa.Av

theorem follows_OInt : Try.prog.follows .mixedOrders = true := by kernel_rfl

def ir_laws_toIntS_H : ICode := (.seq (.region [⟨some 2, none, .mov (.c .nils)⟩]) (.seq (.region [⟨some 5, none, .mov (.t 0)⟩, ⟨some 6, none, .len false (.t 5)⟩, ⟨some 7, none, .mkSlice 7 3 8 (.int .i64 0) (.t 6)⟩, ⟨some 3, none, .mov (.t 7)⟩]) (.seq (.seq (.region [⟨some 4, none, .mov (.c (.int .i64 0))⟩]) (.block 0 (.loop (.seq (.seq (.region [⟨some 8, none, .mov (.t 4)⟩, ⟨some 9, none, .mov (.t 0)⟩, ⟨some 10, none, .len false (.t 9)⟩, ⟨some 11, none, .bin .lss .other (.t 8) (.t 10)⟩]) (.cond (.t 11) .skip (.exit 0))) (.seq (.block 1 (.region [⟨some 14, none, .mov (.t 3)⟩, ⟨some 15, none, .mov (.t 4)⟩, ⟨some 16, none, .mov (.t 0)⟩, ⟨some 17, none, .mov (.t 4)⟩, ⟨some 18, none, .iaddr 1 (.t 16) (.t 17)⟩, ⟨some 19, none, .load false 1 (.t 18)⟩, ⟨some 20, none, .iaddr 1 (.t 14) (.t 15)⟩, ⟨none, none, .store 1 (.t 20) (.t 19)⟩])) (.region [⟨some 12, none, .mov (.t 4)⟩, ⟨some 13, none, .bin .add .other (.t 12) (.c (.int .i64 1))⟩, ⟨some 4, none, .mov (.t 13)⟩])))))) (.seq (.region [⟨some 21, none, .mov (.t 3)⟩, ⟨some 2, none, .mov (.t 21)⟩]) .retK))))
def rs_laws_toIntS_H : List IRes := [(.t 2)]
theorem low_laws_toIntS_H : lowF Try.prog [] [9999] 1 Try.f69 = some (ir_laws_toIntS_H, rs_laws_toIntS_H) := by kernel_rfl
theorem funH_laws_toIntS_H {args : List AV} {hp : Hp} {Post : AV → Hp → Prop} (hn : args.length = 1) (h : awp Try.prog ir_laws_toIntS_H (RetH rs_laws_toIntS_H Post) ⟨entry 0 args, hp⟩) : CallsH Try.prog 69 args hp Post :=
  callsH follows_OInt Try.func69 (by kernel_rfl) (by rw [hn]; exact low_laws_toIntS_H) h

def ir_laws_markIntS : ICode := (.seq (.region [⟨some 4, none, .mov (.c (.int .i64 0))⟩]) (.seq (.seq (.region [⟨some 5, none, .mov (.c (.int .i64 0))⟩]) (.block 0 (.loop (.seq (.seq (.region [⟨some 6, none, .mov (.t 5)⟩, ⟨some 7, none, .mov (.t 0)⟩, ⟨some 8, none, .len false (.t 7)⟩, ⟨some 9, none, .bin .lss .other (.t 6) (.t 8)⟩]) (.cond (.t 9) .skip (.exit 0))) (.seq (.block 1 (.seq (.region [⟨some 12, none, .mov (.t 0)⟩, ⟨some 13, none, .mov (.t 5)⟩, ⟨some 14, none, .mov (.t 1)⟩, ⟨some 15, none, .iaddr 1 (.t 12) (.t 13)⟩, ⟨none, none, .store 1 (.t 15) (.t 14)⟩]) (.region [⟨some 16, none, .mov (.t 1)⟩, ⟨some 17, none, .bin .add .other (.t 16) (.c (.int .i64 1))⟩, ⟨some 1, none, .mov (.t 17)⟩]))) (.region [⟨some 10, none, .mov (.t 5)⟩, ⟨some 11, none, .bin .add .other (.t 10) (.c (.int .i64 1))⟩, ⟨some 5, none, .mov (.t 11)⟩])))))) (.seq (.region [⟨some 18, none, .mov (.t 1)⟩, ⟨some 4, none, .mov (.t 18)⟩]) .retK)))
def rs_laws_markIntS : List IRes := [(.t 4)]
theorem low_laws_markIntS : lowF Try.prog [] [9999] 2 Try.f49 = some (ir_laws_markIntS, rs_laws_markIntS) := by kernel_rfl
theorem funH_laws_markIntS {args : List AV} {hp : Hp} {Post : AV → Hp → Prop} (hn : args.length = 2) (h : awp Try.prog ir_laws_markIntS (RetH rs_laws_markIntS Post) ⟨entry 0 args, hp⟩) : CallsH Try.prog 49 args hp Post :=
  callsH follows_OInt Try.func49 (by kernel_rfl) (by rw [hn]; exact low_laws_markIntS) h

def ir_laws_heldIntS : ICode := (.seq (.region [⟨some 4, none, .mov (.c (.int .i64 0))⟩]) (.seq (.seq (.region [⟨some 5, none, .mov (.c (.int .i64 0))⟩]) (.block 0 (.loop (.seq (.seq (.region [⟨some 6, none, .mov (.t 5)⟩, ⟨some 7, none, .mov (.t 0)⟩, ⟨some 8, none, .len false (.t 7)⟩, ⟨some 9, none, .bin .lss .other (.t 6) (.t 8)⟩]) (.cond (.t 9) .skip (.exit 0))) (.seq (.block 1 (.seq (.seq (.region [⟨some 12, none, .mov (.t 0)⟩, ⟨some 13, none, .mov (.t 5)⟩, ⟨some 14, none, .iaddr 1 (.t 12) (.t 13)⟩, ⟨some 15, none, .load false 1 (.t 14)⟩, ⟨some 16, none, .mov (.t 1)⟩, ⟨some 17, none, .bin .neq .other (.t 15) (.t 16)⟩]) (.cond (.t 17) (.seq (.region [⟨some 4, none, .mov (.c (.int .i64 (-1)))⟩]) .ret) .skip)) (.region [⟨some 18, none, .mov (.t 1)⟩, ⟨some 19, none, .bin .add .other (.t 18) (.c (.int .i64 1))⟩, ⟨some 1, none, .mov (.t 19)⟩]))) (.region [⟨some 10, none, .mov (.t 5)⟩, ⟨some 11, none, .bin .add .other (.t 10) (.c (.int .i64 1))⟩, ⟨some 5, none, .mov (.t 11)⟩])))))) (.seq (.region [⟨some 20, none, .mov (.t 1)⟩, ⟨some 4, none, .mov (.t 20)⟩]) .ret)))
def rs_laws_heldIntS : List IRes := [(.t 4)]
theorem low_laws_heldIntS : lowF Try.prog [] [] 2 Try.f50 = some (ir_laws_heldIntS, rs_laws_heldIntS) := by kernel_rfl
theorem fun_laws_heldIntS {args : List AV} {res : AV} (hn : args.length = 2) (h1 : ∀ x ∈ args, AvPure x) (h2 : AvPure res) (h : awp Try.prog ir_laws_heldIntS (Ret rs_laws_heldIntS res) ⟨entry 0 args, []⟩) : CallsF Try.prog 50 args res :=
  callsF follows_OInt Try.func50 (by kernel_rfl) (by rw [hn]; exact low_laws_heldIntS) h1 h2 h

end Go.Proofs.Ytohalepkikjinaa

/-
  THE ABSTRACT TEXTS OF FUNCTIONS (GInt), printed by irgen.py, and that they are the functions' own. Conditions: none.
-/
import Derived.Test.YtohalepkikjinaaProg
import Derived.Test.YtohalepkikjinaaAvDraw
set_option linter.unusedVariables false
set_option maxRecDepth 100000
namespace Go.Proofs.Ytohalepkikjinaa
open Go.Proofs.Ytohalepkikjinaa.Av

theorem follows_GInt : Try.prog.follows .mixedOrders = true := by kernel_rfl

def ir_laws_szIntS : ICode := (.seq (.region [⟨some 4, none, .mov (.c (.int .i64 0))⟩]) (.seq (.region [⟨some 5, none, .mov (.t 1)⟩, ⟨some 6, none, .mov (.t 0)⟩, ⟨some 7, none, .len false (.t 6)⟩, ⟨some 8, none, .bin .sub .other (.t 5) (.t 7)⟩, ⟨some 1, none, .mov (.t 8)⟩]) (.seq (.seq (.region [⟨some 9, none, .mov (.t 1)⟩, ⟨some 10, none, .bin .lss .other (.t 9) (.c (.int .i64 0))⟩]) (.cond (.t 10) (.seq (.region [⟨some 4, none, .mov (.c (.int .i64 (-1)))⟩]) .retK) .skip)) (.seq (.region [⟨some 11, none, .mov (.t 1)⟩, ⟨some 4, none, .mov (.t 11)⟩]) .retK))))
def rs_laws_szIntS : List IRes := [(.t 4)]
theorem low_laws_szIntS : lowF Try.prog [] [9999] 2 Try.f65 = some (ir_laws_szIntS, rs_laws_szIntS) := by kernel_rfl
theorem funH_laws_szIntS {args : List AV} {hp : Hp} {Post : AV → Hp → Prop} (hn : args.length = 2) (h : awp Try.prog ir_laws_szIntS (RetH rs_laws_szIntS Post) ⟨entry 0 args, hp⟩) : CallsH Try.prog 65 args hp Post :=
  callsH follows_GInt Try.func65 (by kernel_rfl) (by rw [hn]; exact low_laws_szIntS) h

def ir_laws_toIntS : ICode := (.seq (.region [⟨some 2, none, .mov (.c .nils)⟩]) (.seq (.region [⟨some 5, none, .mov (.t 0)⟩, ⟨some 6, none, .len false (.t 5)⟩, ⟨some 7, none, .mkSlice 7 3 8 (.int .i64 0) (.t 6)⟩, ⟨some 3, none, .mov (.t 7)⟩]) (.seq (.seq (.region [⟨some 4, none, .mov (.c (.int .i64 0))⟩]) (.block 0 (.loop (.seq (.seq (.region [⟨some 8, none, .mov (.t 4)⟩, ⟨some 9, none, .mov (.t 0)⟩, ⟨some 10, none, .len false (.t 9)⟩, ⟨some 11, none, .bin .lss .other (.t 8) (.t 10)⟩]) (.cond (.t 11) .skip (.exit 0))) (.seq (.block 1 (.region [⟨some 14, none, .mov (.t 3)⟩, ⟨some 15, none, .mov (.t 4)⟩, ⟨some 16, none, .mov (.t 0)⟩, ⟨some 17, none, .mov (.t 4)⟩, ⟨some 18, none, .iaddr 1 (.t 16) (.t 17)⟩, ⟨some 19, none, .load false 1 (.t 18)⟩, ⟨some 20, none, .iaddr 1 (.t 14) (.t 15)⟩, ⟨none, none, .store 1 (.t 20) (.t 19)⟩])) (.region [⟨some 12, none, .mov (.t 4)⟩, ⟨some 13, none, .bin .add .other (.t 12) (.c (.int .i64 1))⟩, ⟨some 4, none, .mov (.t 13)⟩])))))) (.seq (.region [⟨some 21, none, .mov (.t 3)⟩, ⟨some 2, none, .mov (.t 21)⟩]) .ret))))
def rs_laws_toIntS : List IRes := [(.t 2)]
theorem low_laws_toIntS : lowF Try.prog [] [] 1 Try.f69 = some (ir_laws_toIntS, rs_laws_toIntS) := by kernel_rfl
theorem fun_laws_toIntS {args : List AV} {res : AV} (hn : args.length = 1) (h1 : ∀ x ∈ args, AvPure x) (h2 : AvPure res) (h : awp Try.prog ir_laws_toIntS (Ret rs_laws_toIntS res) ⟨entry 0 args, []⟩) : CallsF Try.prog 69 args res :=
  callsF follows_GInt Try.func69 (by kernel_rfl) (by rw [hn]; exact low_laws_toIntS) h1 h2 h

def ir_laws_eqIntS : ICode := (.seq (.region [⟨some 4, none, .mov (.c (.bool false))⟩]) (.seq (.seq (.region [⟨some 6, none, .mov (.t 0)⟩, ⟨some 7, none, .len false (.t 6)⟩, ⟨some 8, none, .mov (.t 1)⟩, ⟨some 9, none, .len false (.t 8)⟩, ⟨some 10, none, .bin .neq .other (.t 7) (.t 9)⟩]) (.cond (.t 10) (.seq (.region [⟨some 4, none, .mov (.c (.bool false))⟩]) .ret) .skip)) (.seq (.seq (.region [⟨some 5, none, .mov (.c (.int .i64 0))⟩]) (.block 0 (.loop (.seq (.seq (.region [⟨some 11, none, .mov (.t 5)⟩, ⟨some 12, none, .mov (.t 0)⟩, ⟨some 13, none, .len false (.t 12)⟩, ⟨some 14, none, .bin .lss .other (.t 11) (.t 13)⟩]) (.cond (.t 14) .skip (.exit 0))) (.seq (.block 1 (.seq (.draw [⟨some 17, none, .mov (.t 0)⟩, ⟨some 18, none, .mov (.t 5)⟩, ⟨some 19, none, .iaddr 1 (.t 17) (.t 18)⟩, ⟨some 20, none, .load false 1 (.t 19)⟩, ⟨some 21, none, .mov (.t 1)⟩, ⟨some 22, none, .mov (.t 5)⟩, ⟨some 23, none, .iaddr 1 (.t 21) (.t 22)⟩, ⟨some 24, none, .load false 1 (.t 23)⟩, ⟨some 25, none, .bin .neq .other (.t 20) (.t 24)⟩]) (.cond (.t 25) (.seq (.region [⟨some 4, none, .mov (.c (.bool false))⟩]) .ret) .skip))) (.region [⟨some 15, none, .mov (.t 5)⟩, ⟨some 16, none, .bin .add .other (.t 15) (.c (.int .i64 1))⟩, ⟨some 5, none, .mov (.t 16)⟩])))))) (.seq (.region [⟨some 4, none, .mov (.c (.bool true))⟩]) .ret))))
def rs_laws_eqIntS : List IRes := [(.t 4)]
theorem low_laws_eqIntS : lowF Try.prog [] [] 2 Try.f63 = some (ir_laws_eqIntS, rs_laws_eqIntS) := by kernel_rfl
theorem fun_laws_eqIntS {args : List AV} {res : AV} (hn : args.length = 2) (h1 : ∀ x ∈ args, AvPure x) (h2 : AvPure res) (h : awp Try.prog ir_laws_eqIntS (Ret rs_laws_eqIntS res) ⟨entry 0 args, []⟩) : CallsF Try.prog 63 args res :=
  callsF follows_GInt Try.func63 (by kernel_rfl) (by rw [hn]; exact low_laws_eqIntS) h1 h2 h

end Go.Proofs.Ytohalepkikjinaa

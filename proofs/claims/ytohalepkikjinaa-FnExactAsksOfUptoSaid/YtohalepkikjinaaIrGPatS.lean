/-
  THE ABSTRACT TEXTS OF FUNCTIONS (GPatS), printed by irgen.py, and that they are the functions' own. Conditions: none.
-/
import Derived.Test.YtohalepkikjinaaProg
import Derived.Test.YtohalepkikjinaaAvDraw
set_option linter.unusedVariables false
set_option maxRecDepth 100000
namespace Go.Proofs.Ytohalepkikjinaa
open Go.Proofs.Ytohalepkikjinaa.Av

theorem follows_GPatS : Try.prog.follows .mixedOrders = true := by kernel_rfl

def ir_laws_szPatS : ICode := (.seq (.region [⟨some 4, none, .mov (.c (.int .i64 0))⟩]) (.seq (.region [⟨some 6, none, .mov (.t 1)⟩, ⟨some 7, none, .mov (.t 0)⟩, ⟨some 8, none, .len false (.t 7)⟩, ⟨some 9, none, .bin .sub .other (.t 6) (.t 8)⟩, ⟨some 1, none, .mov (.t 9)⟩]) (.seq (.seq (.region [⟨some 10, none, .mov (.t 1)⟩, ⟨some 11, none, .bin .lss .other (.t 10) (.c (.int .i64 0))⟩]) (.cond (.t 11) (.seq (.region [⟨some 4, none, .mov (.c (.int .i64 (-1)))⟩]) .retK) .skip)) (.seq (.seq (.region [⟨some 5, none, .mov (.c (.int .i64 0))⟩]) (.block 0 (.loop (.seq (.seq (.region [⟨some 12, none, .mov (.t 5)⟩, ⟨some 13, none, .mov (.t 0)⟩, ⟨some 14, none, .len false (.t 13)⟩, ⟨some 15, none, .bin .lss .other (.t 12) (.t 14)⟩]) (.cond (.t 15) .skip (.exit 0))) (.seq (.block 1 (.seq (.region [⟨some 18, none, .mov (.t 0)⟩, ⟨some 19, none, .mov (.t 5)⟩, ⟨some 20, none, .iaddr 1 (.t 18) (.t 19)⟩, ⟨some 21, none, .load true 1 (.t 20)⟩, ⟨some 22, none, .mov (.t 1)⟩, ⟨some 23, none, .callH 13 [(.t 21), (.t 22)]⟩, ⟨some 1, none, .mov (.t 23)⟩]) (.seq (.region [⟨some 24, none, .mov (.t 1)⟩, ⟨some 25, none, .bin .lss .other (.t 24) (.c (.int .i64 0))⟩]) (.cond (.t 25) (.seq (.region [⟨some 4, none, .mov (.c (.int .i64 (-1)))⟩]) .retK) .skip)))) (.region [⟨some 16, none, .mov (.t 5)⟩, ⟨some 17, none, .bin .add .other (.t 16) (.c (.int .i64 1))⟩, ⟨some 5, none, .mov (.t 17)⟩])))))) (.seq (.region [⟨some 26, none, .mov (.t 1)⟩, ⟨some 4, none, .mov (.t 26)⟩]) .retK)))))
def rs_laws_szPatS : List IRes := [(.t 4)]
theorem low_laws_szPatS : lowF Try.prog [(23, 7777)] [9999] 2 Try.f4 = some (ir_laws_szPatS, rs_laws_szPatS) := by kernel_rfl
theorem funH_laws_szPatS {args : List AV} {hp : Hp} {Post : AV → Hp → Prop} (hn : args.length = 2) (h : awp Try.prog ir_laws_szPatS (RetH rs_laws_szPatS Post) ⟨entry 0 args, hp⟩) : CallsH Try.prog 4 args hp Post :=
  callsH follows_GPatS Try.func4 (by kernel_rfl) (by rw [hn]; exact low_laws_szPatS) h

def ir_laws_toPatS : ICode := (.seq (.region [⟨some 2, none, .mov (.c .nils)⟩]) (.seq (.region [⟨some 5, none, .mov (.t 0)⟩, ⟨some 6, none, .len false (.t 5)⟩, ⟨some 7, none, .mkSlice 7 43 24 (.agg [.nils]) (.t 6)⟩, ⟨some 3, none, .mov (.t 7)⟩]) (.seq (.seq (.region [⟨some 4, none, .mov (.c (.int .i64 0))⟩]) (.block 0 (.loop (.seq (.seq (.region [⟨some 8, none, .mov (.t 4)⟩, ⟨some 9, none, .mov (.t 0)⟩, ⟨some 10, none, .len false (.t 9)⟩, ⟨some 11, none, .bin .lss .other (.t 8) (.t 10)⟩]) (.cond (.t 11) .skip (.exit 0))) (.seq (.block 1 (.region [⟨some 14, none, .mov (.t 3)⟩, ⟨some 15, none, .mov (.t 4)⟩, ⟨some 16, none, .mov (.t 0)⟩, ⟨some 17, none, .mov (.t 4)⟩, ⟨some 18, none, .iaddr 1 (.t 16) (.t 17)⟩, ⟨some 19, none, .load true 1 (.t 18)⟩, ⟨some 20, none, .call 17 [(.t 19)]⟩, ⟨some 21, none, .iaddr 1 (.t 14) (.t 15)⟩, ⟨none, none, .store 1 (.t 21) (.t 20)⟩])) (.region [⟨some 12, none, .mov (.t 4)⟩, ⟨some 13, none, .bin .add .other (.t 12) (.c (.int .i64 1))⟩, ⟨some 4, none, .mov (.t 13)⟩])))))) (.seq (.region [⟨some 22, none, .mov (.t 3)⟩, ⟨some 2, none, .mov (.t 22)⟩]) .ret))))
def rs_laws_toPatS : List IRes := [(.t 2)]
theorem low_laws_toPatS : lowF Try.prog [] [] 1 Try.f6 = some (ir_laws_toPatS, rs_laws_toPatS) := by kernel_rfl
theorem fun_laws_toPatS {args : List AV} {res : AV} (hn : args.length = 1) (h1 : ∀ x ∈ args, AvPure x) (h2 : AvPure res) (h : awp Try.prog ir_laws_toPatS (Ret rs_laws_toPatS res) ⟨entry 0 args, []⟩) : CallsF Try.prog 6 args res :=
  callsF follows_GPatS Try.func6 (by kernel_rfl) (by rw [hn]; exact low_laws_toPatS) h1 h2 h

def ir_laws_eqPatS : ICode := (.seq (.region [⟨some 4, none, .mov (.c (.bool false))⟩]) (.seq (.seq (.region [⟨some 6, none, .mov (.t 0)⟩, ⟨some 7, none, .len false (.t 6)⟩, ⟨some 8, none, .mov (.t 1)⟩, ⟨some 9, none, .len false (.t 8)⟩, ⟨some 10, none, .bin .neq .other (.t 7) (.t 9)⟩]) (.cond (.t 10) (.seq (.region [⟨some 4, none, .mov (.c (.bool false))⟩]) .ret) .skip)) (.seq (.seq (.region [⟨some 5, none, .mov (.c (.int .i64 0))⟩]) (.block 0 (.loop (.seq (.seq (.region [⟨some 11, none, .mov (.t 5)⟩, ⟨some 12, none, .mov (.t 0)⟩, ⟨some 13, none, .len false (.t 12)⟩, ⟨some 14, none, .bin .lss .other (.t 11) (.t 13)⟩]) (.cond (.t 14) .skip (.exit 0))) (.seq (.block 1 (.seq (.draw [⟨some 17, none, .mov (.t 0)⟩, ⟨some 18, none, .mov (.t 5)⟩, ⟨some 19, none, .iaddr 1 (.t 17) (.t 18)⟩, ⟨some 20, none, .load true 1 (.t 19)⟩, ⟨some 21, none, .mov (.t 1)⟩, ⟨some 22, none, .mov (.t 5)⟩, ⟨some 23, none, .iaddr 1 (.t 21) (.t 22)⟩, ⟨some 24, none, .load true 1 (.t 23)⟩, ⟨some 25, none, .call 25 [(.t 20), (.t 24)]⟩, ⟨some 26, none, .un .not (.t 25)⟩]) (.cond (.t 26) (.seq (.region [⟨some 4, none, .mov (.c (.bool false))⟩]) .ret) .skip))) (.region [⟨some 15, none, .mov (.t 5)⟩, ⟨some 16, none, .bin .add .other (.t 15) (.c (.int .i64 1))⟩, ⟨some 5, none, .mov (.t 16)⟩])))))) (.seq (.region [⟨some 4, none, .mov (.c (.bool true))⟩]) .ret))))
def rs_laws_eqPatS : List IRes := [(.t 4)]
theorem low_laws_eqPatS : lowF Try.prog [] [] 2 Try.f9 = some (ir_laws_eqPatS, rs_laws_eqPatS) := by kernel_rfl
theorem fun_laws_eqPatS {args : List AV} {res : AV} (hn : args.length = 2) (h1 : ∀ x ∈ args, AvPure x) (h2 : AvPure res) (h : awp Try.prog ir_laws_eqPatS (Ret rs_laws_eqPatS res) ⟨entry 0 args, []⟩) : CallsF Try.prog 9 args res :=
  callsF follows_GPatS Try.func9 (by kernel_rfl) (by rw [hn]; exact low_laws_eqPatS) h1 h2 h

end Go.Proofs.Ytohalepkikjinaa

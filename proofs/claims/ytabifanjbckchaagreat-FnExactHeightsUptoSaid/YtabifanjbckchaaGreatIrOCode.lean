/-
  THE ABSTRACT TEXTS OF FUNCTIONS (OCode), printed by irgen.py, and that they are the functions' own. Conditions: none.
-/
import Derived.Test.YtabifanjbckchaaGreatProg
import Derived.Test.YtabifanjbckchaaGreatAvDraw
set_option linter.unusedVariables false
set_option maxRecDepth 100000
namespace Go.Proofs.YtabifanjbckchaaGreat
open Go.Proofs.YtabifanjbckchaaGreat.Av

theorem follows_OCode : Tryz.prog.follows .mixedOrders = true := by kernel_rfl

def ir_laws_toInsS_H : ICode := (.seq (.region [⟨some 2, none, .mov (.c .nils)⟩]) (.seq (.region [⟨some 5, none, .mov (.t 0)⟩, ⟨some 6, none, .len false (.t 5)⟩, ⟨some 7, none, .mkSlice 7 74 40 (.agg [(.int .i64 0), (.int .i64 0), (.int .i64 0), (.str (bs []))]) (.t 6)⟩, ⟨some 3, none, .mov (.t 7)⟩]) (.seq (.seq (.region [⟨some 4, none, .mov (.c (.int .i64 0))⟩]) (.block 0 (.loop (.seq (.seq (.region [⟨some 8, none, .mov (.t 4)⟩, ⟨some 9, none, .mov (.t 0)⟩, ⟨some 10, none, .len false (.t 9)⟩, ⟨some 11, none, .bin .lss .other (.t 8) (.t 10)⟩]) (.cond (.t 11) .skip (.exit 0))) (.seq (.block 1 (.region [⟨some 14, none, .mov (.t 3)⟩, ⟨some 15, none, .mov (.t 4)⟩, ⟨some 16, none, .mov (.t 0)⟩, ⟨some 17, none, .mov (.t 4)⟩, ⟨some 18, none, .iaddr 4 (.t 16) (.t 17)⟩, ⟨some 19, none, .load true 4 (.t 18)⟩, ⟨some 20, none, .call 38 [(.t 19)]⟩, ⟨some 21, none, .iaddr 4 (.t 14) (.t 15)⟩, ⟨none, none, .store 4 (.t 21) (.t 20)⟩])) (.region [⟨some 12, none, .mov (.t 4)⟩, ⟨some 13, none, .bin .add .other (.t 12) (.c (.int .i64 1))⟩, ⟨some 4, none, .mov (.t 13)⟩])))))) (.seq (.region [⟨some 22, none, .mov (.t 3)⟩, ⟨some 2, none, .mov (.t 22)⟩]) .retK))))
def rs_laws_toInsS_H : List IRes := [(.t 2)]
theorem low_laws_toInsS_H : lowF Tryz.prog [] [9999] 1 Tryz.f21 = some (ir_laws_toInsS_H, rs_laws_toInsS_H) := by kernel_rfl
theorem funH_laws_toInsS_H {args : List AV} {hp : Hp} {Post : AV → Hp → Prop} (hn : args.length = 1) (h : awp Tryz.prog ir_laws_toInsS_H (RetH rs_laws_toInsS_H Post) ⟨entry 0 args, hp⟩) : CallsH Tryz.prog 21 args hp Post :=
  callsH follows_OCode Tryz.func21 (by kernel_rfl) (by rw [hn]; exact low_laws_toInsS_H) h

def ir_laws_markInsS : ICode := (.seq (.region [⟨some 4, none, .mov (.c (.int .i64 0))⟩]) (.seq (.seq (.region [⟨some 5, none, .mov (.c (.int .i64 0))⟩]) (.block 0 (.loop (.seq (.seq (.region [⟨some 6, none, .mov (.t 5)⟩, ⟨some 7, none, .mov (.t 0)⟩, ⟨some 8, none, .len false (.t 7)⟩, ⟨some 9, none, .bin .lss .other (.t 6) (.t 8)⟩]) (.cond (.t 9) .skip (.exit 0))) (.seq (.block 1 (.seq (.region [⟨some 12, none, .mov (.t 0)⟩, ⟨some 13, none, .mov (.t 5)⟩, ⟨some 14, none, .mov (.t 1)⟩, ⟨some 15, none, .iaddr 4 (.t 12) (.t 13)⟩, ⟨some 16, none, .faddr 0 (.t 15)⟩, ⟨none, none, .store 1 (.t 16) (.t 14)⟩]) (.seq (.region [⟨some 17, none, .mov (.t 1)⟩, ⟨some 18, none, .bin .add .other (.t 17) (.c (.int .i64 1))⟩, ⟨some 1, none, .mov (.t 18)⟩]) (.seq (.region [⟨some 19, none, .mov (.t 0)⟩, ⟨some 20, none, .mov (.t 5)⟩, ⟨some 21, none, .mov (.t 1)⟩, ⟨some 22, none, .iaddr 4 (.t 19) (.t 20)⟩, ⟨some 23, none, .faddr 1 (.t 22)⟩, ⟨none, none, .store 1 (.t 23) (.t 21)⟩]) (.seq (.region [⟨some 24, none, .mov (.t 1)⟩, ⟨some 25, none, .bin .add .other (.t 24) (.c (.int .i64 1))⟩, ⟨some 1, none, .mov (.t 25)⟩]) (.seq (.region [⟨some 26, none, .mov (.t 0)⟩, ⟨some 27, none, .mov (.t 5)⟩, ⟨some 28, none, .mov (.t 1)⟩, ⟨some 29, none, .iaddr 4 (.t 26) (.t 27)⟩, ⟨some 30, none, .faddr 2 (.t 29)⟩, ⟨none, none, .store 1 (.t 30) (.t 28)⟩]) (.seq (.region [⟨some 31, none, .mov (.t 1)⟩, ⟨some 32, none, .bin .add .other (.t 31) (.c (.int .i64 1))⟩, ⟨some 1, none, .mov (.t 32)⟩]) (.seq (.region [⟨some 33, none, .mov (.t 0)⟩, ⟨some 34, none, .mov (.t 5)⟩, ⟨some 35, none, .mov (.t 1)⟩, ⟨some 36, none, .call 48 [(.t 35)]⟩, ⟨some 37, none, .iaddr 4 (.t 33) (.t 34)⟩, ⟨some 38, none, .faddr 3 (.t 37)⟩, ⟨none, none, .store 1 (.t 38) (.t 36)⟩]) (.region [⟨some 39, none, .mov (.t 1)⟩, ⟨some 40, none, .bin .add .other (.t 39) (.c (.int .i64 1))⟩, ⟨some 1, none, .mov (.t 40)⟩]))))))))) (.region [⟨some 10, none, .mov (.t 5)⟩, ⟨some 11, none, .bin .add .other (.t 10) (.c (.int .i64 1))⟩, ⟨some 5, none, .mov (.t 11)⟩])))))) (.seq (.region [⟨some 41, none, .mov (.t 1)⟩, ⟨some 4, none, .mov (.t 41)⟩]) .retK)))
def rs_laws_markInsS : List IRes := [(.t 4)]
theorem low_laws_markInsS : lowF Tryz.prog [] [9999] 2 Tryz.f27 = some (ir_laws_markInsS, rs_laws_markInsS) := by kernel_rfl
theorem funH_laws_markInsS {args : List AV} {hp : Hp} {Post : AV → Hp → Prop} (hn : args.length = 2) (h : awp Tryz.prog ir_laws_markInsS (RetH rs_laws_markInsS Post) ⟨entry 0 args, hp⟩) : CallsH Tryz.prog 27 args hp Post :=
  callsH follows_OCode Tryz.func27 (by kernel_rfl) (by rw [hn]; exact low_laws_markInsS) h

def ir_laws_toCode_H : ICode := (.seq (.region [⟨some 1, none, .boxP (.t 0)⟩, ⟨some 2, none, .boxO 2 33 2 (.c (.agg [.nils, .nils]))⟩]) (.seq (.region [⟨some 3, none, .boxO 3 33 2 (.c (.agg [.nils, .nils]))⟩]) (.seq (.region [⟨some 4, none, .faddr 0 (.t 1)⟩, ⟨some 5, none, .load false 1 (.t 4)⟩, ⟨some 6, none, .callH 21 [(.t 5)]⟩, ⟨some 7, none, .faddr 0 (.t 3)⟩, ⟨none, none, .store 1 (.t 7) (.t 6)⟩]) (.seq (.region [⟨some 8, none, .faddr 1 (.t 1)⟩, ⟨some 9, none, .load false 1 (.t 8)⟩, ⟨some 10, none, .callH 22 [(.t 9)]⟩, ⟨some 11, none, .faddr 1 (.t 3)⟩, ⟨none, none, .store 1 (.t 11) (.t 10)⟩]) (.seq (.region [⟨some 12, none, .load true 2 (.t 3)⟩, ⟨none, none, .store 2 (.t 2) (.t 12)⟩]) .retK)))))
def rs_laws_toCode_H : List IRes := [(.c true 2 2)]
theorem low_laws_toCode_H : lowF Tryz.prog [(10, 7777), (6, 7777)] [9999] 1 Tryz.f7 = some (ir_laws_toCode_H, rs_laws_toCode_H) := by kernel_rfl
theorem funH_laws_toCode_H {args : List AV} {hp : Hp} {Post : AV → Hp → Prop} (hn : args.length = 1) (h : awp Tryz.prog ir_laws_toCode_H (RetH rs_laws_toCode_H Post) ⟨entry 0 args, hp⟩) : CallsH Tryz.prog 7 args hp Post :=
  callsH follows_OCode Tryz.func7 (by kernel_rfl) (by rw [hn]; exact low_laws_toCode_H) h

def ir_laws_markCode : ICode := (.seq (.region [⟨some 2, none, .boxP (.t 0)⟩, ⟨some 4, none, .mov (.c (.int .i64 0))⟩]) (.seq (.region [⟨some 5, none, .faddr 0 (.t 2)⟩, ⟨some 6, none, .load false 1 (.t 5)⟩, ⟨some 7, none, .mov (.t 1)⟩, ⟨some 8, none, .callH 27 [(.t 6), (.t 7)]⟩, ⟨some 1, none, .mov (.t 8)⟩]) (.seq (.region [⟨some 9, none, .faddr 1 (.t 2)⟩, ⟨some 10, none, .load false 1 (.t 9)⟩, ⟨some 11, none, .mov (.t 1)⟩, ⟨some 12, none, .callH 28 [(.t 10), (.t 11)]⟩, ⟨some 1, none, .mov (.t 12)⟩]) (.seq (.region [⟨some 13, none, .mov (.t 1)⟩, ⟨some 4, none, .mov (.t 13)⟩]) .retK))))
def rs_laws_markCode : List IRes := [(.t 4)]
theorem low_laws_markCode : lowF Tryz.prog [(12, 7777), (8, 7777)] [9999] 2 Tryz.f11 = some (ir_laws_markCode, rs_laws_markCode) := by kernel_rfl
theorem funH_laws_markCode {args : List AV} {hp : Hp} {Post : AV → Hp → Prop} (hn : args.length = 2) (h : awp Tryz.prog ir_laws_markCode (RetH rs_laws_markCode Post) ⟨entry 0 args, hp⟩) : CallsH Tryz.prog 11 args hp Post :=
  callsH follows_OCode Tryz.func11 (by kernel_rfl) (by rw [hn]; exact low_laws_markCode) h

end Go.Proofs.YtabifanjbckchaaGreat

/-
  THE ABSTRACT TEXTS OF FUNCTIONS (OPat), printed by irgen.py, and that they are the functions' own. Conditions: none.
-/
import Derived.Test.YtfdkgbejhdmpbaaProg
import Derived.Test.YtfdkgbejhdmpbaaAvDraw
set_option linter.unusedVariables false
set_option maxRecDepth 100000
namespace Go.Proofs.Ytfdkgbejhdmpbaa
open Go.Proofs.Ytfdkgbejhdmpbaa.Av

theorem follows_OPat : Try.prog.follows .mixedOrders = true := by kernel_rfl

def ir_laws_toPNode_H : ICode := (.seq (.region [⟨some 1, none, .boxP (.t 0)⟩, ⟨some 2, none, .boxO 2 83 4 (.c (.agg [(.int .i64 0), (.int .i64 0), (.str (bs [])), .nils]))⟩]) (.seq (.region [⟨some 3, none, .boxO 3 83 4 (.c (.agg [(.int .i64 0), (.int .i64 0), (.str (bs [])), .nils]))⟩]) (.seq (.region [⟨some 4, none, .faddr 0 (.t 1)⟩, ⟨some 5, none, .load false 1 (.t 4)⟩, ⟨some 6, none, .faddr 0 (.t 3)⟩, ⟨none, none, .store 1 (.t 6) (.t 5)⟩]) (.seq (.region [⟨some 7, none, .faddr 1 (.t 1)⟩, ⟨some 8, none, .load false 1 (.t 7)⟩, ⟨some 9, none, .faddr 1 (.t 3)⟩, ⟨none, none, .store 1 (.t 9) (.t 8)⟩]) (.seq (.region [⟨some 10, none, .faddr 2 (.t 1)⟩, ⟨some 11, none, .load false 1 (.t 10)⟩, ⟨some 12, none, .faddr 2 (.t 3)⟩, ⟨none, none, .store 1 (.t 12) (.t 11)⟩]) (.seq (.region [⟨some 13, none, .faddr 3 (.t 1)⟩, ⟨some 14, none, .load false 1 (.t 13)⟩, ⟨some 15, none, .callH 69 [(.t 14)]⟩, ⟨some 16, none, .faddr 3 (.t 3)⟩, ⟨none, none, .store 1 (.t 16) (.t 15)⟩]) (.seq (.region [⟨some 17, none, .load true 4 (.t 3)⟩, ⟨none, none, .store 4 (.t 2) (.t 17)⟩]) .retK)))))))
def rs_laws_toPNode_H : List IRes := [(.c true 4 2)]
theorem low_laws_toPNode_H : lowF Try.prog [(15, 7777)] [9999] 1 Try.f53 = some (ir_laws_toPNode_H, rs_laws_toPNode_H) := by kernel_rfl
theorem funH_laws_toPNode_H {args : List AV} {hp : Hp} {Post : AV → Hp → Prop} (hn : args.length = 1) (h : awp Try.prog ir_laws_toPNode_H (RetH rs_laws_toPNode_H Post) ⟨entry 0 args, hp⟩) : CallsH Try.prog 53 args hp Post :=
  callsH follows_OPat Try.func53 (by kernel_rfl) (by rw [hn]; exact low_laws_toPNode_H) h

def ir_laws_toPNodeS_H : ICode := (.seq (.region [⟨some 2, none, .mov (.c .nils)⟩]) (.seq (.region [⟨some 5, none, .mov (.t 0)⟩, ⟨some 6, none, .len false (.t 5)⟩, ⟨some 7, none, .mkSlice 7 83 56 (.agg [(.int .i64 0), (.int .i64 0), (.str (bs [])), .nils]) (.t 6)⟩, ⟨some 3, none, .mov (.t 7)⟩]) (.seq (.seq (.region [⟨some 4, none, .mov (.c (.int .i64 0))⟩]) (.block 0 (.loop (.seq (.seq (.region [⟨some 8, none, .mov (.t 4)⟩, ⟨some 9, none, .mov (.t 0)⟩, ⟨some 10, none, .len false (.t 9)⟩, ⟨some 11, none, .bin .lss .other (.t 8) (.t 10)⟩]) (.cond (.t 11) .skip (.exit 0))) (.seq (.block 1 (.region [⟨some 14, none, .mov (.t 3)⟩, ⟨some 15, none, .mov (.t 4)⟩, ⟨some 16, none, .mov (.t 0)⟩, ⟨some 17, none, .mov (.t 4)⟩, ⟨some 18, none, .iaddr 4 (.t 16) (.t 17)⟩, ⟨some 19, none, .load true 4 (.t 18)⟩, ⟨some 20, none, .callH 53 [(.t 19)]⟩, ⟨some 21, none, .iaddr 4 (.t 14) (.t 15)⟩, ⟨none, none, .store 4 (.t 21) (.t 20)⟩])) (.region [⟨some 12, none, .mov (.t 4)⟩, ⟨some 13, none, .bin .add .other (.t 12) (.c (.int .i64 1))⟩, ⟨some 4, none, .mov (.t 13)⟩])))))) (.seq (.region [⟨some 22, none, .mov (.t 3)⟩, ⟨some 2, none, .mov (.t 22)⟩]) .retK))))
def rs_laws_toPNodeS_H : List IRes := [(.t 2)]
theorem low_laws_toPNodeS_H : lowF Try.prog [(20, 7777)] [9999] 1 Try.f32 = some (ir_laws_toPNodeS_H, rs_laws_toPNodeS_H) := by kernel_rfl
theorem funH_laws_toPNodeS_H {args : List AV} {hp : Hp} {Post : AV → Hp → Prop} (hn : args.length = 1) (h : awp Try.prog ir_laws_toPNodeS_H (RetH rs_laws_toPNodeS_H Post) ⟨entry 0 args, hp⟩) : CallsH Try.prog 32 args hp Post :=
  callsH follows_OPat Try.func32 (by kernel_rfl) (by rw [hn]; exact low_laws_toPNodeS_H) h

def ir_laws_markPNodeS : ICode := (.seq (.region [⟨some 4, none, .mov (.c (.int .i64 0))⟩]) (.seq (.seq (.region [⟨some 5, none, .mov (.c (.int .i64 0))⟩]) (.block 0 (.loop (.seq (.seq (.region [⟨some 6, none, .mov (.t 5)⟩, ⟨some 7, none, .mov (.t 0)⟩, ⟨some 8, none, .len false (.t 7)⟩, ⟨some 9, none, .bin .lss .other (.t 6) (.t 8)⟩]) (.cond (.t 9) .skip (.exit 0))) (.seq (.block 1 (.seq (.region [⟨some 12, none, .mov (.t 0)⟩, ⟨some 13, none, .mov (.t 5)⟩, ⟨some 14, none, .mov (.t 1)⟩, ⟨some 15, none, .iaddr 4 (.t 12) (.t 13)⟩, ⟨some 16, none, .faddr 0 (.t 15)⟩, ⟨none, none, .store 1 (.t 16) (.t 14)⟩]) (.seq (.region [⟨some 17, none, .mov (.t 1)⟩, ⟨some 18, none, .bin .add .other (.t 17) (.c (.int .i64 1))⟩, ⟨some 1, none, .mov (.t 18)⟩]) (.seq (.region [⟨some 19, none, .mov (.t 0)⟩, ⟨some 20, none, .mov (.t 5)⟩, ⟨some 21, none, .mov (.t 1)⟩, ⟨some 22, none, .iaddr 4 (.t 19) (.t 20)⟩, ⟨some 23, none, .faddr 1 (.t 22)⟩, ⟨none, none, .store 1 (.t 23) (.t 21)⟩]) (.seq (.region [⟨some 24, none, .mov (.t 1)⟩, ⟨some 25, none, .bin .add .other (.t 24) (.c (.int .i64 1))⟩, ⟨some 1, none, .mov (.t 25)⟩]) (.seq (.region [⟨some 26, none, .mov (.t 0)⟩, ⟨some 27, none, .mov (.t 5)⟩, ⟨some 28, none, .mov (.t 1)⟩, ⟨some 29, none, .call 65 [(.t 28)]⟩, ⟨some 30, none, .iaddr 4 (.t 26) (.t 27)⟩, ⟨some 31, none, .faddr 2 (.t 30)⟩, ⟨none, none, .store 1 (.t 31) (.t 29)⟩]) (.seq (.region [⟨some 32, none, .mov (.t 1)⟩, ⟨some 33, none, .bin .add .other (.t 32) (.c (.int .i64 1))⟩, ⟨some 1, none, .mov (.t 33)⟩]) (.region [⟨some 34, none, .mov (.t 0)⟩, ⟨some 35, none, .mov (.t 5)⟩, ⟨some 36, none, .iaddr 4 (.t 34) (.t 35)⟩, ⟨some 37, none, .faddr 3 (.t 36)⟩, ⟨some 38, none, .load false 1 (.t 37)⟩, ⟨some 39, none, .mov (.t 1)⟩, ⟨some 40, none, .callH 66 [(.t 38), (.t 39)]⟩, ⟨some 1, none, .mov (.t 40)⟩])))))))) (.region [⟨some 10, none, .mov (.t 5)⟩, ⟨some 11, none, .bin .add .other (.t 10) (.c (.int .i64 1))⟩, ⟨some 5, none, .mov (.t 11)⟩])))))) (.seq (.region [⟨some 41, none, .mov (.t 1)⟩, ⟨some 4, none, .mov (.t 41)⟩]) .retK)))
def rs_laws_markPNodeS : List IRes := [(.t 4)]
theorem low_laws_markPNodeS : lowF Try.prog [(40, 7777)] [9999] 2 Try.f40 = some (ir_laws_markPNodeS, rs_laws_markPNodeS) := by kernel_rfl
theorem funH_laws_markPNodeS {args : List AV} {hp : Hp} {Post : AV → Hp → Prop} (hn : args.length = 2) (h : awp Try.prog ir_laws_markPNodeS (RetH rs_laws_markPNodeS Post) ⟨entry 0 args, hp⟩) : CallsH Try.prog 40 args hp Post :=
  callsH follows_OPat Try.func40 (by kernel_rfl) (by rw [hn]; exact low_laws_markPNodeS) h

def ir_laws_toPat_H : ICode := (.seq (.region [⟨some 1, none, .boxP (.t 0)⟩, ⟨some 2, none, .boxO 2 47 1 (.c (.agg [.nils]))⟩]) (.seq (.region [⟨some 3, none, .boxO 3 47 1 (.c (.agg [.nils]))⟩]) (.seq (.region [⟨some 4, none, .faddr 0 (.t 1)⟩, ⟨some 5, none, .load false 1 (.t 4)⟩, ⟨some 6, none, .callH 32 [(.t 5)]⟩, ⟨some 7, none, .faddr 0 (.t 3)⟩, ⟨none, none, .store 1 (.t 7) (.t 6)⟩]) (.seq (.region [⟨some 8, none, .load true 1 (.t 3)⟩, ⟨none, none, .store 1 (.t 2) (.t 8)⟩]) .retK))))
def rs_laws_toPat_H : List IRes := [(.c true 1 2)]
theorem low_laws_toPat_H : lowF Try.prog [(6, 7777)] [9999] 1 Try.f15 = some (ir_laws_toPat_H, rs_laws_toPat_H) := by kernel_rfl
theorem funH_laws_toPat_H {args : List AV} {hp : Hp} {Post : AV → Hp → Prop} (hn : args.length = 1) (h : awp Try.prog ir_laws_toPat_H (RetH rs_laws_toPat_H Post) ⟨entry 0 args, hp⟩) : CallsH Try.prog 15 args hp Post :=
  callsH follows_OPat Try.func15 (by kernel_rfl) (by rw [hn]; exact low_laws_toPat_H) h

def ir_laws_toPatS_H : ICode := (.seq (.region [⟨some 2, none, .mov (.c .nils)⟩]) (.seq (.region [⟨some 5, none, .mov (.t 0)⟩, ⟨some 6, none, .len false (.t 5)⟩, ⟨some 7, none, .mkSlice 7 47 24 (.agg [.nils]) (.t 6)⟩, ⟨some 3, none, .mov (.t 7)⟩]) (.seq (.seq (.region [⟨some 4, none, .mov (.c (.int .i64 0))⟩]) (.block 0 (.loop (.seq (.seq (.region [⟨some 8, none, .mov (.t 4)⟩, ⟨some 9, none, .mov (.t 0)⟩, ⟨some 10, none, .len false (.t 9)⟩, ⟨some 11, none, .bin .lss .other (.t 8) (.t 10)⟩]) (.cond (.t 11) .skip (.exit 0))) (.seq (.block 1 (.region [⟨some 14, none, .mov (.t 3)⟩, ⟨some 15, none, .mov (.t 4)⟩, ⟨some 16, none, .mov (.t 0)⟩, ⟨some 17, none, .mov (.t 4)⟩, ⟨some 18, none, .iaddr 1 (.t 16) (.t 17)⟩, ⟨some 19, none, .load true 1 (.t 18)⟩, ⟨some 20, none, .callH 15 [(.t 19)]⟩, ⟨some 21, none, .iaddr 1 (.t 14) (.t 15)⟩, ⟨none, none, .store 1 (.t 21) (.t 20)⟩])) (.region [⟨some 12, none, .mov (.t 4)⟩, ⟨some 13, none, .bin .add .other (.t 12) (.c (.int .i64 1))⟩, ⟨some 4, none, .mov (.t 13)⟩])))))) (.seq (.region [⟨some 22, none, .mov (.t 3)⟩, ⟨some 2, none, .mov (.t 22)⟩]) .retK))))
def rs_laws_toPatS_H : List IRes := [(.t 2)]
theorem low_laws_toPatS_H : lowF Try.prog [(20, 7777)] [9999] 1 Try.f8 = some (ir_laws_toPatS_H, rs_laws_toPatS_H) := by kernel_rfl
theorem funH_laws_toPatS_H {args : List AV} {hp : Hp} {Post : AV → Hp → Prop} (hn : args.length = 1) (h : awp Try.prog ir_laws_toPatS_H (RetH rs_laws_toPatS_H Post) ⟨entry 0 args, hp⟩) : CallsH Try.prog 8 args hp Post :=
  callsH follows_OPat Try.func8 (by kernel_rfl) (by rw [hn]; exact low_laws_toPatS_H) h

def ir_laws_markPat : ICode := (.seq (.region [⟨some 2, none, .boxP (.t 0)⟩, ⟨some 4, none, .mov (.c (.int .i64 0))⟩]) (.seq (.region [⟨some 5, none, .faddr 0 (.t 2)⟩, ⟨some 6, none, .load false 1 (.t 5)⟩, ⟨some 7, none, .mov (.t 1)⟩, ⟨some 8, none, .callH 40 [(.t 6), (.t 7)]⟩, ⟨some 1, none, .mov (.t 8)⟩]) (.seq (.region [⟨some 9, none, .mov (.t 1)⟩, ⟨some 4, none, .mov (.t 9)⟩]) .retK)))
def rs_laws_markPat : List IRes := [(.t 4)]
theorem low_laws_markPat : lowF Try.prog [(8, 7777)] [9999] 2 Try.f19 = some (ir_laws_markPat, rs_laws_markPat) := by kernel_rfl
theorem funH_laws_markPat {args : List AV} {hp : Hp} {Post : AV → Hp → Prop} (hn : args.length = 2) (h : awp Try.prog ir_laws_markPat (RetH rs_laws_markPat Post) ⟨entry 0 args, hp⟩) : CallsH Try.prog 19 args hp Post :=
  callsH follows_OPat Try.func19 (by kernel_rfl) (by rw [hn]; exact low_laws_markPat) h

end Go.Proofs.Ytfdkgbejhdmpbaa

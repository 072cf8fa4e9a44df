/-
  THE ABSTRACT TEXTS OF FUNCTIONS (GTy), printed by irgen.py, and that they are the functions' own. Conditions: none.
-/
import Derived.Test.YtbcifdnfhoikiaaGreatProg
import Derived.Test.YtbcifdnfhoikiaaGreatAvDraw
set_option linter.unusedVariables false
set_option maxRecDepth 100000
namespace Go.Proofs.YtbcifdnfhoikiaaGreat
open Go.Proofs.YtbcifdnfhoikiaaGreat.Av

theorem follows_GTy : Tryz.prog.follows .mixedOrders = true := by kernel_rfl

def ir_laws_szTyItem : ICode := (.seq (.region [⟨some 2, none, .boxP (.t 0)⟩, ⟨some 4, none, .mov (.c (.int .i64 0))⟩]) (.seq (.region [⟨some 5, none, .mov (.t 1)⟩, ⟨some 6, none, .faddr 1 (.t 2)⟩, ⟨some 7, none, .load false 1 (.t 6)⟩, ⟨some 8, none, .len true (.t 7)⟩, ⟨some 9, none, .bin .sub .other (.t 5) (.t 8)⟩, ⟨some 1, none, .mov (.t 9)⟩]) (.seq (.seq (.region [⟨some 10, none, .mov (.t 1)⟩, ⟨some 11, none, .bin .lss .other (.t 10) (.c (.int .i64 0))⟩]) (.cond (.t 11) (.seq (.region [⟨some 4, none, .mov (.c (.int .i64 (-1)))⟩]) .retK) .skip)) (.seq (.region [⟨some 12, none, .mov (.t 1)⟩, ⟨some 4, none, .mov (.t 12)⟩]) .retK))))
def rs_laws_szTyItem : List IRes := [(.t 4)]
theorem low_laws_szTyItem : lowF Tryz.prog [] [9999] 2 Tryz.f213 = some (ir_laws_szTyItem, rs_laws_szTyItem) := by kernel_rfl
theorem funH_laws_szTyItem {args : List AV} {hp : Hp} {Post : AV → Hp → Prop} (hn : args.length = 2) (h : awp Tryz.prog ir_laws_szTyItem (RetH rs_laws_szTyItem Post) ⟨entry 0 args, hp⟩) : CallsH Tryz.prog 213 args hp Post :=
  callsH follows_GTy Tryz.func213 (by kernel_rfl) (by rw [hn]; exact low_laws_szTyItem) h

def ir_laws_toTyItem : ICode := (.seq (.region [⟨some 1, none, .boxP (.t 0)⟩, ⟨some 2, none, .boxO 2 120 3 (.c (.agg [(.int .i64 0), (.str (bs [])), (.int .i64 0)]))⟩]) (.seq (.region [⟨some 3, none, .boxO 3 120 3 (.c (.agg [(.int .i64 0), (.str (bs [])), (.int .i64 0)]))⟩]) (.seq (.region [⟨some 4, none, .faddr 0 (.t 1)⟩, ⟨some 5, none, .load false 1 (.t 4)⟩, ⟨some 6, none, .faddr 0 (.t 3)⟩, ⟨none, none, .store 1 (.t 6) (.t 5)⟩]) (.seq (.region [⟨some 7, none, .faddr 1 (.t 1)⟩, ⟨some 8, none, .load false 1 (.t 7)⟩, ⟨some 9, none, .faddr 1 (.t 3)⟩, ⟨none, none, .store 1 (.t 9) (.t 8)⟩]) (.seq (.region [⟨some 10, none, .faddr 2 (.t 1)⟩, ⟨some 11, none, .load false 1 (.t 10)⟩, ⟨some 12, none, .faddr 2 (.t 3)⟩, ⟨none, none, .store 1 (.t 12) (.t 11)⟩]) (.seq (.region [⟨some 13, none, .load true 3 (.t 3)⟩, ⟨none, none, .store 3 (.t 2) (.t 13)⟩]) .ret))))))
def rs_laws_toTyItem : List IRes := [(.c true 3 2)]
theorem low_laws_toTyItem : lowF Tryz.prog [] [] 1 Tryz.f214 = some (ir_laws_toTyItem, rs_laws_toTyItem) := by kernel_rfl
theorem fun_laws_toTyItem {args : List AV} {res : AV} (hn : args.length = 1) (h1 : ∀ x ∈ args, AvPure x) (h2 : AvPure res) (h : awp Tryz.prog ir_laws_toTyItem (Ret rs_laws_toTyItem res) ⟨entry 0 args, []⟩) : CallsF Tryz.prog 214 args res :=
  callsF follows_GTy Tryz.func214 (by kernel_rfl) (by rw [hn]; exact low_laws_toTyItem) h1 h2 h

def ir_laws_eqTyItem : ICode := (.seq (.region [⟨some 2, none, .boxP (.t 0)⟩, ⟨some 3, none, .boxP (.t 1)⟩, ⟨some 4, none, .mov (.c (.bool false))⟩]) (.seq (.seq (.region [⟨some 5, none, .faddr 0 (.t 2)⟩, ⟨some 6, none, .load false 1 (.t 5)⟩, ⟨some 7, none, .faddr 0 (.t 3)⟩, ⟨some 8, none, .load false 1 (.t 7)⟩, ⟨some 9, none, .bin .neq .other (.t 6) (.t 8)⟩]) (.cond (.t 9) (.seq (.region [⟨some 4, none, .mov (.c (.bool false))⟩]) .ret) .skip)) (.seq (.seq (.region [⟨some 10, none, .faddr 1 (.t 2)⟩, ⟨some 11, none, .load false 1 (.t 10)⟩, ⟨some 12, none, .faddr 1 (.t 3)⟩, ⟨some 13, none, .load false 1 (.t 12)⟩, ⟨some 14, none, .bin .neq .other (.t 11) (.t 13)⟩]) (.cond (.t 14) (.seq (.region [⟨some 4, none, .mov (.c (.bool false))⟩]) .ret) .skip)) (.seq (.seq (.region [⟨some 15, none, .faddr 2 (.t 2)⟩, ⟨some 16, none, .load false 1 (.t 15)⟩, ⟨some 17, none, .faddr 2 (.t 3)⟩, ⟨some 18, none, .load false 1 (.t 17)⟩, ⟨some 19, none, .bin .neq .other (.t 16) (.t 18)⟩]) (.cond (.t 19) (.seq (.region [⟨some 4, none, .mov (.c (.bool false))⟩]) .ret) .skip)) (.seq (.region [⟨some 4, none, .mov (.c (.bool true))⟩]) .ret)))))
def rs_laws_eqTyItem : List IRes := [(.t 4)]
theorem low_laws_eqTyItem : lowF Tryz.prog [] [] 2 Tryz.f215 = some (ir_laws_eqTyItem, rs_laws_eqTyItem) := by kernel_rfl
theorem fun_laws_eqTyItem {args : List AV} {res : AV} (hn : args.length = 2) (h1 : ∀ x ∈ args, AvPure x) (h2 : AvPure res) (h : awp Tryz.prog ir_laws_eqTyItem (Ret rs_laws_eqTyItem res) ⟨entry 0 args, []⟩) : CallsF Tryz.prog 215 args res :=
  callsF follows_GTy Tryz.func215 (by kernel_rfl) (by rw [hn]; exact low_laws_eqTyItem) h1 h2 h

def ir_laws_szTyItemS : ICode := (.seq (.region [⟨some 4, none, .mov (.c (.int .i64 0))⟩]) (.seq (.region [⟨some 6, none, .mov (.t 1)⟩, ⟨some 7, none, .mov (.t 0)⟩, ⟨some 8, none, .len false (.t 7)⟩, ⟨some 9, none, .bin .sub .other (.t 6) (.t 8)⟩, ⟨some 1, none, .mov (.t 9)⟩]) (.seq (.seq (.region [⟨some 10, none, .mov (.t 1)⟩, ⟨some 11, none, .bin .lss .other (.t 10) (.c (.int .i64 0))⟩]) (.cond (.t 11) (.seq (.region [⟨some 4, none, .mov (.c (.int .i64 (-1)))⟩]) .retK) .skip)) (.seq (.seq (.region [⟨some 5, none, .mov (.c (.int .i64 0))⟩]) (.block 0 (.loop (.seq (.seq (.region [⟨some 12, none, .mov (.t 5)⟩, ⟨some 13, none, .mov (.t 0)⟩, ⟨some 14, none, .len false (.t 13)⟩, ⟨some 15, none, .bin .lss .other (.t 12) (.t 14)⟩]) (.cond (.t 15) .skip (.exit 0))) (.seq (.block 1 (.seq (.region [⟨some 18, none, .mov (.t 0)⟩, ⟨some 19, none, .mov (.t 5)⟩, ⟨some 20, none, .iaddr 3 (.t 18) (.t 19)⟩, ⟨some 21, none, .load true 3 (.t 20)⟩, ⟨some 22, none, .mov (.t 1)⟩, ⟨some 23, none, .callH 213 [(.t 21), (.t 22)]⟩, ⟨some 1, none, .mov (.t 23)⟩]) (.seq (.region [⟨some 24, none, .mov (.t 1)⟩, ⟨some 25, none, .bin .lss .other (.t 24) (.c (.int .i64 0))⟩]) (.cond (.t 25) (.seq (.region [⟨some 4, none, .mov (.c (.int .i64 (-1)))⟩]) .retK) .skip)))) (.region [⟨some 16, none, .mov (.t 5)⟩, ⟨some 17, none, .bin .add .other (.t 16) (.c (.int .i64 1))⟩, ⟨some 5, none, .mov (.t 17)⟩])))))) (.seq (.region [⟨some 26, none, .mov (.t 1)⟩, ⟨some 4, none, .mov (.t 26)⟩]) .retK)))))
def rs_laws_szTyItemS : List IRes := [(.t 4)]
theorem low_laws_szTyItemS : lowF Tryz.prog [(23, 7777)] [9999] 2 Tryz.f206 = some (ir_laws_szTyItemS, rs_laws_szTyItemS) := by kernel_rfl
theorem funH_laws_szTyItemS {args : List AV} {hp : Hp} {Post : AV → Hp → Prop} (hn : args.length = 2) (h : awp Tryz.prog ir_laws_szTyItemS (RetH rs_laws_szTyItemS Post) ⟨entry 0 args, hp⟩) : CallsH Tryz.prog 206 args hp Post :=
  callsH follows_GTy Tryz.func206 (by kernel_rfl) (by rw [hn]; exact low_laws_szTyItemS) h

def ir_laws_toTyItemS : ICode := (.seq (.region [⟨some 2, none, .mov (.c .nils)⟩]) (.seq (.region [⟨some 5, none, .mov (.t 0)⟩, ⟨some 6, none, .len false (.t 5)⟩, ⟨some 7, none, .mkSlice 7 120 32 (.agg [(.int .i64 0), (.str (bs [])), (.int .i64 0)]) (.t 6)⟩, ⟨some 3, none, .mov (.t 7)⟩]) (.seq (.seq (.region [⟨some 4, none, .mov (.c (.int .i64 0))⟩]) (.block 0 (.loop (.seq (.seq (.region [⟨some 8, none, .mov (.t 4)⟩, ⟨some 9, none, .mov (.t 0)⟩, ⟨some 10, none, .len false (.t 9)⟩, ⟨some 11, none, .bin .lss .other (.t 8) (.t 10)⟩]) (.cond (.t 11) .skip (.exit 0))) (.seq (.block 1 (.region [⟨some 14, none, .mov (.t 3)⟩, ⟨some 15, none, .mov (.t 4)⟩, ⟨some 16, none, .mov (.t 0)⟩, ⟨some 17, none, .mov (.t 4)⟩, ⟨some 18, none, .iaddr 3 (.t 16) (.t 17)⟩, ⟨some 19, none, .load true 3 (.t 18)⟩, ⟨some 20, none, .call 214 [(.t 19)]⟩, ⟨some 21, none, .iaddr 3 (.t 14) (.t 15)⟩, ⟨none, none, .store 3 (.t 21) (.t 20)⟩])) (.region [⟨some 12, none, .mov (.t 4)⟩, ⟨some 13, none, .bin .add .other (.t 12) (.c (.int .i64 1))⟩, ⟨some 4, none, .mov (.t 13)⟩])))))) (.seq (.region [⟨some 22, none, .mov (.t 3)⟩, ⟨some 2, none, .mov (.t 22)⟩]) .ret))))
def rs_laws_toTyItemS : List IRes := [(.t 2)]
theorem low_laws_toTyItemS : lowF Tryz.prog [] [] 1 Tryz.f208 = some (ir_laws_toTyItemS, rs_laws_toTyItemS) := by kernel_rfl
theorem fun_laws_toTyItemS {args : List AV} {res : AV} (hn : args.length = 1) (h1 : ∀ x ∈ args, AvPure x) (h2 : AvPure res) (h : awp Tryz.prog ir_laws_toTyItemS (Ret rs_laws_toTyItemS res) ⟨entry 0 args, []⟩) : CallsF Tryz.prog 208 args res :=
  callsF follows_GTy Tryz.func208 (by kernel_rfl) (by rw [hn]; exact low_laws_toTyItemS) h1 h2 h

def ir_laws_eqTyItemS : ICode := (.seq (.region [⟨some 4, none, .mov (.c (.bool false))⟩]) (.seq (.seq (.region [⟨some 6, none, .mov (.t 0)⟩, ⟨some 7, none, .len false (.t 6)⟩, ⟨some 8, none, .mov (.t 1)⟩, ⟨some 9, none, .len false (.t 8)⟩, ⟨some 10, none, .bin .neq .other (.t 7) (.t 9)⟩]) (.cond (.t 10) (.seq (.region [⟨some 4, none, .mov (.c (.bool false))⟩]) .ret) .skip)) (.seq (.seq (.region [⟨some 5, none, .mov (.c (.int .i64 0))⟩]) (.block 0 (.loop (.seq (.seq (.region [⟨some 11, none, .mov (.t 5)⟩, ⟨some 12, none, .mov (.t 0)⟩, ⟨some 13, none, .len false (.t 12)⟩, ⟨some 14, none, .bin .lss .other (.t 11) (.t 13)⟩]) (.cond (.t 14) .skip (.exit 0))) (.seq (.block 1 (.seq (.draw [⟨some 17, none, .mov (.t 0)⟩, ⟨some 18, none, .mov (.t 5)⟩, ⟨some 19, none, .iaddr 3 (.t 17) (.t 18)⟩, ⟨some 20, none, .load true 3 (.t 19)⟩, ⟨some 21, none, .mov (.t 1)⟩, ⟨some 22, none, .mov (.t 5)⟩, ⟨some 23, none, .iaddr 3 (.t 21) (.t 22)⟩, ⟨some 24, none, .load true 3 (.t 23)⟩, ⟨some 25, none, .call 215 [(.t 20), (.t 24)]⟩, ⟨some 26, none, .un .not (.t 25)⟩]) (.cond (.t 26) (.seq (.region [⟨some 4, none, .mov (.c (.bool false))⟩]) .ret) .skip))) (.region [⟨some 15, none, .mov (.t 5)⟩, ⟨some 16, none, .bin .add .other (.t 15) (.c (.int .i64 1))⟩, ⟨some 5, none, .mov (.t 16)⟩])))))) (.seq (.region [⟨some 4, none, .mov (.c (.bool true))⟩]) .ret))))
def rs_laws_eqTyItemS : List IRes := [(.t 4)]
theorem low_laws_eqTyItemS : lowF Tryz.prog [] [] 2 Tryz.f211 = some (ir_laws_eqTyItemS, rs_laws_eqTyItemS) := by kernel_rfl
theorem fun_laws_eqTyItemS {args : List AV} {res : AV} (hn : args.length = 2) (h1 : ∀ x ∈ args, AvPure x) (h2 : AvPure res) (h : awp Tryz.prog ir_laws_eqTyItemS (Ret rs_laws_eqTyItemS res) ⟨entry 0 args, []⟩) : CallsF Tryz.prog 211 args res :=
  callsF follows_GTy Tryz.func211 (by kernel_rfl) (by rw [hn]; exact low_laws_eqTyItemS) h1 h2 h

def ir_laws_szTy : ICode := (.seq (.region [⟨some 2, none, .boxP (.t 0)⟩, ⟨some 4, none, .mov (.c (.int .i64 0))⟩]) (.seq (.region [⟨some 5, none, .faddr 0 (.t 2)⟩, ⟨some 6, none, .load false 1 (.t 5)⟩, ⟨some 7, none, .mov (.t 1)⟩, ⟨some 8, none, .callH 206 [(.t 6), (.t 7)]⟩, ⟨some 1, none, .mov (.t 8)⟩]) (.seq (.seq (.region [⟨some 9, none, .mov (.t 1)⟩, ⟨some 10, none, .bin .lss .other (.t 9) (.c (.int .i64 0))⟩]) (.cond (.t 10) (.seq (.region [⟨some 4, none, .mov (.c (.int .i64 (-1)))⟩]) .retK) .skip)) (.seq (.region [⟨some 11, none, .mov (.t 1)⟩, ⟨some 4, none, .mov (.t 11)⟩]) .retK))))
def rs_laws_szTy : List IRes := [(.t 4)]
theorem low_laws_szTy : lowF Tryz.prog [(8, 7777)] [9999] 2 Tryz.f193 = some (ir_laws_szTy, rs_laws_szTy) := by kernel_rfl
theorem funH_laws_szTy {args : List AV} {hp : Hp} {Post : AV → Hp → Prop} (hn : args.length = 2) (h : awp Tryz.prog ir_laws_szTy (RetH rs_laws_szTy Post) ⟨entry 0 args, hp⟩) : CallsH Tryz.prog 193 args hp Post :=
  callsH follows_GTy Tryz.func193 (by kernel_rfl) (by rw [hn]; exact low_laws_szTy) h

def ir_laws_toTy : ICode := (.seq (.region [⟨some 1, none, .boxP (.t 0)⟩, ⟨some 2, none, .boxO 2 81 1 (.c (.agg [.nils]))⟩]) (.seq (.region [⟨some 3, none, .boxO 3 81 1 (.c (.agg [.nils]))⟩]) (.seq (.region [⟨some 4, none, .faddr 0 (.t 1)⟩, ⟨some 5, none, .load false 1 (.t 4)⟩, ⟨some 6, none, .call 208 [(.t 5)]⟩, ⟨some 7, none, .faddr 0 (.t 3)⟩, ⟨none, none, .store 1 (.t 7) (.t 6)⟩]) (.seq (.region [⟨some 8, none, .load true 1 (.t 3)⟩, ⟨none, none, .store 1 (.t 2) (.t 8)⟩]) .ret))))
def rs_laws_toTy : List IRes := [(.c true 1 2)]
theorem low_laws_toTy : lowF Tryz.prog [] [] 1 Tryz.f195 = some (ir_laws_toTy, rs_laws_toTy) := by kernel_rfl
theorem fun_laws_toTy {args : List AV} {res : AV} (hn : args.length = 1) (h1 : ∀ x ∈ args, AvPure x) (h2 : AvPure res) (h : awp Tryz.prog ir_laws_toTy (Ret rs_laws_toTy res) ⟨entry 0 args, []⟩) : CallsF Tryz.prog 195 args res :=
  callsF follows_GTy Tryz.func195 (by kernel_rfl) (by rw [hn]; exact low_laws_toTy) h1 h2 h

def ir_laws_eqTy : ICode := (.seq (.region [⟨some 2, none, .boxP (.t 0)⟩, ⟨some 3, none, .boxP (.t 1)⟩, ⟨some 4, none, .mov (.c (.bool false))⟩]) (.seq (.seq (.region [⟨some 5, none, .faddr 0 (.t 2)⟩, ⟨some 6, none, .load false 1 (.t 5)⟩, ⟨some 7, none, .faddr 0 (.t 3)⟩, ⟨some 8, none, .load false 1 (.t 7)⟩, ⟨some 9, none, .call 211 [(.t 6), (.t 8)]⟩, ⟨some 10, none, .un .not (.t 9)⟩]) (.cond (.t 10) (.seq (.region [⟨some 4, none, .mov (.c (.bool false))⟩]) .ret) .skip)) (.seq (.region [⟨some 4, none, .mov (.c (.bool true))⟩]) .ret)))
def rs_laws_eqTy : List IRes := [(.t 4)]
theorem low_laws_eqTy : lowF Tryz.prog [] [] 2 Tryz.f201 = some (ir_laws_eqTy, rs_laws_eqTy) := by kernel_rfl
theorem fun_laws_eqTy {args : List AV} {res : AV} (hn : args.length = 2) (h1 : ∀ x ∈ args, AvPure x) (h2 : AvPure res) (h : awp Tryz.prog ir_laws_eqTy (Ret rs_laws_eqTy res) ⟨entry 0 args, []⟩) : CallsF Tryz.prog 201 args res :=
  callsF follows_GTy Tryz.func201 (by kernel_rfl) (by rw [hn]; exact low_laws_eqTy) h1 h2 h

end Go.Proofs.YtbcifdnfhoikiaaGreat

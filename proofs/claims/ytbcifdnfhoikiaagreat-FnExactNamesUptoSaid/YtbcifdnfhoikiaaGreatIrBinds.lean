/-
  THE ABSTRACT TEXTS OF FUNCTIONS (Binds), printed by irgen.py, and that they are the functions' own. Conditions: none.
-/
import Derived.Test.YtbcifdnfhoikiaaGreatProg
import Derived.Test.YtbcifdnfhoikiaaGreatAvDraw
set_option linter.unusedVariables false
set_option maxRecDepth 100000
namespace Go.Proofs.YtbcifdnfhoikiaaGreat
open Go.Proofs.YtbcifdnfhoikiaaGreat.Av

theorem follows_Binds : Tryz.prog.follows .mixedOrders = true := by kernel_rfl

def ir_impl_bindsName : ICode := (.seq (.region [⟨some 1, none, .boxP (.t 0)⟩, ⟨some 2, none, .mov (.c (.bool false))⟩]) (.seq (.region [⟨some 3, none, .slP 4 (.int .i64 0) [(0, (.c (.int .i64 5))), (1, (.c (.int .i64 7))), (2, (.c (.int .i64 8))), (3, (.c (.int .i64 15)))]⟩, ⟨some 4, none, .faddr 0 (.t 1)⟩, ⟨some 5, none, .load false 1 (.t 4)⟩, ⟨some 6, none, .call 57 [(.t 3), (.t 5)]⟩, ⟨some 2, none, .mov (.t 6)⟩]) .ret))
def rs_impl_bindsName : List IRes := [(.t 2)]
theorem low_impl_bindsName : lowF Tryz.prog [] [] 1 Tryz.f27 = some (ir_impl_bindsName, rs_impl_bindsName) := by kernel_rfl
theorem fun_impl_bindsName {args : List AV} {res : AV} (hn : args.length = 1) (h1 : ∀ x ∈ args, AvPure x) (h2 : AvPure res) (h : awp Tryz.prog ir_impl_bindsName (Ret rs_impl_bindsName res) ⟨entry 0 args, []⟩) : CallsF Tryz.prog 27 args res :=
  callsF follows_Binds Tryz.func27 (by kernel_rfl) (by rw [hn]; exact low_impl_bindsName) h1 h2 h

def ir_impl_patNames : ICode := (.seq (.region [⟨some 1, none, .boxP (.t 0)⟩, ⟨some 2, none, .mov (.c .nils)⟩]) (.seq (.region [⟨some 6, none, .slO 6 9 0 (.str (bs [])) []⟩, ⟨some 3, none, .mov (.t 6)⟩]) (.seq (.seq (.region [⟨some 7, none, .faddr 0 (.t 1)⟩, ⟨some 8, none, .load false 1 (.t 7)⟩, ⟨some 9, none, .len false (.t 8)⟩, ⟨some 10, none, .mov (.c (.int .i64 0))⟩]) (.block 0 (.loop (.seq (.region [⟨some 11, none, .bin .lss .other (.t 10) (.t 9)⟩]) (.seq (.cond (.t 11) .skip (.exit 0)) (.seq (.block 1 (.seq (.region [⟨some 12, none, .iaddr 4 (.t 8) (.t 10)⟩, ⟨some 13, none, .load true 4 (.t 12)⟩, ⟨some 5, none, .boxO 5 53 4 (.c (.agg [(.int .i64 0), (.int .i64 0), (.str (bs [])), .nils]))⟩, ⟨none, none, .store 4 (.t 5) (.t 13)⟩]) (.seq (.region [⟨some 14, none, .faddr 0 (.t 5)⟩, ⟨some 15, none, .load false 1 (.t 14)⟩, ⟨some 16, none, .bin .eql .other (.t 15) (.c (.int .i64 2))⟩]) (.cond (.t 16) (.region [⟨some 17, none, .mov (.t 3)⟩, ⟨some 18, none, .faddr 2 (.t 5)⟩, ⟨some 19, none, .load false 1 (.t 18)⟩, ⟨some 20, none, .slP 1 (.str (bs [])) [(0, (.t 19))]⟩, ⟨some 21, none, .append 21 9 1 16 (.t 17) (.t 20)⟩, ⟨some 3, none, .mov (.t 21)⟩]) .skip)))) (.region [⟨some 22, none, .bin .add .other (.t 10) (.c (.int .i64 1))⟩, ⟨some 10, none, .mov (.t 22)⟩]))))))) (.seq (.region [⟨some 23, none, .mov (.t 3)⟩, ⟨some 2, none, .mov (.t 23)⟩]) .ret))))
def rs_impl_patNames : List IRes := [(.t 2)]
theorem low_impl_patNames : lowF Tryz.prog [] [] 1 Tryz.f28 = some (ir_impl_patNames, rs_impl_patNames) := by kernel_rfl
theorem fun_impl_patNames {args : List AV} {res : AV} (hn : args.length = 1) (h1 : ∀ x ∈ args, AvPure x) (h2 : AvPure res) (h : awp Tryz.prog ir_impl_patNames (Ret rs_impl_patNames res) ⟨entry 0 args, []⟩) : CallsF Tryz.prog 28 args res :=
  callsF follows_Binds Tryz.func28 (by kernel_rfl) (by rw [hn]; exact low_impl_patNames) h1 h2 h

def ir_spec_l15Binds : ICode := (.seq (.region [⟨some 2, none, .mov (.c (.bool false))⟩]) (.seq (.region [⟨some 3, none, .mov (.t 0)⟩, ⟨some 4, none, .bin .eql .other (.t 3) (.c (.int .i64 5))⟩, ⟨some 5, none, .mov (.t 4)⟩, ⟨some 6, some (5, false), .mov (.t 0)⟩, ⟨some 7, some (5, false), .bin .eql .other (.t 6) (.c (.int .i64 7))⟩, ⟨some 8, none, .pick (.t 5) (.c (.bool true)) (.t 7)⟩, ⟨some 9, none, .mov (.t 8)⟩, ⟨some 10, some (9, false), .mov (.t 0)⟩, ⟨some 11, some (9, false), .bin .eql .other (.t 10) (.c (.int .i64 8))⟩, ⟨some 12, none, .pick (.t 9) (.c (.bool true)) (.t 11)⟩, ⟨some 13, none, .mov (.t 12)⟩, ⟨some 14, some (13, false), .mov (.t 0)⟩, ⟨some 15, some (13, false), .bin .eql .other (.t 14) (.c (.int .i64 15))⟩, ⟨some 16, none, .pick (.t 13) (.c (.bool true)) (.t 15)⟩, ⟨some 2, none, .mov (.t 16)⟩]) .ret))
def rs_spec_l15Binds : List IRes := [(.t 2)]
theorem low_spec_l15Binds : lowF Tryz.prog [] [] 1 Tryz.f22 = some (ir_spec_l15Binds, rs_spec_l15Binds) := by kernel_rfl
theorem fun_spec_l15Binds {args : List AV} {res : AV} (hn : args.length = 1) (h1 : ∀ x ∈ args, AvPure x) (h2 : AvPure res) (h : awp Tryz.prog ir_spec_l15Binds (Ret rs_spec_l15Binds res) ⟨entry 0 args, []⟩) : CallsF Tryz.prog 22 args res :=
  callsF follows_Binds Tryz.func22 (by kernel_rfl) (by rw [hn]; exact low_spec_l15Binds) h1 h2 h

def ir_slices_Contains_int_int : ICode := (.seq (.region [⟨some 4, none, .mov (.c (.bool false))⟩]) (.seq (.region [⟨some 5, none, .mov (.t 0)⟩, ⟨some 6, none, .mov (.t 1)⟩, ⟨some 7, none, .call 120 [(.t 5), (.t 6)]⟩, ⟨some 8, none, .bin .geq .other (.t 7) (.c (.int .i64 0))⟩, ⟨some 4, none, .mov (.t 8)⟩]) .ret))
def rs_slices_Contains_int_int : List IRes := [(.t 4)]
theorem low_slices_Contains_int_int : lowF Tryz.prog [] [] 2 Tryz.f57 = some (ir_slices_Contains_int_int, rs_slices_Contains_int_int) := by kernel_rfl
theorem fun_slices_Contains_int_int {args : List AV} {res : AV} (hn : args.length = 2) (h1 : ∀ x ∈ args, AvPure x) (h2 : AvPure res) (h : awp Tryz.prog ir_slices_Contains_int_int (Ret rs_slices_Contains_int_int res) ⟨entry 0 args, []⟩) : CallsF Tryz.prog 57 args res :=
  callsF follows_Binds Tryz.func57 (by kernel_rfl) (by rw [hn]; exact low_slices_Contains_int_int) h1 h2 h

def ir_slices_Index_int_int : ICode := (.seq (.region [⟨some 4, none, .mov (.c (.int .i64 0))⟩]) (.seq (.seq (.region [⟨some 6, none, .mov (.t 0)⟩, ⟨some 7, none, .len false (.t 6)⟩, ⟨some 8, none, .mov (.c (.int .i64 0))⟩]) (.block 0 (.loop (.seq (.region [⟨some 9, none, .bin .lss .other (.t 8) (.t 7)⟩]) (.seq (.cond (.t 9) .skip (.exit 0)) (.seq (.block 1 (.seq (.region [⟨some 10, none, .mov (.t 8)⟩, ⟨some 5, none, .mov (.t 10)⟩]) (.seq (.region [⟨some 11, none, .mov (.t 1)⟩, ⟨some 12, none, .mov (.t 0)⟩, ⟨some 13, none, .mov (.t 5)⟩, ⟨some 14, none, .iaddr 1 (.t 12) (.t 13)⟩, ⟨some 15, none, .load false 1 (.t 14)⟩, ⟨some 16, none, .bin .eql .other (.t 11) (.t 15)⟩]) (.cond (.t 16) (.seq (.region [⟨some 17, none, .mov (.t 5)⟩, ⟨some 4, none, .mov (.t 17)⟩]) .ret) .skip)))) (.region [⟨some 18, none, .bin .add .other (.t 8) (.c (.int .i64 1))⟩, ⟨some 8, none, .mov (.t 18)⟩]))))))) (.seq (.region [⟨some 4, none, .mov (.c (.int .i64 (-1)))⟩]) .ret)))
def rs_slices_Index_int_int : List IRes := [(.t 4)]
theorem low_slices_Index_int_int : lowF Tryz.prog [] [] 2 Tryz.f120 = some (ir_slices_Index_int_int, rs_slices_Index_int_int) := by kernel_rfl
theorem fun_slices_Index_int_int {args : List AV} {res : AV} (hn : args.length = 2) (h1 : ∀ x ∈ args, AvPure x) (h2 : AvPure res) (h : awp Tryz.prog ir_slices_Index_int_int (Ret rs_slices_Index_int_int res) ⟨entry 0 args, []⟩) : CallsF Tryz.prog 120 args res :=
  callsF follows_Binds Tryz.func120 (by kernel_rfl) (by rw [hn]; exact low_slices_Index_int_int) h1 h2 h

end Go.Proofs.YtbcifdnfhoikiaaGreat

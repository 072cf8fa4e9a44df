/-
  THE ABSTRACT TEXTS OF FUNCTIONS (Num), printed by irgen.py, and that they are the functions' own. Conditions: none.
-/
import Derived.Test.YtlgmahbmegejhaaDoorProg
import Derived.Test.YtlgmahbmegejhaaDoorAvDraw
set_option linter.unusedVariables false
set_option maxRecDepth 100000
namespace Go.Proofs.YtlgmahbmegejhaaDoor
open Go.Proofs.YtlgmahbmegejhaaDoor.Av

theorem follows_Num : Tryd.prog.follows .mixedOrders = true := by kernel_rfl

def ir_spec_l01Digits : ICode := (.seq (.region [⟨some 2, none, .mov (.c (.str (bs [])))⟩]) (.seq (.seq (.region [⟨some 3, none, .mov (.t 0)⟩, ⟨some 4, none, .bin .gtr .other (.t 3) (.c (.int .i64 (-10)))⟩]) (.cond (.t 4) (.seq (.region [⟨some 5, none, .mov (.t 0)⟩, ⟨some 6, none, .bin .sub .other (.c (.int .i64 48)) (.t 5)⟩, ⟨some 7, none, .conv .u8 (.t 6)⟩, ⟨some 8, none, .slP 1 (.int .u8 0) [(0, (.t 7))]⟩, ⟨some 9, none, .b2s (.t 8)⟩, ⟨some 2, none, .mov (.t 9)⟩]) .ret) .skip)) (.seq (.draw [⟨some 10, none, .mov (.t 0)⟩, ⟨some 11, none, .bin .quo .other (.t 10) (.c (.int .i64 10))⟩, ⟨some 12, none, .call 47 [(.t 11)]⟩, ⟨some 13, none, .mov (.t 0)⟩, ⟨some 14, none, .bin .rem .other (.t 13) (.c (.int .i64 10))⟩, ⟨some 15, none, .bin .sub .other (.c (.int .i64 48)) (.t 14)⟩, ⟨some 16, none, .conv .u8 (.t 15)⟩, ⟨some 17, none, .slP 1 (.int .u8 0) [(0, (.t 16))]⟩, ⟨some 18, none, .b2s (.t 17)⟩, ⟨some 19, none, .bin .add .other (.t 12) (.t 18)⟩, ⟨some 2, none, .mov (.t 19)⟩]) .ret)))
def rs_spec_l01Digits : List IRes := [(.t 2)]
theorem low_spec_l01Digits : lowF Tryd.prog [] [] 1 Tryd.f47 = some (ir_spec_l01Digits, rs_spec_l01Digits) := by kernel_rfl
theorem fun_spec_l01Digits {args : List AV} {res : AV} (hn : args.length = 1) (h1 : ∀ x ∈ args, AvPure x) (h2 : AvPure res) (h : awp Tryd.prog ir_spec_l01Digits (Ret rs_spec_l01Digits res) ⟨entry 0 args, []⟩) : CallsF Tryd.prog 47 args res :=
  callsF follows_Num Tryd.func47 (by kernel_rfl) (by rw [hn]; exact low_spec_l01Digits) h1 h2 h

def ir_spec_NumText : ICode := (.seq (.region [⟨some 2, none, .mov (.c (.str (bs [])))⟩]) (.seq (.seq (.region [⟨some 3, none, .mov (.t 0)⟩, ⟨some 4, none, .call 46 [(.t 3)]⟩, ⟨some 5, none, .mov (.t 0)⟩, ⟨some 6, none, .bin .neq .other (.t 4) (.t 5)⟩]) (.cond (.t 6) (.seq (.region [⟨some 2, none, .mov (.c (.str (bs [])))⟩]) .ret) .skip)) (.seq (.seq (.region [⟨some 7, none, .mov (.t 0)⟩, ⟨some 8, none, .bin .lss .other (.t 7) (.c (.int .i64 0))⟩]) (.cond (.t 8) (.seq (.region [⟨some 9, none, .mov (.t 0)⟩, ⟨some 10, none, .call 47 [(.t 9)]⟩, ⟨some 11, none, .bin .add .other (.c (.str (bs [45]))) (.t 10)⟩, ⟨some 2, none, .mov (.t 11)⟩]) .ret) .skip)) (.seq (.region [⟨some 12, none, .mov (.t 0)⟩, ⟨some 13, none, .un .neg (.t 12)⟩, ⟨some 14, none, .call 47 [(.t 13)]⟩, ⟨some 2, none, .mov (.t 14)⟩]) .ret))))
def rs_spec_NumText : List IRes := [(.t 2)]
theorem low_spec_NumText : lowF Tryd.prog [] [] 1 Tryd.f24 = some (ir_spec_NumText, rs_spec_NumText) := by kernel_rfl
theorem fun_spec_NumText {args : List AV} {res : AV} (hn : args.length = 1) (h1 : ∀ x ∈ args, AvPure x) (h2 : AvPure res) (h : awp Tryd.prog ir_spec_NumText (Ret rs_spec_NumText res) ⟨entry 0 args, []⟩) : CallsF Tryd.prog 24 args res :=
  callsF follows_Num Tryd.func24 (by kernel_rfl) (by rw [hn]; exact low_spec_NumText) h1 h2 h

def ir_slices_Reverse_byte_byte : ICode := (.seq (.region [⟨some 4, none, .mov (.t 0)⟩, ⟨some 5, none, .len false (.t 4)⟩, ⟨some 6, none, .bin .sub .other (.t 5) (.c (.int .i64 1))⟩, ⟨some 2, none, .mov (.c (.int .i64 0))⟩, ⟨some 3, none, .mov (.t 6)⟩]) (.block 0 (.loop (.seq (.seq (.region [⟨some 7, none, .mov (.t 2)⟩, ⟨some 8, none, .mov (.t 3)⟩, ⟨some 9, none, .bin .lss .other (.t 7) (.t 8)⟩]) (.cond (.t 9) .skip (.exit 0))) (.seq (.block 1 (.draw [⟨some 14, none, .mov (.t 0)⟩, ⟨some 15, none, .mov (.t 2)⟩, ⟨some 16, none, .mov (.t 0)⟩, ⟨some 17, none, .mov (.t 3)⟩, ⟨some 18, none, .mov (.t 0)⟩, ⟨some 19, none, .mov (.t 3)⟩, ⟨some 20, none, .iaddr 1 (.t 18) (.t 19)⟩, ⟨some 21, none, .load false 1 (.t 20)⟩, ⟨some 22, none, .mov (.t 0)⟩, ⟨some 23, none, .mov (.t 2)⟩, ⟨some 24, none, .iaddr 1 (.t 22) (.t 23)⟩, ⟨some 25, none, .load false 1 (.t 24)⟩, ⟨some 26, none, .iaddr 1 (.t 14) (.t 15)⟩, ⟨none, none, .store 1 (.t 26) (.t 21)⟩, ⟨some 27, none, .iaddr 1 (.t 16) (.t 17)⟩, ⟨none, none, .store 1 (.t 27) (.t 25)⟩])) (.region [⟨some 10, none, .mov (.t 2)⟩, ⟨some 11, none, .bin .add .other (.t 10) (.c (.int .i64 1))⟩, ⟨some 12, none, .mov (.t 3)⟩, ⟨some 13, none, .bin .sub .other (.t 12) (.c (.int .i64 1))⟩, ⟨some 2, none, .mov (.t 11)⟩, ⟨some 3, none, .mov (.t 13)⟩]))))))
def rs_slices_Reverse_byte_byte : List IRes := []
theorem low_slices_Reverse_byte_byte : lowF Tryd.prog [] [9999] 1 Tryd.f59 = some (ir_slices_Reverse_byte_byte, rs_slices_Reverse_byte_byte) := by kernel_rfl
theorem funH_slices_Reverse_byte_byte {args : List AV} {hp : Hp} {Post : AV → Hp → Prop} (hn : args.length = 1) (h : awp Tryd.prog ir_slices_Reverse_byte_byte (RetH rs_slices_Reverse_byte_byte Post) ⟨entry 0 args, hp⟩) : CallsH Tryd.prog 59 args hp Post :=
  callsH follows_Num Tryd.func59 (by kernel_rfl) (by rw [hn]; exact low_slices_Reverse_byte_byte) h

def ir_impl_digits : ICode := (.seq (.region [⟨some 2, none, .mov (.c (.str (bs [])))⟩]) (.seq (.region [⟨some 4, none, .slO 4 5 0 (.int .u8 0) []⟩, ⟨some 3, none, .mov (.t 4)⟩]) (.seq (.block 0 (.loop (.seq (.seq (.region [⟨some 5, none, .mov (.t 0)⟩, ⟨some 6, none, .bin .gtr .other (.t 5) (.c (.int .i64 0))⟩, ⟨some 7, none, .mov (.t 6)⟩, ⟨some 8, some (7, false), .mov (.t 3)⟩, ⟨some 9, some (7, false), .len false (.t 8)⟩, ⟨some 10, some (7, false), .bin .eql .other (.t 9) (.c (.int .i64 0))⟩, ⟨some 11, none, .pick (.t 7) (.c (.bool true)) (.t 10)⟩]) (.cond (.t 11) .skip (.exit 0))) (.block 1 (.seq (.region [⟨some 12, none, .mov (.t 3)⟩, ⟨some 13, none, .mov (.t 0)⟩, ⟨some 14, none, .bin .rem .other (.t 13) (.c (.int .i64 10))⟩, ⟨some 15, none, .bin .add .other (.c (.int .i64 48)) (.t 14)⟩, ⟨some 16, none, .conv .u8 (.t 15)⟩, ⟨some 17, none, .slP 1 (.int .u8 0) [(0, (.t 16))]⟩, ⟨some 18, none, .append 18 5 1 1 (.t 12) (.t 17)⟩, ⟨some 3, none, .mov (.t 18)⟩]) (.region [⟨some 19, none, .mov (.t 0)⟩, ⟨some 20, none, .bin .quo .other (.t 19) (.c (.int .i64 10))⟩, ⟨some 0, none, .mov (.t 20)⟩])))))) (.seq (.region [⟨some 21, none, .mov (.t 3)⟩, ⟨some 22, none, .callH 59 [(.t 21)]⟩]) (.seq (.region [⟨some 23, none, .mov (.t 3)⟩, ⟨some 24, none, .b2s (.t 23)⟩, ⟨some 2, none, .mov (.t 24)⟩]) .ret)))))
def rs_impl_digits : List IRes := [(.t 2)]
theorem low_impl_digits : lowF Tryd.prog [(22, 7777)] [] 1 Tryd.f48 = some (ir_impl_digits, rs_impl_digits) := by kernel_rfl
theorem fun_impl_digits {args : List AV} {res : AV} (hn : args.length = 1) (h1 : ∀ x ∈ args, AvPure x) (h2 : AvPure res) (h : awp Tryd.prog ir_impl_digits (Ret rs_impl_digits res) ⟨entry 0 args, []⟩) : CallsF Tryd.prog 48 args res :=
  callsF follows_Num Tryd.func48 (by kernel_rfl) (by rw [hn]; exact low_impl_digits) h1 h2 h

def ir_impl_NumText : ICode := (.seq (.region [⟨some 2, none, .mov (.c (.str (bs [])))⟩]) (.seq (.block 0 (.seq (.region [⟨some 4, none, .mov (.t 0)⟩, ⟨some 5, none, .call 42 [(.t 4), (.c (.int .i64 (-4611686018427387904))), (.c (.int .i64 4611686018427387903))]⟩, ⟨some 6, none, .un .not (.t 5)⟩, ⟨some 3, none, .mov (.t 6)⟩]) (.cond (.t 3) (.seq (.region [⟨some 2, none, .mov (.c (.str (bs [])))⟩]) .ret) (.seq (.region [⟨some 8, none, .mov (.t 0)⟩, ⟨some 9, none, .bin .lss .other (.t 8) (.c (.int .i64 0))⟩, ⟨some 7, none, .mov (.t 9)⟩]) (.cond (.t 7) (.seq (.region [⟨some 10, none, .mov (.t 0)⟩, ⟨some 11, none, .un .neg (.t 10)⟩, ⟨some 12, none, .call 48 [(.t 11)]⟩, ⟨some 13, none, .bin .add .other (.c (.str (bs [45]))) (.t 12)⟩, ⟨some 2, none, .mov (.t 13)⟩]) .ret) .skip))))) (.seq (.region [⟨some 14, none, .mov (.t 0)⟩, ⟨some 15, none, .call 48 [(.t 14)]⟩, ⟨some 2, none, .mov (.t 15)⟩]) .ret)))
def rs_impl_NumText : List IRes := [(.t 2)]
theorem low_impl_NumText : lowF Tryd.prog [] [] 1 Tryd.f27 = some (ir_impl_NumText, rs_impl_NumText) := by kernel_rfl
theorem fun_impl_NumText {args : List AV} {res : AV} (hn : args.length = 1) (h1 : ∀ x ∈ args, AvPure x) (h2 : AvPure res) (h : awp Tryd.prog ir_impl_NumText (Ret rs_impl_NumText res) ⟨entry 0 args, []⟩) : CallsF Tryd.prog 27 args res :=
  callsF follows_Num Tryd.func27 (by kernel_rfl) (by rw [hn]; exact low_impl_NumText) h1 h2 h

end Go.Proofs.YtlgmahbmegejhaaDoor

/-
  THE ABSTRACT TEXTS OF FUNCTIONS (Tree), printed by irgen.py, and that they are the functions' own. Conditions: none.
-/
import Derived.Test.YtohalepkikjinaaProg
import Derived.Test.YtohalepkikjinaaAvDraw
set_option linter.unusedVariables false
set_option maxRecDepth 100000
namespace Go.Proofs.Ytohalepkikjinaa
open Go.Proofs.Ytohalepkikjinaa.Av

theorem follows_Tree : Try.prog.follows .mixedOrders = true := by kernel_rfl

def ir_impl_inOrder : ICode := (.seq (.region [⟨some 2, none, .boxP (.t 0)⟩, ⟨some 3, none, .boxP (.t 1)⟩, ⟨some 4, none, .mov (.c (.bool false))⟩]) (.seq (.region [⟨some 5, none, .boxO 5 3 1 (.c (.int .i64 0))⟩, ⟨none, none, .store 1 (.t 5) (.c (.int .i64 0))⟩]) (.seq (.region [⟨some 6, none, .boxO 6 101 1 (.c .nilf)⟩]) (.seq (.region [⟨some 7, none, .mkfn 57 [(.t 5), (.t 2), (.t 3), (.t 6)]⟩, ⟨none, none, .store 1 (.t 6) (.t 7)⟩]) (.seq (.region [⟨some 8, none, .load false 1 (.t 6)⟩, ⟨some 9, none, .callvH (.t 8) [(.c (.int .i64 0))]⟩, ⟨some 10, none, .mov (.t 9)⟩, ⟨some 11, some (10, true), .load false 1 (.t 5)⟩, ⟨some 12, some (10, true), .load false 1 (.t 2)⟩, ⟨some 13, some (10, true), .bin .eql .other (.t 11) (.t 12)⟩, ⟨some 14, none, .pick (.t 10) (.t 13) (.c (.bool false))⟩, ⟨some 4, none, .mov (.t 14)⟩]) .ret)))))
def rs_impl_inOrder : List IRes := [(.t 4)]
theorem low_impl_inOrder : lowF Try.prog [(9,7777)] [] 2 Try.f37 = some (ir_impl_inOrder, rs_impl_inOrder) := by kernel_rfl
theorem fun_impl_inOrder {args : List AV} {res : AV} (hn : args.length = 2) (h1 : ∀ x ∈ args, AvPure x) (h2 : AvPure res) (h : awp Try.prog ir_impl_inOrder (Ret rs_impl_inOrder res) ⟨entry 0 args, []⟩) : CallsF Try.prog 37 args res :=
  callsF follows_Tree Try.func37 (by kernel_rfl) (by rw [hn]; exact low_impl_inOrder) h1 h2 h

def ir_impl_inOrder_1 : ICode := (.seq (.region [⟨some 6, none, .mov (.c (.bool false))⟩]) (.seq (.seq (.region [⟨some 9, none, .mov (.t 0)⟩, ⟨some 10, none, .load false 1 (.t 1)⟩, ⟨some 11, none, .bin .neq .other (.t 9) (.t 10)⟩, ⟨some 12, none, .mov (.t 11)⟩, ⟨some 13, some (12, false), .mov (.t 0)⟩, ⟨some 14, some (12, false), .load false 1 (.t 2)⟩, ⟨some 15, some (12, false), .bin .geq .other (.t 13) (.t 14)⟩, ⟨some 16, none, .pick (.t 12) (.c (.bool true)) (.t 15)⟩]) (.cond (.t 16) (.seq (.region [⟨some 6, none, .mov (.c (.bool false))⟩]) .retK) .skip)) (.seq (.region [⟨some 17, none, .load false 1 (.t 1)⟩, ⟨some 18, none, .bin .add .other (.t 17) (.c (.int .i64 1))⟩, ⟨none, none, .store 1 (.t 1) (.t 18)⟩]) (.seq (.seq (.region [⟨some 19, none, .load false 1 (.t 3)⟩, ⟨some 20, none, .mov (.t 0)⟩, ⟨some 21, none, .callv (.t 19) [(.t 20)]⟩, ⟨some 22, none, .len false (.t 21)⟩, ⟨some 23, none, .mov (.c (.int .i64 0))⟩]) (.block 0 (.loop (.seq (.region [⟨some 24, none, .bin .lss .other (.t 23) (.t 22)⟩]) (.seq (.cond (.t 24) .skip (.exit 0)) (.seq (.block 1 (.seq (.region [⟨some 25, none, .iaddr 1 (.t 21) (.t 23)⟩, ⟨some 26, none, .load false 1 (.t 25)⟩, ⟨some 8, none, .mov (.t 26)⟩]) (.seq (.region [⟨some 27, none, .load false 1 (.t 4)⟩, ⟨some 28, none, .mov (.t 8)⟩, ⟨some 29, none, .callvH (.t 27) [(.t 28)]⟩, ⟨some 30, none, .un .not (.t 29)⟩]) (.cond (.t 30) (.seq (.region [⟨some 6, none, .mov (.c (.bool false))⟩]) .retK) .skip)))) (.region [⟨some 31, none, .bin .add .other (.t 23) (.c (.int .i64 1))⟩, ⟨some 23, none, .mov (.t 31)⟩]))))))) (.seq (.region [⟨some 6, none, .mov (.c (.bool true))⟩]) .retK)))))
def rs_impl_inOrder_1 : List IRes := [(.t 6)]
theorem low_impl_inOrder_1 : lowF Try.prog [(29,7777)] [9999] 5 Try.f57 = some (ir_impl_inOrder_1, rs_impl_inOrder_1) := by kernel_rfl
theorem funH_impl_inOrder_1 {args : List AV} {hp : Hp} {Post : AV → Hp → Prop} (hn : args.length = 5) (h : awp Try.prog ir_impl_inOrder_1 (RetH rs_impl_inOrder_1 Post) ⟨entry 0 args, hp⟩) : CallsH Try.prog 57 args hp Post :=
  callsH follows_Tree Try.func57 (by kernel_rfl) (by rw [hn]; exact low_impl_inOrder_1) h

end Go.Proofs.Ytohalepkikjinaa

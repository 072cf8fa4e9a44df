/-
  THE ABSTRACT TEXTS OF FUNCTIONS (GrowP), printed by irgen.py, and that they are the functions' own. Conditions: none.
-/
import Derived.Test.YtohalepkikjinaaProg
import Derived.Test.YtohalepkikjinaaAvDraw
set_option linter.unusedVariables false
set_option maxRecDepth 100000
namespace Go.Proofs.Ytohalepkikjinaa
open Go.Proofs.Ytohalepkikjinaa.Av

theorem follows_GrowP : Try.prog.follows .mixedOrders = true := by kernel_rfl

def ir_impl_growPat : ICode := (.seq (.region [⟨some 4, none, .mov (.c .nilp)⟩]) (.seq (.region [⟨some 9, none, .mov (.t 0)⟩, ⟨some 10, none, .mov (.t 1)⟩, ⟨some 11, none, .iaddr 4 (.t 9) (.t 10)⟩, ⟨some 12, none, .load true 4 (.t 11)⟩, ⟨some 5, none, .boxO 5 69 4 (.c (.agg [(.int .i64 0), (.int .i64 0), (.str (bs [])), .nils]))⟩, ⟨none, none, .store 4 (.t 5) (.t 12)⟩]) (.seq (.region [⟨some 13, none, .faddr 0 (.t 5)⟩, ⟨some 14, none, .load false 1 (.t 13)⟩, ⟨some 15, none, .faddr 1 (.t 5)⟩, ⟨some 16, none, .load false 1 (.t 15)⟩, ⟨some 17, none, .faddr 2 (.t 5)⟩, ⟨some 18, none, .load false 1 (.t 17)⟩, ⟨some 19, none, .build [(.int .i64 0), (.int .i64 0), (.str (bs [])), .nils] [(0, (1, (.t 14))), (1, (1, (.t 16))), (2, (1, (.t 18)))]⟩, ⟨some 20, none, .boxO 20 87 4 (.t 19)⟩, ⟨some 6, none, .mov (.t 20)⟩]) (.seq (.seq (.region [⟨some 21, none, .faddr 3 (.t 5)⟩, ⟨some 22, none, .load false 1 (.t 21)⟩, ⟨some 23, none, .len false (.t 22)⟩, ⟨some 24, none, .mov (.c (.int .i64 0))⟩]) (.block 0 (.loop (.seq (.region [⟨some 25, none, .bin .lss .other (.t 24) (.t 23)⟩]) (.seq (.cond (.t 25) .skip (.exit 0)) (.seq (.block 1 (.seq (.region [⟨some 26, none, .iaddr 1 (.t 22) (.t 24)⟩, ⟨some 27, none, .load false 1 (.t 26)⟩, ⟨some 8, none, .mov (.t 27)⟩]) (.draw [⟨some 28, none, .mov (.t 6)⟩, ⟨some 29, none, .mov (.t 6)⟩, ⟨some 30, none, .nilchk (.t 29)⟩, ⟨some 31, none, .faddr 3 (.t 30)⟩, ⟨some 32, none, .load false 1 (.t 31)⟩, ⟨some 33, none, .mov (.t 0)⟩, ⟨some 34, none, .mov (.t 8)⟩, ⟨some 35, none, .call 22 [(.t 33), (.t 34)]⟩, ⟨some 36, none, .slP 1 .nilp [(0, (.t 35))]⟩, ⟨some 37, none, .append 37 54 1 8 (.t 32) (.t 36)⟩, ⟨some 38, none, .nilchk (.t 28)⟩, ⟨some 39, none, .faddr 3 (.t 38)⟩, ⟨none, none, .store 1 (.t 39) (.t 37)⟩]))) (.region [⟨some 40, none, .bin .add .other (.t 24) (.c (.int .i64 1))⟩, ⟨some 24, none, .mov (.t 40)⟩]))))))) (.seq (.region [⟨some 41, none, .mov (.t 6)⟩, ⟨some 4, none, .mov (.t 41)⟩]) .ret)))))
def rs_impl_growPat : List IRes := [(.t 4)]
theorem low_impl_growPat : lowF Try.prog [(20,20)] [] 2 Try.f22 = some (ir_impl_growPat, rs_impl_growPat) := by kernel_rfl
theorem fun_impl_growPat {args : List AV} {res : AV} (hn : args.length = 2) (h1 : ∀ x ∈ args, AvPure x) (h2 : AvPure res) (h : awp Try.prog ir_impl_growPat (Ret rs_impl_growPat res) ⟨entry 0 args, []⟩) : CallsF Try.prog 22 args res :=
  callsF follows_GrowP Try.func22 (by kernel_rfl) (by rw [hn]; exact low_impl_growPat) h1 h2 h

end Go.Proofs.Ytohalepkikjinaa

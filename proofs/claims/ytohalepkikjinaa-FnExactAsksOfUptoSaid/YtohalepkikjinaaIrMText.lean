/-
  THE ABSTRACT TEXTS OF FUNCTIONS (MText), printed by irgen.py, and that they are the functions' own. Conditions: none.
-/
import Derived.Test.YtohalepkikjinaaProg
import Derived.Test.YtohalepkikjinaaAvDraw
set_option linter.unusedVariables false
set_option maxRecDepth 100000
namespace Go.Proofs.Ytohalepkikjinaa
open Go.Proofs.Ytohalepkikjinaa.Av

theorem follows_MText : Try.prog.follows .mixedOrders = true := by kernel_rfl

def ir_laws_markText : ICode := (.seq (.region [⟨some 2, none, .mov (.c (.str (bs [])))⟩]) (.seq (.seq (.region [⟨some 4, none, .mov (.t 0)⟩, ⟨some 5, none, .bin .leq .other (.t 4) (.c (.int .i64 0))⟩]) (.cond (.t 5) (.seq (.region [⟨some 2, none, .mov (.c (.str (bs [109, 48])))⟩]) .ret) .skip)) (.seq (.region [⟨some 3, none, .mov (.c (.str (bs [])))⟩]) (.seq (.block 0 (.loop (.seq (.seq (.region [⟨some 6, none, .mov (.t 0)⟩, ⟨some 7, none, .bin .gtr .other (.t 6) (.c (.int .i64 0))⟩]) (.cond (.t 7) .skip (.exit 0))) (.block 1 (.seq (.region [⟨some 8, none, .mov (.t 0)⟩, ⟨some 9, none, .bin .rem .other (.t 8) (.c (.int .i64 10))⟩, ⟨some 10, none, .bin .add .other (.c (.int .i64 48)) (.t 9)⟩, ⟨some 11, none, .conv .u8 (.t 10)⟩, ⟨some 12, none, .slP 1 (.int .u8 0) [(0, (.t 11))]⟩, ⟨some 13, none, .b2s (.t 12)⟩, ⟨some 14, none, .mov (.t 3)⟩, ⟨some 15, none, .bin .add .other (.t 13) (.t 14)⟩, ⟨some 3, none, .mov (.t 15)⟩]) (.region [⟨some 16, none, .mov (.t 0)⟩, ⟨some 17, none, .bin .quo .other (.t 16) (.c (.int .i64 10))⟩, ⟨some 0, none, .mov (.t 17)⟩])))))) (.seq (.region [⟨some 18, none, .mov (.t 3)⟩, ⟨some 19, none, .bin .add .other (.c (.str (bs [109]))) (.t 18)⟩, ⟨some 2, none, .mov (.t 19)⟩]) .ret)))))
def rs_laws_markText : List IRes := [(.t 2)]
theorem low_laws_markText : lowF Try.prog [] [] 1 Try.f48 = some (ir_laws_markText, rs_laws_markText) := by kernel_rfl
theorem fun_laws_markText {args : List AV} {res : AV} (hn : args.length = 1) (h1 : ∀ x ∈ args, AvPure x) (h2 : AvPure res) (h : awp Try.prog ir_laws_markText (Ret rs_laws_markText res) ⟨entry 0 args, []⟩) : CallsF Try.prog 48 args res :=
  callsF follows_MText Try.func48 (by kernel_rfl) (by rw [hn]; exact low_laws_markText) h1 h2 h

end Go.Proofs.Ytohalepkikjinaa

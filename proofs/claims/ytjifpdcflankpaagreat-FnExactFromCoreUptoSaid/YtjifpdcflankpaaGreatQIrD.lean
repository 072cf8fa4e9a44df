/-
 THE GROUND OF DATA, in one text. Conditions: none.
-/
import Derived.Test.YtjifpdcflankpaaGreatProg
import Derived.Test.YtjifpdcflankpaaGreatQAvDraw

set_option linter.unusedVariables false
set_option maxRecDepth 100000
namespace Go.Proofs.YtjifpdcflankpaaGreat
open Go.Proofs.YtjifpdcflankpaaGreat.Av

theorem follows_FromF : Tryz.prog.follows .mixedOrders = true := by kernel_rfl

def ir_impl_fromCore_H : Ir Tryz.prog 40 [(64, 7777), (67, 7777)] [9999] 1 := ⟨_, _, Tryz.func40, follows_FromF, by kernel_rfl, low_of [] Tryz.progTables (by conv => lhs; cbv) (by kernel_rfl)⟩
def ir_impl_FromCore_H : Ir Tryz.prog 17 [(5, 7777)] [9999] 1 := ⟨_, _, Tryz.func17, follows_FromF, by kernel_rfl, low_of [] Tryz.progTables (by conv => lhs; cbv) (by kernel_rfl)⟩

def ir_spec_FromCore : Ir Tryz.prog 16 [] [] 1 := ⟨_, _, Tryz.func16, follows_FromF, by kernel_rfl, low_of [] Tryz.progTables (by conv => lhs; cbv) (by kernel_rfl)⟩

def ir_laws_FnExactFromCore : Ir Tryz.prog 5 [(16, 7777), (26, 7777), (29, 7777), (48, 7777), (64, 7777), (76, 7777)] [] 1 := ⟨_, _, Tryz.func5, follows_FromF, by kernel_rfl, low_of [] Tryz.progTables (by conv => lhs; cbv) (by kernel_rfl)⟩
end Go.Proofs.YtjifpdcflankpaaGreat

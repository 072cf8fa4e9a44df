/-
  AsksOf OF BOTH, told alike. Conditions: none.
-/
import Derived.Test.YtohalepkikjinaaPlanS
import Derived.Test.YtohalepkikjinaaPlanR
set_option linter.unusedVariables false
namespace Go.Proofs.Ytohalepkikjinaa
open Go.RowKit Go.Proofs.Ytohalepkikjinaa.Av Go.Proofs.Ytohalepkikjinaa.Ml
open Go.Proofs.Ytohalepkikjinaa.Av.AVal (av)
open OVal (ov oh on)

def asksR (l : List Pat) : Asks := ⟨(asksO l).getD []⟩
def asksB (l : List Pat) : Bool := (asksO l).isSome
def AsksOPost (nm : Nat) (R : Asks) (b : Bool) (r : AV) (hp' : Hp) : Prop := ∃ vs, r = .tup [ov nm vs R, .bool b] ∧ hp' = oh nm vs R
theorem asksR_bulk (l : List Pat) : Bulk.bulk (asksR l) ≤ 400000 := asksO_bulk l
theorem specAsksO_ok (l : List Pat) (hx : Bulk.bulk l ≤ 1048576) : CallsF Try.prog 5 [.sl (l.map av)] (.tup [av (asksR l), .bool (asksB l)]) := specAsksOf_ok l hx
theorem implAsksO_ok (nm : Nat) (l : List Pat) (hx : Bulk.bulk l ≤ 1048576) : CallsH Try.prog 7 [.sl (l.map av)] [] (AsksOPost nm (asksR l) (asksB l)) := implAsksOf_ok nm l hx
end Go.Proofs.Ytohalepkikjinaa

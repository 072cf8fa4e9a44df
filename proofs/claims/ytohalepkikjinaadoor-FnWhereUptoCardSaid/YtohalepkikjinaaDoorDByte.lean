/-
  BYTES AS DATA: when a Go slice of bytes reads as a list. Conditions: none.
-/
import Derived.Test.YtohalepkikjinaaDoorAvRep
set_option linter.unusedVariables false
namespace Go.Proofs.YtohalepkikjinaaDoor
open Go.RowKit Go.Proofs.YtohalepkikjinaaDoor.Av Go.Proofs.YtohalepkikjinaaDoor.Ml
open Go.Proofs.YtohalepkikjinaaDoor.Av.AVal (av)

instance : Bulk UInt8 := ⟨fun _ => 1, fun _ => Nat.le_refl _⟩
instance : AvRep UInt8 := ⟨fun {S w cs y} h => by
  have h : cs = [.int .u8 y.toNat] := h
  subst h
  have := y.toNat_lt
  exact VRs.cons (.int .u8 (y.toNat : Int) (show (0 : Int) ≤ _ by omega) (show (y.toNat : Int) ≤ 255 by omega)) VRs.nil⟩
theorem readsU8 : ReadsAs 5 UInt8 := ⟨by kernel_rfl, fun h => by
  obtain ⟨n, rfl, rfl, hw⟩ := DataW.trod_int Tryd.underlying5 h
  have hb : 0 ≤ n ∧ n ≤ 255 := by simpa [Lit.wf, IntKind.min, IntKind.max, IntKind.signed, IntKind.bits] using hw
  refine ⟨UInt8.ofNat n.toNat, ?_, by simp [Bulk.bulk, Rows.uptoBulk]⟩
  show [Value.int .u8 n] = [Value.int .u8 _]
  have : ((UInt8.ofNat n.toNat).toNat : Int) = n := by
    rw [UInt8.toNat_ofNat_of_lt' (by show n.toNat < 256; omega)]; omega
  rw [this]⟩
theorem readsU8S : ReadsAs 22 (List UInt8) := readsSlice readsU8 Tryd.underlying22 (by kernel_rfl) (by simp [Rep.n])
theorem lav_u8 (c : List UInt8) : AvPure (.sl (c.map av)) := AvPure.sl fun e he x hx => by
  obtain ⟨y, _, rfl⟩ := List.mem_map.1 he
  simp only [av_u8, AV.cells, List.mem_singleton] at hx; subst hx; exact AvPure.int _ _
end Go.Proofs.YtohalepkikjinaaDoor

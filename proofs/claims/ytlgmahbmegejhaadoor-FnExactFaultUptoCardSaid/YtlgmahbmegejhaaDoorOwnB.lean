/-
  A ROW OF BYTES THAT THE CALL OWNS. Conditions: none.
-/
import Derived.Test.YtlgmahbmegejhaaDoorRows
import Derived.Test.YtlgmahbmegejhaaDoorBase
set_option linter.unusedVariables false
set_option linter.unusedSimpArgs false
set_option maxRecDepth 100000
namespace Go.Proofs.YtlgmahbmegejhaaDoor
open Go.RowKit Go.Proofs.YtlgmahbmegejhaaDoor.Ml

def bytesV (l : List UInt8) : List Value := l.map fun b => .int .u8 (b.toNat : Int)
/-- a row of bytes that the call owns -/
def OwnB (w : World) (base : Nat) (v : Value) (l : List UInt8) : Prop := w.ownsRow base 5 1 v l.length (bytesV l)
theorem OwnB.step {w : World} {base : Nat} {v : Value} {l : List UInt8} {x : UInt8} (h : w.ownsRow base 5 1 v (l.length + 1) (bytesV l ++ [.int .u8 (x.toNat : Int)])) : OwnB w base v (l ++ [x]) := by
  unfold OwnB bytesV at *; simpa using h
theorem OwnB.form {w : World} {base : Nat} {v : Value} {l : List UInt8} (h : OwnB w base v l) : (v = .slice none 0 0 ∧ l = []) ∨ ∃ g c n, n = l.length ∧ v = .slice (some ⟨g, 0, none⟩) n c ∧ ∀ j (hj : j < l.length), w.cell? ((⟨g, 0, none⟩ : Addr).add j) = some (.int .u8 (l[j].toNat : Int)) := by
  have hh := h
  obtain ⟨h1, ⟨rfl, h3⟩ | ⟨g, cap, cur, rfl, h3, h4, h5, h6, h7, h8⟩⟩ := h
  · exact .inl ⟨rfl, by simpa using h3⟩
  · exact .inr ⟨g, cap, _, rfl, rfl, fun j hj => World.ownsRow.cells hh rfl j _ (by simp [bytesV, hj])⟩
theorem infoU8 : (Tryd.prog.info? 5).map (fun i => (i.zero, i.size, i.bytes)) = some (some (.int .u8 0), 1, 1) := by kernel_rfl

end Go.Proofs.YtlgmahbmegejhaaDoor

/-
  Where AND LineOf OF BOTH SIDES, as contracts over abstract values. Conditions: block MaxLen holds an int.
-/
import Derived.Test.YtohalepkikjinaaDoorScal
import Derived.Test.YtohalepkikjinaaDoorWhere
import Derived.Test.YtohalepkikjinaaDoorLineOf
import Derived.Test.YtohalepkikjinaaDoorPosAt
set_option linter.unusedVariables false
set_option linter.unusedSimpArgs false
set_option maxRecDepth 100000
namespace Go.Proofs.YtohalepkikjinaaDoor
open Go.RowKit Go.Proofs.YtohalepkikjinaaDoor.Av Go.Proofs.YtohalepkikjinaaDoor.Ml
open Go.Proofs.YtohalepkikjinaaDoor.Av.AVal (av)

theorem vr_int64 {S : Nat → Prop} {w : World} {μ : Mu} {n : Int} (h : -9223372036854775808 ≤ n ∧ n ≤ 9223372036854775807) : VR S w μ (.int .i64 n) (.int .i64 n) := .int _ _ h.1 h.2
theorem where_rng (s : ByteArray) (a : Int) (hs : s.size ≤ 1048576) : (0 ≤ whereL s a ∧ whereL s a ≤ 1048577) ∧ (0 ≤ whereC s a ∧ whereC s a ≤ 1048577) := by
  unfold whereL whereC
  split
  · have h1 := lineN_le (s.data.toList.take a.toNat)
    have h2 := colN_le s.data.toList a.toNat (by simp; omega)
    have h3 : (s.data.toList.take a.toNat).length ≤ s.size := by simp; omega
    omega
  · omega
theorem int_sum_mem : ∀ {L : List Int}, (∀ y ∈ L, 0 ≤ y) → ∀ {x : Int}, x ∈ L → x ≤ L.sum
  | y :: L, h, x, hx => by
    have h0 : ∀ y ∈ L, 0 ≤ y := fun z hz => h z (by simp [hz])
    have hs : 0 ≤ L.sum := by
      clear hx h x
      induction L with
      | nil => simp
      | cons z L ih =>
        rw [List.sum_cons]
        have := h0 z (by simp)
        have := ih (fun w hw => h0 w (by simp [hw]))
        omega
    rw [List.sum_cons]
    have hy := h y (by simp)
    rcases List.mem_cons.1 hx with rfl | hx
    · omega
    · have := int_sum_mem h0 hx; omega
theorem pcs_le (l : List UInt8) {p : List UInt8} (hp : p ∈ pcs [] l) : p.length ≤ l.length := by
  have h := pcs_total l []
  unfold offs at h
  rw [List.take_length] at h
  have := int_sum_mem (L := (pcs [] l).map fun p => (p.length : Int) + 1) (fun y hy => by obtain ⟨q, _, rfl⟩ := List.mem_map.1 hy; omega) (List.mem_map_of_mem hp)
  simp only [List.length_nil] at h
  omega
theorem lineOfB_le (s : ByteArray) (n : Int) : (lineOfB s n).size ≤ s.size := by
  unfold lineOfB
  split
  · rename_i h
    have hj : (n - 1).toNat < (linesB s).length := by omega
    rw [List.getElem?_eq_getElem hj, Option.getD_some]
    obtain ⟨l, hl, e⟩ := List.mem_map.1 (List.getElem_mem hj)
    rw [← e]
    have := pcs_le _ hl
    show (List.toArray _).size ≤ s.size
    simpa using this
  · exact Nat.zero_le _
theorem implWhere_okF (s : ByteArray) (a : Int) (hs : s.size ≤ 1048576) : CallsF Tryd.prog 10 [.str s, .int .i64 a] (.tup [.int .i64 (whereL s a), .int .i64 (whereC s a)]) := by
  have r := where_rng s a hs
  exact callsF_sc (by kernel_rfl) rfl (fun S w => vr_tup2 (vr_int64 (by omega)) (vr_int64 (by omega))) fun w => impl_Where s a hs
theorem specWhere_okF (s : ByteArray) (a : Int) (hs : s.size ≤ 1048576) : CallsF Tryd.prog 11 [.str s, .int .i64 a] (.tup [.int .i64 (whereL s a), .int .i64 (whereC s a)]) := by
  have r := where_rng s a hs
  exact callsF_sc (by kernel_rfl) rfl (fun S w => vr_tup2 (vr_int64 (by omega)) (vr_int64 (by omega))) fun w => spec_Where s a hs
theorem implLineOf_okH (s : ByteArray) (n : Int) (hs : s.size ≤ 1048576) (m : Int) (ty : Nat) : CallsH Tryd.prog 8 [.str s, .int .i64 n] [gint 0 ty m] (GPost (.tup [.str (lineOfB s n), .bool (lineOk s n)]) (gint 0 ty m)) :=
  callsH_sc (by kernel_rfl) rfl (fun S w => vr_tup2 (.str _ (by have := lineOfB_le s n; unfold maxLen; omega)) (.bool _)) fun w hm => impl_LineOf s n hs hm
end Go.Proofs.YtohalepkikjinaaDoor

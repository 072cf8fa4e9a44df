/-
 Con, Type, Node, Program BY ABSTRACT TEXTS: as abstract values, copies, comparisons, sizes. Conditions: none. Printed by genav.py.
-/
import Derived.Test.YteeiaaogmjbcjaaGreatHJ24
import Derived.Test.YteeiaaogmjbcjaaGreatProg
import Derived.Test.YteeiaaogmjbcjaaGreatHAvDraw
import Derived.Test.YteeiaaogmjbcjaaGreatHJ13
import Derived.Test.YteeiaaogmjbcjaaGreatHAvSimp
set_option linter.unusedVariables false
set_option linter.unusedSimpArgs false
set_option maxRecDepth 100000
namespace Go.Proofs.YteeiaaogmjbcjaaGreat
open Go.RowKit Go.Proofs.YteeiaaogmjbcjaaGreat.Av Go.Proofs.YteeiaaogmjbcjaaGreat.Ml
open Go.Proofs.YteeiaaogmjbcjaaGreat.Av.AVal (av)

instance : AVal Con := ⟨fun x => .agg [.str x.name, .bool x.has, .sl (x.arg.items.map av)], 3, fun _ => rfl, fun _ => rfl, fun x y hy => by
 simp only [AV.cells, List.mem_cons, List.not_mem_nil, or_false] at hy
 rcases hy with rfl | rfl | rfl <;> first | exact AvPure.int _ _ | exact AvPure.str _ | exact AvPure.bool _ | exact lav_clean x.arg.items, fun _ _ => rfl, fun x y hy => by
 simp only [AV.cells, List.mem_cons, List.not_mem_nil, or_false] at hy
 rcases hy with rfl | rfl | rfl <;> rfl⟩
instance : AvRep Con := ⟨fun {S w cs y} h => by
 obtain ⟨v2, rfl, h0, r2⟩ := h
 exact VRs.cons (.str _ h0) (VRs.cons (.bool _) (VRs.cons (repSl_vr r2) (VRs.nil)))⟩

instance : AVal TypeD := ⟨fun x => .agg [.str x.name, .int .i64 x.params, .sl (x.cons.map av)], 3, fun _ => rfl, fun _ => rfl, fun x y hy => by
 simp only [AV.cells, List.mem_cons, List.not_mem_nil, or_false] at hy
 rcases hy with rfl | rfl | rfl <;> first | exact AvPure.int _ _ | exact AvPure.str _ | exact AvPure.bool _ | exact lav_clean x.cons, fun _ _ => rfl, fun x y hy => by
 simp only [AV.cells, List.mem_cons, List.not_mem_nil, or_false] at hy
 rcases hy with rfl | rfl | rfl <;> rfl⟩
instance : AvRep TypeD := ⟨fun {S w cs y} h => by
 obtain ⟨v2, rfl, h0, h1, r2⟩ := h
 exact VRs.cons (.str _ h0) (VRs.cons (.int _ _ h1.1 h1.2) (VRs.cons (repSl_vr r2) (VRs.nil)))⟩

instance : AVal Node := ⟨fun x => .agg [.int .i64 x.kind, .int .i64 x.pos, .int .i64 x.n, .str x.s, .sl (x.kids.map av), .sl (x.pats.map av)], 6, fun _ => rfl, fun _ => rfl, fun x y hy => by
 simp only [AV.cells, List.mem_cons, List.not_mem_nil, or_false] at hy
 rcases hy with rfl | rfl | rfl | rfl | rfl | rfl <;> first | exact AvPure.int _ _ | exact AvPure.str _ | exact AvPure.bool _ | exact lav_clean x.kids | exact lav_clean x.pats, fun _ _ => rfl, fun x y hy => by
 simp only [AV.cells, List.mem_cons, List.not_mem_nil, or_false] at hy
 rcases hy with rfl | rfl | rfl | rfl | rfl | rfl <;> rfl⟩
instance : AvRep Node := ⟨fun {S w cs y} h => by
 obtain ⟨v4, v5, rfl, h0, h1, h2, h3, r4, r5⟩ := h
 exact VRs.cons (.int _ _ h0.1 h0.2) (VRs.cons (.int _ _ h1.1 h1.2) (VRs.cons (.int _ _ h2.1 h2.2) (VRs.cons (.str _ h3) (VRs.cons (repSl_vr r4) (VRs.cons (repSl_vr r5) (VRs.nil))))))⟩

instance : AVal Program := ⟨fun x => .agg [.sl (x.types.map av), .sl (x.nodes.map av)], 2, fun _ => rfl, fun _ => rfl, fun x y hy => by
 simp only [AV.cells, List.mem_cons, List.not_mem_nil, or_false] at hy
 rcases hy with rfl | rfl <;> first | exact AvPure.int _ _ | exact AvPure.str _ | exact AvPure.bool _ | exact lav_clean x.types | exact lav_clean x.nodes, fun _ _ => rfl, fun x y hy => by
 simp only [AV.cells, List.mem_cons, List.not_mem_nil, or_false] at hy
 rcases hy with rfl | rfl <;> rfl⟩
instance : AvRep Program := ⟨fun {S w cs y} h => by
 obtain ⟨v0, v1, rfl, r0, r1⟩ := h
 exact VRs.cons (repSl_vr r0) (VRs.cons (repSl_vr r1) (VRs.nil))⟩

end Go.Proofs.YteeiaaogmjbcjaaGreat
set_option linter.unusedVariables false
set_option maxRecDepth 100000
namespace Go.Proofs.YteeiaaogmjbcjaaGreat
open Go.Proofs.YteeiaaogmjbcjaaGreat.Av

theorem follows_ReadT : Tryz.prog.follows .mixedOrders = true := by kernel_rfl

def ir_spec_l03Atom0 : Ir Tryz.prog 159 [(47,47), (105, 7777), (107, 7777), (109, 7777), (114, 7777), (16, 7777), (37, 7777), (82, 7777), (84, 7777), (88, 7777), (90, 7777), (93, 7777)] [9999] 2 := ⟨_, _, Tryz.func159, follows_ReadT, by kernel_rfl, low_of [] Tryz.progTables (by conv => lhs; cbv) (by kernel_rfl)⟩
def ir_spec_l03Prod : Ir Tryz.prog 151 [(16, 7777), (19, 7777), (22, 7777), (24, 7777), (35, 7777), (37, 7777), (8, 7777)] [9999] 2 := ⟨_, _, Tryz.func151, follows_ReadT, by kernel_rfl, low_of [10003, 10006] Tryz.progTables (by conv => lhs; cbv) (by kernel_rfl)⟩
def ir_spec_l03Ty : Ir Tryz.prog 140 [(16, 7777), (17, 7777), (21, 7777), (23, 7777), (35, 7777), (37, 7777)] [9999] 2 := ⟨_, _, Tryz.func140, follows_ReadT, by kernel_rfl, low_of [10009] Tryz.progTables (by conv => lhs; cbv) (by kernel_rfl)⟩
def ir_spec_l03Head : Ir Tryz.prog 137 [(18, 7777), (20, 7777), (22, 7777), (24, 7777), (36, 7777), (38, 7777), (40, 7777), (50, 7777), (55, 7777), (73, 7777), (9, 7777)] [9999, 2] 1 := ⟨_, _, Tryz.func137, follows_ReadT, by kernel_rfl, low_of [10016] Tryz.progTables (by conv => lhs; cbv) (by kernel_rfl)⟩
def ir_spec_l03Type : Ir Tryz.prog 113 [(15, 7777), (18, 7777), (28, 7777), (37, 7777), (47, 7777), (6, 7777), (8, 7777)] [9999, 9] 1 := ⟨_, _, Tryz.func113, follows_ReadT, by kernel_rfl, low_of [] Tryz.progTables (by conv => lhs; cbv) (by kernel_rfl)⟩
end Go.Proofs.YteeiaaogmjbcjaaGreat
set_option linter.unusedVariables false
set_option linter.unusedSimpArgs false
namespace Go.Proofs.YteeiaaogmjbcjaaGreat
open Go.RowKit Go.Proofs.YteeiaaogmjbcjaaGreat.Av Go.Proofs.YteeiaaogmjbcjaaGreat.Ml
open Go.Proofs.YteeiaaogmjbcjaaGreat.Av.AVal (av)

def slN : List AV → AV
 | [] => .nils
 | x :: l => .sl (x :: l)
mutual
def psA : Px → AV
 | .mk n ks => .agg [.int .i64 n.kind, .int .i64 n.n, .str n.s, .nils, slN (psAs ks)]
def psAs : List Px → List AV
 | [] => []
 | t :: ts => psA t :: psAs ts
end
theorem psAs_map : ∀ ks, psAs ks = ks.map psA
 | [] => by rw [psAs]; rfl
 | t :: ts => by rw [psAs, psAs_map ts]; rfl
theorem psA_mk (n : Hd) (ks : List Px) : psA (.mk n ks) = .agg [.int .i64 n.kind, .int .i64 n.n, .str n.s, .nils, slN (ks.map psA)] := by rw [psA, psAs_map]
theorem slN_one (l : List AV) : (slN l).one = true := by cases l <;> rfl
theorem slN_pur1 (hp : Hp) (l : List AV) : (slN l).pur1 hp = slN l := by cases l <;> rfl
theorem ps_pur (t : Px) (hp : Hp) : (psA t).pur hp = psA t := by
 cases t with | mk n ks =>
 rw [psA_mk]
 simp only [AV.pur, List.map_cons, List.map_nil, slN_pur1]
 rfl
theorem ps_purA (t : Px) (hp : Hp) : (psA t).purA hp = psA t := by
 have h := ps_pur t hp
 cases t with | mk n ks =>
 rw [psA_mk] at h ⊢
 exact h
theorem ps_len (t : Px) : (psA t).cells.length = 5 := by cases t with | mk n ks => rw [psA_mk]; rfl
theorem ps_ok (t : Px) : (psA t).ok = true := by cases t with | mk n ks => rw [psA_mk]; rfl
theorem ps_elem (t : Px) (F : Nat → AV) (esz i : Nat) (es : List AV) (ps : List (Nat × IArg)) (k : List AV → Prop) : aElem1 (psA t) F esz i es ps k = (((psA t).cells.length = esz ∧ i < es.length) ∧ aElemsK F esz (es.set i (psA t)) ps k) := by simp [aElem1, ps_ok]
inductive PxW (m : Nat) : Px → Prop
 | mk (n : Hd) (ks : List Px) (h1 : 0 ≤ n.kind ∧ n.kind ≤ 7) (h2 : -9000000000000000000 ≤ n.n ∧ n.n ≤ 9000000000000000000) (h3 : n.s.size ≤ m) (h4 : ks.length ≤ 2) (h5 : ∀ k ∈ ks, PxW m k) : PxW m (.mk n ks)
end Go.Proofs.YteeiaaogmjbcjaaGreat
set_option linter.unusedVariables false
namespace Go.Proofs.YteeiaaogmjbcjaaGreat.Av
open Go.RowKit

theorem callsF_frz {P : Go.Program} {f : FuncId} {args : List AV} {res : AV} {Post : AV → Hp → Prop} (h : CallsH P f args [] Post) (h1 : ∀ x ∈ args, AvPure x) (h2 : AvPure res) (hp : ∀ r hp', Post r hp' → r.pur (frzAll hp') = res) : CallsF P f args res := by
 obtain ⟨hc, h⟩ := h
 refine ⟨hc, h1, fun S w vs hS hv => ?_⟩
 have hW : WI ⟨w, S, ownOf mu0 [], mu0⟩ S w mu0 [] := ⟨⟨rfl, rfl, rfl, Nat.le_refl _, fun _ _ _ => rfl⟩, hS, fun _ h => h, fun _ h => .inl h, ⟨1, Nat.zero_lt_one, fun _ _ _ => rfl, fun _ _ h => by cases h⟩, fun k bx h => (by cases h), fun k k' bx bx' B B' b h => (by cases h), Mu.le.refl _⟩
 have hno : ∀ b, ¬ ownOf mu0 [] b := by rintro b ⟨k, bx, B, h, _⟩; cases h
 refine (h S w mu0 vs hW hv).mono fun e w' ⟨v, r, hp', S', μ', he, hpost, hvr, hw'⟩ => ?_
 obtain ⟨S1, w1, s1⟩ := WI.frzL (S := S') (hnames hp') hw'
 obtain ⟨S2, w2, s2⟩ := WI.frzL (S := S1) (hnames hp') w1
 have hv2 := VR.pur w2 (hvr.mono (fun b hb => s2 b (s1 b hb)) (Same.refl _ _) (Mu.le.refl _))
 have e : r.pur (frzL (hnames hp') (frzL (hnames hp') hp')) = res := hp r hp' hpost
 rw [e] at hv2
 have hsub : ∀ b, S2 b → S b ∨ (w.heap.size ≤ b ∧ b < w'.heap.size) := fun b hb => by
  rcases w2.new b hb with h | h | h
  ·exact .inl h
  ·exact .inr ⟨h, w2.lt b hb⟩
  ·exact (hno b h).elim
 exact ⟨v, he, (h2 _ _ _ _ hv2).mono hsub (Same.refl _ _) (Mu.le.refl _), ⟨hw'.ext.os, hw'.ext.tape, hw'.ext.output, hw'.ext.size, fun b hb => hw'.ext.block b hb (hno b)⟩⟩
end Go.Proofs.YteeiaaogmjbcjaaGreat.Av

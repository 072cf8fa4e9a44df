/-
 HOW LONG PRINTED EXPRESSIONS ARE, and how many spaces they have outside quotes. Conditions: none. Printed by setx.py.
-/
import Derived.Test.YtppjinmlfcokaaaGreatVJ28
set_option linter.unusedVariables false
set_option linter.unusedSimpArgs false
set_option maxRecDepth 100000
namespace Go.Proofs.YtppjinmlfcokaaaGreat
open Go.RowKit Go.Proofs.YtppjinmlfcokaaaGreat.Av Go.Proofs.YtppjinmlfcokaaaGreat.Ml
open Go.Proofs.YtppjinmlfcokaaaGreat.Av.AVal (av)

def Ct (l : List Node) (k : Nat) : Nat := ((l.take k).map fun x => 100 + 4 * x.s.size + (x.Ae.map fun q => (J5 q).size + 7).sum).sum
theorem Np {l : List Node} {k : Nat} (h : k < l.length) : Ct l (k + 1) = Ct l k + (100 + 4 * (l.getD k default).s.size + ((l.getD k default).Ae.map fun q => (J5 q).size + 7).sum) := by
 unfold Ct
 rw [List.take_succ_eq_append_getElem h, List.map_append, List.sum_append]; simp [List.getD_eq_getElem?_getD, h]
theorem OS {nm : Node → Bool} {l : List Node} {n : Node} (h : AE nm l n = true) (ha : 0 ≤ AO n.kind) : (n.kids.length : Int) = AO n.kind := by
 unfold AE at h
 split at h
 ·cases h
 ·omega
theorem node5 {l : List Node} {n : Node} (h : AE BC l n = true) (hk : n.kind = 5) : n.kids.length = 1 ∧ EC n.s = true ∧ True := by
 have ha := OS h (by rw [hk]; decide)
 rw [hk] at ha
 refine ⟨Int.ofNat_inj.1 ha, ?_, trivial⟩
 unfold AE at h
 split at h
 ·cases h
 ·simp [hk, BC] at h; exact h.1
theorem Adc {l : List Node} {n : Node} (h : AE BC l n = true) (hk : n.kind = 11) : n.kids.length = 2 := by
 have ha := OS h (by rw [hk]; decide)
 rw [hk] at ha
 exact Int.ofNat_inj.1 ha
theorem AaP {l : List Node} {f : Nat} (ih : ∀ i e, B9 (Aq l) l.length f i = some e → Clk (exS l f i) (spT (Al l i)) ∧ (exS l f i).size + Ct l i ≤ Ct l e) :
  ∀ (Ae : List Pat) (ks : List Int) (s : ByteArray) (i c0 a e : Nat) (T : Nat → ByteArray), Clk s c0 → BR (B9 (Aq l) l.length f) ks a = some e → Ae.length = ks.length → (∀ j, T (i + 1 + j) = exS l f (ks.getD j 0).toNat) → (hq : ∀ q ∈ Ae, Et q.nodes = true) →
   Clk (J3 T s i Ae) (c0 + (4 * Ae.length - (if 0 < i then 0 else if Ae.length = 0 then 0 else 2)) + (Ae.map fun q => sc 0 (bl (J5 q))).sum + Di (ks.map fun k => Al l k.toNat)) ∧ (J3 T s i Ae).size + Ct l a ≤ s.size + (Ae.map fun q => (J5 q).size + 7).sum + Ct l e
 | [], ks, s, i, c0, a, e, T, hs, hk, hl, hT, hq => by
  have := List.eq_nil_of_length_eq_zero hl.symm
  subst this
  rw [BR] at hk
  cases hk
  simp only [J3, List.map_nil, Di]
  refine ⟨hs.to (by simp), by simp⟩
 | q :: r, ks, s, i, c0, a, e, T, hs, hk, hl, hT, hq => by
  match ks, hl with
  | k :: ks, hl =>
  obtain ⟨e1, m, e2, hk⟩ := V0 hk
  obtain ⟨g1, g2⟩ := ih a m e2
  obtain ⟨p1, p2⟩ := ZF (hq q (by simp))
  have hT0 : T (i + 1) = exS l f a := by rw [show i + 1 = i + 1 + 0 from rfl, hT 0, e1]; rfl
  have z1 : (bs [32, 124, 32]).size = 3 := rfl
  have z2 : (bs [32, 45, 62, 32]).size = 4 := rfl
  have c2 : Clk (bs [32, 45, 62, 32]) 2 := AH _ _ (by decide)
  have hs1 : Clk (if 0 < i then s ++ bs [32, 124, 32] else s) (c0 + if 0 < i then 2 else 0) ∧ (if 0 < i then s ++ bs [32, 124, 32] else s).size ≤ s.size + 3 := by
   split
   ·exact ⟨hs.app (AH _ 2 (by decide)), by rw [ByteArray.size_append]; omega⟩
   ·exact ⟨hs, by omega⟩
  obtain ⟨hs1, hs2⟩ := hs1
  rw [J3, hT0]
  generalize (if 0 < i then s ++ bs [32, 124, 32] else s) = s1 at *
  obtain ⟨A1, A2⟩ := AaP ih r ks (s1 ++ J5 q ++ bs [32, 45, 62, 32] ++ exS l f a) (i + 1) _ m e T (((hs1.app p1).app c2).app g1) hk (by simpa using hl) (fun j => by rw [show i + 1 + 1 + j = i + 1 + (j + 1) by omega, hT (j + 1)]; rfl) (fun q hq' => hq q (by simp [hq']))
  refine ⟨A1.to ?_, ?_⟩
  ·have e3 : k.toNat = a := by rw [e1]; rfl
   simp only [List.map_cons, List.sum_cons, Di, List.length_cons, e3, if_pos (Nat.succ_pos i)]
   split
   ·omega
   ·rw [if_neg (Nat.succ_ne_zero _)]; omega
  ·simp only [ByteArray.size_append] at A2
   simp only [List.map_cons, List.sum_cons]
   omega
theorem VX {l : List Node} {n : Node} (h : AE BC l n = true) : n.kind = 1 ∨ n.kind = 2 ∨ n.kind = 3 ∨ n.kind = 4 ∨ n.kind = 5 ∨ n.kind = 6 ∨ n.kind = 7 ∨ n.kind = 8 ∨ n.kind = 9 ∨ n.kind = 10 ∨ n.kind = 11 ∨ n.kind = 12 ∨ n.kind = 13 ∨ n.kind = 14 ∨ n.kind = 15 ∨ n.kind = 16 ∨ n.kind = 17 ∨ n.kind = 18 ∨ n.kind = 19 := by
 unfold AE at h
 repeat' (split at h)
 all_goals first | omega | cases h
theorem AdG {p : Program} (hb : Bv p = true) {f : Nat} (ih : ∀ i e, B9 (Aq p.nodes) p.nodes.length f i = some e → Clk (exS p.nodes f i) (spT (Al p.nodes i)) ∧ (exS p.nodes f i).size + Ct p.nodes i ≤ Ct p.nodes e) {i e : Nat} (hE : B9 (Aq p.nodes) p.nodes.length (f + 1) i = some e) :
  Clk (exS p.nodes (f + 1) i) (spT (Al p.nodes i)) ∧ (exS p.nodes (f + 1) i).size + Ct p.nodes i ≤ Ct p.nodes e := by
 obtain ⟨g, hg, hi, h⟩ := EN hE
 cases hg
 simp only [Bv, GX, Bool.and_eq_true, decide_eq_true_eq, List.all_eq_true] at hb
 obtain ⟨⟨⟨⟨⟨_, _⟩, h3⟩, h4⟩, _⟩, h6⟩ := hb
 have hk : ∀ i, i < p.nodes.length → ∀ k ∈ Aq p.nodes i, (i : Int) < k ∧ k < p.nodes.length := fun i hi k hk => Ef h3 hi hk
 have hmem : ∀ i, i < p.nodes.length → p.nodes.getD i default ∈ p.nodes := fun i hi => by simp [List.getD_eq_getElem?_getD, hi]
 have hn : ∀ i, i < p.nodes.length → AE BC p.nodes (p.nodes.getD i default) = true := fun i hi => h4 _ (hmem i hi)
 have hn0 := hn i hi
 have hpat := h6 _ (hmem i hi)
 have hs := Np hi
 have hK : Aq p.nodes i = (p.nodes.getD i default).kids := rfl
 generalize hN : p.nodes.getD i default = n at *
 have hA := OS hn0
 have hname : (n.kind = 3 ∨ n.kind = 5 ∨ n.kind = 7 ∨ n.kind = 15 ∨ n.kind = 8) → EC n.s = true := fun hh => by
  unfold AE at hn0
  split at hn0
  ·cases hn0
  ·rcases hh with hh | hh | hh | hh | hh <;> simp [hh, BC] at hn0
   ·exact hn0.1
   ·exact hn0.1
   ·exact hn0.1
   ·exact hn0.1
   ·exact hn0.1.1
 have hrec : n.kind = 8 → Ax p.nodes n.kids 5 = true := fun hh => by
  unfold AE at hn0
  split at hn0
  ·cases hn0
  ·simp [hh] at hn0; exact hn0.2
 have hop : n.kind = 10 → (opsL.any fun x => decide (n.s = x)) = true := fun hh => by
  unfold AE at hn0
  split at hn0
  ·cases hn0
  ·simpa [hh] using hn0
 have hcon : n.kind = 4 → FT n.s n.kids.length (Ay Node.kind p.nodes n.kids 11) = true := fun hh => by
  unfold AE at hn0
  split at hn0
  ·cases hn0
  ·simpa [hh] using hn0
 have hmatch : n.kind = 13 → 1 ≤ n.Ae.length ∧ n.kids.length = n.Ae.length + 1 := fun hh => by
  unfold AE at hn0
  split at hn0
  ·cases hn0
  ·simp [hh] at hn0; omega
 have case5 : n.kind = 5 → Clk (exS p.nodes (f + 1) i) (spT (Al p.nodes i)) ∧ (exS p.nodes (f + 1) i).size + Ct p.nodes i ≤ Ct p.nodes e := fun h5 => by
  have z0 : (bs [40, 102, 117, 110, 32]).size = 5 := rfl
  have z1 : (bs [32, 45, 62, 32]).size = 4 := rfl
  have z2 : (bs [41]).size = 1 := rfl
  have hl : (Aq p.nodes i).length = 1 := by have := hA (by rw [h5]; decide); rw [h5, hK] at *; exact Int.ofNat_inj.1 this
  have hw : W0 n.s := W0.name (hname (by omega))
  obtain ⟨e1, e2⟩ := G5 h hl
  obtain ⟨q0, y0⟩ := ih (i + 1) e e2
  have f0 : ((Aq p.nodes i).getD 0 0).toNat = i + 1 := by rw [e1]; rfl
  have ht : Al p.nodes i = .mk n [Al p.nodes (i + 1)] := by rw [BP hk hi, hN, e1]; rfl
  have hc : spN n 1 = 3 := by unfold spN; simp [h5]
  rw [ht, spT]
  simp only [Di, List.length_cons, List.length_nil, Nat.zero_add, Nat.reduceAdd, hc]
  rw [exS, hN]
  simp only [exN, h5, Int.reduceEq, if_true, if_false, f0]
  refine ⟨(((((AH _ 1 (by decide)).app hw.clk).app (AH _ 2 (by decide))).app q0).app (AH _ 0 (by decide))).to (by omega), ?_⟩
  simp only [ByteArray.size_append]
  omega
 have case14 : n.kind = 14 → Clk (exS p.nodes (f + 1) i) (spT (Al p.nodes i)) ∧ (exS p.nodes (f + 1) i).size + Ct p.nodes i ≤ Ct p.nodes e := fun h14 => by
  have z0 : (bs [40, 114, 97, 105, 115, 101, 32]).size = 7 := rfl
  have z1 : (bs [41]).size = 1 := rfl
  have hl : (Aq p.nodes i).length = 1 := by have := hA (by rw [h14]; decide); rw [h14, hK] at *; exact Int.ofNat_inj.1 this
  obtain ⟨e1, e2⟩ := G5 h hl
  obtain ⟨q0, y0⟩ := ih (i + 1) e e2
  have f0 : ((Aq p.nodes i).getD 0 0).toNat = i + 1 := by rw [e1]; rfl
  have ht : Al p.nodes i = .mk n [Al p.nodes (i + 1)] := by rw [BP hk hi, hN, e1]; rfl
  have hc : spN n 1 = 1 := by unfold spN; simp [h14]
  rw [ht, spT]
  simp only [Di, List.length_cons, List.length_nil, Nat.zero_add, Nat.reduceAdd, hc]
  rw [exS, hN]
  simp only [exN, h14, Int.reduceEq, if_true, if_false, f0]
  refine ⟨(((AH _ 1 (by decide)).app q0).app (AH _ 0 (by decide))).to (by omega), ?_⟩
  simp only [ByteArray.size_append]
  omega
 have case16 : n.kind = 16 → Clk (exS p.nodes (f + 1) i) (spT (Al p.nodes i)) ∧ (exS p.nodes (f + 1) i).size + Ct p.nodes i ≤ Ct p.nodes e := fun h16 => by
  have z0 : (bs [40, 114, 101, 102, 32]).size = 5 := rfl
  have z1 : (bs [41]).size = 1 := rfl
  have hl : (Aq p.nodes i).length = 1 := by have := hA (by rw [h16]; decide); rw [h16, hK] at *; exact Int.ofNat_inj.1 this
  obtain ⟨e1, e2⟩ := G5 h hl
  obtain ⟨q0, y0⟩ := ih (i + 1) e e2
  have f0 : ((Aq p.nodes i).getD 0 0).toNat = i + 1 := by rw [e1]; rfl
  have ht : Al p.nodes i = .mk n [Al p.nodes (i + 1)] := by rw [BP hk hi, hN, e1]; rfl
  have hc : spN n 1 = 1 := by unfold spN; simp [h16]
  rw [ht, spT]
  simp only [Di, List.length_cons, List.length_nil, Nat.zero_add, Nat.reduceAdd, hc]
  rw [exS, hN]
  simp only [exN, h16, Int.reduceEq, if_true, if_false, f0]
  refine ⟨(((AH _ 1 (by decide)).app q0).app (AH _ 0 (by decide))).to (by omega), ?_⟩
  simp only [ByteArray.size_append]
  omega
 have case17 : n.kind = 17 → Clk (exS p.nodes (f + 1) i) (spT (Al p.nodes i)) ∧ (exS p.nodes (f + 1) i).size + Ct p.nodes i ≤ Ct p.nodes e := fun h17 => by
  have z0 : (bs [40, 33, 32]).size = 3 := rfl
  have z1 : (bs [41]).size = 1 := rfl
  have hl : (Aq p.nodes i).length = 1 := by have := hA (by rw [h17]; decide); rw [h17, hK] at *; exact Int.ofNat_inj.1 this
  obtain ⟨e1, e2⟩ := G5 h hl
  obtain ⟨q0, y0⟩ := ih (i + 1) e e2
  have f0 : ((Aq p.nodes i).getD 0 0).toNat = i + 1 := by rw [e1]; rfl
  have ht : Al p.nodes i = .mk n [Al p.nodes (i + 1)] := by rw [BP hk hi, hN, e1]; rfl
  have hc : spN n 1 = 1 := by unfold spN; simp [h17]
  rw [ht, spT]
  simp only [Di, List.length_cons, List.length_nil, Nat.zero_add, Nat.reduceAdd, hc]
  rw [exS, hN]
  simp only [exN, h17, Int.reduceEq, if_true, if_false, f0]
  refine ⟨(((AH _ 1 (by decide)).app q0).app (AH _ 0 (by decide))).to (by omega), ?_⟩
  simp only [ByteArray.size_append]
  omega
 have case7 : n.kind = 7 → Clk (exS p.nodes (f + 1) i) (spT (Al p.nodes i)) ∧ (exS p.nodes (f + 1) i).size + Ct p.nodes i ≤ Ct p.nodes e := fun h7 => by
  have z0 : (bs [40, 108, 101, 116, 32]).size = 5 := rfl
  have z1 : (bs [32, 61, 32]).size = 3 := rfl
  have z2 : (bs [32, 105, 110, 32]).size = 4 := rfl
  have z3 : (bs [41]).size = 1 := rfl
  have hl : (Aq p.nodes i).length = 2 := by have := hA (by rw [h7]; decide); rw [h7, hK] at *; exact Int.ofNat_inj.1 this
  have hw : W0 n.s := W0.name (hname (by omega))
  obtain ⟨c, e1, e2, e3⟩ := DF h hl
  obtain ⟨q0, y0⟩ := ih (i + 1) c e2
  obtain ⟨q1, y1⟩ := ih c e e3
  have f0 : ((Aq p.nodes i).getD 0 0).toNat = i + 1 := by rw [e1]; rfl
  have f1 : ((Aq p.nodes i).getD 1 0).toNat = c := by rw [e1]; rfl
  have ht : Al p.nodes i = .mk n [Al p.nodes (i + 1), Al p.nodes c] := by rw [BP hk hi, hN, e1]; rfl
  have hc : spN n 2 = 5 := by unfold spN; simp [h7]
  rw [ht, spT]
  simp only [Di, List.length_cons, List.length_nil, Nat.zero_add, Nat.reduceAdd, hc]
  rw [exS, hN]
  simp only [exN, h7, Int.reduceEq, if_true, if_false, f0, f1]
  refine ⟨(((((((AH _ 1 (by decide)).app hw.clk).app (AH _ 2 (by decide))).app q0).app (AH _ 2 (by decide))).app q1).app (AH _ 0 (by decide))).to (by omega), ?_⟩
  simp only [ByteArray.size_append]
  omega
 have case10 : n.kind = 10 → Clk (exS p.nodes (f + 1) i) (spT (Al p.nodes i)) ∧ (exS p.nodes (f + 1) i).size + Ct p.nodes i ≤ Ct p.nodes e := fun h10 => by
  have z0 : (bs [40]).size = 1 := rfl
  have z1 : (bs [32]).size = 1 := rfl
  have z2 : (bs [41]).size = 1 := rfl
  have hl : (Aq p.nodes i).length = 2 := by have := hA (by rw [h10]; decide); rw [h10, hK] at *; exact Int.ofNat_inj.1 this
  have hw : W0 n.s := W0.op (hop h10)
  obtain ⟨c, e1, e2, e3⟩ := DF h hl
  obtain ⟨q0, y0⟩ := ih (i + 1) c e2
  obtain ⟨q1, y1⟩ := ih c e e3
  have f0 : ((Aq p.nodes i).getD 0 0).toNat = i + 1 := by rw [e1]; rfl
  have f1 : ((Aq p.nodes i).getD 1 0).toNat = c := by rw [e1]; rfl
  have ht : Al p.nodes i = .mk n [Al p.nodes (i + 1), Al p.nodes c] := by rw [BP hk hi, hN, e1]; rfl
  have hc : spN n 2 = 2 := by unfold spN; simp [h10]
  rw [ht, spT]
  simp only [Di, List.length_cons, List.length_nil, Nat.zero_add, Nat.reduceAdd, hc]
  rw [exS, hN]
  simp only [exN, h10, Int.reduceEq, if_true, if_false, f0, f1]
  refine ⟨(((((((AH _ 0 (by decide)).app q0).app (AH _ 1 (by decide))).app hw.clk).app (AH _ 1 (by decide))).app q1).app (AH _ 0 (by decide))).to (by omega), ?_⟩
  simp only [ByteArray.size_append]
  omega
 have case11 : n.kind = 11 → Clk (exS p.nodes (f + 1) i) (spT (Al p.nodes i)) ∧ (exS p.nodes (f + 1) i).size + Ct p.nodes i ≤ Ct p.nodes e := fun h11 => by
  have z0 : (bs [40]).size = 1 := rfl
  have z1 : (bs [44, 32]).size = 2 := rfl
  have z2 : (bs [41]).size = 1 := rfl
  have hl : (Aq p.nodes i).length = 2 := by have := hA (by rw [h11]; decide); rw [h11, hK] at *; exact Int.ofNat_inj.1 this
  obtain ⟨c, e1, e2, e3⟩ := DF h hl
  obtain ⟨q0, y0⟩ := ih (i + 1) c e2
  obtain ⟨q1, y1⟩ := ih c e e3
  have f0 : ((Aq p.nodes i).getD 0 0).toNat = i + 1 := by rw [e1]; rfl
  have f1 : ((Aq p.nodes i).getD 1 0).toNat = c := by rw [e1]; rfl
  have ht : Al p.nodes i = .mk n [Al p.nodes (i + 1), Al p.nodes c] := by rw [BP hk hi, hN, e1]; rfl
  have hc : spN n 2 = 1 := by unfold spN; simp [h11]
  rw [ht, spT]
  simp only [Di, List.length_cons, List.length_nil, Nat.zero_add, Nat.reduceAdd, hc]
  rw [exS, hN]
  simp only [exN, h11, Int.reduceEq, if_true, if_false, f0, f1]
  refine ⟨(((((AH _ 0 (by decide)).app q0).app (AH _ 1 (by decide))).app q1).app (AH _ 0 (by decide))).to (by omega), ?_⟩
  simp only [ByteArray.size_append]
  omega
 have case15 : n.kind = 15 → Clk (exS p.nodes (f + 1) i) (spT (Al p.nodes i)) ∧ (exS p.nodes (f + 1) i).size + Ct p.nodes i ≤ Ct p.nodes e := fun h15 => by
  have z0 : (bs [40, 116, 114, 121, 32]).size = 5 := rfl
  have z1 : (bs [32, 119, 105, 116, 104, 32]).size = 6 := rfl
  have z2 : (bs [32, 45, 62, 32]).size = 4 := rfl
  have z3 : (bs [32, 101, 110, 100, 41]).size = 5 := rfl
  have hl : (Aq p.nodes i).length = 2 := by have := hA (by rw [h15]; decide); rw [h15, hK] at *; exact Int.ofNat_inj.1 this
  have hw : W0 n.s := W0.name (hname (by omega))
  obtain ⟨c, e1, e2, e3⟩ := DF h hl
  obtain ⟨q0, y0⟩ := ih (i + 1) c e2
  obtain ⟨q1, y1⟩ := ih c e e3
  have f0 : ((Aq p.nodes i).getD 0 0).toNat = i + 1 := by rw [e1]; rfl
  have f1 : ((Aq p.nodes i).getD 1 0).toNat = c := by rw [e1]; rfl
  have ht : Al p.nodes i = .mk n [Al p.nodes (i + 1), Al p.nodes c] := by rw [BP hk hi, hN, e1]; rfl
  have hc : spN n 2 = 6 := by unfold spN; simp [h15]
  rw [ht, spT]
  simp only [Di, List.length_cons, List.length_nil, Nat.zero_add, Nat.reduceAdd, hc]
  rw [exS, hN]
  simp only [exN, h15, Int.reduceEq, if_true, if_false, f0, f1]
  refine ⟨(((((((AH _ 1 (by decide)).app q0).app (AH _ 2 (by decide))).app hw.clk).app (AH _ 2 (by decide))).app q1).app (AH _ 1 (by decide))).to (by omega), ?_⟩
  simp only [ByteArray.size_append]
  omega
 have case18 : n.kind = 18 → Clk (exS p.nodes (f + 1) i) (spT (Al p.nodes i)) ∧ (exS p.nodes (f + 1) i).size + Ct p.nodes i ≤ Ct p.nodes e := fun h18 => by
  have z0 : (bs [40]).size = 1 := rfl
  have z1 : (bs [32, 58, 61, 32]).size = 4 := rfl
  have z2 : (bs [41]).size = 1 := rfl
  have hl : (Aq p.nodes i).length = 2 := by have := hA (by rw [h18]; decide); rw [h18, hK] at *; exact Int.ofNat_inj.1 this
  obtain ⟨c, e1, e2, e3⟩ := DF h hl
  obtain ⟨q0, y0⟩ := ih (i + 1) c e2
  obtain ⟨q1, y1⟩ := ih c e e3
  have f0 : ((Aq p.nodes i).getD 0 0).toNat = i + 1 := by rw [e1]; rfl
  have f1 : ((Aq p.nodes i).getD 1 0).toNat = c := by rw [e1]; rfl
  have ht : Al p.nodes i = .mk n [Al p.nodes (i + 1), Al p.nodes c] := by rw [BP hk hi, hN, e1]; rfl
  have hc : spN n 2 = 2 := by unfold spN; simp [h18]
  rw [ht, spT]
  simp only [Di, List.length_cons, List.length_nil, Nat.zero_add, Nat.reduceAdd, hc]
  rw [exS, hN]
  simp only [exN, h18, Int.reduceEq, if_true, if_false, f0, f1]
  refine ⟨(((((AH _ 0 (by decide)).app q0).app (AH _ 2 (by decide))).app q1).app (AH _ 0 (by decide))).to (by omega), ?_⟩
  simp only [ByteArray.size_append]
  omega
 have case19 : n.kind = 19 → Clk (exS p.nodes (f + 1) i) (spT (Al p.nodes i)) ∧ (exS p.nodes (f + 1) i).size + Ct p.nodes i ≤ Ct p.nodes e := fun h19 => by
  have z0 : (bs [40]).size = 1 := rfl
  have z1 : (bs [59, 32]).size = 2 := rfl
  have z2 : (bs [41]).size = 1 := rfl
  have hl : (Aq p.nodes i).length = 2 := by have := hA (by rw [h19]; decide); rw [h19, hK] at *; exact Int.ofNat_inj.1 this
  obtain ⟨c, e1, e2, e3⟩ := DF h hl
  obtain ⟨q0, y0⟩ := ih (i + 1) c e2
  obtain ⟨q1, y1⟩ := ih c e e3
  have f0 : ((Aq p.nodes i).getD 0 0).toNat = i + 1 := by rw [e1]; rfl
  have f1 : ((Aq p.nodes i).getD 1 0).toNat = c := by rw [e1]; rfl
  have ht : Al p.nodes i = .mk n [Al p.nodes (i + 1), Al p.nodes c] := by rw [BP hk hi, hN, e1]; rfl
  have hc : spN n 2 = 1 := by unfold spN; simp [h19]
  rw [ht, spT]
  simp only [Di, List.length_cons, List.length_nil, Nat.zero_add, Nat.reduceAdd, hc]
  rw [exS, hN]
  simp only [exN, h19, Int.reduceEq, if_true, if_false, f0, f1]
  refine ⟨(((((AH _ 0 (by decide)).app q0).app (AH _ 1 (by decide))).app q1).app (AH _ 0 (by decide))).to (by omega), ?_⟩
  simp only [ByteArray.size_append]
  omega
 have case9 : n.kind = 9 → Clk (exS p.nodes (f + 1) i) (spT (Al p.nodes i)) ∧ (exS p.nodes (f + 1) i).size + Ct p.nodes i ≤ Ct p.nodes e := fun h9 => by
  have z0 : (bs [40, 105, 102, 32]).size = 4 := rfl
  have z1 : (bs [32, 116, 104, 101, 110, 32]).size = 6 := rfl
  have z2 : (bs [32, 101, 108, 115, 101, 32]).size = 6 := rfl
  have z3 : (bs [41]).size = 1 := rfl
  have hl : (Aq p.nodes i).length = 3 := by have := hA (by rw [h9]; decide); rw [h9, hK] at *; exact Int.ofNat_inj.1 this
  obtain ⟨c, d, e1, e2, e3, e4⟩ := Aff h hl
  obtain ⟨q0, y0⟩ := ih (i + 1) c e2
  obtain ⟨q1, y1⟩ := ih c d e3
  obtain ⟨q2, y2⟩ := ih d e e4
  have f0 : ((Aq p.nodes i).getD 0 0).toNat = i + 1 := by rw [e1]; rfl
  have f1 : ((Aq p.nodes i).getD 1 0).toNat = c := by rw [e1]; rfl
  have f2 : ((Aq p.nodes i).getD 2 0).toNat = d := by rw [e1]; rfl
  have ht : Al p.nodes i = .mk n [Al p.nodes (i + 1), Al p.nodes c, Al p.nodes d] := by rw [BP hk hi, hN, e1]; rfl
  have hc : spN n 3 = 5 := by unfold spN; simp [h9]
  rw [ht, spT]
  simp only [Di, List.length_cons, List.length_nil, Nat.zero_add, Nat.reduceAdd, hc]
  rw [exS, hN]
  simp only [exN, h9, Int.reduceEq, if_true, if_false, f0, f1, f2]
  refine ⟨(((((((AH _ 1 (by decide)).app q0).app (AH _ 2 (by decide))).app q1).app (AH _ 2 (by decide))).app q2).app (AH _ 0 (by decide))).to (by omega), ?_⟩
  simp only [ByteArray.size_append]
  omega
 have case6 : n.kind = 6 → Clk (exS p.nodes (f + 1) i) (spT (Al p.nodes i)) ∧ (exS p.nodes (f + 1) i).size + Ct p.nodes i ≤ Ct p.nodes e := fun h6 => by
  have z0 : (bs [40, 40]).size = 2 := rfl
  have z1 : (bs [41, 32]).size = 2 := rfl
  have z2 : (bs [41]).size = 1 := rfl
  have z3 : (bs [40]).size = 1 := rfl
  have z4 : (bs [32]).size = 1 := rfl
  have hl : (Aq p.nodes i).length = 2 := by have := hA (by rw [h6]; decide); rw [h6, hK] at *; exact Int.ofNat_inj.1 this
  obtain ⟨c, e1, e2, e3⟩ := DF h hl
  obtain ⟨q0, y0⟩ := ih (i + 1) c e2
  obtain ⟨q1, y1⟩ := ih c e e3
  have f0 : ((Aq p.nodes i).getD 0 0).toNat = i + 1 := by rw [e1]; rfl
  have f1 : ((Aq p.nodes i).getD 1 0).toNat = c := by rw [e1]; rfl
  have ht : Al p.nodes i = .mk n [Al p.nodes (i + 1), Al p.nodes c] := by rw [BP hk hi, hN, e1]; rfl
  have hc : spN n 2 = 1 := by unfold spN; simp [h6]
  rw [ht, spT]
  simp only [Di, List.length_cons, List.length_nil, Nat.zero_add, Nat.reduceAdd, hc]
  rw [exS, hN]
  simp only [exN, h6, Int.reduceEq, if_true, if_false, f0, f1]
  split
  ·refine ⟨(((((AH _ 0 (by decide)).app q0).app (AH _ 1 (by decide))).app q1).app (AH _ 0 (by decide))).to (by omega), ?_⟩
   simp only [ByteArray.size_append]
   omega
  ·refine ⟨(((((AH _ 0 (by decide)).app q0).app (AH _ 1 (by decide))).app q1).app (AH _ 0 (by decide))).to (by omega), ?_⟩
   simp only [ByteArray.size_append]
   omega
 have case8 : n.kind = 8 → Clk (exS p.nodes (f + 1) i) (spT (Al p.nodes i)) ∧ (exS p.nodes (f + 1) i).size + Ct p.nodes i ≤ Ct p.nodes e := fun h8 => by
  have z0 : (bs [40, 108, 101, 116, 32, 114, 101, 99, 32]).size = 9 := rfl
  have z1 : (bs [32]).size = 1 := rfl
  have z2 : (bs [32, 61, 32]).size = 3 := rfl
  have z3 : (bs [32, 105, 110, 32]).size = 4 := rfl
  have z4 : (bs [41]).size = 1 := rfl
  have hl : (Aq p.nodes i).length = 2 := by have := hA (by rw [h8]; decide); rw [h8, hK] at *; exact Int.ofNat_inj.1 this
  have hw : W0 n.s := W0.name (hname (by omega))
  obtain ⟨c, e1, e2, e3⟩ := DF h hl
  obtain ⟨q0, y0⟩ := ih (i + 1) c e2
  obtain ⟨q1, y1⟩ := ih c e e3
  have f0 : ((Aq p.nodes i).getD 0 0).toNat = i + 1 := by rw [e1]; rfl
  have f1 : ((Aq p.nodes i).getD 1 0).toNat = c := by rw [e1]; rfl
  have ht : Al p.nodes i = .mk n [Al p.nodes (i + 1), Al p.nodes c] := by rw [BP hk hi, hN, e1]; rfl
  have hc : spN n 2 = 4 := by unfold spN; simp [h8]
  rw [ht, spT]
  simp only [Di, List.length_cons, List.length_nil, Nat.zero_add, Nat.reduceAdd, hc]
  obtain ⟨g, hg, hi2, hk2⟩ := EN e2
  subst hg
  have hk5 : (p.nodes.getD (i + 1) default).kind = 5 := by
   have := hrec h8
   rw [← hK, e1] at this
   simp only [Ax, Bool.and_eq_true, decide_eq_true_eq] at this
   simpa using this.2
  obtain ⟨n1, n2, n3⟩ := node5 (hn _ hi2) hk5
  obtain ⟨e5, e6⟩ := G5 hk2 n1
  obtain ⟨x0, x1⟩ := ih (i + 1 + 1) c (Em _ _ _ _ _ e6)
  have hs2 := Np hi2
  have hf : W0 (p.nodes.getD (i + 1) default).s := W0.name n2
  have g0 : ((Aq p.nodes (i + 1)).getD 0 0).toNat = i + 1 + 1 := by rw [e5]; rfl
  have ht2 : Al p.nodes (i + 1) = .mk (p.nodes.getD (i + 1) default) [Al p.nodes (i + 1 + 1)] := by rw [BP hk hi2, e5]; rfl
  have hc2 : spN (p.nodes.getD (i + 1) default) 1 = 3 := by unfold spN; simp only [hk5, Int.reduceEq, if_true, if_false]
  rw [ht2, spT]
  simp only [Di, List.length_cons, List.length_nil, Nat.zero_add, hc2]
  rw [exS, hN]
  simp only [exN, h8, Int.reduceEq, if_true, if_false, f0, f1, g0]
  refine ⟨(((((((((AH _ 2 (by decide)).app hw.clk).app (AH _ 1 (by decide))).app hf.clk).app (AH _ 2 (by decide))).app x0).app (AH _ 2 (by decide))).app q1).app (AH _ 0 (by decide))).to (by omega), ?_⟩
  simp only [ByteArray.size_append]
  omega
 have case4 : n.kind = 4 → Clk (exS p.nodes (f + 1) i) (spT (Al p.nodes i)) ∧ (exS p.nodes (f + 1) i).size + Ct p.nodes i ≤ Ct p.nodes e := fun h4 => by
  have z0 : (bs [40]).size = 1 := rfl
  have z1 : (bs [32, 58, 58, 32]).size = 4 := rfl
  have z2 : (bs [41]).size = 1 := rfl
  have z3 : (bs [32]).size = 1 := rfl
  have hcon := hcon h4
  have hw := W0.con hcon
  rw [exS, hN]
  simp only [exN, h4, Int.reduceEq, if_true, if_false, ← hK]
  split
  ·rename_i h0
   have e1 := List.eq_nil_of_length_eq_zero h0
   rw [e1, BR] at h
   cases h
   have ht : Al p.nodes i = .mk n [] := by rw [BP hk hi, hN, e1]; rfl
   have hc : spN n 0 = 0 := by unfold spN; simp [h4]
   rw [ht, spT, Di, List.length_nil, hc]
   exact ⟨hw.clk, by omega⟩
  ·rename_i h0
   have hl : (Aq p.nodes i).length = 1 := by have := Mg hcon; rw [← hK] at this; omega
   obtain ⟨e1, e2⟩ := G5 h hl
   obtain ⟨q0, y0⟩ := ih (i + 1) e e2
   have f0 : ((Aq p.nodes i).getD 0 0).toNat = i + 1 := by rw [e1]; rfl
   have ht : Al p.nodes i = .mk n [Al p.nodes (i + 1)] := by rw [BP hk hi, hN, e1]; rfl
   have hc : spN n 1 = 1 := by unfold spN; simp [h4]
   rw [ht, spT]
   simp only [Di, List.length_cons, List.length_nil, Nat.zero_add, hc, f0]
   split
   ·rename_i hcc
    rw [hcc, Hu, ← hK, e1] at hcon
    obtain ⟨g, hg, hi2, hk2⟩ := EN e2
    subst hg
    have hk5 : (p.nodes.getD (i + 1) default).kind = 11 := by
     simp only [Ay, Bool.and_eq_true, decide_eq_true_eq] at hcon
     simpa using hcon.2.2
    have n1 := Adc (hn _ hi2) hk5
    obtain ⟨c, e5, e6, e7⟩ := DF hk2 n1
    obtain ⟨x0, x1⟩ := ih (i + 1 + 1) c (Em _ _ _ _ _ e6)
    obtain ⟨x2, x3⟩ := ih c e (Em _ _ _ _ _ e7)
    have hs2 := Np hi2
    have g0 : ((Aq p.nodes (i + 1)).getD 0 0).toNat = i + 1 + 1 := by rw [e5]; rfl
    have g1 : ((Aq p.nodes (i + 1)).getD 1 0).toNat = c := by rw [e5]; rfl
    have ht2 : Al p.nodes (i + 1) = .mk (p.nodes.getD (i + 1) default) [Al p.nodes (i + 1 + 1), Al p.nodes c] := by rw [BP hk hi2, e5]; rfl
    have hc2 : spN (p.nodes.getD (i + 1) default) 2 = 1 := by unfold spN; simp only [hk5, Int.reduceEq, if_true, if_false]
    rw [ht2, spT]
    simp only [Di, List.length_cons, List.length_nil, Nat.zero_add, Nat.reduceAdd, hc2, g0, g1]
    refine ⟨(((((AH _ 0 (by decide)).app x0).app (AH _ 2 (by decide))).app x2).app (AH _ 0 (by decide))).to (by omega), ?_⟩
    simp only [ByteArray.size_append]
    omega
   ·refine ⟨(((((AH _ 0 (by decide)).app hw.clk).app (AH _ 1 (by decide))).app q0).app (AH _ 0 (by decide))).to (by omega), ?_⟩
    simp only [ByteArray.size_append]
    omega
 have case1 : n.kind = 1 → Clk (exS p.nodes (f + 1) i) (spT (Al p.nodes i)) ∧ (exS p.nodes (f + 1) i).size + Ct p.nodes i ≤ Ct p.nodes e := fun h1 => by
  have e1 := List.eq_nil_of_length_eq_zero (show (Aq p.nodes i).length = 0 by have := hA (by rw [h1]; decide); rw [h1, hK] at *; exact Int.ofNat_inj.1 this)
  rw [e1, BR] at h
  cases h
  have ht : Al p.nodes i = .mk n [] := by rw [BP hk hi, hN, e1]; rfl
  have hc : spN n 0 = 0 := by unfold spN; simp [h1]
  rw [ht, spT, Di, List.length_nil, hc, exS, hN]
  simp only [exN, h1, Int.reduceEq, if_true, if_false]
  have := OR n.n
  exact ⟨AaC _, by omega⟩
 have case2 : n.kind = 2 → Clk (exS p.nodes (f + 1) i) (spT (Al p.nodes i)) ∧ (exS p.nodes (f + 1) i).size + Ct p.nodes i ≤ Ct p.nodes e := fun h2 => by
  have e1 := List.eq_nil_of_length_eq_zero (show (Aq p.nodes i).length = 0 by have := hA (by rw [h2]; decide); rw [h2, hK] at *; exact Int.ofNat_inj.1 this)
  rw [e1, BR] at h
  cases h
  have ht : Al p.nodes i = .mk n [] := by rw [BP hk hi, hN, e1]; rfl
  have hc : spN n 0 = 0 := by unfold spN; simp [h2]
  rw [ht, spT, Di, List.length_nil, hc, exS, hN]
  simp only [exN, h2, Int.reduceEq, if_true, if_false]
  have := U2 n.s
  exact ⟨Ab2 _, by omega⟩
 have case3 : n.kind = 3 → Clk (exS p.nodes (f + 1) i) (spT (Al p.nodes i)) ∧ (exS p.nodes (f + 1) i).size + Ct p.nodes i ≤ Ct p.nodes e := fun h3 => by
  have e1 := List.eq_nil_of_length_eq_zero (show (Aq p.nodes i).length = 0 by have := hA (by rw [h3]; decide); rw [h3, hK] at *; exact Int.ofNat_inj.1 this)
  rw [e1, BR] at h
  cases h
  have ht : Al p.nodes i = .mk n [] := by rw [BP hk hi, hN, e1]; rfl
  have hc : spN n 0 = 0 := by unfold spN; simp [h3]
  rw [ht, spT, Di, List.length_nil, hc, exS, hN]
  simp only [exN, h3, Int.reduceEq, if_true, if_false]
  skip
  exact ⟨(W0.name (hname (by omega))).clk, by omega⟩
 have case12 : n.kind = 12 → Clk (exS p.nodes (f + 1) i) (spT (Al p.nodes i)) ∧ (exS p.nodes (f + 1) i).size + Ct p.nodes i ≤ Ct p.nodes e := fun h12 => by
  have e1 := List.eq_nil_of_length_eq_zero (show (Aq p.nodes i).length = 0 by have := hA (by rw [h12]; decide); rw [h12, hK] at *; exact Int.ofNat_inj.1 this)
  rw [e1, BR] at h
  cases h
  have ht : Al p.nodes i = .mk n [] := by rw [BP hk hi, hN, e1]; rfl
  have hc : spN n 0 = 0 := by unfold spN; simp [h12]
  rw [ht, spT, Di, List.length_nil, hc, exS, hN]
  simp only [exN, h12, Int.reduceEq, if_true, if_false]
  have : (bs [40, 41]).size = 2 := rfl
  exact ⟨AH _ 0 (by decide), by omega⟩
 have case13 : n.kind = 13 → Clk (exS p.nodes (f + 1) i) (spT (Al p.nodes i)) ∧ (exS p.nodes (f + 1) i).size + Ct p.nodes i ≤ Ct p.nodes e := fun h13 => by
  have z0 : (bs [40, 109, 97, 116, 99, 104, 32]).size = 7 := rfl
  have z1 : (bs [32, 119, 105, 116, 104, 32]).size = 6 := rfl
  have z2 : (bs [32, 101, 110, 100, 41]).size = 5 := rfl
  obtain ⟨h1, h2⟩ := hmatch h13
  have hsum : ((n.Ae.map fun q => (J5 q).size + 7)).sum ≤ Ct p.nodes (i + 1) - Ct p.nodes i := by omega
  obtain ⟨k0, ks, e1⟩ : ∃ k0 ks, Aq p.nodes i = k0 :: ks := by
   cases hc : Aq p.nodes i with
   | nil => rw [← hK, hc] at h2; simp at h2
   | cons a b => exact ⟨a, b, rfl⟩
  rw [e1] at h
  obtain ⟨e2, c, e3, h⟩ := V0 h
  obtain ⟨q0, y0⟩ := ih (i + 1) c e3
  have hl : n.Ae.length = ks.length := by rw [← hK, e1] at h2; simpa using h2.symm
  have ht : Al p.nodes i = .mk n (Al p.nodes (i + 1) :: ks.map fun k => Al p.nodes k.toNat) := by rw [BP hk hi, hN, e1, e2]; rfl
  have A := fun s c0 hs => AaP (hq := hpat) ih n.Ae ks s 0 c0 c e (fun j => exS p.nodes f ((Aq p.nodes i).getD j 0).toNat) hs h hl (fun j => by rw [e1, show 0 + 1 + j = j + 1 by omega]; rfl)
  have f0 : ((Aq p.nodes i).getD 0 0).toNat = i + 1 := by rw [e1, e2]; rfl
  rw [ht, spT, exS, hN]
  have hc : spN n (Al p.nodes (i + 1) :: ks.map fun k => Al p.nodes k.toNat).length = 4 * n.Ae.length + 2 + (n.Ae.map fun q => sc 0 (bl (J5 q))).sum := by unfold spN; simp [h13]
  rw [hc, Di]
  simp only [exN, h13, Int.reduceEq, if_true, if_false, f0]
  obtain ⟨A1, A2⟩ := A _ _ (((AH [40, 109, 97, 116, 99, 104, 32] 1 (by decide)).app q0).app (AH [32, 119, 105, 116, 104, 32] 2 (by decide)))
  refine ⟨(A1.app (AH _ 1 (by decide))).to ?_, ?_⟩
  ·rw [if_neg (Nat.lt_irrefl 0), if_neg (show ¬ n.Ae.length = 0 by omega)]; omega
  ·simp only [ByteArray.size_append] at A2 ⊢
   omega
 rcases VX hn0 with h | h | h | h | h | h | h | h | h | h | h | h | h | h | h | h | h | h | h
 ·exact case1 h
 ·exact case2 h
 ·exact case3 h
 ·exact case4 h
 ·exact case5 h
 ·exact case6 h
 ·exact case7 h
 ·exact case8 h
 ·exact case9 h
 ·exact case10 h
 ·exact case11 h
 ·exact case12 h
 ·exact case13 h
 ·exact case14 h
 ·exact case15 h
 ·exact case16 h
 ·exact case17 h
 ·exact case18 h
 ·exact case19 h
theorem NC {p : Program} (hb : Bv p = true) : ∀ f i e, B9 (Aq p.nodes) p.nodes.length f i = some e → Clk (exS p.nodes f i) (spT (Al p.nodes i)) ∧ (exS p.nodes f i).size + Ct p.nodes i ≤ Ct p.nodes e
 | 0, i, e, h => by cases h
 | f + 1, i, e, h => AdG hb (NC hb f) h
end Go.Proofs.YtppjinmlfcokaaaGreat

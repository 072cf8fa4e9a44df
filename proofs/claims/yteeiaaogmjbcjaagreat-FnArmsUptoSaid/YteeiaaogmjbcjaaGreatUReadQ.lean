/-
 A PATTERN OF A PROGRAM THAT PARSES, DRAWN: l04Pats. NOT WHOLE YET.
-/
import Derived.Test.YteeiaaogmjbcjaaGreatUJ37
import Derived.Test.YteeiaaogmjbcjaaGreatUJ20
set_option linter.unusedVariables false
set_option linter.unusedSimpArgs false
set_option maxRecDepth 100000
namespace Go.Proofs.YteeiaaogmjbcjaaGreat
open Go.RowKit Go.Proofs.YteeiaaogmjbcjaaGreat.Av Go.Proofs.YteeiaaogmjbcjaaGreat.Ml
open Go.Proofs.YteeiaaogmjbcjaaGreat.Av.AVal (av)
open OVal (ov oh on)

def AcN (m : Nat) (T : Hp) (y : AV) : Prop := ∃ (K : Nat) (vs : Nat → Nat) (q : Pat), y = ov K vs q ∧ Bf T (oh K vs q) ∧ QOk m q
theorem XO {m : Nat} {T : Hp} {K : Nat} {vs : Nat → Nat} {l : List Pat} (h : Bf T (oh K vs l)) (hq : ∀ q ∈ l, QOk m q) : ∀ y ∈ ovL K vs 0 l, AcN m T y := fun y hy => by
 obtain ⟨j, hj, rfl⟩ := List.mem_iff_getElem.1 hy
 rw [Dv] at hj
 refine ⟨sub K j, vs, l[j], ?_, ?_, hq _ (List.getElem_mem hj)⟩
 ·have := Qk K vs l hj (d := .top)
  rw [List.getD_eq_getElem?_getD, List.getElem?_eq_getElem (by rw [Dv]; exact hj), Option.getD_some] at this
  exact this
 ·have h2 := Wl (nm := K) (vs := vs) hj
  exact AM.2 fun p hp => AM.1 h _ (QA (AM.1 h2 p hp))
theorem Aa4 {K : Nat} {vs : Nat → Nat} {l : List Pat} : ∀ hp, Unf hp → (ovL K vs 0 l).map (AV.pur hp) = ovL K vs 0 l := fun hp hu => by
 refine (List.map_congr_left fun y hy => ?_).trans (List.map_id _)
 obtain ⟨j, hj, rfl⟩ := List.mem_iff_getElem.1 hy
 have hj2 := hj
 rw [Dv] at hj2
 have := Qk K vs l hj2 (d := .top)
 rw [List.getD_eq_getElem?_getD, List.getElem?_eq_getElem hj, Option.getD_some] at this
 rw [this, UB]
 show AV.agg [AV.Bs hp (.row _ _ _)] = _
 rw [Vx hu]; rfl
theorem AaG (c : List UInt8) (v i : Nat) (h : Int) (hp : Hp) : Unf ((2000, Bp c v i h) :: hp) = Unf hp := propext ⟨fun g p hp' => g p (List.mem_cons_of_mem _ hp'), fun g p hp' => by
 rcases List.mem_cons.1 hp' with rfl | h'
 ·exact Aj c v i h
 ·exact g p h'⟩
theorem Yd {T : Hp} {l : List Nat} (h : Ud T) (hl : ∀ k ∈ l, k < 10000 := by decide) : BS l T = T := by
 unfold BS
 refine List.filter_eq_self.2 fun p hp => ?_
 have h1 := h p hp
 cases hc : l.contains p.1 with
 | false => rfl
 | true => have := hl _ (contains_iff.1 hc); omega
theorem O4 {K : Nat} {q : Pat} : ∀ k ∈ on K q, 10000 ≤ k := fun k h => by
 have h1 : InT (sub K 0) k := OVal.inn (sub K 0) q.nodes k h
 exact Nat.le_trans (BQ K 0) h1.le
def Xw (o : Option Box) (hp : Hp) (j v n : Nat) (ty : TypeId) (e b vk m : Nat) (F : AV → Hp → Prop) : Prop :=
 match o with
 | some bx => (bx.ver = vk ∧ m ≤ bx.es.length) ∧ KK (Aw hp j) hp j v n ty e b ((bx.es.take m).map (AV.pur hp)) F
 | none => False
theorem Aai {hp : Hp} (i j v n K vk m : Nat) (ty : TypeId) (e b : Nat) (F : AV → Hp → Prop) (h : Xw (Aw hp K) hp j v n ty e b vk m F) : IV hp i ty e b (.row j v n) (.row K vk m) F := by
 unfold Xw at h
 unfold IV L3 Ej
 cases hk : Aw hp K with
 | none => rw [hk] at h; exact h.elim
 | some bx =>
  rw [hk] at h
  obtain ⟨h1, h2⟩ := h
  unfold KK at h2
  dsimp only
  rw [hk]
  dsimp only
  rw [if_pos h1]
  cases hj : Aw hp j with
  | none => rw [hj] at h2; exact h2.elim
  | some bj =>
   rw [hj] at h2
   first | exact h2 | (rw [hj]; exact h2) | (dsimp only [Option.map]; rw [hj]; exact h2)
def Vq (c : List UInt8) (v : Nat) (r : AV) (hp' : Hp) : Prop := ∃ (q : Pat) (i : Nat) (h : Int), r = av q ∧ Dh c i h ∧ hp' = [(2000, Bp c v i h)] ∧ q.nodes.length ≤ 1210 ∧ ∀ x ∈ q.nodes, x.s.size ≤ 402 ∧ x.kids.length ≤ 3
theorem Ee {m : Nat} {q : Pat} {e : Px} (h : q.nodes = A2 0 e) (hw : PxW m e) : ∀ x ∈ q.nodes, x.s.size ≤ m ∧ x.kids.length ≤ 2 := by
 have key : ∀ t : Px, PxW m t → ∀ b, ∀ x ∈ A2 b t, x.s.size ≤ m ∧ x.kids.length ≤ 2 := Px.ind fun n ks ih hw b x hx => by
  cases hw with
  | mk _ _ h1 h2 h3 h4 h5 =>
   rw [A2] at hx
   rcases List.mem_cons.1 hx with rfl | hx
   ·exact ⟨h3, by rw [EN]; exact h4⟩
   ·have key2 : ∀ (l : List Px), (∀ k ∈ l, ∀ b, ∀ x ∈ A2 b k, x.s.size ≤ m ∧ x.kids.length ≤ 2) → ∀ b, ∀ x ∈ A3 b l, x.s.size ≤ m ∧ x.kids.length ≤ 2 := by
     intro l
     induction l with
     | nil => intro _ b x hx; rw [A3] at hx; cases hx
     | cons k l ih2 =>
      intro hl b x hx
      rw [A3] at hx
      rcases List.mem_append.1 hx with h | h
      ·exact hl k (by simp) b x h
      ·exact ih2 (fun k hk => hl k (by simp [hk])) _ x h
    exact key2 ks (fun k hk b x hx => ih k hk (h5 k hk) b x hx) _ x hx
 intro x hx
 rw [h] at hx
 exact key e hw 0 x hx
theorem Yf {K j : Nat} {b : Box} {vs : Nat → Nat} {q : Pat} {hp : Hp} (hj : j < 10000) (h : Bf hp (oh K vs q)) : Bf ((j, b) :: hp) (oh K vs q) := ZS (z := q.nodes) (nm := K) (i := 0) h hj
theorem Ex {q nm i : Nat} (hq : q < 10000) : (sub nm i == q) = false := beq_eq_false_iff_ne.2 fun e => by have := BQ nm i; omega
theorem K2 (l : List Int) : ∀ (ks : List Nat) {H : Hp} {k v ty esz : Nat} {z : Bool}, Aw H k = some ⟨v, z, ty, esz, l.map av⟩ → Aw (B9 ks H) k = some ⟨v, z || ks.contains k, ty, esz, l.map av⟩
 | [], H, k, v, ty, esz, z, h => by simpa [B9] using h
 | a :: r, H, k, v, ty, esz, z, h => by
  rw [B9]
  by_cases ha : a = k
  ·subst ha
   have h1 : Aw (GY H a) a = some ⟨v, true, ty, esz, l.map av⟩ := by
    unfold GY
    rw [h]
    simp only [Aw, if_true, Ab]
   rw [K2 l r h1]
   simp
  ·have h1 : Aw (GY H a) k = some ⟨v, z, ty, esz, l.map av⟩ := (Kr ha).trans h
   rw [K2 l r h1]
   simp [Ne.symm ha]
theorem Aa1 {H : Hp} {N vN : Nat} {l : List A0} {es : List AV} {ks : List Nat} (hN : Aw H N = some ⟨vN, false, 36, 4, es⟩) (hNk : N ∉ ks) (hes : es.length = l.length)
  (he : ∀ j (hj : j < l.length), ∃ k w, es[j]? = some (.agg [.int .i64 l[j].kind, .int .i64 l[j].n, .str l[j].s, .row k w l[j].kids.length]) ∧ k ∈ ks ∧ Aw H k = some ⟨w, false, 3, 1, l[j].kids.map av⟩) :
  AV.Bs (B9 (ks ++ [N]) H) (.row N vN l.length) = .sl (l.map av) := by
 rw [Kv]
 have h1 : Aw (B9 ks H) N = some ⟨vN, false, 36, 4, es⟩ := (Cl hNk).trans hN
 simp only [B9, GY, h1, AV.Bs, Aw, if_true]
 rw [if_pos (by simp [hes]), List.take_of_length_le (by rw [List.length_map, hes]; exact Nat.le_refl _)]
 congr 1
 refine List.ext_getElem? fun j => ?_
 rw [List.getElem?_map, List.getElem?_map]
 by_cases hj : j < l.length
 ·obtain ⟨k, w, e1, hk, e2⟩ := he j hj
  have e3 := K2 _ ks e2
  rw [e1, List.getElem?_eq_getElem hj]
  simp only [Option.map_some, AV.pur, List.map_cons, List.map_nil, AV.Bs, e3]
  rw [if_pos (by simp [hk]), List.take_of_length_le (by rw [List.length_map]; exact Nat.le_refl _)]
  rfl
 ·rw [List.getElem?_eq_none (by omega), List.getElem?_eq_none (by omega)]; rfl
theorem L9 {H : Hp} {N : Nat} {vs : Nat → Nat} {l : List A0} {i : Nat} {n' : A0} {k w : Nat} (hi : i < l.length) (hN : Aw H N = some ⟨vs N, false, 36, 4, (ovL N vs 0 l).set i (.agg [.int .i64 n'.kind, .int .i64 n'.n, .str n'.s, .row k w n'.kids.length])⟩)
  (ho : ∀ j (hj : j < l.length), j ≠ i → Aw H (sub (sub N j) 0) = some ⟨vs (sub (sub N j) 0), false, 3, 1, l[j].kids.map av⟩) (hk : Aw H k = some ⟨w, false, 3, 1, n'.kids.map av⟩) (hkN : N ≠ k) :
  AV.Bs (B9 ((((List.range l.length).map fun j => sub (sub N j) 0) ++ [k]) ++ [N]) H) (.row N (vs N) l.length) = .sl ((l.set i n').map av) := by
 have e : l.length = (l.set i n').length := by rw [List.length_set]
 conv => lhs; rw [show AV.row N (vs N) l.length = .row N (vs N) (l.set i n').length by rw [← e]]
 refine Aa1 hN (fun h => ?_) (by rw [List.length_set, List.length_set, Dv]) fun j hj => ?_
 ·rcases List.mem_append.1 h with h | h
  ·obtain ⟨j, _, h⟩ := List.mem_map.1 h
   have h1 := DW N j
   have h2 := DW (sub N j) 0
   omega
  ·exact hkN (List.mem_singleton.1 h)
 ·have hj2 : j < l.length := by omega
  by_cases hji : j = i
  ·subst hji
   refine ⟨k, w, ?_, by simp, ?_⟩
   ·rw [List.getElem?_set_self (by rw [Dv]; exact hi)]; simp
   ·simpa using hk
  ·refine ⟨sub (sub N j) 0, vs (sub (sub N j) 0), ?_, ?_, ?_⟩
   ·rw [List.getElem?_set_ne (Ne.symm hji), J9, List.getElem?_eq_getElem hj2]
    simp only [Option.map_some, Nat.zero_add, MF, List.getElem_set_ne (Ne.symm hji)]
   ·exact List.mem_append.2 (.inl (List.mem_map.2 ⟨j, List.mem_range.2 hj2, rfl⟩))
   ·simp only [List.getElem_set_ne (Ne.symm hji)]
    exact ho j hj2 hji
theorem Hg {N j k : Nat} {b : Box} {hp : Hp} (h : k < 10000 ∨ k = N) : Aw ((k, b) :: hp) (sub (sub N j) 0) = Aw hp (sub (sub N j) 0) := A4 fun e => by
 have h1 := DW N j
 have h2 := DW (sub N j) 0
 have h3 := BQ (sub N j) 0
 omega
theorem Ks {N i j k : Nat} {b : Box} {hp : Hp} (hk : k = sub (sub N i) 0) (h : j ≠ i) : Aw ((k, b) :: hp) (sub (sub N j) 0) = Aw hp (sub (sub N j) 0) := A4 fun e => h (G9 (G9 (hk.symm.trans e)).1).2.symm
theorem J8 {c : List UInt8} {v i v2 : Nat} {h : Int} {fr : List (Nat × AV)} {hp : Hp} {X : AV} (q : Pat) (ks : List Nat) (hk : Dh c i h) (h0 : Ba fr 2 = .ptr 2 v2 0 0) (h2 : Aw hp 2 = some ⟨v2, false, 25, 1, [.agg [X]]⟩) (hc : Aw hp 2000 = some (Bp c v i h)) (hks : ∀ k ∈ ks, k ≠ 2 ∧ k ≠ 2000) (hX : AV.Bs (B9 ks hp) X = .sl (q.nodes.map av)) (hl : q.nodes.length ≤ 1210) (hn : ∀ x ∈ q.nodes, x.s.size ≤ 402 ∧ x.kids.length ≤ 3) : Ai ⟨fr, hp⟩ (N2 [E5.c true 1 2] (Vq c v)) := by
 refine Ai.Abe ks (Ai.post [(2000, Bp c v i h)] ?_)
 have a1 : Aw (B9 ks hp) 2 = some ⟨v2, false, 25, 1, [.agg [X]]⟩ := (Cl fun e => (hks _ e).1 rfl).trans h2
 have a2 : Aw (B9 ks hp) 2000 = some (Bp c v i h) := (Cl fun e => (hks _ e).2 rfl).trans hc
 generalize B9 ks hp = H at *
 simp +contextual -dsimp (maxSteps := 2000000) only [↓SD, SU, simprocAttr, h0, a1, a2, hX]
 exact ⟨q, i, h, rfl, hk, rfl, hl, hn⟩
theorem Ie {T : Hp} {K : Nat} {vs : Nat → Nat} {q : Pat} (h : Bf T (oh K vs q)) {i : Nat} (hi : i < q.nodes.length) : Aw T (sub (sub (sub K 0) i) 0) = some ⟨vs (sub (sub (sub K 0) i) 0), false, 3, 1, q.nodes[i].kids.map av⟩ := by
 have h1 : Bf T (oh (sub K 0) vs q.nodes) := h
 have h2 : Bf T (oh (sub (sub K 0) i) vs q.nodes[i]) := AM.2 fun p hp => AM.1 h1 p (QA (AM.1 (Wl hi) p hp))
 rw [R8, D5] at h2
 exact h2.1
theorem Zi {K : Nat} {vs : Nat → Nat} {q : Pat} {hp : Hp} (h : Bf hp (oh K vs q)) : AV.Bs (B9 (on K q) hp) (.row (sub K 0) (vs (sub K 0)) q.nodes.length) = .sl (q.nodes.map av) := by
 have hl := OVal.KV K vs q hp h
 rw [UB] at hl
 exact (List.cons.inj (AV.agg.inj hl)).1
theorem I5 {l : List A0} {i : Nat} {n' : A0} {m : Nat} (h : ∀ x ∈ l, x.s.size ≤ m ∧ x.kids.length ≤ 2) (hm : m ≤ 402) (hn : n'.s.size ≤ 402 ∧ n'.kids.length ≤ 3) : ∀ x ∈ l.set i n', x.s.size ≤ 402 ∧ x.kids.length ≤ 3 := fun x hx => by
 rcases List.mem_or_eq_of_mem_set hx with h1 | rfl
 ·have := h x h1; omega
 ·exact hn
theorem Aa2 {c : List UInt8} {v i v2 m : Nat} {h : Int} {fr : List (Nat × AV)} {hp T : Hp} {K ni w76 : Nat} {vs : Nat → Nat} {q : Pat} {n : A0} {EL : List AV} {e : Px} {px : Int} (hni : ni < q.nodes.length) (hle : Bf T (oh K vs q)) (hk : Dh c i h) (hqm : q.nodes.length ≤ 1210) (qe : q.nodes = A2 0 e) (qw : PxW m e) (hm : m ≤ 402) (hn : q.nodes[ni] = n) (hEL : ovL (sub K 0) vs 0 q.nodes = EL)
  (h0 : Ba fr 2 = .ptr 2 v2 0 0) (h2 : Aw hp 2 = some ⟨v2, false, 25, 1, [.agg [.row (sub K 0) (vs (sub K 0)) q.nodes.length]]⟩) (hc : Aw hp 2000 = some (Bp c v i h))
  (hN : Aw hp (sub K 0) = some ⟨vs (sub K 0), false, 36, 4, EL.set ni (.agg [.int .i64 n.kind, .int .i64 n.n, .str n.s, .row 69 w76 (n.kids ++ [px]).length])⟩)
  (h69 : Aw hp 69 = some ⟨w76, false, 3, 1, (n.kids ++ [px]).map av⟩) (ho : ∀ j, j ≠ ni → Aw hp (sub (sub (sub K 0) j) 0) = Aw T (sub (sub (sub K 0) j) 0)) :
  Ai ⟨fr, hp⟩ (N2 [E5.c true 1 2] (Vq c v)) := by
 subst hEL
 subst hn
 have hnn := Ee qe qw _ (List.getElem_mem hni)
 refine J8 ⟨q.nodes.set ni ⟨q.nodes[ni].kind, q.nodes[ni].n, q.nodes[ni].s, q.nodes[ni].kids ++ [px]⟩⟩ _ hk h0 h2 hc ?_ (L9 (k := 69) (w := w76) hni hN ?_ h69 ?_) (by rw [List.length_set]; exact hqm) (I5 (Ee qe qw) hm ?_)
 ·intro k hk
  have hge : ∀ nm i, 10000 ≤ sub nm i := BQ
  rcases List.mem_append.1 hk with hk | hk
  ·rcases List.mem_append.1 hk with hk | hk
   ·obtain ⟨j, _, rfl⟩ := List.mem_map.1 hk
    have := hge (sub (sub K 0) j) 0; omega
   ·rw [List.mem_singleton.1 hk]; omega
  ·have := hge K 0; rw [List.mem_singleton.1 hk]; omega
 ·intro j hj hji
  rw [ho j hji]
  exact Ie hle hj
 ·have := BQ K 0; omega
 ·dsimp only; rw [List.length_append]; simp only [List.length_cons, List.length_nil]; omega
theorem Hi (l : List Nat) : (bs l).size = l.length := by
 show ((l.map UInt8.ofNat).toArray).size = _
 simp
theorem AaF {S : Nat → Prop} {w : World} {μ : Mu} {v : Value} {a b c : AV} (h : VR S w μ v (.sl [.agg [a, b, c, .Au]])) : VR S w μ v (.sl [.agg [a, b, c, .sl []]]) := by
 cases h with
 | sl g o cap esz vs _ hS hl hm hz hc hh =>
  have h1 := hz _ (List.mem_singleton.2 rfl)
  refine .sl g o cap esz vs [.agg [a, b, c, .sl []]] hS (by simpa using hl) hm (fun e he => ?_) hc fun i j e x p q => ?_
  ·rw [List.mem_singleton.1 he]
   refine ⟨h1.1, fun x hx => ?_⟩
   simp only [AV.cells, List.mem_cons, List.not_mem_nil, or_false] at hx
   rcases hx with rfl | rfl | rfl | rfl
   ·exact h1.2 _ (by simp [AV.cells])
   ·exact h1.2 _ (by simp [AV.cells])
   ·exact h1.2 _ (by simp [AV.cells])
   ·rfl
  ·match i, p with
   | 0, p =>
    simp at p; subst p
    match j, q with
    | 0, q => exact hh 0 0 _ x rfl q
    | 1, q => exact hh 0 1 _ x rfl q
    | 2, q => exact hh 0 2 _ x rfl q
    | 3, q =>
     simp [AV.cells] at q; subst q
     have h2 := hh 0 3 _ .Au rfl rfl
     generalize vs 0 3 = u at h2
     cases h2
     exact .sl0 none 0 (Nat.zero_le _)
    | n + 4, q => simp [AV.cells] at q
   | n + 1, p => simp at p
theorem Q4 {x : Int} {e : AV} (he : ([.agg [.sl [.agg [.int .i64 3, .int .i64 x, .str (bs []), .Au]]]] : List AV)[0]? = some e) : ((AV.agg [.sl [.agg [.int .i64 3, .int .i64 x, .str (bs []), .sl []]]]).cells.length = e.cells.length ∧ ∀ x_1 ∈ (AV.agg [.sl [.agg [.int .i64 3, .int .i64 x, .str (bs []), .sl []]]]).cells, x_1.one = true) ∧ ∀ (S : Nat → Prop) (w : World) (μ : Mu) (j : Nat) (x' : AV), (AV.agg [.sl [.agg [.int .i64 3, .int .i64 x, .str (bs []), .sl []]]]).cells[j]? = some x' → ∃ x_1, e.cells[j]? = some x_1 ∧ ∀ v, VR S w μ v x_1 → VR S w μ v x' := by
 simp at he
 subst he
 refine ⟨⟨rfl, fun y hy => ?_⟩, fun S w μ j x' hx => ?_⟩
 ·simp only [AV.cells, List.mem_cons, List.not_mem_nil, or_false] at hy
  subst hy; rfl
 ·match j, hx with
  | 0, hx =>
   simp [AV.cells] at hx; subst hx
   exact ⟨_, rfl, fun v hv => AaF hv⟩
  | n + 1, hx => simp [AV.cells] at hx
structure QlS where
 j : Nat
 L : List AV
 v : Nat
set_option maxHeartbeats 4000000 in
theorem UT (c : List UInt8) (v i : Nat) (h : Int) (hk : Dh c i h) : AH Tryz.prog 56 [.ptr 2000 v 0 0] [(2000, Bp c v i h)] (Xx c v 16) := by
 refine HF.H rfl ?_
 simp +contextual -dsimp (maxSteps := 2000000) only [↓SD, SU, simprocAttr, CFB, HF]
 (refine Ac [2000] (AL c v _ _ hk (17) (by omega)) (by simp +contextual -dsimp only [↓SD, SU, simprocAttr]) ?_; clear hk; rintro r hp' ⟨p, i, h, rfl, hp, hk, rfl⟩)
 obtain ⟨p0, p1⟩ := hp.in (by omega)
 have hc : p = 0 ∨ p = 1 ∨ p = 2 ∨ p = 3 ∨ p = 4 ∨ p = 5 ∨ p = 6 ∨ p = 7 ∨ p = 8 ∨ p = 9 ∨ p = 10 ∨ p = 11 ∨ p = 12 ∨ p = 13 ∨ p = 14 ∨ p = 15 ∨ p = 16 := by omega
 clear hp p0 p1
 rcases hc with rfl | rfl | rfl | rfl | rfl | rfl | rfl | rfl | rfl | rfl | rfl | rfl | rfl | rfl | rfl | rfl | rfl
 all_goals
  simp +contextual -dsimp (maxSteps := 2000000) only [↓SD, SU, simprocAttr, CFB]
  refine Ai.post [(2000, Bp c v i h)] ?_
  simp +contextual -dsimp (maxSteps := 2000000) only [↓SD, SU, simprocAttr]
  refine ⟨_, i, h, rfl, ?_, hk, rfl⟩
  rw [Hi]
  simp
set_option maxHeartbeats 16000000 in
theorem UH (c : List UInt8) (v i : Nat) (h : Int) (hk : Dh c i h) : AH Tryz.prog 26 [.ptr 2000 v 0 0] [(2000, Bp c v i h)] (Vq c v) := by
 refine Ht.H rfl ?_
 simp +contextual -dsimp (maxSteps := 2000000) only [↓SD, SU, simprocAttr, CFB, Ht]
 intro v2 v10
 refine Ak [2000] (N7 c v i 1 h hk) (by simp +contextual -dsimp only [↓SD, SU, simprocAttr]) ?_
 rintro r hp' ⟨i', h', hk', (⟨rfl, rfl⟩ | ⟨TY, u, F, T, m, rfl, rfl, hD, hF, hm, hFn⟩)⟩ H hH
 ·subst hH
  simp +contextual -dsimp (maxSteps := 2000000) only [↓SD, SU, simprocAttr, CFB]
  refine AG (X := Unit) (fun _ => ⟨[(0, .ptr 2000 v 0 0), (2, .ptr 2 v2 0 0), (3, .row 10 v10 0), (13, .Au), (14, .int .i64 0), (15, .int .i64 0)], [(2, ⟨v2, false, 25, 1, [.agg [.Au]]⟩), (10, ⟨v10, false, 25, 1, []⟩), (2000, Bp c v i' h')]⟩) (fun _ => True) (fun _ => 0) () trivial (by simp +contextual -dsimp only [↓SD, SU, simprocAttr]) (by simp +contextual -dsimp only [↓SD, SU, simprocAttr]) ?_
  rintro _ _
  simp +contextual -dsimp (maxSteps := 2000000) only [↓SD, SU, simprocAttr, CFB]
  refine Ac [2000] (KX c v _ _ hk') (by simp +contextual -dsimp only [↓SD, SU, simprocAttr]) ?_
  rintro r hp' ⟨x, i2, h2, rfl, hx, hk2, rfl⟩
  simp +contextual -dsimp (maxSteps := 2000000) only [↓SD, SU, simprocAttr, CFB]
  refine Ai.Vv 2 0 (.agg [.sl [.agg [.int .i64 3, .int .i64 x, .str (bs []), .sl []]]]) rfl (fun e he => Q4 he) ?_
  refine Ai.post [(2000, Bp c v i2 h2)] ?_
  simp +contextual -dsimp (maxSteps := 2000000) only [↓SD, SU, simprocAttr]
  exact ⟨⟨[⟨3, x, bs [], []⟩]⟩, i2, h2, rfl, hk2, rfl, by simp, fun y hy => by rw [List.mem_singleton.1 hy]; exact ⟨by rw [Hi]; simp, by simp⟩⟩
 ·have hTl : ∀ k, k < 10000 → ∀ hp, Aw (T ++ hp) k = Aw hp k := fun k hk hp => BV fun p hp' => by have := hD.far p hp'; omega
  have hfar := hD.far
  have hTself := hD.2.1
  have hUT := hD.2.2
  subst hH
  simp +contextual -dsimp (maxSteps := 2000000) only [↓SD, SU, simprocAttr, CFB, List.cons_append, hTl]
  refine AG (X := QlS) (fun x => ⟨[(0, .ptr 2000 v 0 0), (2, .ptr 2 v2 0 0), (3, .row 10 x.v x.L.length), (13, .row 2102 u F.length), (14, .int .i64 F.length), (15, .int .i64 x.j)], (2, ⟨v2, false, 25, 1, [.agg [.Au]]⟩) :: (10, ⟨x.v, false, 25, 1, x.L⟩) :: (2000, Bp c v i' h') :: (2102, ⟨u, false, 114, 6, F⟩) :: T⟩) (fun x => x.j ≤ F.length ∧ x.L.length ≤ 402 * x.j ∧ ∀ y ∈ x.L, AcN m T y) (fun x => F.length - x.j) ⟨0, [], v10⟩ ⟨Nat.zero_le _, Nat.zero_le _, fun y hy => by cases hy⟩ (by simp +contextual -dsimp only [↓SD, SU, simprocAttr]) (by simp +contextual -dsimp only [↓SD, SU, simprocAttr, hTl]; (repeat (first | exact Eu hTself | refine Ah ?_ hfar (by decide)))) ?_
  rintro ⟨j, L, v3⟩ ⟨hj, hLl, hLp⟩
  dsimp only at hj hLl hLp ⊢
  by_cases hlt : j < F.length
  ·obtain ⟨k, p, n, s, ks, P, hs, hP, hy⟩ := hFn _ (List.getElem_mem hlt)
   have e1 : F.getD j .top = .agg [.int .i64 k, .int .i64 p, .int .i64 n, .str s, .sl ks, P] := by rw [List.getD_eq_getElem?_getD, List.getElem?_eq_getElem hlt]; exact hy
   rcases hP with rfl | ⟨K, vs, l, rfl, hK, hle, hll, hq⟩
   ·simp +contextual -dsimp (maxSteps := 2000000) only [↓SD, SU, simprocAttr, CFB, hlt, e1, List.take_length]
    intro v5
    exact ⟨⟨by omega, by unfold maxLen; omega⟩, fun u' => ⟨by omega, Ai.le ⟨⟨j + 1, L, u'⟩, ⟨⟨hlt, by dsimp only; omega, hLp⟩, (by first | omega | (simp only; omega))⟩, rfl⟩ (by simp +contextual -dsimp only [↓SD, SU, simprocAttr, Int.natCast_add]) (by simp +contextual -dsimp only [↓SD, SU, simprocAttr]; (repeat (first | exact hTself | refine Ah ?_ hfar (by decide))))⟩⟩
   ·have hKn : ∀ q, q < 10000 → (q == K) = false := fun q hq => beq_eq_false_iff_ne.2 (by omega)
    have hKT : Aw T K = some ⟨vs K, false, 25, 1, ovL K vs 0 l⟩ := Fy hle
    have hel : (ovL K vs 0 l).length = l.length := by rw [Dv]
    have hpu := fun hp hu => Aa4 (K := K) (vs := vs) (l := l) hp hu
    have het : List.take l.length (ovL K vs 0 l) = ovL K vs 0 l := List.take_of_length_le (by rw [hel]; exact Nat.le_refl _)
    have hpe := XO hle hq
    have hec : ∀ e ∈ ovL K vs 0 l, e.cells.length = 1 := fun e he => by
     obtain ⟨K', vs', q, rfl, _⟩ := hpe e he
     rw [UB]; rfl
    generalize hEL : ovL K vs 0 l = EL at *
    simp +contextual -dsimp (maxSteps := 2000000) only [↓SD, SU, simprocAttr, CFB, hlt, e1, hKn, hKT, hel, hpu, Ax, eq_true hUT, List.take_length, Nat.le_refl]
    intro v5
    refine Aai _ _ _ _ _ _ _ _ _ _ _ ?_
    simp +contextual -dsimp (maxSteps := 2000000) only [↓SD, SU, simprocAttr, CFB, Xw, hKn, hKT, hel, het, hpu, Ax, AaG, eq_true hUT, List.take_length, Nat.le_refl]
    have hcm : m ≤ 402 := hm
    have hjL : L.length + l.length ≤ 402 * (j + 1) := by omega
    refine ⟨⟨hec, by omega, by unfold maxLen; omega⟩, fun u' => ⟨by omega, Ai.le ⟨⟨j + 1, L ++ EL, u'⟩, ⟨⟨hlt, by show (L ++ EL).length ≤ 402 * (j + 1); rw [List.length_append, hel]; omega, fun y hy => (List.mem_append.1 hy).elim (hLp y) (hpe y)⟩, (by first | omega | (simp only; omega))⟩, rfl⟩ (by simp +contextual -dsimp only [↓SD, SU, simprocAttr, List.length_append, hel, Int.natCast_add]) (by simp +contextual -dsimp only [↓SD, SU, simprocAttr]; (repeat (first | exact hTself | refine Ah ?_ hfar (by decide))))⟩⟩
  ·obtain rfl : j = F.length := by omega
   by_cases hL0 : L.length = 0
   ·simp +contextual -dsimp (maxSteps := 2000000) only [↓SD, SU, simprocAttr, CFB, Nat.lt_irrefl, hL0]
    refine Ac [2000] (KX c v _ _ hk') (by simp +contextual -dsimp only [↓SD, SU, simprocAttr]) ?_
    rintro r hp' ⟨x, i2, h2, rfl, hx, hk2, rfl⟩
    simp +contextual -dsimp (maxSteps := 2000000) only [↓SD, SU, simprocAttr, CFB]
    refine Ai.Vv 2 0 (.agg [.sl [.agg [.int .i64 3, .int .i64 x, .str (bs []), .sl []]]]) rfl (fun e he => Q4 he) ?_
    refine Ai.post [(2000, Bp c v i2 h2)] ?_
    simp +contextual -dsimp (maxSteps := 2000000) only [↓SD, SU, simprocAttr]
    exact ⟨⟨[⟨3, x, bs [], []⟩]⟩, i2, h2, rfl, hk2, rfl, by simp, fun y hy => by rw [List.mem_singleton.1 hy]; exact ⟨by rw [Hi]; simp, by simp⟩⟩
   ·have hL1 : ¬ (L.length : Int) = 0 := by omega
    simp +contextual -dsimp (maxSteps := 2000000) only [↓SD, SU, simprocAttr, CFB, Nat.lt_irrefl, hL0, hL1]
    have hLb : L.length ≤ 402 * 600 := by omega
    refine Ak [2000] (AL c v _ _ hk' (L.length) (by omega)) (by simp +contextual -dsimp only [↓SD, SU, simprocAttr]) ?_
    rintro r hp' ⟨p, i2, h2, rfl, hp, hk2, rfl⟩ H hH
    obtain ⟨p0, p1⟩ := hp.in (by omega)
    obtain ⟨pn, rfl⟩ : ∃ pn : Nat, p = pn := ⟨p.toNat, by omega⟩
    have hpl : pn < L.length := by omega
    obtain ⟨K, vs, q, hy, hle, hq⟩ := hLp _ (List.getElem_mem hpl)
    have e1 : L.getD pn .top = .agg [.row (sub K 0) (vs (sub K 0)) q.nodes.length] := by rw [List.getD_eq_getElem?_getD, List.getElem?_eq_getElem hpl]; exact hy
    have hTr : BS [2000] T = T := Yd hfar
    have hkq := O4 (K := K) (q := q)
    have hN : Aw T (sub K 0) = some ⟨vs (sub K 0), false, 36, 4, ovL (sub K 0) vs 0 q.nodes⟩ := Fy (l := q.nodes) hle
    obtain ⟨e, qe, qw, qn⟩ := hq
    have hql : 0 < q.nodes.length := by rw [qe, FC]; exact Qg _
    have hqm : q.nodes.length ≤ 1210 := by rw [qe, FC]; omega
    subst hH
    simp +contextual -dsimp (maxSteps := 2000000) only [↓SD, SU, simprocAttr, CFB, hpl, e1, hTr]
    intro v6
    refine Ak [2000] (AL c v _ _ hk2 5 (by omega)) (by simp +contextual -dsimp only [↓SD, SU, simprocAttr]) ?_
    rintro r hp' ⟨p5, i3, h3, rfl, hp5, hk3, rfl⟩ H hH
    subst hH
    by_cases hp50 : p5 = 0
    ·have e50 := eq_true hp50
     simp +contextual -dsimp (maxSteps := 2000000) only [↓SD, SU, simprocAttr, CFB, e50, hTr, Dk, hTl, hN]
     refine Ak [2000] (AL c v _ _ hk3 (q.nodes.length) (by omega)) (by simp +contextual -dsimp only [↓SD, SU, simprocAttr]) ?_
     rintro r hp' ⟨pi, i4, h4, rfl, hpi, hk4, rfl⟩ H hH
     obtain ⟨pi0, pi1⟩ := hpi.in (by omega)
     obtain ⟨ni, rfl⟩ : ∃ ni : Nat, pi = ni := ⟨pi.toNat, by omega⟩
     have hni : ni < q.nodes.length := by omega
     have eN := Qk (sub K 0) vs q.nodes hni .top
     rw [MF] at eN
     have hel : (ovL (sub K 0) vs 0 q.nodes).length = q.nodes.length := Dv _ _ _ _
     have hY := Ie hle hni
     have hnn := Ee qe qw _ (List.getElem_mem hni)
     generalize hEL : ovL (sub K 0) vs 0 q.nodes = EL at *
     generalize hn : q.nodes[ni] = n at *
     subst hH
     simp +contextual -dsimp (maxSteps := 2000000) only [↓SD, SU, simprocAttr, CFB, hTr]
     refine Ak [2000] (AL c v _ _ hk4 4 (by omega)) (by simp +contextual -dsimp only [↓SD, SU, simprocAttr]) ?_
     rintro r hp' ⟨pk, i5, h5, rfl, hpk, hk5, rfl⟩ H hH
     obtain ⟨pk0, pk1⟩ := hpk.in (by omega)
     subst hH
     simp +contextual -dsimp (maxSteps := 2000000) only [↓SD, SU, simprocAttr, CFB, hTr, Dk, hTl, hN, hel, hni, eN]
     intro v9
     by_cases k0 : pk = 0
     ·subst k0
      simp +contextual -dsimp (maxSteps := 2000000) only [↓SD, SU, simprocAttr, CFB]
      refine Ak [2000] (AL c v _ _ hk5 8 (by omega)) (by simp +contextual -dsimp only [↓SD, SU, simprocAttr]) ?_
      rintro r hp' ⟨pz, i6, h6, rfl, hpz, hk6, rfl⟩ H hH
      subst hH
      simp +contextual -dsimp (maxSteps := 2000000) only [↓SD, SU, simprocAttr, CFB, hTr, Dk, Ex, hTl, hN, hel, hni, eN]
      subst hEL
      subst hn
      refine J8 ⟨q.nodes.set ni ⟨pz, q.nodes[ni].n, q.nodes[ni].s, q.nodes[ni].kids⟩⟩ _ hk6 rfl rfl (by simp +contextual -dsimp only [↓SD, SU, simprocAttr, Ex, Dk]) ?_ (L9 (k := sub (sub (sub K 0) ni) 0) (w := vs (sub (sub (sub K 0) ni) 0)) hni ((A4 (fun e => by have := BQ K 0; omega)).trans Cm) ?_ ?_ ?_) (by rw [List.length_set]; exact hqm) (I5 (Ee qe qw) hm ?_)
      ·intro k hk
       have hge : ∀ nm i, 10000 ≤ sub nm i := BQ
       rcases List.mem_append.1 hk with hk | hk
       ·rcases List.mem_append.1 hk with hk | hk
        ·obtain ⟨j, _, rfl⟩ := List.mem_map.1 hk
         have := hge (sub (sub K 0) j) 0; omega
        ·have := hge (sub (sub K 0) ni) 0; rw [List.mem_singleton.1 hk]; omega
       ·have := hge K 0; rw [List.mem_singleton.1 hk]; omega
      ·intro j hj hji
       repeat (first | refine (Hg (by first | (left; omega) | (right; with_reducible rfl))).trans ?_ | refine (Ks (i := ni) (by with_reducible rfl) hji).trans ?_ | exact Ie hle hj)
      ·repeat (first | refine (Hg (by first | (left; omega) | (right; with_reducible rfl))).trans ?_ | exact hY)
      ·intro e
       have h1 := DW (sub K 0) ni
       have h2 := DW (sub (sub K 0) ni) 0
       omega
      ·dsimp only; omega
     ·have k0' := eq_false k0
      by_cases k1 : pk = 1
      ·subst k1
       simp +contextual -dsimp (maxSteps := 2000000) only [↓SD, SU, simprocAttr, CFB]
       refine Ak [2000] (UT c v _ _ hk5) (by simp +contextual -dsimp only [↓SD, SU, simprocAttr]) ?_
       rintro r hp' ⟨sz, i6, h6, rfl, hsz, hk6, rfl⟩ H hH
       subst hH
       simp +contextual -dsimp (maxSteps := 2000000) only [↓SD, SU, simprocAttr, CFB, hTr, Dk, Ex, hTl, hN, hel, hni, eN]
       subst hEL
       subst hn
       refine J8 ⟨q.nodes.set ni ⟨q.nodes[ni].kind, q.nodes[ni].n, sz, q.nodes[ni].kids⟩⟩ _ hk6 rfl rfl (by simp +contextual -dsimp only [↓SD, SU, simprocAttr, Ex, Dk]) ?_ (L9 (k := sub (sub (sub K 0) ni) 0) (w := vs (sub (sub (sub K 0) ni) 0)) hni ((A4 (fun e => by have := BQ K 0; omega)).trans Cm) ?_ ?_ ?_) (by rw [List.length_set]; exact hqm) (I5 (Ee qe qw) hm ?_)
       ·intro k hk
        have hge : ∀ nm i, 10000 ≤ sub nm i := BQ
        rcases List.mem_append.1 hk with hk | hk
        ·rcases List.mem_append.1 hk with hk | hk
         ·obtain ⟨j, _, rfl⟩ := List.mem_map.1 hk
          have := hge (sub (sub K 0) j) 0; omega
         ·have := hge (sub (sub K 0) ni) 0; rw [List.mem_singleton.1 hk]; omega
        ·have := hge K 0; rw [List.mem_singleton.1 hk]; omega
       ·intro j hj hji
        repeat (first | refine (Hg (by first | (left; omega) | (right; with_reducible rfl))).trans ?_ | refine (Ks (i := ni) (by with_reducible rfl) hji).trans ?_ | exact Ie hle hj)
       ·repeat (first | refine (Hg (by first | (left; omega) | (right; with_reducible rfl))).trans ?_ | exact hY)
       ·intro e
        have h1 := DW (sub K 0) ni
        have h2 := DW (sub (sub K 0) ni) 0
        omega
       ·dsimp only; omega
      ·have k1' := eq_false k1
       by_cases k2 : pk = 2
       ·subst k2
        simp +contextual -dsimp (maxSteps := 2000000) only [↓SD, SU, simprocAttr, CFB]
        refine Ak [2000] (KX c v _ _ hk5) (by simp +contextual -dsimp only [↓SD, SU, simprocAttr]) ?_
        rintro r hp' ⟨pz, i6, h6, rfl, hpz, hk6, rfl⟩ H hH
        subst hH
        simp +contextual -dsimp (maxSteps := 2000000) only [↓SD, SU, simprocAttr, CFB, hTr, Dk, Ex, hTl, hN, hel, hni, eN]
        subst hEL
        subst hn
        refine J8 ⟨q.nodes.set ni ⟨q.nodes[ni].kind, pz, q.nodes[ni].s, q.nodes[ni].kids⟩⟩ _ hk6 rfl rfl (by simp +contextual -dsimp only [↓SD, SU, simprocAttr, Ex, Dk]) ?_ (L9 (k := sub (sub (sub K 0) ni) 0) (w := vs (sub (sub (sub K 0) ni) 0)) hni ((A4 (fun e => by have := BQ K 0; omega)).trans Cm) ?_ ?_ ?_) (by rw [List.length_set]; exact hqm) (I5 (Ee qe qw) hm ?_)
        ·intro k hk
         have hge : ∀ nm i, 10000 ≤ sub nm i := BQ
         rcases List.mem_append.1 hk with hk | hk
         ·rcases List.mem_append.1 hk with hk | hk
          ·obtain ⟨j, _, rfl⟩ := List.mem_map.1 hk
           have := hge (sub (sub K 0) j) 0; omega
          ·have := hge (sub (sub K 0) ni) 0; rw [List.mem_singleton.1 hk]; omega
         ·have := hge K 0; rw [List.mem_singleton.1 hk]; omega
        ·intro j hj hji
         repeat (first | refine (Hg (by first | (left; omega) | (right; with_reducible rfl))).trans ?_ | refine (Ks (i := ni) (by with_reducible rfl) hji).trans ?_ | exact Ie hle hj)
        ·repeat (first | refine (Hg (by first | (left; omega) | (right; with_reducible rfl))).trans ?_ | exact hY)
        ·intro e
         have h1 := DW (sub K 0) ni
         have h2 := DW (sub (sub K 0) ni) 0
         omega
        ·dsimp only; omega
       ·have k2' := eq_false k2
        simp +contextual -dsimp (maxSteps := 2000000) only [↓SD, SU, simprocAttr, CFB, k0', k1', k2', hTr]
        have hJN : (sub (sub (sub K 0) ni) 0 == sub K 0) = false := beq_eq_false_iff_ne.2 fun e => by have h1 := DW (sub K 0) ni; have h2 := DW (sub (sub K 0) ni) 0; omega
        have hNJ : (sub K 0 == sub (sub (sub K 0) ni) 0) = false := beq_eq_false_iff_ne.2 fun e => by have h1 := DW (sub K 0) ni; have h2 := DW (sub (sub K 0) ni) 0; omega
        refine BM (Ai.le (t := ⟨[(0, .ptr 2000 v 0 0), (2, .ptr 2 v2 0 0), (6, .ptr 6 v6 0 0), (7, .int .i64 ni), (9, .ptr 9 v9 0 0)], (9, ⟨v9, false, 36, 4, [.agg [.int .i64 n.kind, .int .i64 n.n, .str n.s, .row (sub (sub (sub K 0) ni) 0) (vs (sub (sub (sub K 0) ni) 0)) n.kids.length]]⟩) :: (2000, Bp c v i5 h5) :: (6, ⟨v6, false, 25, 1, [.agg [.row (sub K 0) (vs (sub K 0)) q.nodes.length]]⟩) :: (2, ⟨v2, false, 25, 1, [.agg [.Au]]⟩) :: T⟩) ?_ (by simp +contextual -dsimp only [↓SD, SU, simprocAttr]) (by simp +contextual -dsimp only [↓SD, SU, simprocAttr, hTl]; (repeat (first | exact hTself | refine Ah ?_ hfar (by decide)))))
        have hsz : (n.kids.length + 1) * 8 ≤ 140737488355328 ∧ n.kids.length + 1 ≤ maxLen := ⟨by omega, by unfold maxLen; omega⟩
        have het : List.take n.kids.length (n.kids.map av) = n.kids.map av := List.take_of_length_le (by rw [List.length_map]; exact Nat.le_refl _)
        have hap : ∀ x : Int, n.kids.map av ++ [.int .i64 x] = (n.kids ++ [x]).map av := fun x => by rw [List.map_append]; rfl
        have het2 : ∀ x : Int, List.take (n.kids.length + 1) ((n.kids ++ [x]).map av) = (n.kids ++ [x]).map av := fun x => List.take_of_length_le (by simp)
        have hc1 : ∀ x : Int, ∀ e ∈ (n.kids ++ [x]).map av, e.cells.length = 1 := fun x e he => by obtain ⟨y, _, rfl⟩ := List.mem_map.1 he; rfl
        simp +contextual -dsimp (maxSteps := 2000000) only [↓SD, SU, simprocAttr, CFB, Dk, Ex, hJN, hNJ, hTl, hN, hY, hel, hni, eN, het, hap, Aa, Ab, hsz]
        repeat' (first | refine And.intro ?_ ?_ | intro w69)
        all_goals
         refine Ak [2000] (AL c v _ _ hk5 4 (by omega)) (by simp +contextual -dsimp only [↓SD, SU, simprocAttr]) ?_
         rintro r hp' ⟨px, i6, h6, rfl, hpx, hk6, rfl⟩ H hH
         subst hH
         simp +contextual -dsimp (maxSteps := 2000000) only [↓SD, SU, simprocAttr, CFB, hTr, Dk, Ex, hJN, hNJ, hTl, hN, hY, hel, hni, eN, het, het2, hap, Aa, Ab, hsz, List.take_length, List.length_append]
        repeat' (first | refine And.intro ?_ ?_ | intro w75)
        all_goals
         refine Aai _ _ _ _ _ _ _ _ _ _ _ ?_
         simp +contextual -dsimp (maxSteps := 2000000) only [↓SD, SU, simprocAttr, CFB, Xw, Dk, Ex, hJN, hNJ, hTl, hN, hY, hel, hni, eN, het, het2, hap, Aa, Ab, hsz, List.take_length, List.length_append]
         refine ⟨hc1 px, fun w76 => ?_⟩
         refine Aa2 hni hle hk6 hqm qe qw hm hn hEL (px := px) (w76 := w76) rfl rfl (by simp +contextual -dsimp only [↓SD, SU, simprocAttr, Ex, Dk, hJN, hNJ]) ((A4 (fun e => by have := BQ K 0; omega)).trans (Cm.trans (by simp +contextual -dsimp only [↓SD, SU, simprocAttr, List.length_append]))) (by simp +contextual -dsimp only [↓SD, SU, simprocAttr, Ex, Dk, hJN, hNJ]) ?_
         intro j hji
         repeat (first | refine (Hg (by first | (left; omega) | (right; with_reducible rfl))).trans ?_ | refine (Ks (i := ni) (by with_reducible rfl) hji).trans ?_ | with_reducible rfl)
    ·have e50 := eq_false hp50
     simp +contextual -dsimp (maxSteps := 2000000) only [↓SD, SU, simprocAttr, CFB, e50, hTr]
     refine J8 q (on K q) hk3 rfl rfl rfl (fun k hk => by have := O4 k hk; omega) ?_ hqm (fun x hx => by have := Ee qe qw x hx; omega)
     exact Zi (by repeat (first | exact hle | refine Yf (by decide) ?_))
end Go.Proofs.YteeiaaogmjbcjaaGreat

/-
 THE ROWS OF A PROGRAM THAT PARSES, READ FOR GOOD. Conditions: none.
-/
import Derived.Test.YtoffpbehgncakaaGreatKReadV
import Derived.Test.YtoffpbehgncakaaGreatKJ06
set_option linter.unusedVariables false
set_option linter.unusedSimpArgs false
set_option maxRecDepth 100000
namespace Go.Proofs.YtoffpbehgncakaaGreat
open Go.RowKit Go.Proofs.YtoffpbehgncakaaGreat.Av Go.Proofs.YtoffpbehgncakaaGreat.Ml
open Go.Proofs.YtoffpbehgncakaaGreat.Av.AVal (av)
open OVal (ov oh on)

def KX (ty : TypeId) (T : Hp) : List Nat := (T.filter fun p => p.2.ty == ty).map (·.1)
theorem Fu {ty : TypeId} {T : Hp} {k : Nat} {b : Box} (h : Ay T k = some b) (ht : b.ty = ty) : k ∈ KX ty T :=
 List.mem_map.2 ⟨(k, b), List.mem_filter.2 ⟨EY h, by simp [ht]⟩, rfl⟩
theorem GG {ty : TypeId} {T : Hp} {k : Nat} {b : Box} (hT : Bt T T) (h : Ay T k = some b) (ht : b.ty ≠ ty) : k ∉ KX ty T := fun hm => by
 obtain ⟨p, hp, e⟩ := List.mem_map.1 hm
 obtain ⟨hp, ht2⟩ := List.mem_filter.1 hp
 have := AP.1 hT p hp
 rw [e, h] at this
 cases this
 exact ht (by simpa using ht2)
theorem GH {ty : TypeId} {T : Hp} (h : L9 T) : ∀ k ∈ KX ty T, 10000 ≤ k := fun k hk => by
 obtain ⟨p, hp, rfl⟩ := List.mem_map.1 hk
 exact h p (List.mem_filter.1 hp).1
theorem IZ {es es' : List AV} {k v ty esz : Nat} {z : Bool} (C : Hp → Prop) (N : Nat → Prop) (hC : ∀ H j, N j → C H → C (Dr H j)) (h1 : ∀ H, C H → es.map (AV.pur H) = es') (h2 : ∀ H, es'.map (AV.pur H) = es') : ∀ (ks : List Nat) (H : Hp), (∀ j ∈ ks, N j) → C H → (Ay H k = some ⟨v, z, ty, esz, es⟩ ∧ k ∈ ks ∨ Ay H k = some ⟨v, true, ty, esz, es'⟩) → Ay (BK ks H) k = some ⟨v, true, ty, esz, es'⟩
 | [], H, _, _, h => by
  rcases h with ⟨_, h⟩ | h
  ·cases h
  ·exact h
 | j :: r, H, hN, hH, h => by
  rw [BK]
  refine IZ (z := z) C N hC h1 h2 r _ (fun i hi => hN i (List.mem_cons_of_mem _ hi)) (hC H j (hN j List.mem_cons_self) hH) ?_
  by_cases e : j = k
  ·subst e
   right
   unfold Dr
   rcases h with ⟨h, _⟩ | h
   ·rw [h]; simp only [Ay, if_true, h1 H hH]
   ·rw [h]; simp only [Ay, if_true, h2 H]
  ·rcases h with ⟨h, hk⟩ | h
   ·exact .inl ⟨(Cm e).trans h, (List.mem_cons.1 hk).resolve_left (Ne.symm e)⟩
   ·exact .inr ((Cm e).trans h)
theorem Pv {es : List AV} {k v ty esz : Nat} (h2 : ∀ H, es.map (AV.pur H) = es) (ks : List Nat) {H : Hp} (h : Ay H k = some ⟨v, true, ty, esz, es⟩) : Ay (BK ks H) k = some ⟨v, true, ty, esz, es⟩ :=
 IZ (es := es) (z := true) (fun _ => True) (fun _ => True) (fun _ _ _ _ => trivial) (fun H _ => h2 H) h2 ks H (fun _ _ => trivial) trivial (.inr h)
theorem WW {α : Type} [AVal α] {l : List α} {k v ty esz : Nat} {z : Bool} {ks : List Nat} {H : Hp} (h : Ay H k = some ⟨v, z, ty, esz, l.map av⟩) (hk : k ∈ ks) : Ay (BK ks H) k = some ⟨v, true, ty, esz, l.map av⟩ :=
 IZ (fun _ => True) (fun _ => True) (fun _ _ _ _ => trivial) (fun H _ => Ab l H) (Ab l) ks H (fun _ _ => trivial) trivial (.inl ⟨h, hk⟩)
theorem DU {H : Hp} {k v n ty esz : Nat} {es : List AV} (h : Ay H k = some ⟨v, true, ty, esz, es⟩) (hn : n = es.length) : AV.Bu H (.row k v n) = .sl es := by
 simp only [AV.Bu, h]
 rw [if_pos (by simp [hn]), hn, List.take_length]
def SX (T : Hp) : List Nat := KX 3 T ++ (KX 83 T ++ KX 66 T)
theorem ZE {T : Hp} (h : L9 T) : ∀ k ∈ SX T, 10000 ≤ k := fun k hk => by
 unfold SX at hk
 rcases List.mem_append.1 hk with hk | hk
 ·exact GH h k hk
 ·rcases List.mem_append.1 hk with hk | hk <;> exact GH h k hk
section
variable {T H : Hp}
theorem UG (hTT : Bt T T) (hI : ∀ p ∈ T, p.2.ty = 3 ∨ p.2.ty = 83 → Ay H p.1 = some p.2) {K : Nat} {vs : Nat → Nat} {q : Pat} (hle : Bt T (oh K vs q)) : Ay (BK (KX 83 T) (BK (KX 3 T) H)) (sub K 0) = some ⟨vs (sub K 0), true, 83, 4, q.nodes.map av⟩ := by
 have hN : Ay T (sub K 0) = some ⟨vs (sub K 0), false, 83, 4, ovL (sub K 0) vs 0 q.nodes⟩ := Cc (l := q.nodes) hle
 have hkid : ∀ j (hj : j < q.nodes.length), Ay T (sub (sub (sub K 0) j) 0) = some ⟨vs (sub (sub (sub K 0) j) 0), false, 3, 1, q.nodes[j].kids.map av⟩ := fun j hj => by
  have h1 : Bt T (oh (sub K 0) vs q.nodes) := hle
  have h2 : Bt T (oh (sub (sub K 0) j) vs q.nodes[j]) := AP.2 fun p hp => AP.1 h1 p (EY (AP.1 (Wp hj) p hp))
  rw [Sb, Wo] at h2
  exact h2.1
 refine IZ (z := false) (fun G => ∀ j (hj : j < q.nodes.length), Ay G (sub (sub (sub K 0) j) 0) = some ⟨vs (sub (sub (sub K 0) j) 0), true, 3, 1, q.nodes[j].kids.map av⟩) (fun k => ∀ j, j < q.nodes.length → k ≠ sub (sub (sub K 0) j) 0) (fun G k hk hG j hj => (Cm (hk j hj)).trans (hG j hj)) (fun G hG => ?_) (Ab _) _ _ (fun k hk j hj e => ?_) (fun j hj => ?_) (.inl ⟨?_, ?_⟩) (es := ovL (sub K 0) vs 0 q.nodes)
 ·refine List.ext_getElem? fun j => ?_
  rw [List.getElem?_map, List.getElem?_map, Ke]
  by_cases hj : j < q.nodes.length
  ·rw [List.getElem?_eq_getElem hj]
   simp only [Option.map_some, Nat.zero_add, R2]
   congr 1
   show AV.agg [_, _, _, AV.Bu G (.row _ _ _)] = _
   rw [DU (hG j hj) (n := q.nodes[j].kids.length) (by simp)]
   rfl
  ·rw [List.getElem?_eq_none (by omega)]; rfl
 ·exact GG hTT (hkid j hj) (show (3 : TypeId) ≠ 83 by decide) (e ▸ hk)
 ·exact WW ((hI _ (EY (hkid j hj)) (.inl rfl))) (Fu (hkid j hj) rfl)
 ·exact (BI (GG hTT hN (show (83 : TypeId) ≠ 3 by decide))).trans (hI _ (EY hN) (.inr rfl))
 ·exact Fu hN rfl
theorem R0 (hTT : Bt T T) (hF : L9 T) (hI : ∀ p ∈ T, p.2.ty = 3 ∨ p.2.ty = 83 → Ay H p.1 = some p.2) {K v : Nat} {vs : Nat → Nat} {l : List Pat} (hle : Bt T (oh K vs l)) {ex ex' : List AV} (hK : Ay H K = some ⟨v, false, 66, 1, ovL K vs 0 l ++ ex⟩)
  (hx : ∀ G, (∀ k, k < 10000 → Ay G k = Ay H k) → ex.map (AV.pur G) = ex') (hx2 : ∀ G, ex'.map (AV.pur G) = ex') (L : List Nat) : AV.Bu (BK (SX T ++ L) H) (.row K v (l.length + ex.length)) = .sl (l.map av ++ ex') := by
 have hKT : Ay T K = some ⟨vs K, false, 66, 1, ovL K vs 0 l⟩ := Cc hle
 have hel : ∀ j (hj : j < l.length), Bt T (oh (sub K j) vs l[j]) := fun j hj => AP.2 fun p hp => AP.1 hle p (EY (AP.1 (Wp hj) p hp))
 have hNT : ∀ j (hj : j < l.length), Ay T (sub (sub K j) 0) = some ⟨vs (sub (sub K j) 0), false, 83, 4, ovL (sub (sub K j) 0) vs 0 l[j].nodes⟩ := fun j hj => Cc (l := l[j].nodes) (hel j hj)
 have h2 : ∀ G, (l.map av ++ ex').map (AV.pur G) = l.map av ++ ex' := fun G => by rw [List.map_append, Ab, hx2]
 have hex : ex'.length = ex.length := by rw [← hx H fun _ _ => rfl, List.length_map]
 have hlow : ∀ ks : List Nat, (∀ k ∈ ks, 10000 ≤ k) → ∀ (G : Hp) k, k < 10000 → Ay (BK ks G) k = Ay G k := fun ks hks G k hk => BI fun e => by have := hks k e; omega
 rw [E8]
 refine DU (ty := 66) (esz := 1) (Pv h2 L ?_) (by rw [List.length_append, List.length_map, hex])
 unfold SX
 rw [E8, E8]
 refine IZ (z := false) (fun G => (∀ k, k < 10000 → Ay G k = Ay H k) ∧ ∀ j (hj : j < l.length), Ay G (sub (sub K j) 0) = some ⟨vs (sub (sub K j) 0), true, 83, 4, l[j].nodes.map av⟩) (fun k => 10000 ≤ k ∧ ∀ j, j < l.length → k ≠ sub (sub K j) 0) (fun G k hk hG => ⟨fun i hi => (Cm (by omega)).trans (hG.1 i hi), fun j hj => (Cm (hk.2 j hj)).trans (hG.2 j hj)⟩) (fun G hG => ?_) h2 _ _ (fun k hk => ⟨GH hF k hk, fun j hj e => ?_⟩) ⟨fun k hk => ?_, fun j hj => ?_⟩ (.inl ⟨?_, ?_⟩) (es := ovL K vs 0 l ++ ex)
 ·rw [List.map_append, hx G hG.1]
  congr 1
  refine List.ext_getElem? fun j => ?_
  rw [List.getElem?_map, List.getElem?_map, Ke]
  by_cases hj : j < l.length
  ·rw [List.getElem?_eq_getElem hj]
   simp only [Option.map_some, Nat.zero_add, AbC]
   congr 1
   show AV.agg [AV.Bu G (.row _ _ _)] = _
   rw [DU (hG.2 j hj) (n := l[j].nodes.length) (by simp)]
   rfl
  ·rw [List.getElem?_eq_none (by omega)]; rfl
 ·exact GG hTT (hNT j hj) (show (83 : TypeId) ≠ 66 by decide) (e ▸ hk)
 ·rw [hlow _ (GH hF) _ k hk, hlow _ (GH hF) _ k hk]
 ·exact UG hTT hI (hel j hj)
 ·rw [BI (GG hTT hKT (show (66 : TypeId) ≠ 83 by decide)), BI (GG hTT hKT (show (66 : TypeId) ≠ 3 by decide))]
  exact hK
 ·exact Fu hKT rfl
end
theorem Fx {α : Type} [AVal α] (h : ∀ x : α, nz (av x) = av x) (l : List α) : nz (.sl (l.map av)) = .sl (l.map av) := by
 rw [nz, Fy, List.map_map]
 congr 1
 exact List.map_congr_left fun x _ => h x
theorem UI (x : Int) : nz (av x) = av x := eqq rfl
theorem Zh (x : BD) : nz (av x) = av x := by
 show nz (.agg [_, _, _, .sl (x.kids.map av)]) = _
 rw [nz, nzL, nzL, nzL, nzL, nzL, Fx UI]; rfl
theorem Zg (x : Pat) : nz (av x) = av x := by
 show nz (.agg [.sl (x.nodes.map av)]) = _
 rw [nz, nzL, nzL, Fx Zh]; rfl
theorem XT (x : Bs) : nz (av x) = av x := eqq rfl
theorem Zi (x : Con) : nz (av x) = av x := by
 show nz (.agg [_, _, .sl (x.arg.items.map av)]) = _
 rw [nz, nzL, nzL, nzL, nzL, Fx XT]; rfl
def Aai (x : Node) : Prop := x.s.size ≤ 402 ∧ x.kids.length ≤ 2000000 ∧ x.AL.length ≤ 403 ∧ ∀ q ∈ x.AL, q.nodes.length ≤ 1210 ∧ ∀ y ∈ q.nodes, y.s.size ≤ 402 ∧ y.kids.length ≤ 2
def Uk (l : List Con) : Prop := l.length ≤ 403 ∧ ∀ c ∈ l, c.name.size ≤ 402 ∧ c.arg.items.length ≤ 805 ∧ ∀ y ∈ c.arg.items, y.name.size ≤ 402
def Vq (x : Dm) : Prop := x.name.size ≤ 402 ∧ Uk x.cons
def Ob (p : Program) : Prop := p.nodes.length ≤ 600 ∧ p.types.length ≤ 402 ∧ (∀ x ∈ p.nodes, Aai x) ∧ ∀ x ∈ p.types, Vq x
theorem Gr {α : Type} [AE α] {b : Nat} : ∀ {l : List α}, (∀ x ∈ l, AE.bulk x ≤ b) → AE.bulk l ≤ l.length * b + 1
 | [], _ => by simp [AE.bulk]
 | x :: l, h => by
  have h1 := h x List.mem_cons_self
  have h2 := Gr (l := l) fun y hy => h y (List.mem_cons_of_mem _ hy)
  have e : AE.bulk (x :: l) = AE.bulk x + AE.bulk l := by show (List.map AE.bulk (x :: l)).sum + 1 = _ + ((l.map AE.bulk).sum + 1); simp; omega
  rw [e, List.length_cons, Nat.succ_mul]
  omega
theorem PW (l : List Int) : AE.bulk l ≤ l.length + 1 := by
 have := Gr (l := l) (b := 1) fun x _ => Nat.le_refl _
 omega
theorem Jh {a b n m : Nat} (h : a ≤ n * b + 1) (hn : n ≤ m) : a ≤ m * b + 1 := Nat.le_trans h (Nat.succ_le_succ (Nat.mul_le_mul_right b hn))
theorem Aai.bulk {x : Node} (h : Aai x) : AE.bulk x ≤ 201500000 := by
 obtain ⟨h1, h2, h3, h4⟩ := h
 have hq : ∀ q ∈ x.AL, AE.bulk q ≤ 494892 := fun q hq => by
  obtain ⟨k1, k2⟩ := h4 q hq
  have hy : ∀ y ∈ q.nodes, AE.bulk y ≤ 409 := fun y hy => by
   obtain ⟨j1, j2⟩ := k2 y hy
   have := PW y.kids
   show 1 + 1 + (y.s.size + 1) + AE.bulk y.kids + 1 ≤ 409
   omega
  have := Jh (Gr hy) k1
  show AE.bulk q.nodes + 1 ≤ _
  omega
 have e1 := Jh (Gr hq) h3
 have e2 := PW x.kids
 show 1 + 1 + 1 + (x.s.size + 1) + AE.bulk x.kids + AE.bulk x.AL + 1 ≤ _
 omega
theorem Vq.bulk {x : Dm} (h : Vq x) : AE.bulk x ≤ 132000000 := by
 obtain ⟨h1, h2, h3⟩ := h
 have hq : ∀ q ∈ x.cons, AE.bulk q ≤ 327300 := fun q hq => by
  obtain ⟨k0, k1, k2⟩ := h3 q hq
  have hy : ∀ y ∈ q.arg.items, AE.bulk y ≤ 406 := fun y hy => by
   have := k2 y hy
   show 1 + (y.name.size + 1) + 1 + 1 ≤ 406
   omega
  have := Jh (Gr hy) k1
  show (q.name.size + 1) + 1 + (AE.bulk q.arg.items + 1) + 1 ≤ _
  omega
 have e1 := Jh (Gr hq) h2
 show (x.name.size + 1) + 1 + AE.bulk x.cons + 1 ≤ _
 omega
theorem Ob.bulk {p : Program} (h : Ob p) : AE.bulk p ≤ 1099511627776 := by
 obtain ⟨h1, h2, h3, h4⟩ := h
 have e1 := Jh (Gr fun x hx => (h3 x hx).bulk) h1
 have e2 := Jh (Gr fun x hx => (h4 x hx).bulk) h2
 show AE.bulk p.types + AE.bulk p.nodes + 1 ≤ _
 omega
theorem QB {β : Type} [AVal β] {P : β → Prop} {f : AV → AV} : ∀ {l : List AV}, (∀ y ∈ l, ∃ x : β, f y = av x ∧ P x) → ∃ xs : List β, l.map f = xs.map av ∧ xs.length = l.length ∧ ∀ x ∈ xs, P x
 | [], _ => ⟨[], rfl, rfl, fun x hx => by cases hx⟩
 | y :: l, h => by
  obtain ⟨x, h1, h2⟩ := h y List.mem_cons_self
  obtain ⟨xs, h3, h4, h5⟩ := QB (l := l) fun z hz => h z (List.mem_cons_of_mem _ hz)
  exact ⟨x :: xs, by rw [List.map_cons, h1, h3]; rfl, by rw [List.length_cons, h4, List.length_cons], fun z hz => by
   rcases List.mem_cons.1 hz with rfl | hz
   ·exact h2
   ·exact h5 z hz⟩
theorem XK {m : Nat} {q : Pat} {e : Px} (h : q.nodes = B9 0 e) (hw : PxW m e) : ∀ x ∈ q.nodes, x.s.size ≤ m ∧ x.kids.length ≤ 2 := by
 have key : ∀ t : Px, PxW m t → ∀ b, ∀ x ∈ B9 b t, x.s.size ≤ m ∧ x.kids.length ≤ 2 := Px.ind fun n ks ih hw b x hx => by
  cases hw with
  | mk _ _ h1 h2 h3 h4 h5 =>
   rw [B9] at hx
   rcases List.mem_cons.1 hx with rfl | hx
   ·exact ⟨h3, by rw [Hk]; exact h4⟩
   ·have key2 : ∀ (l : List Px), (∀ k ∈ l, ∀ b, ∀ x ∈ B9 b k, x.s.size ≤ m ∧ x.kids.length ≤ 2) → ∀ b, ∀ x ∈ BO b l, x.s.size ≤ m ∧ x.kids.length ≤ 2 := by
     intro l
     induction l with
     | nil => intro _ b x hx; rw [BO] at hx; cases hx
     | cons k l ih2 =>
      intro hl b x hx
      rw [BO] at hx
      rcases List.mem_append.1 hx with h | h
      ·exact hl k (by simp) b x h
      ·exact ih2 (fun k hk => hl k (by simp [hk])) _ x h
    exact key2 ks (fun k hk b x hx => ih k hk (h5 k hk) b x hx) _ x hx
 intro x hx
 rw [h] at hx
 exact key e hw 0 x hx
theorem YO {m : Nat} {q : Pat} (h : QOk m q) (hm : m ≤ 402) : q.nodes.length ≤ 1210 ∧ ∀ x ∈ q.nodes, x.s.size ≤ 402 ∧ x.kids.length ≤ 2 := by
 obtain ⟨e, qe, qw, qn⟩ := h
 refine ⟨by rw [qe, Lg]; omega, fun x hx => ?_⟩
 have := XK qe qw x hx
 omega
section
variable {T H : Hp} {m : Nat}
def Ui (m : Nat) (T : Hp) (y : AV) : Prop := ∃ (k p n : Int) (s : ByteArray) (ks : List Int) (P : AV), s.size ≤ 402 ∧ Gs m T P ∧ y = .agg [.int .i64 k, .int .i64 p, .int .i64 n, .str s, .sl (ks.map av), P] ∧ ks.length ≤ 2000000
theorem F4.c {y : AV} (h : F4 m T y) (hm : m ≤ 402) : Ui m T y := by
 obtain ⟨k, p, n, s, ks, P, hs, hPA, rfl, hks⟩ := h
 exact ⟨k, p, n, s, ks, P, by omega, hPA, rfl, by omega⟩
theorem K6 (hTT : Bt T T) (hF : L9 T) (hI : ∀ p ∈ T, p.2.ty = 3 ∨ p.2.ty = 83 → Ay H p.1 = some p.2) (hm : m ≤ 402) {y : AV} (hy : Ui m T y) (hP : ∀ k ∈ kq y, Ay H k = Ay T k) (L : List Nat) : ∃ x : Node, nz (AV.pur (BK (SX T ++ L) H) y) = av x ∧ Aai x := by
 obtain ⟨k, p, n, s, ks, P, hs, hPA, rfl, hks⟩ := hy
 have key : ∃ l : List Pat, nz (AV.Bu (BK (SX T ++ L) H) P) = .sl (l.map av) ∧ l.length ≤ 403 ∧ ∀ q ∈ l, q.nodes.length ≤ 1210 ∧ ∀ x ∈ q.nodes, x.s.size ≤ 402 ∧ x.kids.length ≤ 2 := by
  rcases hPA with rfl | ⟨K, vs, l, rfl, hK, hle, hl, hq⟩
  ·exact ⟨[], rfl, Nat.zero_le _, fun q hq => by cases hq⟩
  ·have h1 : Ay H K = some ⟨vs K, false, 66, 1, ovL K vs 0 l ++ []⟩ := by
    rw [List.append_nil, hP K (List.mem_singleton.2 rfl)]; exact Cc hle
   have h2 := R0 hTT hF hI hle h1 (ex' := []) (fun _ _ => rfl) (fun _ => rfl) L
   rw [List.length_nil, Nat.add_zero, List.append_nil] at h2
   exact ⟨l, by rw [h2, Fx Zg], by omega, fun q hq' => YO (hq q hq') hm⟩
 obtain ⟨l, h1, h2, h3⟩ := key
 refine ⟨⟨k, p, n, s, ks, l⟩, ?_, hs, hks, h2, h3⟩
 show nz (.agg [.int .i64 k, .int .i64 p, .int .i64 n, .str s, .sl (ks.map av), AV.Bu _ P]) = _
 simp only [nz, nzL, h1]
 have := Fx UI ks
 simp only [nz] at this
 rw [this]; rfl
theorem El {l : List Con} (h : Vt m l) (hm : m ≤ 402) : Uk l := ⟨by have := h.1; omega, fun c hc => by
 obtain ⟨h1, h2, h3⟩ := h.2 c hc
 exact ⟨by omega, by omega, fun y hy => by have := h3 y hy; omega⟩⟩
theorem Mn (hm : m ≤ 402) {y : AV} (hy : TyA m y) (G : Hp) : ∃ x : Dm, nz (AV.pur G y) = av x ∧ Vq x := by
 obtain ⟨x, n, l, rfl, hx, hn, hl⟩ := hy
 refine ⟨⟨x, n, l⟩, ?_, by dsimp only [Vq]; exact ⟨by omega, El hl hm⟩⟩
 show nz (.agg [.str x, .int .i64 n, .sl (l.map av)]) = _
 rw [nz, nzL, nzL, nzL, nzL, Fx Zi]; rfl
theorem JJ {x : ByteArray} {n : Int} {l : List Con} {K v : Nat} {z : Bool} (hx : x.size ≤ 402) (hl : Uk l) (hK : Ay H K = some ⟨v, z, 96, 3, l.map av⟩) {ks : List Nat} (hk : K ∈ ks) : ∃ x' : Dm, nz (AV.pur (BK ks H) (.agg [.str x, .int .i64 n, .row K v l.length])) = av x' ∧ Vq x' := by
 refine ⟨⟨x, n, l⟩, ?_, hx, hl⟩
 show nz (.agg [.str x, .int .i64 n, AV.Bu _ (.row K v l.length)]) = _
 rw [DU (WW hK hk) (by simp), nz, nzL, nzL, nzL, nzL, Fx Zi]; rfl
theorem QM {H : Hp} {k : Nat} {b : Box} (h : Ay H k = some b) : Ay (Dr H k) k = some { b with frz := true, es := b.es.map (AV.pur H) } := by unfold Dr; rw [h]; exact Ft
theorem K4 {F TY : List AV} {u u3 : Nat} {ks : List Nat} (h1 : 2102 ∉ ks) (h2 : 2103 ∉ ks) (hN : Ay H 2102 = some ⟨u, false, 51, 6, F⟩) (hY : Ay H 2103 = some ⟨u3, false, 91, 3, TY⟩) (hF : ∀ y ∈ F, ∃ x : Node, nz (AV.pur (BK ks H) y) = av x ∧ Aai x) (hT : ∀ y ∈ TY, ∃ x : Dm, nz (AV.pur (BK (ks ++ [2102]) H) y) = av x ∧ Vq x) (hFl : F.length ≤ 600) (hTl : TY.length ≤ 402) :
  ∃ p : Program, nz (AV.pur (BK (ks ++ [2102, 2103]) H) (.agg [.row 2103 u3 TY.length, .row 2102 u F.length])) = av p ∧ Ob p := by
 obtain ⟨ns, a1, a2, a3⟩ := QB hF
 obtain ⟨ts, b1, b2, b3⟩ := QB hT
 refine ⟨⟨ts, ns⟩, ?_, by dsimp only; omega, by dsimp only; omega, a3, b3⟩
 have e0 : BK (ks ++ [2102, 2103]) H = Dr (Dr (BK ks H) 2102) 2103 := by rw [E8]; rfl
 have e1 : BK (ks ++ [2102]) H = Dr (BK ks H) 2102 := by rw [E8]; rfl
 rw [e1] at b1
 have c1 : Ay (BK ks H) 2102 = some ⟨u, false, 51, 6, F⟩ := (BI h1).trans hN
 have c2 : Ay (Dr (BK ks H) 2102) 2103 = some ⟨u3, false, 91, 3, TY⟩ := (Cm (by decide)).trans ((BI h2).trans hY)
 have c3 : Ay (Dr (BK ks H) 2102) 2102 = some ⟨u, true, 51, 6, F.map (AV.pur (BK ks H))⟩ := QM c1
 have c4 : Ay (Dr (Dr (BK ks H) 2102) 2103) 2103 = some ⟨u3, true, 91, 3, TY.map (AV.pur (Dr (BK ks H) 2102))⟩ := QM c2
 have c5 : Ay (Dr (Dr (BK ks H) 2102) 2103) 2102 = some ⟨u, true, 51, 6, F.map (AV.pur (BK ks H))⟩ := (Cm (by decide)).trans c3
 rw [e0]
 show nz (.agg [AV.Bu _ (.row 2103 u3 TY.length), AV.Bu _ (.row 2102 u F.length)]) = _
 rw [DU c4 (by simp), DU c5 (by simp)]
 simp only [nz, nzL, Fy, List.map_map]
 rw [show nz ∘ AV.pur (BK ks H) = fun y => nz (AV.pur (BK ks H) y) from rfl, show nz ∘ AV.pur (Dr (BK ks H) 2102) = fun y => nz (AV.pur (Dr (BK ks H) 2102) y) from rfl, a1, b1]
 rfl
end
def Qg (c : List UInt8) (v : Nat) (r : AV) (hp' : Hp) : Prop := ∃ (p : Program) (i : Nat) (h : Int), r = av p ∧ Ob p ∧ C6 c i h ∧ hp' = [(2000, BR c v i h)]
def AbS (r : AV) (hp' : Hp) : Prop := ∃ (p : Program) (c q : Int), r = .tup [av p, .int .i64 c, .int .i64 q] ∧ Ob p ∧ hp' = []
theorem UH : Ob ⟨[], []⟩ := ⟨Nat.zero_le _, Nat.zero_le _, fun x hx => (by cases hx), fun x hx => (by cases hx)⟩
def Oo (T : Hp) : List Nat := SX T ++ KX 96 T
theorem G6 {T : Hp} (h : L9 T) : ∀ k ∈ Oo T, 10000 ≤ k := fun k hk => (List.mem_append.1 hk).elim (ZE h k) (GH h k)
theorem RX {T H : Hp} {m nm u u3 : Nat} {F TY : List AV} (hD : Ee nm T) (hle : Bt H T) (hN : Ay H 2102 = some ⟨u, false, 51, 6, F⟩) (hY : Ay H 2103 = some ⟨u3, false, 91, 3, TY⟩) (hF : F.length ≤ 600) (hm : m ≤ 402) (hFn : ∀ y ∈ F, F4 m T y) (hTY : Lj m T TY) (hTl : TY.length ≤ m) :
  ∃ p : Program, nz (AV.pur (BK (Oo T ++ [2102, 2103]) H) (.agg [.row 2103 u3 TY.length, .row 2102 u F.length])) = av p ∧ Ob p := by
 have hfar := hD.far
 have hlow : ∀ k, k < 10000 → k ∉ Oo T := fun k hk e => by have := G6 hfar k e; omega
 have hg : ∀ p ∈ T, Ay H p.1 = some p.2 := AP.1 hle
 refine K4 (hlow _ (by decide)) (hlow _ (by decide)) hN hY (fun y hy => ?_) (fun y hy => ?_) hF (by omega)
 ·refine K6 hD.2.1 hfar (fun p hp _ => hg p hp) hm ((hFn y hy).c hm) (fun k hk => ?_) _
  obtain ⟨_, _, _, _, _, P, _, hP, rfl, _⟩ := hFn y hy
  rcases hP with rfl | ⟨K, vs, l, rfl, hK, hle, _⟩
  ·cases hk
  ·rw [List.mem_singleton.1 hk, Cc hle]
   exact hg _ (EY (Cc hle))
 ·rcases hTY with rfl | ⟨x, n, l, K, v, R, rfl, hx, hn, hl, hK, hKT, hR⟩
  ·cases hy
  ·rcases List.mem_cons.1 hy with rfl | hy
   ·exact JJ (by omega) (El hl hm) (hg _ (EY hKT)) (List.mem_append.2 (.inl (List.mem_append.2 (.inr (Fu hKT rfl)))))
   ·exact Mn hm (hR y hy) _
theorem Is (c : List UInt8) (v i : Nat) (h : Int) (hk : C6 c i h) : AW Tryz.prog 88 [.ptr 2000 v 0 0] [(2000, BR c v i h)] (Qg c v) := LW (Jp c v i 1 h hk) fun r hp' ⟨i', h', hk', hh⟩ => by
 rcases hh with ⟨rfl, rfl⟩ | ⟨TY, u3, u, F, T, m, rfl, rfl, hD, hF, hm, hFn, hFq, hTY, hTl, _⟩
 ·exact ⟨[], [(2000, BR c v i' h')], ⟨Ft, trivial⟩, ⟨[], []⟩, i', h', rfl, UH, hk', rfl⟩
 ·have hfar := hD.far
  obtain ⟨p, e1, e2⟩ := RX hD (H := (2000, BR c v i' h') :: (2103, ⟨u3, false, 91, 3, TY⟩) :: (2102, ⟨u, false, 51, 6, F⟩) :: T) (by repeat (first | exact hD.2.1 | refine Ag ?_ hfar (by decide))) rfl rfl hF hm hFn hTY hTl
  refine ⟨Oo T ++ [2102, 2103], [(2000, BR c v i' h')], ⟨?_, trivial⟩, p, i', h', e1, e2, hk', rfl⟩
  refine (BI fun e => ?_).trans Ft
  rcases List.mem_append.1 e with e | e
  ·have := G6 hfar _ e; omega
  ·simp at e
theorem Lk (t : ByteArray) (ht : t.size ≤ 400) : AW Tryz.prog 42 [.str t] [] AbS := LW (Oc 1 t (by omega)) fun r hp' hh => by
 rcases hh with ⟨c, p, rfl, _, rfl⟩ | ⟨TY, u3, u, F, T, rfl, rfl, hD, hF, hFn, hFq, hTY, hTl, _⟩
 ·exact ⟨[], [], trivial, ⟨[], []⟩, c, p, rfl, UH, rfl⟩
 ·have hfar := hD.far
  obtain ⟨p, e1, e2⟩ := RX hD (H := (2103, ⟨u3, false, 91, 3, TY⟩) :: (2102, ⟨u, false, 51, 6, F⟩) :: T) (by repeat (first | exact hD.2.1 | refine Ag ?_ hfar (by decide))) rfl rfl hF (by omega) hFn hTY hTl
  refine ⟨Oo T ++ [2102, 2103], [], trivial, p, 0, 0, ?_, e2, rfl⟩
  show nz (.tup [AV.pur _ _, .int .i64 0, .int .i64 0]) = _
  rw [nz, nzL, e1]; rfl
end Go.Proofs.YtoffpbehgncakaaGreat

/-
 TREES OF EXPRESSIONS IN ROWS OF THEIR OWN: each node in a box of its own, its kids and its patterns in rows of their own. Conditions: none.
-/
import Derived.Test.YtppjinmlfcokaaaGreatJOPat
import Derived.Test.YtppjinmlfcokaaaGreatJRenT
import Derived.Test.YtppjinmlfcokaaaGreatJJ17
import Derived.Test.YtppjinmlfcokaaaGreatJJ28
set_option linter.unusedVariables false
set_option linter.unusedSimpArgs false
set_option maxRecDepth 100000
namespace Go.Proofs.YtppjinmlfcokaaaGreat
open Go.RowKit Go.Proofs.YtppjinmlfcokaaaGreat.Av Go.Proofs.YtppjinmlfcokaaaGreat.Ml
open Go.Proofs.YtppjinmlfcokaaaGreat.Av.AVal (av)
open OVal (ov oh on)

def exB (n : Node) (k1 v1 l1 k2 v2 : Nat) : AV := .agg [.int .i64 n.kind, .int .i64 n.pos, .int .i64 n.n, .str n.s, .row k1 v1 l1, .row k2 v2 n.Ai.length]
def trP : Nat → (Nat → Nat) → Nat → List Tr → List AV
 | _, _, _, [] => []
 | nm, vs, i, t :: ts => .ptr (sub nm i) (vs (sub nm i)) 0 0 :: trP nm vs (i + 1) ts
mutual
def trH : Nat → (Nat → Nat) → Tr → Hp
 | nm, vs, .mk n ks => (FM (sub nm 0) vs 0 ks ++ [(sub nm 0, ⟨vs (sub nm 0), false, 55, 1, trP (sub nm 0) vs 0 ks⟩)]) ++ (oh (sub nm 1) vs n.Ai ++ [(nm, ⟨vs nm, false, 102, 6, [exB n (sub nm 0) (vs (sub nm 0)) ks.length (sub nm 1) (vs (sub nm 1))]⟩)])
def FM : Nat → (Nat → Nat) → Nat → List Tr → Hp
 | _, _, _, [] => []
 | nm, vs, i, t :: ts => trH (sub nm i) vs t ++ FM nm vs (i + 1) ts
end
mutual
def trN : Nat → Tr → List Nat
 | nm, .mk n ks => (OM (sub nm 0) 0 ks ++ [sub nm 0]) ++ (on (sub nm 1) n.Ai ++ [nm])
def OM : Nat → Nat → List Tr → List Nat
 | _, _, [] => []
 | nm, i, t :: ts => trN (sub nm i) t ++ OM nm (i + 1) ts
end
theorem YK (nm : Nat) (vs : Nat → Nat) : ∀ (i : Nat) (ks : List Tr), (trP nm vs i ks).length = ks.length
 | _, [] => by rw [trP]; rfl
 | i, t :: ts => by rw [trP, List.length_cons, List.length_cons, YK nm vs (i + 1) ts]
theorem Tc (nm : Nat) (vs : Nat → Nat) : ∀ (i : Nat) (ks : List Tr) (j : Nat), (trP nm vs i ks)[j]? = (ks[j]?).map fun _ => .ptr (sub nm (i + j)) (vs (sub nm (i + j))) 0 0
 | _, [], j => by simp [trP]
 | i, t :: ts, 0 => by simp [trP]
 | i, t :: ts, j + 1 => by
  rw [trP, List.getElem?_cons_succ, List.getElem?_cons_succ, Tc nm vs (i + 1) ts j, show i + 1 + j = i + (j + 1) by omega]
theorem Pf {nm : Nat} {vs : Nat → Nat} : ∀ {i : Nat} {ks : List Tr} {p : Nat × Box}, p ∈ FM nm vs i ks → ∃ j, ∃ hj : j < ks.length, p ∈ trH (sub nm (i + j)) vs ks[j]
 | i, [], p, h => by rw [FM] at h; cases h
 | i, e :: r, p, h => by
  rw [FM] at h
  rcases List.mem_append.1 h with h | h
  ·exact ⟨0, by simp, by simpa using h⟩
  ·obtain ⟨j, hj, h⟩ := Pf h
   exact ⟨j + 1, by simpa using hj, by rw [show i + (j + 1) = i + 1 + j by omega]; simpa using h⟩
theorem Xw {ks : List Tr} (h : ∀ k ∈ ks, ∀ nm vs, (trH nm vs k).map Prod.fst = trN nm k) : ∀ nm vs i, (FM nm vs i ks).map Prod.fst = OM nm i ks := by
 induction ks with
 | nil => intro nm vs i; rw [FM, OM]; rfl
 | cons k ks ih => intro nm vs i; rw [FM, OM, List.map_append, h k (by simp), ih fun k hk => h k (by simp [hk])]
theorem Rl : ∀ (t : Tr) (nm : Nat) (vs : Nat → Nat), (trH nm vs t).map Prod.fst = trN nm t := Tr.ind fun n ks ih nm vs => by
 rw [trH, trN]
 simp only [List.map_append, Xw ih, OVal.names, List.map_cons, List.map_nil]
theorem Td {ks : List Tr} (h : ∀ k ∈ ks, ∀ nm q, q ∈ trN nm k → InT nm q) : ∀ {nm i q}, q ∈ OM nm i ks → ∃ j, i ≤ j ∧ InT (sub nm j) q := by
 induction ks with
 | nil => intro nm i q hq; rw [OM] at hq; cases hq
 | cons k ks ih =>
  intro nm i q hq
  rw [OM] at hq
  rcases List.mem_append.1 hq with hq | hq
  ·exact ⟨i, Nat.le_refl _, h k (by simp) _ _ hq⟩
  ·obtain ⟨j, h1, h2⟩ := ih (fun k hk => h k (by simp [hk])) hq
   exact ⟨j, by omega, h2⟩
theorem Pc : ∀ (t : Tr) (nm q : Nat), q ∈ trN nm t → InT nm q := Tr.ind fun n ks ih nm q hq => by
 rw [trN] at hq
 rcases List.mem_append.1 hq with hq | hq
 ·rcases List.mem_append.1 hq with hq | hq
  ·obtain ⟨j, _, h⟩ := Td ih hq
   exact h.up.up
  ·rw [List.mem_singleton.1 hq]; exact .sub 0 .root
 ·rcases List.mem_append.1 hq with hq | hq
  ·exact (OVal.inn _ _ _ hq).up
  ·rw [List.mem_singleton.1 hq]; exact .root
theorem AbY {t : Tr} {nm : Nat} {vs : Nat → Nat} {p : Nat × Box} (h : p ∈ trH nm vs t) : InT nm p.1 := Pc t nm p.1 (by rw [← Rl t nm vs]; exact List.mem_map_of_mem h)
theorem OX {ks : List Tr} {nm i : Nat} {vs : Nat → Nat} {p : Nat × Box} (h : p ∈ FM nm vs i ks) : ∃ j, i ≤ j ∧ InT (sub nm j) p.1 := by
 obtain ⟨j, hj, hm⟩ := Pf h
 exact ⟨i + j, by omega, AbY hm⟩
theorem AaN {ks : List Tr} (h : ∀ k ∈ ks, ∀ nm vs, Ax (trH nm vs k) (trH nm vs k)) : ∀ nm vs i, Ax (FM nm vs i ks) (FM nm vs i ks) := by
 induction ks with
 | nil => intro nm vs i; rw [FM]; trivial
 | cons k ks ih =>
  intro nm vs i
  rw [FM]
  refine LC (h k (by simp) _ _) (ih (fun k hk => h k (by simp [hk])) _ _ _) fun p hp q hq e => ?_
  obtain ⟨j, h1, h2⟩ := OX hp
  have h3 := AbY hq
  rw [e] at h3
  have := h3.sib h2
  omega
theorem Vq (p : Nat × Box) : Ax [p] [p] := ⟨by simp [An], trivial⟩
theorem AbW : ∀ (t : Tr) (nm : Nat) (vs : Nat → Nat), Ax (trH nm vs t) (trH nm vs t) := Tr.ind fun n ks ih nm vs => by
 rw [trH]
 refine LC (LC (AaN ih _ _ _) (Vq _) fun p hp q hq e => ?_) (LC (OVal.self _ _ _) (Vq _) fun p hp q hq e => ?_) fun p hp q hq e => ?_
 ·rw [List.mem_singleton.1 hp] at e
  obtain ⟨j, _, h⟩ := OX hq
  exact h.ne e
 ·rw [List.mem_singleton.1 hp] at e
  exact (OVal.inh hq).ne e
 ·have h0 : InT (sub nm 0) q.1 := by
   rcases List.mem_append.1 hq with hq | hq
   ·obtain ⟨j, _, h⟩ := OX hq; exact h.up
   ·rw [List.mem_singleton.1 hq]; exact .root
  rcases List.mem_append.1 hp with hp | hp
  ·rw [e] at h0
   exact BG (by omega) h0 (OVal.inh hp)
  ·rw [List.mem_singleton.1 hp] at e
   exact h0.ne e
theorem Ug {nm : Nat} {vs vs' : Nat → Nat} (h : ∀ k, InT nm k → vs k = vs' k) : ∀ (i : Nat) (ks : List Tr), trP nm vs i ks = trP nm vs' i ks
 | _, [] => by rw [trP, trP]
 | i, t :: ts => by rw [trP, trP, h _ (.sub i .root), Ug h (i + 1) ts]
theorem AaM {ks : List Tr} (hh : ∀ k ∈ ks, ∀ nm (vs vs' : Nat → Nat), (∀ q, InT nm q → vs q = vs' q) → trH nm vs k = trH nm vs' k) : ∀ nm (vs vs' : Nat → Nat) i, (∀ q, InT nm q → vs q = vs' q) → FM nm vs i ks = FM nm vs' i ks := by
 induction ks with
 | nil => intro nm vs vs' i h; rw [FM, FM]
 | cons k ks ih =>
  intro nm vs vs' i h
  rw [FM, FM, hh k (by simp) _ vs vs' (fun q hq => h q hq.up), ih (fun k hk => hh k (by simp [hk])) nm vs vs' (i + 1) h]
theorem AbV : ∀ (t : Tr) (nm : Nat) (vs vs' : Nat → Nat), (∀ q, InT nm q → vs q = vs' q) → trH nm vs t = trH nm vs' t := Tr.ind fun n ks ih nm vs vs' h => by
 have hb := OVal.FL (sub nm 1) vs vs' n.Ai (fun q hq => h q hq.up)
 rw [trH, trH, AaM ih _ vs vs' 0 (fun q hq => h q hq.up), Ug (fun q hq => h q hq.up), hb.2, h nm .root, h _ (.sub 0 .root), h _ (.sub 1 .root)]
theorem Zj {nm v : Nat} {hp hp' : Hp} (h : An hp nm = An hp' nm) : (AV.ptr nm v 0 0).pur hp = (AV.ptr nm v 0 0).pur hp' := by simp only [AV.pur, AV.B7, h]
theorem AaO {ks : List Tr} (hh : ∀ k ∈ ks, ∀ nm (vs : Nat → Nat) hp, Ax hp (trH nm vs k) → (AV.ptr nm (vs nm) 0 0).pur (B3 (trN nm k) hp) = av k) : ∀ nm (vs : Nat → Nat) i hp, Ax hp (FM nm vs i ks) → (trP nm vs i ks).map (AV.pur (B3 (OM nm i ks) hp)) = ks.map av := by
 induction ks with
 | nil => intro nm vs i hp h; rw [trP]; rfl
 | cons k ks ih =>
  intro nm vs i hp h
  rw [FM, Ap] at h
  rw [trP, OM, List.map_cons, DU]
  have h1 := hh k (by simp) (sub nm i) vs hp h.1
  have h2 := ih (fun k hk => hh k (by simp [hk])) nm vs (i + 1) (B3 (trN (sub nm i) k) hp) (Jr (fun p hp' hm => by
   obtain ⟨j, hj, h3⟩ := OX hp'
   have := (Pc _ _ _ hm).sib h3
   omega) h.2)
  rw [h2, List.map_cons, ← h1]
  congr 1
  refine Zj ?_
  rw [BH]
  intro hm
  obtain ⟨j, hj, h3⟩ := Td (fun k _ nm q => Pc k nm q) hm
  have := h3.sib (i := j) (j := i) .root
  omega
theorem AbX : ∀ (t : Tr) (nm : Nat) (vs : Nat → Nat) (hp : Hp), Ax hp (trH nm vs t) → (AV.ptr nm (vs nm) 0 0).pur (B3 (trN nm t) hp) = av t := Tr.ind fun n ks ih nm vs hp h => by
 rw [trH, Ap, Ap, Ap] at h
 obtain ⟨⟨h1, h2⟩, h3, h4⟩ := h
 obtain ⟨bK, hbK⟩ : ∃ b : Box, b = ⟨vs (sub nm 0), false, 55, 1, trP (sub nm 0) vs 0 ks⟩ := ⟨_, rfl⟩
 obtain ⟨bB, hbB⟩ : ∃ b : Box, b = ⟨vs nm, false, 102, 6, [exB n (sub nm 0) (vs (sub nm 0)) ks.length (sub nm 1) (vs (sub nm 1))]⟩ := ⟨_, rfl⟩
 have hK : An hp (sub nm 0) = some bK := by rw [hbK]; exact h2.1
 have hB : An hp nm = some bB := by rw [hbB]; exact h4.1
 have l1 := AaO ih (sub nm 0) vs 0 hp h1
 have n1 : ∀ q, InT (sub nm 1) q ∨ q = nm ∨ q = sub nm 0 → q ∉ OM (sub nm 0) 0 ks := fun q hq hm => by
  obtain ⟨j, hj, h5⟩ := Td (fun k _ nm q => Pc k nm q) hm
  rcases hq with hq | hq | hq
  ·exact BG (by omega) h5.up hq
  ·exact h5.up.ne hq
  ·exact h5.ne hq
 rw [trN, DU, DU, DU, ET, Jt, ET, Jt]
 obtain ⟨H1, hH1⟩ : ∃ H1, H1 = B3 (OM (sub nm 0) 0 ks) hp := ⟨_, rfl⟩
 have hK1 : An H1 (sub nm 0) = some bK := by rw [hH1, BH (n1 _ (.inr (.inr rfl)))]; exact hK
 have hB1 : An H1 nm = some bB := by rw [hH1, BH (n1 _ (.inr (.inl rfl)))]; exact hB
 have h31 : Ax H1 (oh (sub nm 1) vs n.Ai) := by rw [hH1]; exact Jr (fun p hp hm => n1 _ (.inl (OVal.inh hp)) hm) h3
 rw [← hH1] at l1 ⊢
 clear hH1 h1 h2 h3 h4 hK hB
 obtain ⟨H2, hH2⟩ : ∃ H2, H2 = Gt H1 (sub nm 0) := ⟨_, rfl⟩
 have hK2 : An H2 (sub nm 0) = some ⟨vs (sub nm 0), true, 55, 1, ks.map av⟩ := by rw [hH2, Gt, hK1, hbK, ← l1]; exact AZ
 have hne : sub nm 0 ≠ nm := fun e => (InT.root (nm := sub nm 0)).ne e
 have hB2 : An H2 nm = some bB := by rw [hH2, JM hne]; exact hB1
 have h32 : Ax H2 (oh (sub nm 1) vs n.Ai) := by
  rw [hH2]
  exact Az.2 fun p hp => by rw [JM (fun e => BG (i := 0) (j := 1) (by omega) .root (e ▸ OVal.inh hp))]; exact Az.1 h31 p hp
 rw [← hH2]
 clear hH2 h31 hK1 hB1 l1 H1
 have l3 := OVal.HE (sub nm 1) vs n.Ai H2 h32
 obtain ⟨H3, hH3⟩ : ∃ H3, H3 = B3 (on (sub nm 1) n.Ai) H2 := ⟨_, rfl⟩
 have hK3 : An H3 (sub nm 0) = some ⟨vs (sub nm 0), true, 55, 1, ks.map av⟩ := by rw [hH3, BH (Gl (BG (i := 0) (j := 1) (by omega) .root))]; exact hK2
 have hB3 : An H3 nm = some bB := by rw [hH3, BH (Gl fun h => h.ne rfl)]; exact hB2
 rw [← hH3] at l3 ⊢
 clear hH3 h32 hK2 hB2
 rw [AJ] at l3
 have e1 : (AV.row (sub nm 0) (vs (sub nm 0)) ks.length).B7 H3 = .sl (ks.map av) := by
  simp only [AV.B7, hK3]
  rw [if_pos (by simp), List.take_of_length_le (by simp)]
 have e2 : (AV.row (sub nm 1) (vs (sub nm 1)) n.Ai.length).B7 H3 = .sl (n.Ai.map av) := l3
 have e4 : (AV.ptr nm (vs nm) 0 0).pur (Gt H3 nm) = .obj ((exB n (sub nm 0) (vs (sub nm 0)) ks.length (sub nm 1) (vs (sub nm 1))).pur H3).cells := by
  simp only [AV.pur, AV.B7, Gt, hB3, hbB, AZ]
  rw [if_pos (by simp)]
  rfl
 rw [e4, FK, exB]
 simp only [AV.pur, List.map_cons, List.map_nil, e1, e2, AV.cells]
 rfl
theorem AaP {ks : List Tr} (h : ∀ k ∈ ks, ∀ nm vs, ∀ p ∈ trH nm vs k, p.2.frz = false ∧ ∀ e ∈ p.2.es, ∀ x ∈ e.cells, x.GO = true) : ∀ nm vs i, ∀ p ∈ FM nm vs i ks, p.2.frz = false ∧ ∀ e ∈ p.2.es, ∀ x ∈ e.cells, x.GO = true := fun nm vs i p hp => by
 obtain ⟨j, hj, hm⟩ := Pf hp
 exact h _ (List.getElem_mem hj) _ _ p hm
theorem AbZ : ∀ (t : Tr) (nm : Nat) (vs : Nat → Nat), ∀ p ∈ trH nm vs t, p.2.frz = false ∧ ∀ e ∈ p.2.es, ∀ x ∈ e.cells, x.GO = true := Tr.ind fun n ks ih nm vs p hp => by
 rw [trH] at hp
 rcases List.mem_append.1 hp with hp | hp
 ·rcases List.mem_append.1 hp with hp | hp
  ·exact AaP ih _ _ _ p hp
  ·rw [List.mem_singleton.1 hp]
   refine ⟨rfl, fun e he x hx => ?_⟩
   obtain ⟨j, hj⟩ := List.getElem?_of_mem he
   rw [Tc, Option.map_eq_some_iff] at hj
   obtain ⟨_, _, rfl⟩ := hj
   simp only [AV.cells, List.mem_singleton] at hx
   subst hx; rfl
 ·rcases List.mem_append.1 hp with hp | hp
  ·exact OVal.free _ _ _ p hp
  ·rw [List.mem_singleton.1 hp]
   refine ⟨rfl, fun e he x hx => ?_⟩
   simp only [List.mem_singleton] at he
   subst he
   simp only [exB, AV.cells, List.mem_cons, List.not_mem_nil, or_false] at hx
   rcases hx with rfl | rfl | rfl | rfl | rfl | rfl <;> rfl
instance : OVal Tr where
 ty := 55
 ov nm vs _ := .ptr nm (vs nm) 0 0
 oh nm vs t := trH nm vs t
 on nm t := trN nm t
 names nm vs t := Rl t nm vs
 inn nm t k h := Pc t nm k h
 self nm vs t := AbW t nm vs
 FL nm vs vs' t h := ⟨by rw [h nm .root], AbV t nm vs vs' h⟩
 HE nm vs t hp h := AbX t nm vs hp h
 dep nm vs t hp hp' h := Zj (h nm .root)
 free nm vs t p h := AbZ t nm vs p h
 Kq nm vs t x hx := by simp only [AV.cells, List.mem_singleton] at hx; subst hx; rfl
 ok _ _ _ := rfl
 agg nm vs t := by obtain ⟨n, ks⟩ := t; rw [FK]; rfl
 len _ _ _ := rfl
theorem AD (nm : Nat) (vs : Nat → Nat) (t : Tr) : ov nm vs t = .ptr nm (vs nm) 0 0 := eqq rfl
theorem XU (nm : Nat) (vs : Nat → Nat) : ∀ (i : Nat) (ks : List Tr), ovL nm vs i ks = trP nm vs i ks
 | _, [] => by rw [trP]; rfl
 | i, t :: ts => by rw [trP, ovL, XU nm vs (i + 1) ts]; rfl
theorem AcE (nm : Nat) (vs : Nat → Nat) : ∀ (i : Nat) (ks : List Tr), ohL nm vs i ks = FM nm vs i ks
 | _, [] => by rw [FM]; rfl
 | i, t :: ts => by rw [FM, ohL, AcE nm vs (i + 1) ts]; rfl
theorem Oj (nm : Nat) (vs : Nat → Nat) (n : Node) (ks : List Tr) : oh nm vs (Tr.mk n ks) = oh (sub nm 0) vs ks ++ (oh (sub nm 1) vs n.Ai ++ [(nm, ⟨vs nm, false, 102, 6, [exB n (sub nm 0) (vs (sub nm 0)) ks.length (sub nm 1) (vs (sub nm 1))]⟩)]) := by
 show trH nm vs (.mk n ks) = _
 rw [trH, B8 (sub nm 0) vs ks, AcE, Dv, XU]; rfl
theorem Ca {H : Hp} {nm : Nat} {vs : Nat → Nat} {t : Tr} (h : Ax H (oh nm vs t)) : ∃ es, An H nm = some ⟨vs nm, false, 102, 6, es⟩ := by
 obtain ⟨n, ks⟩ := t
 rw [Oj, Ap, Ap] at h
 exact ⟨_, h.2.2.1⟩
instance : ORn Bu where
 cel nm nm' N vs y := .cons (.Ha _ rfl) (.cons (.Ha _ rfl) (.cons (.Ha _ rfl) (.cons (.row _ _ _ (.sub 0 .root)) .nil)))
 bx nm nm' N vs y p h := Ado (α := List Int) (i := 0) h
instance : ORn Pat where
 cel nm nm' N vs y := .cons (.row _ _ _ (.sub 0 .root)) .nil
 bx nm nm' N vs y p h := Ado (α := List Bu) (i := 0) h
def BxR (nm nm' N : Nat) (vs : Nat → Nat) (a b : Hp) : Prop := ∀ p' ∈ b, ∃ p ∈ a, Pth nm nm' p.1 p'.1 ∧ p.2.ver = vs p.1 ∧ p'.2.ver = N ∧ p.2.ty = p'.2.ty ∧ p.2.esz = p'.2.esz ∧ p.2.es.length = p'.2.es.length ∧
  ∀ (i : Nat) (e' : AV), p'.2.es[i]? = some e' → ∃ e, p.2.es[i]? = some e ∧ NY nm nm' vs N e.cells e'.cells
theorem BxR.down {nm nm' N i : Nat} {vs : Nat → Nat} {a b : Hp} (h : BxR (sub nm i) (sub nm' i) N vs a b) : BxR nm nm' N vs a b := fun p' hp' => by
 obtain ⟨p, hp, h1, h2, h3, h4, h5, h6, h7⟩ := h p' hp'
 exact ⟨p, hp, h1.down, h2, h3, h4, h5, h6, fun i e' he => let ⟨e, a, b⟩ := h7 i e' he; ⟨e, a, b.down⟩⟩
theorem BxR.app {nm nm' N : Nat} {vs : Nat → Nat} {a b c d : Hp} (h1 : BxR nm nm' N vs a b) (h2 : BxR nm nm' N vs c d) : BxR nm nm' N vs (a ++ c) (b ++ d) := fun p' hp' => by
 rcases List.mem_append.1 hp' with h | h
 ·obtain ⟨p, hp, q⟩ := h1 p' h; exact ⟨p, List.mem_append_left _ hp, q⟩
 ·obtain ⟨p, hp, q⟩ := h2 p' h; exact ⟨p, List.mem_append_right _ hp, q⟩
theorem AdT {ks : List Tr} {N : Nat} {vs : Nat → Nat} (h : ∀ k ∈ ks, ∀ nm nm', BxR nm nm' N vs (trH nm vs k) (trH nm' (fun _ => N) k)) : ∀ nm nm' i, BxR nm nm' N vs (FM nm vs i ks) (FM nm' (fun _ => N) i ks) := by
 induction ks with
 | nil => intro nm nm' i p hp; rw [FM] at hp; cases hp
 | cons k ks ih =>
  intro nm nm' i
  rw [FM, FM]
  exact (h k (by simp) _ _).down.app (ih (fun k hk => h k (by simp [hk])) _ _ _)
theorem AeP (N : Nat) (vs : Nat → Nat) : ∀ (t : Tr) (nm nm' : Nat), BxR nm nm' N vs (trH nm vs t) (trH nm' (fun _ => N) t) := Tr.ind fun n ks ih nm nm' => by
 rw [trH, trH]
 refine BxR.app (BxR.app (AdT ih _ _ _).down ?_) (BxR.app (BxR.down (i := 1) (fun p hp => ORn.bx _ _ N vs n.Ai p hp)) ?_)
 ·intro p' hp'
  rw [List.mem_singleton.1 hp']
  refine ⟨_, List.mem_singleton.2 rfl, .sub 0 .root, rfl, rfl, rfl, rfl, by simp [YK], fun i e' he => ?_⟩
  simp only [Tc, Option.map_eq_some_iff] at he ⊢
  obtain ⟨a, ha, rfl⟩ := he
  exact ⟨_, ⟨a, ha, rfl⟩, .cons (.ptr _ _ _ _ (.sub _ (.sub 0 .root))) .nil⟩
 ·intro p' hp'
  rw [List.mem_singleton.1 hp']
  refine ⟨_, List.mem_singleton.2 rfl, .root, rfl, rfl, rfl, rfl, rfl, fun i e' he => ?_⟩
  cases i with
  | zero =>
   simp only [List.getElem?_cons_zero, Option.some.injEq] at he
   subst he
   exact ⟨_, rfl, .cons (.Ha _ rfl) (.cons (.Ha _ rfl) (.cons (.Ha _ rfl) (.cons (.Ha _ rfl) (.cons (.row _ _ _ (.sub 0 .root)) (.cons (.row _ _ _ (.sub 1 .root)) .nil)))))⟩
  | succ i => simp at he
instance : ORn Tr where
 cel nm nm' N vs y := .cons (.ptr _ _ _ _ .root) .nil
 bx nm nm' N vs y := AeP N vs y nm nm'
end Go.Proofs.YtppjinmlfcokaaaGreat

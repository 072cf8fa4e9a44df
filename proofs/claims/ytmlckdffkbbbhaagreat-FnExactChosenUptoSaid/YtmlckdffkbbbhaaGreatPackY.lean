/-
 THE GROUND OF DATA, in one text. Conditions: none.
-/
import Derived.Test.YtmlckdffkbbbhaaGreatPackM
import Derived.Test.YtmlckdffkbbbhaaGreatPackO
import Derived.Test.YtmlckdffkbbbhaaGreatPackT
import Derived.Test.YtmlckdffkbbbhaaGreatPackF
import Derived.Test.YtmlckdffkbbbhaaGreatIrGrowO

set_option linter.unusedVariables false
set_option linter.unusedSimpArgs false
set_option maxRecDepth 100000
namespace Go.Proofs.YtmlckdffkbbbhaaGreat
open Go.RowKit Go.Proofs.YtmlckdffkbbbhaaGreat.Av Go.Proofs.YtmlckdffkbbbhaaGreat.Ml
open Go.Proofs.YtmlckdffkbbbhaaGreat.Av.AVal (av)
open OVal (ov oh on)

def exB (n : Node) (k1 v1 l1 k2 v2 : Nat) : AV := .agg [.int .i64 n.kind, .int .i64 n.pos, .int .i64 n.n, .str n.s, .row k1 v1 l1, .row k2 v2 n.pats.length]
def trP : Nat → (Nat → Nat) → Nat → List Tr → List AV
 | _, _, _, [] => []
 | nm, vs, i, t :: ts => .ptr (sub nm i) (vs (sub nm i)) 0 0 :: trP nm vs (i + 1) ts
mutual
def trH : Nat → (Nat → Nat) → Tr → Hp
 | nm, vs, .mk n ks => (trHs (sub nm 0) vs 0 ks ++ [(sub nm 0, ⟨vs (sub nm 0), false, 54, 1, trP (sub nm 0) vs 0 ks⟩)]) ++ (oh (sub nm 1) vs n.pats ++ [(nm, ⟨vs nm, false, 100, 6, [exB n (sub nm 0) (vs (sub nm 0)) ks.length (sub nm 1) (vs (sub nm 1))]⟩)])
def trHs : Nat → (Nat → Nat) → Nat → List Tr → Hp
 | _, _, _, [] => []
 | nm, vs, i, t :: ts => trH (sub nm i) vs t ++ trHs nm vs (i + 1) ts
end
mutual
def trN : Nat → Tr → List Nat
 | nm, .mk n ks => (trNs (sub nm 0) 0 ks ++ [sub nm 0]) ++ (on (sub nm 1) n.pats ++ [nm])
def trNs : Nat → Nat → List Tr → List Nat
 | _, _, [] => []
 | nm, i, t :: ts => trN (sub nm i) t ++ trNs nm (i + 1) ts
end
theorem trP_len (nm : Nat) (vs : Nat → Nat) : ∀ (i : Nat) (ks : List Tr), (trP nm vs i ks).length = ks.length
 | _, [] => by rw [trP]; rfl
 | i, t :: ts => by rw [trP, List.length_cons, List.length_cons, trP_len nm vs (i + 1) ts]
theorem trP_get (nm : Nat) (vs : Nat → Nat) : ∀ (i : Nat) (ks : List Tr) (j : Nat), (trP nm vs i ks)[j]? = (ks[j]?).map fun _ => .ptr (sub nm (i + j)) (vs (sub nm (i + j))) 0 0
 | _, [], j => by simp [trP]
 | i, t :: ts, 0 => by simp [trP]
 | i, t :: ts, j + 1 => by
  rw [trP, List.getElem?_cons_succ, List.getElem?_cons_succ, trP_get nm vs (i + 1) ts j, show i + 1 + j = i + (j + 1) by omega]
theorem trHs_mem {nm : Nat} {vs : Nat → Nat} : ∀ {i : Nat} {ks : List Tr} {p : Nat × Box}, p ∈ trHs nm vs i ks → ∃ j, ∃ hj : j < ks.length, p ∈ trH (sub nm (i + j)) vs ks[j]
 | i, [], p, h => by rw [trHs] at h; cases h
 | i, e :: r, p, h => by
  rw [trHs] at h
  rcases List.mem_append.1 h with h | h
  ·exact ⟨0, by simp, by simpa using h⟩
  ·obtain ⟨j, hj, h⟩ := trHs_mem h
   exact ⟨j + 1, by simpa using hj, by rw [show i + (j + 1) = i + 1 + j by omega]; simpa using h⟩
theorem mem_trHs {nm : Nat} {vs : Nat → Nat} : ∀ {i : Nat} {ks : List Tr} {p : Nat × Box} (j : Nat) (hj : j < ks.length), p ∈ trH (sub nm (i + j)) vs ks[j] → p ∈ trHs nm vs i ks
 | i, e :: r, p, 0, hj, h => by rw [trHs]; exact List.mem_append_left _ (by simpa using h)
 | i, e :: r, p, j + 1, hj, h => by
  rw [trHs]
  exact List.mem_append_right _ (mem_trHs j (by simpa using hj) (by rw [show i + (j + 1) = i + 1 + j by omega] at h; simpa using h))
theorem trHs_names {ks : List Tr} (h : ∀ k ∈ ks, ∀ nm vs, (trH nm vs k).map Prod.fst = trN nm k) : ∀ nm vs i, (trHs nm vs i ks).map Prod.fst = trNs nm i ks := by
 induction ks with
 | nil => intro nm vs i; rw [trHs, trNs]; rfl
 | cons k ks ih => intro nm vs i; rw [trHs, trNs, List.map_append, h k (by simp), ih fun k hk => h k (by simp [hk])]
theorem trH_names : ∀ (t : Tr) (nm : Nat) (vs : Nat → Nat), (trH nm vs t).map Prod.fst = trN nm t := Tr.ind fun n ks ih nm vs => by
 rw [trH, trN]
 simp only [List.map_append, trHs_names ih, OVal.names, List.map_cons, List.map_nil]
theorem trNs_in {ks : List Tr} (h : ∀ k ∈ ks, ∀ nm q, q ∈ trN nm k → InT nm q) : ∀ {nm i q}, q ∈ trNs nm i ks → ∃ j, i ≤ j ∧ InT (sub nm j) q := by
 induction ks with
 | nil => intro nm i q hq; rw [trNs] at hq; cases hq
 | cons k ks ih =>
  intro nm i q hq
  rw [trNs] at hq
  rcases List.mem_append.1 hq with hq | hq
  ·exact ⟨i, Nat.le_refl _, h k (by simp) _ _ hq⟩
  ·obtain ⟨j, h1, h2⟩ := ih (fun k hk => h k (by simp [hk])) hq
   exact ⟨j, by omega, h2⟩
theorem trN_in : ∀ (t : Tr) (nm q : Nat), q ∈ trN nm t → InT nm q := Tr.ind fun n ks ih nm q hq => by
 rw [trN] at hq
 rcases List.mem_append.1 hq with hq | hq
 ·rcases List.mem_append.1 hq with hq | hq
  ·obtain ⟨j, _, h⟩ := trNs_in ih hq
   exact h.up.up
  ·rw [List.mem_singleton.1 hq]; exact .sub 0 .root
 ·rcases List.mem_append.1 hq with hq | hq
  ·exact (OVal.inn _ _ _ hq).up
  ·rw [List.mem_singleton.1 hq]; exact .root
theorem trH_in {t : Tr} {nm : Nat} {vs : Nat → Nat} {p : Nat × Box} (h : p ∈ trH nm vs t) : InT nm p.1 := trN_in t nm p.1 (by rw [← trH_names t nm vs]; exact List.mem_map_of_mem h)
theorem trHs_in {ks : List Tr} {nm i : Nat} {vs : Nat → Nat} {p : Nat × Box} (h : p ∈ trHs nm vs i ks) : ∃ j, i ≤ j ∧ InT (sub nm j) p.1 := by
 obtain ⟨j, hj, hm⟩ := trHs_mem h
 exact ⟨i + j, by omega, trH_in hm⟩
theorem trHs_self {ks : List Tr} (h : ∀ k ∈ ks, ∀ nm vs, hpLe (trH nm vs k) (trH nm vs k)) : ∀ nm vs i, hpLe (trHs nm vs i ks) (trHs nm vs i ks) := by
 induction ks with
 | nil => intro nm vs i; rw [trHs]; trivial
 | cons k ks ih =>
  intro nm vs i
  rw [trHs]
  refine self2 (h k (by simp) _ _) (ih (fun k hk => h k (by simp [hk])) _ _ _) fun p hp q hq e => ?_
  obtain ⟨j, h1, h2⟩ := trHs_in hp
  have h3 := trH_in hq
  rw [e] at h3
  have := h3.sib h2
  omega
theorem one_self (p : Nat × Box) : hpLe [p] [p] := ⟨by simp [hget], trivial⟩
theorem trH_self : ∀ (t : Tr) (nm : Nat) (vs : Nat → Nat), hpLe (trH nm vs t) (trH nm vs t) := Tr.ind fun n ks ih nm vs => by
 rw [trH]
 refine self2 (self2 (trHs_self ih _ _ _) (one_self _) fun p hp q hq e => ?_) (self2 (OVal.self _ _ _) (one_self _) fun p hp q hq e => ?_) fun p hp q hq e => ?_
 ·rw [List.mem_singleton.1 hp] at e
  obtain ⟨j, _, h⟩ := trHs_in hq
  exact h.ne e
 ·rw [List.mem_singleton.1 hp] at e
  exact (OVal.inh hq).ne e
 ·have h0 : InT (sub nm 0) q.1 := by
   rcases List.mem_append.1 hq with hq | hq
   ·obtain ⟨j, _, h⟩ := trHs_in hq; exact h.up
   ·rw [List.mem_singleton.1 hq]; exact .root
  rcases List.mem_append.1 hp with hp | hp
  ·rw [e] at h0
   exact sib_ne (by omega) h0 (OVal.inh hp)
  ·rw [List.mem_singleton.1 hp] at e
   exact h0.ne e
theorem trP_vdep {nm : Nat} {vs vs' : Nat → Nat} (h : ∀ k, InT nm k → vs k = vs' k) : ∀ (i : Nat) (ks : List Tr), trP nm vs i ks = trP nm vs' i ks
 | _, [] => by rw [trP, trP]
 | i, t :: ts => by rw [trP, trP, h _ (.sub i .root), trP_vdep h (i + 1) ts]
theorem trHs_vdep {ks : List Tr} (hh : ∀ k ∈ ks, ∀ nm (vs vs' : Nat → Nat), (∀ q, InT nm q → vs q = vs' q) → trH nm vs k = trH nm vs' k) : ∀ nm (vs vs' : Nat → Nat) i, (∀ q, InT nm q → vs q = vs' q) → trHs nm vs i ks = trHs nm vs' i ks := by
 induction ks with
 | nil => intro nm vs vs' i h; rw [trHs, trHs]
 | cons k ks ih =>
  intro nm vs vs' i h
  rw [trHs, trHs, hh k (by simp) _ vs vs' (fun q hq => h q hq.up), ih (fun k hk => hh k (by simp [hk])) nm vs vs' (i + 1) h]
theorem trH_vdep : ∀ (t : Tr) (nm : Nat) (vs vs' : Nat → Nat), (∀ q, InT nm q → vs q = vs' q) → trH nm vs t = trH nm vs' t := Tr.ind fun n ks ih nm vs vs' h => by
 have hb := OVal.vdep (sub nm 1) vs vs' n.pats (fun q hq => h q hq.up)
 rw [trH, trH, trHs_vdep ih _ vs vs' 0 (fun q hq => h q hq.up), trP_vdep (fun q hq => h q hq.up), hb.2, h nm .root, h _ (.sub 0 .root), h _ (.sub 1 .root)]
theorem ptr_dep {nm v : Nat} {hp hp' : Hp} (h : hget hp nm = hget hp' nm) : (AV.ptr nm v 0 0).pur hp = (AV.ptr nm v 0 0).pur hp' := by simp only [AV.pur, AV.pur1, h]
theorem trHs_lend {ks : List Tr} (hh : ∀ k ∈ ks, ∀ nm (vs : Nat → Nat) hp, hpLe hp (trH nm vs k) → (AV.ptr nm (vs nm) 0 0).pur (frzL (trN nm k) hp) = av k) : ∀ nm (vs : Nat → Nat) i hp, hpLe hp (trHs nm vs i ks) → (trP nm vs i ks).map (AV.pur (frzL (trNs nm i ks) hp)) = ks.map av := by
 induction ks with
 | nil => intro nm vs i hp h; rw [trP]; rfl
 | cons k ks ih =>
  intro nm vs i hp h
  rw [trHs, hpLe_app] at h
  rw [trP, trNs, List.map_cons, frzL_app]
  have h1 := hh k (by simp) (sub nm i) vs hp h.1
  have h2 := ih (fun k hk => hh k (by simp [hk])) nm vs (i + 1) (frzL (trN (sub nm i) k) hp) (hpLe_frz (fun p hp' hm => by
   obtain ⟨j, hj, h3⟩ := trHs_in hp'
   have := (trN_in _ _ _ hm).sib h3
   omega) h.2)
  rw [h2, List.map_cons, ← h1]
  congr 1
  refine ptr_dep ?_
  rw [hget_frzL_out]
  intro hm
  obtain ⟨j, hj, h3⟩ := trNs_in (fun k _ nm q => trN_in k nm q) hm
  have := h3.sib (i := j) (j := i) .root
  omega
theorem trH_lend : ∀ (t : Tr) (nm : Nat) (vs : Nat → Nat) (hp : Hp), hpLe hp (trH nm vs t) → (AV.ptr nm (vs nm) 0 0).pur (frzL (trN nm t) hp) = av t := Tr.ind fun n ks ih nm vs hp h => by
 rw [trH, hpLe_app, hpLe_app, hpLe_app] at h
 obtain ⟨⟨h1, h2⟩, h3, h4⟩ := h
 obtain ⟨bK, hbK⟩ : ∃ b : Box, b = ⟨vs (sub nm 0), false, 54, 1, trP (sub nm 0) vs 0 ks⟩ := ⟨_, rfl⟩
 obtain ⟨bB, hbB⟩ : ∃ b : Box, b = ⟨vs nm, false, 100, 6, [exB n (sub nm 0) (vs (sub nm 0)) ks.length (sub nm 1) (vs (sub nm 1))]⟩ := ⟨_, rfl⟩
 have hK : hget hp (sub nm 0) = some bK := by rw [hbK]; exact h2.1
 have hB : hget hp nm = some bB := by rw [hbB]; exact h4.1
 have l1 := trHs_lend ih (sub nm 0) vs 0 hp h1
 have n1 : ∀ q, InT (sub nm 1) q ∨ q = nm ∨ q = sub nm 0 → q ∉ trNs (sub nm 0) 0 ks := fun q hq hm => by
  obtain ⟨j, hj, h5⟩ := trNs_in (fun k _ nm q => trN_in k nm q) hm
  rcases hq with hq | hq | hq
  ·exact sib_ne (by omega) h5.up hq
  ·exact h5.up.ne hq
  ·exact h5.ne hq
 rw [trN, frzL_app, frzL_app, frzL_app, frzL_cons, frzL_nil, frzL_cons, frzL_nil]
 obtain ⟨H1, hH1⟩ : ∃ H1, H1 = frzL (trNs (sub nm 0) 0 ks) hp := ⟨_, rfl⟩
 have hK1 : hget H1 (sub nm 0) = some bK := by rw [hH1, hget_frzL_out (n1 _ (.inr (.inr rfl)))]; exact hK
 have hB1 : hget H1 nm = some bB := by rw [hH1, hget_frzL_out (n1 _ (.inr (.inl rfl)))]; exact hB
 have h31 : hpLe H1 (oh (sub nm 1) vs n.pats) := by rw [hH1]; exact hpLe_frz (fun p hp hm => n1 _ (.inl (OVal.inh hp)) hm) h3
 rw [← hH1] at l1 ⊢
 clear hH1 h1 h2 h3 h4 hK hB
 obtain ⟨H2, hH2⟩ : ∃ H2, H2 = hfrz H1 (sub nm 0) := ⟨_, rfl⟩
 have hK2 : hget H2 (sub nm 0) = some ⟨vs (sub nm 0), true, 54, 1, ks.map av⟩ := by rw [hH2, hfrz, hK1, hbK, ← l1]; exact hg_eq
 have hne : sub nm 0 ≠ nm := fun e => (InT.root (nm := sub nm 0)).ne e
 have hB2 : hget H2 nm = some bB := by rw [hH2, hget_hfrz_ne hne]; exact hB1
 have h32 : hpLe H2 (oh (sub nm 1) vs n.pats) := by
  rw [hH2]
  exact hpLe_iff.2 fun p hp => by rw [hget_hfrz_ne (fun e => sib_ne (i := 0) (j := 1) (by omega) .root (e ▸ OVal.inh hp))]; exact hpLe_iff.1 h31 p hp
 rw [← hH2]
 clear hH2 h31 hK1 hB1 l1 H1
 have l3 := OVal.lend (sub nm 1) vs n.pats H2 h32
 obtain ⟨H3, hH3⟩ : ∃ H3, H3 = frzL (on (sub nm 1) n.pats) H2 := ⟨_, rfl⟩
 have hK3 : hget H3 (sub nm 0) = some ⟨vs (sub nm 0), true, 54, 1, ks.map av⟩ := by rw [hH3, hget_frzL_out (on_out (sib_ne (i := 0) (j := 1) (by omega) .root))]; exact hK2
 have hB3 : hget H3 nm = some bB := by rw [hH3, hget_frzL_out (on_out fun h => h.ne rfl)]; exact hB2
 rw [← hH3] at l3 ⊢
 clear hH3 h32 hK2 hB2
 rw [ov_list] at l3
 have e1 : (AV.row (sub nm 0) (vs (sub nm 0)) ks.length).pur1 H3 = .sl (ks.map av) := by
  simp only [AV.pur1, hK3]
  rw [if_pos (by simp), List.take_of_length_le (by simp)]
 have e2 : (AV.row (sub nm 1) (vs (sub nm 1)) n.pats.length).pur1 H3 = .sl (n.pats.map av) := l3
 have e4 : (AV.ptr nm (vs nm) 0 0).pur (hfrz H3 nm) = .obj ((exB n (sub nm 0) (vs (sub nm 0)) ks.length (sub nm 1) (vs (sub nm 1))).pur H3).cells := by
  simp only [AV.pur, AV.pur1, hfrz, hB3, hbB, hg_eq]
  rw [if_pos (by simp)]
  rfl
 rw [e4, av_Tr, exB]
 simp only [AV.pur, List.map_cons, List.map_nil, e1, e2, AV.cells]
 rfl
theorem trHs_free {ks : List Tr} (h : ∀ k ∈ ks, ∀ nm vs, ∀ p ∈ trH nm vs k, p.2.frz = false ∧ ∀ e ∈ p.2.es, ∀ x ∈ e.cells, x.free1 = true) : ∀ nm vs i, ∀ p ∈ trHs nm vs i ks, p.2.frz = false ∧ ∀ e ∈ p.2.es, ∀ x ∈ e.cells, x.free1 = true := fun nm vs i p hp => by
 obtain ⟨j, hj, hm⟩ := trHs_mem hp
 exact h _ (List.getElem_mem hj) _ _ p hm
theorem trH_free : ∀ (t : Tr) (nm : Nat) (vs : Nat → Nat), ∀ p ∈ trH nm vs t, p.2.frz = false ∧ ∀ e ∈ p.2.es, ∀ x ∈ e.cells, x.free1 = true := Tr.ind fun n ks ih nm vs p hp => by
 rw [trH] at hp
 rcases List.mem_append.1 hp with hp | hp
 ·rcases List.mem_append.1 hp with hp | hp
  ·exact trHs_free ih _ _ _ p hp
  ·rw [List.mem_singleton.1 hp]
   refine ⟨rfl, fun e he x hx => ?_⟩
   obtain ⟨j, hj⟩ := List.getElem?_of_mem he
   rw [trP_get, Option.map_eq_some_iff] at hj
   obtain ⟨_, _, rfl⟩ := hj
   simp only [AV.cells, List.mem_singleton] at hx
   subst hx; rfl
 ·rcases List.mem_append.1 hp with hp | hp
  ·exact OVal.free _ _ _ p hp
  ·rw [List.mem_singleton.1 hp]
   refine ⟨rfl, fun e he x hx => ?_⟩
   simp only [List.mem_singleton] at he
   subst he
   simp only [exB, AV.cells, List.mem_cons, List.not_mem_nil, or_false] at hx
   rcases hx with rfl | rfl | rfl | rfl | rfl | rfl <;> rfl
instance : OVal Tr where
 ty := 54
 ov nm vs _ := .ptr nm (vs nm) 0 0
 oh nm vs t := trH nm vs t
 on nm t := trN nm t
 names nm vs t := trH_names t nm vs
 inn nm t k h := trN_in t nm k h
 self nm vs t := trH_self t nm vs
 vdep nm vs vs' t h := ⟨by rw [h nm .root], trH_vdep t nm vs vs' h⟩
 lend nm vs t hp h := trH_lend t nm vs hp h
 dep nm vs t hp hp' h := ptr_dep (h nm .root)
 free nm vs t p h := trH_free t nm vs p h
 cfree nm vs t x hx := by simp only [AV.cells, List.mem_singleton] at hx; subst hx; rfl
 ok _ _ _ := rfl
 agg nm vs t := by obtain ⟨n, ks⟩ := t; rw [av_Tr]; rfl
 len _ _ _ := rfl
theorem ov_Tr (nm : Nat) (vs : Nat → Nat) (t : Tr) : ov nm vs t = .ptr nm (vs nm) 0 0 := eqq rfl
theorem ovL_tr (nm : Nat) (vs : Nat → Nat) : ∀ (i : Nat) (ks : List Tr), ovL nm vs i ks = trP nm vs i ks
 | _, [] => by rw [trP]; rfl
 | i, t :: ts => by rw [trP, ovL, ovL_tr nm vs (i + 1) ts]; rfl
theorem ohL_tr (nm : Nat) (vs : Nat → Nat) : ∀ (i : Nat) (ks : List Tr), ohL nm vs i ks = trHs nm vs i ks
 | _, [] => by rw [trHs]; rfl
 | i, t :: ts => by rw [trHs, ohL, ohL_tr nm vs (i + 1) ts]; rfl
theorem onL_tr (nm : Nat) : ∀ (i : Nat) (ks : List Tr), onL nm i ks = trNs nm i ks
 | _, [] => by rw [trNs]; rfl
 | i, t :: ts => by rw [trNs, onL, onL_tr nm (i + 1) ts]; rfl
theorem oh_Tr (nm : Nat) (vs : Nat → Nat) (n : Node) (ks : List Tr) : oh nm vs (Tr.mk n ks) = oh (sub nm 0) vs ks ++ (oh (sub nm 1) vs n.pats ++ [(nm, ⟨vs nm, false, 100, 6, [exB n (sub nm 0) (vs (sub nm 0)) ks.length (sub nm 1) (vs (sub nm 1))]⟩)]) := by
 show trH nm vs (.mk n ks) = _
 rw [trH, oh_list (sub nm 0) vs ks, ohL_tr, lbox, ovL_tr]; rfl
theorem on_Tr (nm : Nat) (n : Node) (ks : List Tr) : on nm (Tr.mk n ks) = on (sub nm 0) ks ++ (on (sub nm 1) n.pats ++ [nm]) := by
 show trN nm (.mk n ks) = _
 rw [trN, ← onL_tr]; rfl
theorem tr_root {H : Hp} {nm : Nat} {vs : Nat → Nat} {t : Tr} (h : hpLe H (oh nm vs t)) : ∃ es, hget H nm = some ⟨vs nm, false, 100, 6, es⟩ := by
 obtain ⟨n, ks⟩ := t
 rw [oh_Tr, hpLe_app, hpLe_app] at h
 exact ⟨_, h.2.2.1⟩
instance : ORn PNode where
 cel nm nm' N vs y := .cons (.scal _ rfl) (.cons (.scal _ rfl) (.cons (.scal _ rfl) (.cons (.row _ _ _ (.sub 0 .root)) .nil)))
 bx nm nm' N vs y p h := bx_up (α := List Int) (i := 0) h
instance : ORn Pat where
 cel nm nm' N vs y := .cons (.row _ _ _ (.sub 0 .root)) .nil
 bx nm nm' N vs y p h := bx_up (α := List PNode) (i := 0) h
def BxR (nm nm' N : Nat) (vs : Nat → Nat) (a b : Hp) : Prop := ∀ p' ∈ b, ∃ p ∈ a, Pth nm nm' p.1 p'.1 ∧ p.2.ver = vs p.1 ∧ p'.2.ver = N ∧ p.2.ty = p'.2.ty ∧ p.2.esz = p'.2.esz ∧ p.2.es.length = p'.2.es.length ∧
  ∀ (i : Nat) (e' : AV), p'.2.es[i]? = some e' → ∃ e, p.2.es[i]? = some e ∧ CellsR nm nm' vs N e.cells e'.cells
theorem BxR.down {nm nm' N i : Nat} {vs : Nat → Nat} {a b : Hp} (h : BxR (sub nm i) (sub nm' i) N vs a b) : BxR nm nm' N vs a b := fun p' hp' => by
 obtain ⟨p, hp, h1, h2, h3, h4, h5, h6, h7⟩ := h p' hp'
 exact ⟨p, hp, h1.down, h2, h3, h4, h5, h6, fun i e' he => let ⟨e, a, b⟩ := h7 i e' he; ⟨e, a, b.down⟩⟩
theorem BxR.app {nm nm' N : Nat} {vs : Nat → Nat} {a b c d : Hp} (h1 : BxR nm nm' N vs a b) (h2 : BxR nm nm' N vs c d) : BxR nm nm' N vs (a ++ c) (b ++ d) := fun p' hp' => by
 rcases List.mem_append.1 hp' with h | h
 ·obtain ⟨p, hp, q⟩ := h1 p' h; exact ⟨p, List.mem_append_left _ hp, q⟩
 ·obtain ⟨p, hp, q⟩ := h2 p' h; exact ⟨p, List.mem_append_right _ hp, q⟩
theorem trHs_bx {ks : List Tr} {N : Nat} {vs : Nat → Nat} (h : ∀ k ∈ ks, ∀ nm nm', BxR nm nm' N vs (trH nm vs k) (trH nm' (fun _ => N) k)) : ∀ nm nm' i, BxR nm nm' N vs (trHs nm vs i ks) (trHs nm' (fun _ => N) i ks) := by
 induction ks with
 | nil => intro nm nm' i p hp; rw [trHs] at hp; cases hp
 | cons k ks ih =>
  intro nm nm' i
  rw [trHs, trHs]
  exact (h k (by simp) _ _).down.app (ih (fun k hk => h k (by simp [hk])) _ _ _)
theorem trH_bx (N : Nat) (vs : Nat → Nat) : ∀ (t : Tr) (nm nm' : Nat), BxR nm nm' N vs (trH nm vs t) (trH nm' (fun _ => N) t) := Tr.ind fun n ks ih nm nm' => by
 rw [trH, trH]
 refine BxR.app (BxR.app (trHs_bx ih _ _ _).down ?_) (BxR.app (BxR.down (i := 1) (fun p hp => ORn.bx _ _ N vs n.pats p hp)) ?_)
 ·intro p' hp'
  rw [List.mem_singleton.1 hp']
  refine ⟨_, List.mem_singleton.2 rfl, .sub 0 .root, rfl, rfl, rfl, rfl, by simp [trP_len], fun i e' he => ?_⟩
  simp only [trP_get, Option.map_eq_some_iff] at he ⊢
  obtain ⟨a, ha, rfl⟩ := he
  exact ⟨_, ⟨a, ha, rfl⟩, .cons (.ptr _ _ _ _ (.sub _ (.sub 0 .root))) .nil⟩
 ·intro p' hp'
  rw [List.mem_singleton.1 hp']
  refine ⟨_, List.mem_singleton.2 rfl, .root, rfl, rfl, rfl, rfl, rfl, fun i e' he => ?_⟩
  cases i with
  | zero =>
   simp only [List.getElem?_cons_zero, Option.some.injEq] at he
   subst he
   exact ⟨_, rfl, .cons (.scal _ rfl) (.cons (.scal _ rfl) (.cons (.scal _ rfl) (.cons (.scal _ rfl) (.cons (.row _ _ _ (.sub 0 .root)) (.cons (.row _ _ _ (.sub 1 .root)) .nil)))))⟩
  | succ i => simp at he
instance : ORn Tr where
 cel nm nm' N vs y := .cons (.ptr _ _ _ _ .root) .nil
 bx nm nm' N vs y := trH_bx N vs y nm nm'
end Go.Proofs.YtmlckdffkbbbhaaGreat

namespace Go.Proofs.YtmlckdffkbbbhaaGreat
open Go.RowKit Go.Proofs.YtmlckdffkbbbhaaGreat.Av Go.Proofs.YtmlckdffkbbbhaaGreat.Ml
open Go.Proofs.YtmlckdffkbbbhaaGreat.Av.AVal (av)
open OVal (ov oh on)

theorem Goes.renP {s : St} {T : St → Prop} (i j k : Nat) {v a o : Nat} {b : Box} (hi : fget s.fr i = .ptr j v a o) (hb : hget s.hp j = some b) (hv : b.ver = v)
  (h : ∀ v', Goes ⟨(i, .ptr k v' a o) :: s.fr, (k, ⟨v', b.frz, b.ty, b.esz, b.es⟩) :: hrest [j] s.hp⟩ T) : Goes s T :=
 Goes.renF (fun v' => (i, .ptr k v' a o) :: s.fr) j k hb hv (fun v' S w μ ρ e hf => fr_put hf (by
  have h1 := hf i
  rw [hi] at h1
  generalize ρ i = u at h1 ⊢
  cases h1 with
  | ptr _ _ _ _ b cap esz h2 => exact .ptr k v' a o b cap esz (e.trans h2))) h
theorem ovL_end {α : Type} [AVal α] [OVal α] {nm : Nat} {vs v1 : Nat → Nat} (L : List α) (t : α) : ovL nm (glue (sub nm L.length) v1 vs) 0 (L ++ [t]) = ovL nm vs 0 L ++ [ov (sub nm L.length) v1 t] ∧ ohL nm (glue (sub nm L.length) v1 vs) 0 (L ++ [t]) = ohL nm vs 0 L ++ oh (sub nm L.length) v1 t := by
 have h := ovL_glue' (nm := nm) (j := L.length) v1 vs 0 L (by omega)
 rw [ovL_app, ohL_app, h.1, h.2, Nat.zero_add]
 simp only [ovL, ohL, ov_glue, oh_glue, List.append_nil, and_self]
structure GoS where
 j : Nat
 u : Nat
 vs : Nat → Nat
set_option maxHeartbeats 4000000 in
theorem growO_ok (l : List Node) (hk : ∀ i, i < l.length → ∀ k ∈ nkids l i, (i : Int) < k ∧ k < l.length) (hx : Bulk.bulk l ≤ 1048576) : ∀ (f nm i : Nat), i < l.length → l.length - i ≤ f → CallsH Tryz.prog 28 [.sl (l.map av), .int .i64 i] [] (ToPost nm (growT l f i)) := by
 intro f
 induction f with
 | zero => intro nm i hi hf; omega
 | succ f ih =>
  intro nm i hi hf
  have hl := bulk_length l
  have e := getD_map av l i .top hi
  have em := List.getElem_mem hi
  obtain ⟨b1, b2, b3, b4⟩ := node_small hx em
  have hK : nkids l i = l[i].kids := by simp [nkids, hi]
  have hg : growT l (f + 1) i = .mk l[i] (l[i].kids.map fun k => growT l f k.toNat) := by rw [growT, hK]; simp [hi]
  have hks := hk i hi
  rw [hK] at hks
  obtain ⟨P, hP⟩ : ∃ P, P = sub nm 1 := ⟨_, rfl⟩
  obtain ⟨K, hKK⟩ : ∃ K, K = sub nm 0 := ⟨_, rfl⟩
  have hPg : 10000 ≤ P := by rw [hP]; exact sub_ge _ _
  have hKg : 10000 ≤ K := by rw [hKK]; exact sub_ge _ _
  have hKP : ∀ q, InT P q → K ≠ q := fun q hq e => by
   rw [hP] at hq
   rw [hKK] at e
   rw [← e] at hq
   exact sib_ne (i := 0) (j := 1) (by omega) .root hq
  have C := copyPatsO_ok P l[i].pats b3
  have hn1 : ∀ q, q < 10000 → (q == P) = false := fun q hq => beq_eq_false_iff_ne.2 (by omega)
  have hn2 : ∀ q, q < 10000 → (P = q) = False := fun q hq => eq_false (by omega)
  have hn3 : ∀ q, q < 10000 → (q == K) = false := fun q hq => beq_eq_false_iff_ne.2 (by omega)
  have hn4 : ∀ q, q < 10000 → (K = q) = False := fun q hq => eq_false (by omega)
  have hn5 : ∀ q, q < 10000 → (K == q) = false := fun q hq => beq_eq_false_iff_ne.2 (by omega)
  have hn6 : ∀ q, q < 10000 → (P == q) = false := fun q hq => beq_eq_false_iff_ne.2 (by omega)
  rw [hg]
  clear hg hK
  generalize l[i] = n at *
  refine callsH_goes (Post := fun r hp' => ∃ w u vs vp, r = .ptr 25 w 0 0 ∧ hp' = (25, (⟨w, false, 100, 6, [exB n K u n.kids.length P (vp P)]⟩ : Box)) :: (K, ⟨u, false, 54, 1, ovL K vs 0 (n.kids.map fun k => growT l f k.toNat)⟩) :: (ohL K vs 0 (n.kids.map fun k => growT l f k.toNat) ++ oh P vp n.pats)) (funH_impl_grow_O rfl ?_) ?_
  case refine_2 =>
   rintro r hp' ⟨w, u, vs, vp, rfl, rfl⟩
   generalize hks2 : (n.kids.map fun k => growT l f k.toNat) = ks at *
   have hkl : ks.length = n.kids.length := by rw [← hks2, List.length_map]
   refine Goes.renP 0 25 nm (v := w) (a := 0) (o := 0) rfl hg_eq rfl fun w' => ?_
   obtain ⟨va, hva⟩ : ∃ va : Nat → Nat, va = fun q => if q = nm then w' else if q = K then u else glue P vp vs q := ⟨_, rfl⟩
   have a1 : va nm = w' := by rw [hva]; simp
   have hnK : K ≠ nm := by rw [hKK]; exact fun e => (InT.root (nm := sub nm 0)).ne e
   have hnP : P ≠ nm := by rw [hP]; exact fun e => (InT.root (nm := sub nm 1)).ne e
   have a2 : va K = u := by rw [hva]; simp [hnK]
   have a3 := OVal.vdep P va vp n.pats (fun q hq => by
    rw [hva]
    dsimp only
    rw [if_neg (by rw [hP] at hq; exact hq.ne), if_neg (fun e => hKP q hq e.symm), glue_in hq])
   have hvv : ∀ (i : Nat) (ks : List Tr), ovL K va i ks = ovL K vs i ks ∧ ohL K va i ks = ohL K vs i ks := by
    intro i ks
    induction ks generalizing i with
    | nil => exact ⟨rfl, rfl⟩
    | cons t r ih2 =>
     obtain ⟨c, d⟩ := ih2 (i + 1)
     obtain ⟨e1, e2⟩ := OVal.vdep (sub K i) va vs t (fun q hq => by
      rw [hva]
      dsimp only
      rw [if_neg (by rw [hKK] at hq; exact hq.up.ne), if_neg hq.ne, glue_out (fun h => by rw [hP] at h; rw [hKK] at hq; exact sib_ne (i := 0) (j := 1) (by omega) hq.up h)])
     simp only [ovL, ohL, c, d, e1, e2, and_self]
   have a4 : oh nm va (Tr.mk n ks) = (ohL K vs 0 ks ++ [(K, ⟨u, false, 54, 1, ovL K vs 0 ks⟩)]) ++ (oh P vp n.pats ++ [(nm, ⟨w', false, 100, 6, [exB n K u ks.length P (vp P)]⟩)]) := by
    have a5 : va P = vp P := by have := a3.1; rw [ov_list, ov_list] at this; exact (AV.row.inj this).2.1
    rw [oh_Tr, ← hKK, ← hP, oh_list, lbox, (hvv 0 ks).1, (hvv 0 ks).2, a3.2, a1, a2, a5]; rfl
   refine Goes.le (t := ⟨[(0, .ptr nm w' 0 0)], oh nm va (Tr.mk n ks)⟩) ⟨va, by rw [ov_Tr, a1]; rfl, rfl⟩ (by simp +contextual -dsimp only [↓SD, SU, SB, simprocAttr]) ?_
   rw [a4, hkl]
   have hU : ∀ p ∈ ohL K vs 0 ks ++ oh P vp n.pats, 10000 ≤ p.1 ∧ p.1 ≠ nm ∧ p.1 ≠ K := fun p hp => by
    rcases List.mem_append.1 hp with h | h
    ·obtain ⟨q, _, hq⟩ := ohL_in h
     exact ⟨hq.ge, fun e => by rw [hKK] at hq; exact hq.up.ne e, hq.ne⟩
    ·have hq := OVal.inh h
     exact ⟨by have := hq.le; omega, fun e => by rw [hP] at hq; exact hq.ne e, fun e => hKP _ hq e.symm⟩
   have hself : hpLe (ohL K vs 0 ks ++ oh P vp n.pats) (ohL K vs 0 ks ++ oh P vp n.pats) := self2 (ohL_self _ _ _ _) (OVal.self _ _ _) fun p hp q hq e => by
    obtain ⟨j, _, h1⟩ := ohL_in hq
    have h2 := OVal.inh hp
    rw [e, hKK] at h1
    rw [hP] at h2
    exact sib_ne (i := 0) (j := 1) (by omega) h1.up h2
   have hall : ∀ p ∈ ohL K vs 0 ks ++ oh P vp n.pats, hget ((nm, (⟨w', false, 100, 6, [exB n K u n.kids.length P (vp P)]⟩ : Box)) :: hrest [25] ((25, (⟨w, false, 100, 6, [exB n K u n.kids.length P (vp P)]⟩ : Box)) :: (K, ⟨u, false, 54, 1, ovL K vs 0 ks⟩) :: (ohL K vs 0 ks ++ oh P vp n.pats))) p.1 = some p.2 := fun p hp => by
    obtain ⟨h1, h2, h3⟩ := hU p hp
    rw [hg_ne (fun e => h2 e.symm), hget_rest_out (by simp; omega), hg_ne (by omega), hg_ne (fun e => h3 e.symm)]
    exact hpLe_iff.1 hself p hp
   refine hpLe_app.2 ⟨hpLe_app.2 ⟨hpLe_iff.2 fun p hp => hall p (List.mem_append_left _ hp), ?_, trivial⟩, hpLe_app.2 ⟨hpLe_iff.2 fun p hp => hall p (List.mem_append_right _ hp), hg_eq, trivial⟩⟩
   rw [hg_ne (fun e => hnK e.symm), hget_rest_out (by simp; omega), hg_ne (by omega)]; exact hg_eq
  simp +contextual -dsimp only [↓SD, SU, SB, simprocAttr, ir_impl_grow_O, rs_impl_grow_O, map_len, hi, e, av_Node]
  intro w5
  refine ghost_of (Goes.frz 5 (Goes.pur 5 (Goes.here ?_)))
  simp +contextual -dsimp only [↓SD, SU, SB, simprocAttr, map_nop]
  refine aCallH_gen [] C (by simp +contextual -dsimp only [↓SD, SU, SB, simprocAttr]) ?_
  rintro r hp' ⟨vp, rfl, rfl⟩ H hH
  rw [hrest_no] at hH
  have hoP : hpLe H (oh P vp n.pats) := by rw [hH]; exact hpLe_l (OVal.self _ _ _)
  have hr1 := hpLe_root hoP
  simp +contextual -dsimp only [↓SD, SU, SB, simprocAttr, ov_list, hr1, hn1, hn2, false_and, map_len]
  intro w
  obtain ⟨g, hg⟩ : ∃ g : Int → Tr, g = fun k => growT l f k.toNat := ⟨_, rfl⟩
  rw [← hg]
  have hUP : hpLe (oh P vp n.pats) (oh P vp n.pats) := OVal.self _ _ _
  have hUPi : ∀ p ∈ oh P vp n.pats, InT P p.1 := fun p hp => OVal.inh hp
  have hUPg : ∀ p ∈ oh P vp n.pats, 10000 ≤ p.1 := fun p hp => by have := (hUPi p hp).le; omega
  obtain ⟨W, hW⟩ : ∃ W, W = oh P vp n.pats := ⟨_, rfl⟩
  rw [← hW] at hoP hUP hUPi hUPg
  refine aLoop_goes (X := GoS) (fun x => ⟨[(0, .sl (l.map av)), (6, .ptr 25 w 0 0), (27, .sl (n.kids.map av)), (28, .int .i64 n.kids.length), (29, .int .i64 x.j)], (25, ⟨w, false, 100, 6, [.agg [.int .i64 n.kind, .int .i64 n.pos, .int .i64 n.n, .str n.s, .row K x.u x.j, .row P (vp P) n.pats.length]]⟩) :: (K, ⟨x.u, false, 54, 1, ovL K x.vs 0 ((n.kids.take x.j).map g)⟩) :: (ohL K x.vs 0 ((n.kids.take x.j).map g) ++ W)⟩) (fun x => x.j ≤ n.kids.length) (fun x => n.kids.length - x.j) ?_ ?_
  ·refine Goes.adoptB 25 0 4 K 54 1 rfl rfl Nat.zero_lt_one rfl (by omega) fun v => ?_
   refine Goes.le ⟨⟨0, v, fun _ => 0⟩, Nat.zero_le _, rfl⟩ (by simp +contextual -dsimp only [↓SD, SU, SB, simprocAttr]) ?_
   simp +contextual -dsimp only [↓SD, SU, SB, simprocAttr, hn3, hn5, List.take_zero, List.map_nil, ovL, ohL]
   repeat (first | exact hoP | refine hpLe_c ?_ (fun p hp e => by have := hUPg p hp; omega) | refine hpLe_c ?_ (fun p hp e => hKP _ (hUPi p hp) e))
  clear hoP hr1 hH H
  rintro ⟨j, u, vs⟩ hj
  dsimp only at hj ⊢
  by_cases hlt : j < n.kids.length
  ·have e2 := getD_map av n.kids j .top hlt
   have hkj := hks _ (List.getElem_mem hlt)
   have ht : n.kids.take (j + 1) = n.kids.take j ++ [n.kids[j]] := List.take_succ_eq_append_getElem hlt
   obtain ⟨m, hm⟩ : ∃ m : Nat, n.kids[j] = m := ⟨n.kids[j].toNat, by omega⟩
   rw [hm] at e2 hkj ht
   have C2 := ih (sub K j) m (by omega) (by omega)
   have hgm : growT l f m = g m := by rw [hg]; simp
   rw [hgm] at C2
   have hLl : ((n.kids.take j).map g).length = j := by simp; omega
   have hse := fun v1 => ovL_end (nm := K) (vs := vs) (v1 := v1) ((n.kids.take j).map g) (g m)
   rw [hLl] at hse
   have hmt : (n.kids.take (j + 1)).map g = (n.kids.take j).map g ++ [g m] := by rw [ht, List.map_append]; rfl
   rw [← hmt] at hse
   have hel : (ovL K vs 0 ((n.kids.take j).map g)).length = j := by rw [ovL_len, hLl]
   generalize hLL : (n.kids.take j).map g = L at *
   obtain ⟨U, hU⟩ : ∃ U, U = ohL K vs 0 L := ⟨_, rfl⟩
   have hUU : hpLe U U := by rw [hU]; exact ohL_self _ _ _ _
   have hUi : ∀ p ∈ U, ∃ i, i < j ∧ InT (sub K i) p.1 := fun p hp => by
    rw [hU] at hp
    obtain ⟨q, hq, hm⟩ := ohL_mem hp
    rw [Nat.zero_add] at hm
    exact ⟨q, by omega, OVal.inh hm⟩
   rw [← hU] at hse ⊢
   obtain ⟨E, hE⟩ : ∃ E, E = ovL K vs 0 L := ⟨_, rfl⟩
   rw [← hE] at hse hel ⊢
   have hEt : List.take j E = E := List.take_of_length_le (by omega)
   have hself : hpLe (U ++ W) (U ++ W) := self2 hUU hUP fun p hp q hq e => by
    obtain ⟨i, _, h1⟩ := hUi q hq
    have h2 := hUPi p hp
    rw [e, hKK] at h1
    rw [hP] at h2
    exact sib_ne (i := 0) (j := 1) (by omega) h1.up h2
   have hUW : ∀ p ∈ U ++ W, 10000 ≤ p.1 ∧ K ≠ p.1 ∧ ¬ InT (sub K j) p.1 := fun p hp => by
    rcases List.mem_append.1 hp with h | h
    ·obtain ⟨i, hi, h1⟩ := hUi p h
     exact ⟨h1.ge, fun e => h1.ne e.symm, fun h2 => by have := h1.sib h2; omega⟩
    ·have h1 := hUPi p h
     exact ⟨hUPg p h, hKP _ h1, fun h2 => by rw [hP] at h1; rw [hKK] at h2; exact sib_ne (i := 0) (j := 1) (by omega) h2.up h1⟩
   simp +contextual -dsimp only [↓SD, SU, SB, simprocAttr, map_len, hlt, e2, av_int, hn3, hn4]
   refine ⟨?_, ?_⟩
   all_goals
    refine aCallH_gen [] C2 (by simp +contextual -dsimp only [↓SD, SU, SB, simprocAttr]) ?_
    rintro r hp' ⟨v1, rfl, rfl⟩ H hH
    rw [hrest_no] at hH
    have hKn : ¬ InT (sub K j) K := fun h => h.ne rfl
    have h25 : ¬ InT (sub K j) 25 := fun h => by have := h.ge; omega
    have ho : hpLe H (oh (sub K j) v1 (g m)) := by rw [hH]; exact hpLe_l (OVal.self _ _ _)
    have q25 : hget H 25 = some ⟨w, false, 100, 6, [.agg [.int .i64 n.kind, .int .i64 n.pos, .int .i64 n.n, .str n.s, .row K u j, .row P (vp P) n.pats.length]]⟩ := by rw [hH, hg_app_r (oh_ne h25)]; exact hg_eq
    have qK : hget H K = some ⟨u, false, 54, 1, E⟩ := by rw [hH, hg_app_r (oh_ne hKn), hg_ne (by omega)]; exact hg_eq
    have hUH : hpLe H (U ++ W) := by
     rw [hH]
     exact hpLe_pre (hpLe_c (hpLe_c hself (fun p hp => (hUW p hp).2.1)) (fun p hp e => by have := (hUW p hp).1; omega)) fun p hp q hq e => (hUW p hp).2.2 (e ▸ OVal.inh hq)
    obtain ⟨es0, q0⟩ := tr_root ho
    simp +contextual -dsimp only [↓SD, SU, SB, simprocAttr, map_len, ov_Tr, q25, qK, q0, hel, hEt, hn3, hn5, false_and]
    have hs1 := hse v1
    rw [ov_Tr] at hs1
    refine ⟨⟨by omega, by unfold maxLen; omega⟩, fun u' => ⟨by omega, Goes.le ⟨⟨j + 1, u', glue (sub K j) v1 vs⟩, ⟨hlt, (by first | omega | (simp only; omega))⟩, rfl⟩ (by simp +contextual -dsimp only [↓SD, SU, SB, simprocAttr, Int.natCast_add]) ?_⟩⟩
    simp only [hs1.1, hs1.2]
    simp +contextual -dsimp only [↓SD, SU, SB, simprocAttr, hn3, hn5]
    have hall : hpLe H ((U ++ oh (sub K j) v1 (g m)) ++ W) := hpLe_app.2 ⟨hpLe_app.2 ⟨(hpLe_app.1 hUH).1, ho⟩, (hpLe_app.1 hUH).2⟩
    have hnm : ∀ p ∈ (U ++ oh (sub K j) v1 (g m)) ++ W, 25 ≠ p.1 ∧ K ≠ p.1 := fun p hp => by
     rcases List.mem_append.1 hp with h | h
     ·rcases List.mem_append.1 h with h | h
      ·have := hUW p (List.mem_append_left _ h); exact ⟨by omega, this.2.1⟩
      ·have h1 := OVal.inh h; have := h1.ge; exact ⟨by omega, fun e => h1.ne e.symm⟩
     ·have := hUW p (List.mem_append_right _ h); exact ⟨by omega, this.2.1⟩
    repeat (first | exact hall | refine hpLe_c ?_ (fun p hp => (hnm p hp).1) | refine hpLe_c ?_ (fun p hp => (hnm p hp).2))
  ·obtain rfl : j = n.kids.length := by omega
   rw [List.take_length]
   simp +contextual -dsimp only [↓SD, SU, SB, simprocAttr, Nat.lt_irrefl]
   have hUi : ∀ p ∈ ohL K vs 0 (n.kids.map g), 25 ≠ p.1 ∧ K ≠ p.1 := fun p hp => by
    obtain ⟨q, _, hq⟩ := ohL_in hp
    have := hq.ge
    exact ⟨by omega, fun e => hq.ne e.symm⟩
   refine Goes.post ((25, (⟨w, false, 100, 6, [exB n K u n.kids.length P (vp P)]⟩ : Box)) :: (K, ⟨u, false, 54, 1, ovL K vs 0 (n.kids.map g)⟩) :: (ohL K vs 0 (n.kids.map g) ++ W)) ?_
   have hself : hpLe (ohL K vs 0 (n.kids.map g) ++ W) (ohL K vs 0 (n.kids.map g) ++ W) := self2 (ohL_self _ _ _ _) hUP fun p hp q hq e => by
    obtain ⟨i, _, h1⟩ := ohL_in hq
    have h2 := hUPi p hp
    rw [e, hKK] at h1
    rw [hP] at h2
    exact sib_ne (i := 0) (j := 1) (by omega) h1.up h2
   have hnm : ∀ p ∈ ohL K vs 0 (n.kids.map g) ++ W, 25 ≠ p.1 ∧ K ≠ p.1 := fun p hp => by
    rcases List.mem_append.1 hp with h | h
    ·exact hUi p h
    ·exact ⟨by have := hUPg p h; omega, hKP _ (hUPi p h)⟩
   simp +contextual -dsimp only [↓SD, SU, SB, simprocAttr, hn3, hn5, exB]
   exact ⟨by repeat (first | exact hself | refine hpLe_c ?_ (fun p hp => (hnm p hp).1) | refine hpLe_c ?_ (fun p hp => (hnm p hp).2)), w, u, vs, vp, rfl, by rw [hW]⟩
theorem old_ge {α : Type} [AVal α] [OVal α] {g : Nat} {vs : Nat → Nat} {y : α} {hp H : Hp} (hg : 10000 ≤ g) (hH : H = oh g vs y ++ hp) : ∀ q, q < 10000 → hget H q = hget hp q := fun q hq => by
 rw [hH, hg_app_r (oh_ne fun h => by have := h.le; omega)]
theorem old_prt {α : Type} [AVal α] [OVal α] {g : Nat} {vs : Nat → Nat} {y y' : α} {hp H : Hp} (hg : 10000 ≤ g) (hH : H = oh g vs y' ++ hrest (on g y) hp) : ∀ q, q < 10000 → hget H q = hget hp q := fun q hq => by
 rw [hH, hget_part (fun h => by have := h.le; omega)]
theorem old_pgm {nm : Nat} {vs : Nat → Nat} {y : Program} {hp H : Hp} (hH : H = oh nm vs y ++ hp) : ∀ q, q < 10000 → hget H q = hget hp q := fun q hq => by
 rw [hH, oh_Program, hg_app_r (fun p hp e => by
  rcases List.mem_append.1 hp with h | h
  ·have := (OVal.inh h).ge; omega
  ·have := (OVal.inh h).ge; omega)]
theorem lowP {nm j : Nat} {b : Box} {vs : Nat → Nat} {y : Program} {hp : Hp} (hz : hpLe hp (oh nm vs y)) (hj : j < 10000) : hpLe ((j, b) :: hp) (oh nm vs y) := by
 rw [oh_Program] at hz ⊢
 exact hpLe_c hz (fun q hq e => by
  rcases List.mem_append.1 hq with h | h
  ·have := (OVal.inh h).ge; omega
  ·have := (OVal.inh h).ge; omega)
end Go.Proofs.YtmlckdffkbbbhaaGreat

/-
 CONSTANTS PUT FOR NAMES, MATCHES CHOSEN: what the trees fulfil. Conditions: none.
-/
import Derived.Test.YtppjinmlfcokaaaGreatVJ25
import Derived.Test.YtppjinmlfcokaaaGreatVJ17
set_option linter.unusedVariables false
set_option linter.unusedSimpArgs false
set_option maxRecDepth 100000
namespace Go.Proofs.YtppjinmlfcokaaaGreat
open Go.RowKit Go.Proofs.YtppjinmlfcokaaaGreat.Av Go.Proofs.YtppjinmlfcokaaaGreat.Ml
open Go.Proofs.YtppjinmlfcokaaaGreat.Av.AVal (av)

def VD (n : Node) (m : Nat) : Prop := (n.kind = 1 ∨ n.kind = 2 ∨ n.kind = 3 ∨ n.kind = 12 → m = 0) ∧ (n.kind = 7 → m = 2) ∧ (n.kind = 13 → m = n.Ae.length + 1) ∧ (¬ n.kind = 13 → n.Ae = []) ∧ (∀ q ∈ n.Ae, q.nodes ≠ []) ∧ Ew n m ≤ 4294967296 ∧ Ac.bulk n ≤ 4294967296
mutual
def Tr.rk : Tr → Prop
 | .mk n ks => VD n ks.length ∧ Tr.rks ks
def Tr.rks : List Tr → Prop
 | [] => True
 | t :: ts => t.rk ∧ Tr.rks ts
end
theorem Ch : ∀ {ks : List Tr}, Tr.rks ks ↔ ∀ k ∈ ks, k.rk
 | [] => by rw [Tr.rks]; simp
 | t :: ts => by rw [Tr.rks, Ch (ks := ts)]; simp
theorem Zk : ∀ t : Tr, t.rk → t.ok := Tr.ind fun n ks ih h => by
 rw [Tr.rk] at h
 rw [Tr.ok]
 obtain ⟨⟨h1, h2, h3, h4, h5, h6, h7⟩, hs⟩ := h
 exact ⟨⟨fun e => h1 (.inr (.inr (.inl e))), h3, h7⟩, X4 fun k hk => ih k hk (Ch.1 hs k hk)⟩
theorem AfL {l : List Node} {n : Node} (h : AE BC l n = true) (hp : ∀ q ∈ n.Ae, Et q.nodes = true) (hb : Ac.bulk n ≤ 4294967296) : VD n n.kids.length := by
 have hb2 := Ja n
 have h5 : ∀ q ∈ n.Ae, q.nodes ≠ [] := fun q hq h0 => by
  have := hp q hq
  rw [h0] at this
  simp [Et] at this
 have ht := Adb h hb
 unfold AE at h
 split at h
 ·cases h
 rename_i h0
 refine ⟨fun hk => ?_, fun hk => ?_, ht.2.1, fun hk => ?_, h5, by omega, hb⟩
 ·have ha : AO n.kind = 0 := by rcases hk with hk | hk | hk | hk <;> rw [hk] <;> rfl
  rw [ha] at h0; omega
 ·have ha : AO n.kind = 2 := by rw [hk]; rfl
  rw [ha] at h0; omega
 ·cases hp2 : n.Ae with
  | nil => rfl
  | cons a r => exact absurd (.inr (.inr (.inl ⟨hk, by rw [hp2]; exact fun e => by cases e⟩))) h0
theorem Nk {p : Program} (hx : Ac.bulk p ≤ 4294967296) (hb : Bv p = true) : (Al p.nodes 0).rk := by
 obtain ⟨f1, f2, f3, f4, f5⟩ := Dk hx hb
 have hk : ∀ i, i < p.nodes.length → ∀ k ∈ Aq p.nodes i, (i : Int) < k ∧ k < p.nodes.length := fun i hi k hk => Ef f3 hi hk
 have hq := (CD hx).2.1
 have hn : ∀ n ∈ p.nodes, VD n n.kids.length := fun n hn => by
  have h1 := Au hn
  simp only [Bv, GX, Bool.and_eq_true, decide_eq_true_eq, List.all_eq_true] at hb
  obtain ⟨⟨⟨⟨⟨_, _⟩, _⟩, h4⟩, _⟩, h6⟩ := hb
  exact AfL (h4 n hn) (h6 n hn) (by omega)
 have key : ∀ (f i : Nat), i < p.nodes.length → p.nodes.length - i ≤ f → (Bw p.nodes f i).rk := by
  intro f
  induction f with
  | zero => intro i hi hf; omega
  | succ f ih =>
   intro i hi hf
   rw [Bw, Tr.rk]
   have e : p.nodes.getD i default = p.nodes[i] := by simp [List.getD_eq_getElem?_getD, hi]
   refine ⟨?_, Ch.2 fun t ht => ?_⟩
   ·rw [List.length_map, Aq, e]; exact hn _ (List.getElem_mem hi)
   ·obtain ⟨k, hk', rfl⟩ := List.mem_map.1 ht
    have := hk i hi k hk'
    exact ih k.toNat (by omega) (by omega)
 exact key p.nodes.length 0 (by omega) (by omega)
theorem HE {t : Tr} (h : t.rk) (hp : Es t = true) : t = .mk t.hd [] ∧ VD t.hd 0 ∧ t.hd.Ae = [] := by
 obtain ⟨n, ks⟩ := t
 rw [Tr.rk] at h
 obtain ⟨h, _⟩ := h
 have hl : ks.length = 0 := by
  simp only [Es, CG, Bool.or_eq_true, Bool.and_eq_true, decide_eq_true_eq] at hp
  rcases hp with ((hp | hp) | hp) | hp
  ·exact h.1 (.inl hp)
  ·exact h.1 (.inr (.inl hp))
  ·exact h.1 (.inr (.inr (.inr hp)))
  ·omega
 have hks := List.eq_nil_of_length_eq_zero hl
 subst hks
 refine ⟨rfl, h, h.2.2.2.1 fun e => ?_⟩
 replace e : n.kind = 13 := e
 simp only [Es, CG, Bool.or_eq_true, Bool.and_eq_true, decide_eq_true_eq] at hp
 omega
theorem DR (s : ByteArray) (a n : Node) : ∀ (ks : List Tr) (i : Nat), (BG s a n i ks).length = ks.length
 | [], i => by rw [BG]
 | t :: ts, i => by rw [BG, List.length_cons, List.length_cons, DR]
theorem LD {s : ByteArray} {a n : Node} {P : Tr → Prop} : ∀ {ks : List Tr} {i : Nat}, (∀ k ∈ ks, P k) → (∀ k ∈ ks, P (De s a k)) → ∀ k ∈ BG s a n i ks, P k
 | [], i, _, _, k, hk => by rw [BG] at hk; cases hk
 | t :: ts, i, h1, h2, k, hk => by
  rw [BG] at hk
  rcases List.mem_cons.1 hk with rfl | hk
  ·split
   ·exact h1 t (by simp)
   ·exact h2 t (by simp)
  ·exact LD (fun k hk => h1 k (by simp [hk])) (fun k hk => h2 k (by simp [hk])) k hk
theorem AcC {s : ByteArray} {a : Node} (ha : VD a 0) : ∀ t : Tr, t.rk → (De s a t).rk := Tr.ind fun n ks ih h => by
 have h0 := h
 rw [Tr.rk] at h
 rw [De]
 split
 ·split
  ·rw [Tr.rk, Tr.rks]; exact ⟨ha, trivial⟩
  ·exact h0
 ·rw [Tr.rk, DR]
  exact ⟨h.1, Ch.2 (LD (Ch.1 h.2) fun k hk => ih k hk (Ch.1 h.2 k hk))⟩
theorem NY {s : ByteArray} {a n : Node} : ∀ {ks : List Tr} {i : Nat}, (∀ k ∈ ks, (De s a k).size ≤ k.size) → Tr.AJ (BG s a n i ks) ≤ Tr.AJ ks
 | [], i, _ => by rw [BG]; exact Nat.le_refl _
 | t :: ts, i, h => by
  have h1 := h t (by simp)
  have h2 := NY (n := n) (ks := ts) (i := i + 1) (fun k hk => h k (by simp [hk]))
  rw [BG, Tr.AJ, Tr.AJ]
  split <;> omega
theorem XQ {s : ByteArray} {a : Node} : ∀ t : Tr, (De s a t).size ≤ t.size := Tr.ind fun n ks ih => by
 rw [De]
 split
 ·split
  ·rw [Tr.size, Tr.size, Tr.AJ]; omega
  ·exact Nat.le_refl _
 ·rw [Tr.size, Tr.size]
  have := NY (n := n) (i := 0) ih
  omega
theorem Is {ks : List Tr} (h : Tr.rks ks) {i : Nat} (hi : i < ks.length) : (ks.getD i (.mk default [])).rk ∧ (ks.getD i (.mk default [])).size ≤ Tr.AJ ks := by
 have e : ks.getD i (.mk default []) = ks[i] := by simp [List.getD_eq_getElem?_getD, hi]
 rw [e]
 exact ⟨Ch.1 h _ (List.getElem_mem hi), Cq (List.getElem_mem hi)⟩
theorem Gk {t : Tr} (h : t.rk) : (AP t).rk ∧ (AP t).size ≤ t.size := by
 obtain ⟨n, ks⟩ := t
 have h0 := h
 rw [Tr.rk] at h
 rw [AP]
 split
 ·rename_i hc
  have hl := h.1.2.1 hc.1
  have g0 := Is h.2 (i := 0) (by omega)
  have g1 := Is h.2 (i := 1) (by omega)
  obtain ⟨_, p2, _⟩ := HE g0.1 hc.2
  refine ⟨AcC p2 _ g1.1, ?_⟩
  have := XQ (s := n.s) (a := (ks.getD 0 (.mk default [])).hd) (ks.getD 1 (.mk default []))
  rw [Tr.size]; omega
 ·exact ⟨h0, Nat.le_refl _⟩
theorem K8 {a : Node} : ∀ {l : List Pat} {i : Nat}, HR a l = some i → i < l.length
 | [], i, h => by rw [HR] at h; cases h
 | q :: l, i, h => by
  rw [HR] at h
  split at h
  ·cases h; simp
  ·cases hf : HR a l with
   | none => rw [hf] at h; cases h
   | some j =>
    rw [hf] at h
    cases h
    have := K8 hf
    simp only [List.length_cons]; omega
theorem Gz {t : Tr} (h : t.rk) : (AM t).rk ∧ (AM t).size ≤ t.size := by
 obtain ⟨n, ks⟩ := t
 have h0 := h
 rw [Tr.rk] at h
 rw [AM]
 split
 ·rename_i hc
  have hl := h.1.2.2.1 hc.1
  have g0 := Is h.2 (i := 0) (by omega)
  obtain ⟨p1, p2, p3⟩ := HE g0.1 hc.2.1
  split
  ·exact ⟨h0, Nat.le_refl _⟩
  ·rename_i i hi
   have hlt := K8 hi
   have g1 := Is h.2 (i := i + 1) (by omega)
   have hp : n.Ae.getD i default = n.Ae[i] := by simp [List.getD_eq_getElem?_getD, hlt]
   dsimp only
   rw [hp]
   split
   ·have hne := h.1.2.2.2.2.1 _ (List.getElem_mem hlt)
    have hx : n.Ae[i].nodes.getD 0 default ∈ n.Ae[i].nodes := by
     cases hn : n.Ae[i].nodes with
     | nil => exact absurd hn hne
     | cons x r => simp
    have b1 := Au hx
    have b2 := Au (List.getElem_mem hlt)
    have b3 : Ac.bulk n.Ae[i] = Ac.bulk n.Ae[i].nodes + 1 := rfl
    generalize n.Ae[i].nodes.getD 0 default = x at *
    have b4 : Ac.bulk x = Ac.bulk x.kind + Ac.bulk x.n + (x.s.size + 1) + Ac.bulk x.kids + 1 := rfl
    have b5 : Ac.bulk n = Ac.bulk n.kind + Ac.bulk n.pos + Ac.bulk n.n + Ac.bulk n.s + Ac.bulk n.kids + Ac.bulk n.Ae + 1 := rfl
    have b6 := h.1.2.2.2.2.2.2
    have c1 : Ac.bulk x.kind = 1 := rfl
    have c2 : Ac.bulk x.n = 1 := rfl
    have c3 : Ac.bulk n.kind = 1 := rfl
    have c4 : Ac.bulk n.pos = 1 := rfl
    have c5 : Ac.bulk n.n = 1 := rfl
    have c6 : Ac.bulk n.s = n.s.size + 1 := rfl
    have c7 := Ai n.kids
    have c8 := Ai x.kids
    have d1 : Ew (⟨7, n.pos, 0, x.s, [], []⟩ : Node) 2 = 6 + x.s.size + 2 + 1 := rfl
    have d2 : Ac.bulk (⟨7, n.pos, 0, x.s, [], []⟩ : Node) = 1 + 1 + 1 + (x.s.size + 1) + 1 + 1 + 1 := rfl
    rw [Tr.rk, Tr.rks, Tr.rks, Tr.rks]
    refine ⟨⟨⟨fun e => ?_, fun _ => rfl, fun e => ?_, fun _ => rfl, fun q hq => (by cases hq), ?_, ?_⟩, g0.1, g1.1, trivial⟩, ?_⟩
    ·simp at e
    ·simp at e
    ·show Ew (⟨7, n.pos, 0, x.s, [], []⟩ : Node) 2 ≤ _
     omega
    ·omega
    ·have q1 : ks.getD 0 (.mk default []) = ks[0]'(by omega) := by simp [List.getD_eq_getElem?_getD, show 0 < ks.length by omega]
     have q2 : ks.getD (i + 1) (.mk default []) = ks[i + 1]'(by omega) := by simp [List.getD_eq_getElem?_getD, show i + 1 < ks.length by omega]
     rw [Tr.size, Tr.size, Tr.AJ, Tr.AJ, Tr.AJ, q1, q2]
     have s1 := Jf ks (i + 1) (by omega)
     have s2 : (ks[0]'(by omega)).size ≤ Tr.AJ (ks.take (i + 1)) := Cq (by
      rw [show ks[0]'(by omega) = (ks.take (i + 1))[0]'(by simp; omega) by simp]
      exact List.getElem_mem _)
     omega
   ·refine ⟨g1.1, ?_⟩
    have := g1.2
    rw [Tr.size]; omega
 ·exact ⟨h0, Nat.le_refl _⟩
theorem GM {K : Tr → Prop} {R : Tr → Tr} (hk : ∀ n ks, K (.mk n ks) → ∀ k ∈ ks, K k) (hm : ∀ n ks ks', K (.mk n ks) → ks'.length = ks.length → (∀ k ∈ ks', K k) → K (.mk n ks')) (hR : ∀ t, K t → K (R t) ∧ (R t).size ≤ t.size) : ∀ t : Tr, K t → K (AZ R t) ∧ (AZ R t).size ≤ t.size := Tr.ind fun n ks ih h => by
 rw [KY]
 have hks := hk n ks h
 have h1 : K (Tr.mk n (ks.map (AZ R))) := hm n ks _ h (List.length_map _) fun k hk => by
  obtain ⟨q, hq, rfl⟩ := List.mem_map.1 hk
  exact (ih q hq (hks q hq)).1
 have h2 : Tr.AJ (ks.map (AZ R)) ≤ Tr.AJ ks := by
  have : ∀ l : List Tr, (∀ k ∈ l, (AZ R k).size ≤ k.size) → Tr.AJ (l.map (AZ R)) ≤ Tr.AJ l := by
   intro l
   induction l with
   | nil => intro _; exact Nat.le_refl _
   | cons t ts iht =>
    intro hl
    have a1 := hl t (by simp)
    have a2 := iht fun k hk => hl k (by simp [hk])
    rw [List.map_cons, Tr.AJ, Tr.AJ]; omega
  exact this ks fun k hk => (ih k hk (hks k hk)).2
 obtain ⟨r1, r2⟩ := hR _ h1
 refine ⟨r1, ?_⟩
 rw [Tr.size] at r2
 rw [Tr.size]; omega
theorem Zl (n : Node) (ks : List Tr) (h : (Tr.mk n ks).rk) : ∀ k ∈ ks, k.rk := by
 rw [Tr.rk] at h
 exact Ch.1 h.2
theorem Ae8 (n : Node) (ks ks' : List Tr) (h : (Tr.mk n ks).rk) (hl : ks'.length = ks.length) (hk : ∀ k ∈ ks', k.rk) : (Tr.mk n ks').rk := by
 rw [Tr.rk] at h
 rw [Tr.rk, hl]
 exact ⟨h.1, Ch.2 hk⟩
theorem KX {R : Tr → Tr} (hR : ∀ t : Tr, t.rk → (R t).rk ∧ (R t).size ≤ t.size) : ∀ t : Tr, t.rk → (AZ R t).rk ∧ (AZ R t).size ≤ t.size := GM Zl Ae8 hR
def Dj (R : Tr → Tr) (p : Program) : Program := if Bv p = true then ⟨p.types, Bz 0 (AZ R (Al p.nodes 0))⟩ else ⟨[], []⟩
theorem Ns {P : Node → Prop} {ks : List Tr} (h : ∀ k ∈ ks, ∀ b, ∀ n ∈ Bz b k, P n) : ∀ b, ∀ n ∈ BD b ks, P n := by
 induction ks with
 | nil => intro b n hn; rw [BD] at hn; cases hn
 | cons k ks ih =>
  intro b n hn
  rw [BD] at hn
  rcases List.mem_append.1 hn with hn | hn
  ·exact h k (by simp) _ n hn
  ·exact ih (fun k hk => h k (by simp [hk])) _ n hn
theorem Adu : ∀ t : Tr, t.rk → ∀ b, ∀ n ∈ Bz b t, Ac.bulk n ≤ 4294967296 := Tr.ind fun n ks ih h b m hm => by
 rw [Tr.rk] at h
 rw [Bz] at hm
 rcases List.mem_cons.1 hm with rfl | hm
 ·rw [Ja]
  have h1 := h.1.2.2.2.2.2.1
  simp only [Ew, ED] at h1 ⊢
  exact h1
 ·exact Ns (fun k hk => ih k hk (Ch.1 h.2 k hk)) _ m hm
end Go.Proofs.YtppjinmlfcokaaaGreat
set_option linter.unusedVariables false
set_option linter.unusedSimpArgs false
set_option maxRecDepth 100000
namespace Go.Proofs.YtppjinmlfcokaaaGreat
open Go.RowKit Go.Proofs.YtppjinmlfcokaaaGreat.Av Go.Proofs.YtppjinmlfcokaaaGreat.Ml
open Go.Proofs.YtppjinmlfcokaaaGreat.Av.AVal (av)

def Mi (n a b : Node) : Option Node :=
 if n.s = bs [94] then (if a.kind = 2 ∧ b.kind = 2 ∧ a.s.size + b.s.size ≤ 1000 then some ⟨2, n.pos, 0, a.s ++ b.s, [], []⟩ else none)
 else if a.kind = 1 ∧ b.kind = 1 then
  (if (FF n.s a.n b.n).2.1 = true then some ⟨4, n.pos, 0, GL (FF n.s a.n b.n).1, [], []⟩
  else if (FF n.s a.n b.n).2.2 = true ∧ 0 ≤ (FF n.s a.n b.n).1 then some ⟨1, n.pos, (FF n.s a.n b.n).1, bs [], [], []⟩ else none)
 else none
def kid (ks : List Tr) (i : Nat) : Tr := ks.getD i (.mk default [])
def Az : Tr → Tr
 | .mk n ks =>
  if n.kind = 10 then (match Mi n (kid ks 0).hd (kid ks 1).hd with
   | some m => .mk m []
   | none => .mk n ks)
  else if n.kind = 9 then
   (if (kid ks 0).hd.kind = 4 ∧ (kid ks 0).hd.s = GL 1 then kid ks 1 else if (kid ks 0).hd.kind = 4 ∧ (kid ks 0).hd.s = GL 0 then kid ks 2 else .mk n ks)
  else if n.kind = 19 then (if (kid ks 0).hd.kind = 12 then kid ks 1 else .mk n ks)
  else if n.kind = 7 then (if (Es (kid ks 0) = true ∨ (kid ks 0).hd.kind = 5) ∧ D7 n.s (kid ks 1) = 0 then kid ks 1 else .mk n ks)
  else .mk n ks
def AfG (n : Node) (m : Nat) : Prop := (n.kind = 10 → m = 2 ∧ opsL.any (fun x => decide (n.s = x)) = true) ∧ (n.kind = 9 → m = 3) ∧ (n.kind = 19 → m = 2) ∧ (n.kind = 1 → 0 ≤ n.n ∧ n.n ≤ 4611686018427387903)
mutual
def Tr.each (P : Node → Nat → Prop) : Tr → Prop
 | .mk n ks => P n ks.length ∧ Tr.KQ P ks
def Tr.KQ (P : Node → Nat → Prop) : List Tr → Prop
 | [] => True
 | t :: ts => t.each P ∧ Tr.KQ P ts
end
theorem Dh {P : Node → Nat → Prop} : ∀ {ks : List Tr}, Tr.KQ P ks ↔ ∀ k ∈ ks, k.each P
 | [] => by rw [Tr.KQ]; simp
 | t :: ts => by rw [Tr.KQ, Dh (ks := ts)]; simp
theorem Hi {ks : List Tr} {i : Nat} (h : i < ks.length) : kid ks i = ks[i] := by simp [kid, List.getD_eq_getElem?_getD, h]
theorem Kk {P : Node → Nat → Prop} {ks : List Tr} (h : Tr.KQ P ks) {i : Nat} (hi : i < ks.length) : (kid ks i).each P := by
 rw [Hi hi]; exact Dh.1 h _ (List.getElem_mem hi)
def FQ (B : Nat) (n : Node) (m : Nat) : Prop := AfG n m ∧ Ew n m ≤ B ∧ Ac.bulk n ≤ B
theorem R6 (k pos v : Int) (s : ByteArray) : Ew (⟨k, pos, v, s, [], []⟩ : Node) 0 = 7 + s.size ∧ Ac.bulk (⟨k, pos, v, s, [], []⟩ : Node) = s.size + 7 := by
 have h1 : Ew (⟨k, pos, v, s, [], []⟩ : Node) 0 = 6 + s.size + 0 + 1 := rfl
 have h2 : Ac.bulk (⟨k, pos, v, s, [], []⟩ : Node) = 1 + 1 + 1 + (s.size + 1) + 1 + 1 + 1 := rfl
 omega
theorem Abb (v : Int) : (GL v).size ≤ 5 := by
 unfold GL
 split <;> decide
theorem LG {n a b m : Node} (h : Mi n a b = some m) : ∃ k v s, m = ⟨k, n.pos, v, s, [], []⟩ ∧ (k = 1 ∨ k = 2 ∨ k = 4) ∧ s.size ≤ 1000 ∧ (k = 1 → 0 ≤ v ∧ v ≤ 4611686018427387903) := by
 unfold Mi at h
 split at h
 ·split at h
  ·rename_i h1 h2
   cases h
   exact ⟨2, 0, _, rfl, .inr (.inl rfl), by rw [ByteArray.size_append]; exact h2.2.2, fun e => by cases e⟩
  ·cases h
 ·split at h
  ·split at h
   ·cases h
    exact ⟨4, 0, _, rfl, .inr (.inr rfl), Nat.le_trans (Abb _) (by decide), fun e => by cases e⟩
   ·rename_i ht
    split at h
    ·rename_i hv
     cases h
     exact ⟨1, _, _, rfl, .inl rfl, by decide, fun _ => ⟨hv.2, (AcP (by simpa using ht)).2⟩⟩
    ·cases h
  ·cases h
theorem Wj {B : Nat} (hB : 1100 ≤ B) {t : Tr} (h : t.rk) (hf : t.each (FQ B)) : ((Az t).rk ∧ (Az t).each (FQ B)) ∧ (Az t).size ≤ t.size := by
 obtain ⟨n, ks⟩ := t
 have h0 := h
 have hf0 := hf
 rw [Tr.rk] at h
 rw [Tr.each] at hf
 obtain ⟨⟨ha, hb, hc⟩, hfs⟩ := hf
 have same : ((Tr.mk n ks).rk ∧ (Tr.mk n ks).each (FQ B)) ∧ (Tr.mk n ks).size ≤ (Tr.mk n ks).size := ⟨⟨h0, hf0⟩, Nat.le_refl _⟩
 have sub : ∀ i, i < ks.length → ((kid ks i).rk ∧ (kid ks i).each (FQ B)) ∧ (kid ks i).size ≤ (Tr.mk n ks).size := fun i hi => by
  have g := Is h.2 hi
  refine ⟨⟨g.1, Kk hfs hi⟩, ?_⟩
  have := g.2
  rw [Tr.size]; unfold kid; omega
 rw [Az]
 split
 ·split
  ·rename_i m hm
   obtain ⟨k, v, s, rfl, hk, hs, hv1⟩ := LG hm
   obtain ⟨l1, l2⟩ := R6 k n.pos v s
   refine ⟨⟨?_, ?_⟩, ?_⟩
   ·rw [Tr.rk, Tr.rks]
    refine ⟨⟨fun _ => rfl, fun e => ?_, fun e => ?_, fun _ => rfl, fun q hq => (by cases hq), ?_, ?_⟩, trivial⟩
    ·dsimp only at e; omega
    ·dsimp only at e; omega
    ·show Ew _ 0 ≤ _; omega
    ·omega
   ·rw [Tr.each, Tr.KQ]
    refine ⟨⟨⟨fun e => ?_, fun e => ?_, fun e => ?_, hv1⟩, ?_, ?_⟩, trivial⟩
    ·dsimp only at e; omega
    ·dsimp only at e; omega
    ·dsimp only at e; omega
    ·show Ew _ 0 ≤ _; omega
    ·omega
   ·rw [Tr.size, Tr.size, Tr.AJ]; omega
  ·exact same
 ·split
  ·rename_i h9
   have hl := ha.2.1 h9
   split
   ·exact sub 1 (by omega)
   ·split
    ·exact sub 2 (by omega)
    ·exact same
  ·split
   ·rename_i h19
    have hl := ha.2.2.1 h19
    split
    ·exact sub 1 (by omega)
    ·exact same
   ·split
    ·rename_i h7
     have hl := h.1.2.1 h7
     split
     ·exact sub 1 (by omega)
     ·exact same
    ·exact same
theorem XR {P : Node → Nat → Prop} {s : ByteArray} {a : Node} (ha : ∀ pos, P { a with pos := pos } 0) : ∀ t : Tr, t.each P → (De s a t).each P := Tr.ind fun n ks ih h => by
 have h0 := h
 rw [Tr.each] at h
 rw [De]
 split
 ·split
  ·rw [Tr.each, Tr.KQ]; exact ⟨ha _, trivial⟩
  ·exact h0
 ·rw [Tr.each, DR]
  exact ⟨h.1, Dh.2 (LD (Dh.1 h.2) fun k hk => ih k hk (Dh.1 h.2 k hk))⟩
theorem Up {B : Nat} {t : Tr} (h : t.rk) (hf : t.each (FQ B)) : ((AP t).rk ∧ (AP t).each (FQ B)) ∧ (AP t).size ≤ t.size := by
 refine ⟨⟨(Gk h).1, ?_⟩, (Gk h).2⟩
 obtain ⟨n, ks⟩ := t
 have hf0 := hf
 rw [Tr.rk] at h
 rw [Tr.each] at hf
 rw [AP]
 split
 ·rename_i hc
  have hl := h.1.2.1 hc.1
  have g0 := Is h.2 (i := 0) (by omega)
  obtain ⟨p1, p2, _⟩ := HE g0.1 hc.2
  have g1 : (kid ks 1).each (FQ B) := Kk hf.2 (by omega)
  have g2 : (kid ks 0).each (FQ B) := Kk hf.2 (by omega)
  unfold kid at g1 g2
  refine XR (fun pos => ?_) _ g1
  rw [p1, Tr.each] at g2
  have hk : (ks.getD 0 (.mk default [])).hd.kind = 1 ∨ (ks.getD 0 (.mk default [])).hd.kind = 2 ∨ (ks.getD 0 (.mk default [])).hd.kind = 12 ∨ (ks.getD 0 (.mk default [])).hd.kind = 4 := by
   have hp := hc.2
   rw [p1] at hp
   simp only [Es, CG, Bool.or_eq_true, Bool.and_eq_true, decide_eq_true_eq] at hp
   omega
  exact ⟨⟨fun e => (by dsimp only at e; omega), fun e => (by dsimp only at e; omega), fun e => (by dsimp only at e; omega), g2.1.1.2.2.2⟩, g2.1.2.1, g2.1.2.2⟩
 ·exact hf0
theorem WH {B : Nat} {t : Tr} (h : t.rk) (hf : t.each (FQ B)) : ((AM t).rk ∧ (AM t).each (FQ B)) ∧ (AM t).size ≤ t.size := by
 refine ⟨⟨(Gz h).1, ?_⟩, (Gz h).2⟩
 obtain ⟨n, ks⟩ := t
 have hf0 := hf
 rw [Tr.rk] at h
 rw [Tr.each] at hf
 rw [AM]
 split
 ·rename_i hc
  have hl := h.1.2.2.1 hc.1
  have g0 : (kid ks 0).each (FQ B) := Kk hf.2 (by omega)
  split
  ·exact hf0
  ·rename_i i hi
   have hlt := K8 hi
   have g1 : (kid ks (i + 1)).each (FQ B) := Kk hf.2 (by omega)
   have hp : n.Ae.getD i default = n.Ae[i] := by simp [List.getD_eq_getElem?_getD, hlt]
   unfold kid at g0 g1
   dsimp only
   rw [hp]
   split
   ·have hne := h.1.2.2.2.2.1 _ (List.getElem_mem hlt)
    have hx : n.Ae[i].nodes.getD 0 default ∈ n.Ae[i].nodes := by
     cases hn : n.Ae[i].nodes with
     | nil => exact absurd hn hne
     | cons x r => simp
    have b1 := Au hx
    have b2 := Au (List.getElem_mem hlt)
    have b3 : Ac.bulk n.Ae[i] = Ac.bulk n.Ae[i].nodes + 1 := rfl
    generalize n.Ae[i].nodes.getD 0 default = x at *
    have b4 : Ac.bulk x = Ac.bulk x.kind + Ac.bulk x.n + (x.s.size + 1) + Ac.bulk x.kids + 1 := rfl
    have b5 : Ac.bulk n = Ac.bulk n.kind + Ac.bulk n.pos + Ac.bulk n.n + Ac.bulk n.s + Ac.bulk n.kids + Ac.bulk n.Ae + 1 := rfl
    have b6 := hf.1.2.2
    have c1 : Ac.bulk x.kind = 1 := rfl
    have c2 : Ac.bulk x.n = 1 := rfl
    have c3 : Ac.bulk n.kind = 1 := rfl
    have c4 : Ac.bulk n.pos = 1 := rfl
    have c5 : Ac.bulk n.n = 1 := rfl
    have c6 : Ac.bulk n.s = n.s.size + 1 := rfl
    have c7 := Ai n.kids
    have c8 := Ai x.kids
    have d1 : Ew (⟨7, n.pos, 0, x.s, [], []⟩ : Node) 2 = 6 + x.s.size + 2 + 1 := rfl
    have d2 := (R6 7 n.pos 0 x.s).2
    rw [Tr.each, Tr.KQ, Tr.KQ, Tr.KQ]
    refine ⟨⟨⟨fun e => ?_, fun e => ?_, fun e => ?_, fun e => ?_⟩, ?_, ?_⟩, g0, g1, trivial⟩
    ·simp at e
    ·simp at e
    ·simp at e
    ·simp at e
    ·show Ew (⟨7, n.pos, 0, x.s, [], []⟩ : Node) 2 ≤ _
     omega
    ·omega
   ·exact g1
 ·exact hf0
def TK (B : Nat) (t : Tr) : Prop := t.rk ∧ t.each (FQ B)
theorem Je {B : Nat} (n : Node) (ks : List Tr) (h : TK B (.mk n ks)) : ∀ k ∈ ks, TK B k := fun k hk => by
 obtain ⟨h1, h2⟩ := h
 rw [Tr.rk] at h1
 rw [Tr.each] at h2
 exact ⟨Ch.1 h1.2 k hk, Dh.1 h2.2 k hk⟩
theorem O5 {B : Nat} (n : Node) (ks ks' : List Tr) (h : TK B (.mk n ks)) (hl : ks'.length = ks.length) (hk : ∀ k ∈ ks', TK B k) : TK B (.mk n ks') := by
 obtain ⟨h1, h2⟩ := h
 rw [Tr.rk] at h1
 rw [Tr.each] at h2
 unfold TK
 rw [Tr.rk, Tr.each, hl]
 exact ⟨⟨h1.1, Ch.2 fun k h => (hk k h).1⟩, h2.1, Dh.2 fun k h => (hk k h).2⟩
theorem HQ {B : Nat} (hB : 1100 ≤ B) (t : Tr) (h : TK B t) : TK B (Az t) ∧ (Az t).size ≤ t.size := Wj hB h.1 h.2
theorem XK {B : Nat} (t : Tr) (h : TK B t) : TK B (AP t) ∧ (AP t).size ≤ t.size := Up h.1 h.2
theorem YD {B : Nat} (t : Tr) (h : TK B t) : TK B (AM t) ∧ (AM t).size ≤ t.size := WH h.1 h.2
theorem Te {B : Nat} {p : Program} (hx : Ac.bulk p ≤ 4294967296) (hb : Bv p = true) (hB : ∀ n ∈ p.nodes, Ac.bulk n ≤ B) : TK B (Al p.nodes 0) := by
 refine ⟨Nk hx hb, ?_⟩
 obtain ⟨f1, f2, f3, f4, f5⟩ := Dk hx hb
 have hk : ∀ i, i < p.nodes.length → ∀ k ∈ Aq p.nodes i, (i : Int) < k ∧ k < p.nodes.length := fun i hi k hk => Ef f3 hi hk
 have hn : ∀ n ∈ p.nodes, FQ B n n.kids.length := fun n hn => by
  have h1 := hB n hn
  have h2 := Ja n
  simp only [Bv, GX, Bool.and_eq_true, decide_eq_true_eq, List.all_eq_true] at hb
  obtain ⟨⟨⟨⟨⟨_, _⟩, _⟩, h4⟩, _⟩, h6⟩ := hb
  have h3 := h4 n hn
  unfold AE at h3
  split at h3
  ·cases h3
  rename_i h0
  refine ⟨⟨fun e => ⟨?_, ?_⟩, fun e => ?_, fun e => ?_, fun e => ?_⟩, by omega, h1⟩
  ·have ha : AO n.kind = 2 := by rw [e]; rfl
   rw [ha] at h0; omega
  ·simpa [e] using h3
  ·have ha : AO n.kind = 3 := by rw [e]; rfl
   rw [ha] at h0; omega
  ·have ha : AO n.kind = 2 := by rw [e]; rfl
   rw [ha] at h0; omega
  ·simp only [e, if_true, Bool.and_eq_true, decide_eq_true_eq] at h3
   exact h3.1
 have key : ∀ (f i : Nat), i < p.nodes.length → p.nodes.length - i ≤ f → (Bw p.nodes f i).each (FQ B) := by
  intro f
  induction f with
  | zero => intro i hi hf; omega
  | succ f ih =>
   intro i hi hf
   rw [Bw, Tr.each]
   have e : p.nodes.getD i default = p.nodes[i] := by simp [List.getD_eq_getElem?_getD, hi]
   refine ⟨?_, Dh.2 fun t ht => ?_⟩
   ·rw [List.length_map, Aq, e]; exact hn _ (List.getElem_mem hi)
   ·obtain ⟨k, hk', rfl⟩ := List.mem_map.1 ht
    have := hk i hi k hk'
    exact ih k.toNat (by omega) (by omega)
 exact key p.nodes.length 0 (by omega) (by omega)
theorem R9 {B : Nat} : ∀ t : Tr, t.each (FQ B) → ∀ b, ∀ n ∈ Bz b t, Ac.bulk n ≤ B := Tr.ind fun n ks ih h b m hm => by
 rw [Tr.each] at h
 rw [Bz] at hm
 rcases List.mem_cons.1 hm with rfl | hm
 ·rw [Ja]
  have h1 := h.1.2.1
  simp only [Ew, ED] at h1 ⊢
  exact h1
 ·exact Ns (fun k hk => ih k hk (Dh.1 h.2 k hk)) _ m hm
def SmP (B : Nat) (p : Program) : Prop := Ac.bulk p.types ≤ B ∧ p.nodes.length ≤ 600 ∧ ∀ n ∈ p.nodes, Ac.bulk n ≤ B
theorem SmP.bulk {B : Nat} {p : Program} (h : SmP B p) : Ac.bulk p ≤ 601 * B + 2 := by
 obtain ⟨h1, h2, h3⟩ := h
 have e : Ac.bulk p = Ac.bulk p.types + Ac.bulk p.nodes + 1 := rfl
 have h4 : ∀ l : List Node, (∀ n ∈ l, Ac.bulk n ≤ B) → Ac.bulk l ≤ l.length * B + 1 := by
  intro l
  induction l with
  | nil => intro _; simp [Ac.bulk]
  | cons n l ih =>
   intro h
   have a1 := h n (by simp)
   have a2 := ih fun k hk => h k (by simp [hk])
   have a3 : Ac.bulk (n :: l) = Ac.bulk n + Ac.bulk l := by show (List.map Ac.bulk (n :: l)).sum + 1 = _ + ((l.map Ac.bulk).sum + 1); simp; omega
   rw [a3, List.length_cons, Nat.succ_mul]; omega
 have h5 := h4 _ h3
 have h6 := Nat.mul_le_mul_right B h2
 omega
theorem Aez {B : Nat} {R : Tr → Tr} (hR : ∀ t, TK B t → TK B (R t) ∧ (R t).size ≤ t.size) {p : Program} (hx : Ac.bulk p ≤ 4294967296) (h : SmP B p) : SmP B (Dj R p) := by
 unfold Dj
 split
 ·rename_i hb
  have h1 := GM Je O5 hR _ (Te hx hb h.2.2)
  have h2 := (Fv hx hb).2.2.2.1
  refine ⟨h.1, ?_, R9 _ h1.1.2 0⟩
  show (Bz 0 _).length ≤ 600
  rw [Dm]; omega
 ·refine ⟨?_, Nat.zero_le _, fun n hn => by cases hn⟩
  have := Ai p.types
  have := h.1
  show 1 ≤ B
  omega
end Go.Proofs.YtppjinmlfcokaaaGreat

/-
 CONSTANTS FOLDED: the rule, told plainly; what the trees fulfil. Conditions: none.
-/
import Derived.Test.YtppjinmlfcokaaaGreatJJ33
import Derived.Test.YtppjinmlfcokaaaGreatJJ36
import Derived.Test.YtppjinmlfcokaaaGreatProg
import Derived.Test.YtppjinmlfcokaaaGreatJAvDraw
set_option linter.unusedVariables false
set_option linter.unusedSimpArgs false
set_option maxRecDepth 100000
namespace Go.Proofs.YtppjinmlfcokaaaGreat
open Go.RowKit Go.Proofs.YtppjinmlfcokaaaGreat.Av Go.Proofs.YtppjinmlfcokaaaGreat.Ml
open Go.Proofs.YtppjinmlfcokaaaGreat.Av.AVal (av)

def Mz (n a b : Node) : Option Node :=
 if n.s = bs [94] then (if a.kind = 2 ∧ b.kind = 2 ∧ a.s.size + b.s.size ≤ 1000 then some ⟨2, n.pos, 0, a.s ++ b.s, [], []⟩ else none)
 else if a.kind = 1 ∧ b.kind = 1 then
  (if (FD n.s a.n b.n).2.1 = true then some ⟨4, n.pos, 0, GK (FD n.s a.n b.n).1, [], []⟩
  else if (FD n.s a.n b.n).2.2 = true ∧ 0 ≤ (FD n.s a.n b.n).1 then some ⟨1, n.pos, (FD n.s a.n b.n).1, bs [], [], []⟩ else none)
 else none
def kid (ks : List Tr) (i : Nat) : Tr := ks.getD i (.mk default [])
def AE : Tr → Tr
 | .mk n ks =>
  if n.kind = 10 then (match Mz n (kid ks 0).hd (kid ks 1).hd with
   | some m => .mk m []
   | none => .mk n ks)
  else if n.kind = 9 then
   (if (kid ks 0).hd.kind = 4 ∧ (kid ks 0).hd.s = GK 1 then kid ks 1 else if (kid ks 0).hd.kind = 4 ∧ (kid ks 0).hd.s = GK 0 then kid ks 2 else .mk n ks)
  else if n.kind = 19 then (if (kid ks 0).hd.kind = 12 then kid ks 1 else .mk n ks)
  else if n.kind = 7 then (if (Ew (kid ks 0) = true ∨ (kid ks 0).hd.kind = 5) ∧ DW n.s (kid ks 1) = 0 then kid ks 1 else .mk n ks)
  else .mk n ks
def Ae3 (n : Node) (m : Nat) : Prop := (n.kind = 10 → m = 2 ∧ opsL.any (fun x => decide (n.s = x)) = true) ∧ (n.kind = 9 → m = 3) ∧ (n.kind = 19 → m = 2) ∧ (n.kind = 1 → 0 ≤ n.n ∧ n.n ≤ 4611686018427387903)
mutual
def Tr.each (P : Node → Nat → Prop) : Tr → Prop
 | .mk n ks => P n ks.length ∧ Tr.K9 P ks
def Tr.K9 (P : Node → Nat → Prop) : List Tr → Prop
 | [] => True
 | t :: ts => t.each P ∧ Tr.K9 P ts
end
theorem De {P : Node → Nat → Prop} : ∀ {ks : List Tr}, Tr.K9 P ks ↔ ∀ k ∈ ks, k.each P
 | [] => by rw [Tr.K9]; simp
 | t :: ts => by rw [Tr.K9, De (ks := ts)]; simp
theorem H8 {ks : List Tr} {i : Nat} (h : i < ks.length) : kid ks i = ks[i] := by simp [kid, List.getD_eq_getElem?_getD, h]
theorem KE {P : Node → Nat → Prop} {ks : List Tr} (h : Tr.K9 P ks) {i : Nat} (hi : i < ks.length) : (kid ks i).each P := by
 rw [H8 hi]; exact De.1 h _ (List.getElem_mem hi)
def FQ (B : Nat) (n : Node) (m : Nat) : Prop := Ae3 n m ∧ Es n m ≤ B ∧ Ac.bulk n ≤ B
theorem Sa (k pos v : Int) (s : ByteArray) : Es (⟨k, pos, v, s, [], []⟩ : Node) 0 = 7 + s.size ∧ Ac.bulk (⟨k, pos, v, s, [], []⟩ : Node) = s.size + 7 := by
 have h1 : Es (⟨k, pos, v, s, [], []⟩ : Node) 0 = 6 + s.size + 0 + 1 := rfl
 have h2 : Ac.bulk (⟨k, pos, v, s, [], []⟩ : Node) = 1 + 1 + 1 + (s.size + 1) + 1 + 1 + 1 := rfl
 omega
theorem AaL (v : Int) : (GK v).size ≤ 5 := by
 unfold GK
 split <;> decide
theorem PD {n a b m : Node} (h : Mz n a b = some m) : ∃ k v s, m = ⟨k, n.pos, v, s, [], []⟩ ∧ (k = 1 ∨ k = 2 ∨ k = 4) ∧ s.size ≤ 1000 ∧ (k = 1 → 0 ≤ v ∧ v ≤ 4611686018427387903) := by
 unfold Mz at h
 split at h
 ·split at h
  ·rename_i h1 h2
   cases h
   exact ⟨2, 0, _, rfl, .inr (.inl rfl), by rw [ByteArray.size_append]; exact h2.2.2, fun e => by cases e⟩
  ·cases h
 ·split at h
  ·split at h
   ·cases h
    exact ⟨4, 0, _, rfl, .inr (.inr rfl), Nat.le_trans (AaL _) (by decide), fun e => by cases e⟩
   ·rename_i ht
    split at h
    ·rename_i hv
     cases h
     exact ⟨1, _, _, rfl, .inl rfl, by decide, fun _ => ⟨hv.2, (Aco (by simpa using ht)).2⟩⟩
    ·cases h
  ·cases h
theorem Wf {B : Nat} (hB : 1100 ≤ B) {t : Tr} (h : t.rk) (hf : t.each (FQ B)) : ((AE t).rk ∧ (AE t).each (FQ B)) ∧ (AE t).size ≤ t.size := by
 obtain ⟨n, ks⟩ := t
 have h0 := h
 have hf0 := hf
 rw [Tr.rk] at h
 rw [Tr.each] at hf
 obtain ⟨⟨ha, hb, hc⟩, hfs⟩ := hf
 have same : ((Tr.mk n ks).rk ∧ (Tr.mk n ks).each (FQ B)) ∧ (Tr.mk n ks).size ≤ (Tr.mk n ks).size := ⟨⟨h0, hf0⟩, Nat.le_refl _⟩
 have sub : ∀ i, i < ks.length → ((kid ks i).rk ∧ (kid ks i).each (FQ B)) ∧ (kid ks i).size ≤ (Tr.mk n ks).size := fun i hi => by
  have g := Lt h.2 hi
  refine ⟨⟨g.1, KE hfs hi⟩, ?_⟩
  have := g.2
  rw [Tr.size]; unfold kid; omega
 rw [AE]
 split
 ·split
  ·rename_i m hm
   obtain ⟨k, v, s, rfl, hk, hs, hv1⟩ := PD hm
   obtain ⟨l1, l2⟩ := Sa k n.pos v s
   refine ⟨⟨?_, ?_⟩, ?_⟩
   ·rw [Tr.rk, Tr.rks]
    refine ⟨⟨fun _ => rfl, fun e => ?_, fun e => ?_, fun _ => rfl, fun q hq => (by cases hq), ?_, ?_⟩, trivial⟩
    ·dsimp only at e; omega
    ·dsimp only at e; omega
    ·show Es _ 0 ≤ _; omega
    ·omega
   ·rw [Tr.each, Tr.K9]
    refine ⟨⟨⟨fun e => ?_, fun e => ?_, fun e => ?_, hv1⟩, ?_, ?_⟩, trivial⟩
    ·dsimp only at e; omega
    ·dsimp only at e; omega
    ·dsimp only at e; omega
    ·show Es _ 0 ≤ _; omega
    ·omega
   ·rw [Tr.size, Tr.size, Tr.AM]; omega
  ·exact same
 ·split
  ·rename_i h9
   have hl := ha.2.1 h9
   split
   ·exact sub 1 (by omega)
   ·split
    ·exact sub 2 (by omega)
    ·exact same
  ·split
   ·rename_i h19
    have hl := ha.2.2.1 h19
    split
    ·exact sub 1 (by omega)
    ·exact same
   ·split
    ·rename_i h7
     have hl := h.1.2.1 h7
     split
     ·exact sub 1 (by omega)
     ·exact same
    ·exact same
theorem XN {P : Node → Nat → Prop} {s : ByteArray} {a : Node} (ha : ∀ pos, P { a with pos := pos } 0) : ∀ t : Tr, t.each P → (Dt s a t).each P := Tr.ind fun n ks ih h => by
 have h0 := h
 rw [Tr.each] at h
 rw [Dt]
 split
 ·split
  ·rw [Tr.each, Tr.K9]; exact ⟨ha _, trivial⟩
  ·exact h0
 ·rw [Tr.each, D6]
  exact ⟨h.1, De.2 (LY (De.1 h.2) fun k hk => ih k hk (De.1 h.2 k hk))⟩
theorem Up {B : Nat} {t : Tr} (h : t.rk) (hf : t.each (FQ B)) : ((AW t).rk ∧ (AW t).each (FQ B)) ∧ (AW t).size ≤ t.size := by
 refine ⟨⟨(Gj h).1, ?_⟩, (Gj h).2⟩
 obtain ⟨n, ks⟩ := t
 have hf0 := hf
 rw [Tr.rk] at h
 rw [Tr.each] at hf
 rw [AW]
 split
 ·rename_i hc
  have hl := h.1.2.1 hc.1
  have g0 := Lt h.2 (i := 0) (by omega)
  obtain ⟨p1, p2, _⟩ := IU g0.1 hc.2
  have g1 : (kid ks 1).each (FQ B) := KE hf.2 (by omega)
  have g2 : (kid ks 0).each (FQ B) := KE hf.2 (by omega)
  unfold kid at g1 g2
  refine XN (fun pos => ?_) _ g1
  rw [p1, Tr.each] at g2
  have hk : (ks.getD 0 (.mk default [])).hd.kind = 1 ∨ (ks.getD 0 (.mk default [])).hd.kind = 2 ∨ (ks.getD 0 (.mk default [])).hd.kind = 12 ∨ (ks.getD 0 (.mk default [])).hd.kind = 4 := by
   have hp := hc.2
   rw [p1] at hp
   simp only [Ew, C8, Bool.or_eq_true, Bool.and_eq_true, decide_eq_true_eq] at hp
   omega
  exact ⟨⟨fun e => (by dsimp only at e; omega), fun e => (by dsimp only at e; omega), fun e => (by dsimp only at e; omega), g2.1.1.2.2.2⟩, g2.1.2.1, g2.1.2.2⟩
 ·exact hf0
theorem WB {B : Nat} {t : Tr} (h : t.rk) (hf : t.each (FQ B)) : ((AR t).rk ∧ (AR t).each (FQ B)) ∧ (AR t).size ≤ t.size := by
 refine ⟨⟨(Gy h).1, ?_⟩, (Gy h).2⟩
 obtain ⟨n, ks⟩ := t
 have hf0 := hf
 rw [Tr.rk] at h
 rw [Tr.each] at hf
 rw [AR]
 split
 ·rename_i hc
  have hl := h.1.2.2.1 hc.1
  have g0 : (kid ks 0).each (FQ B) := KE hf.2 (by omega)
  split
  ·exact hf0
  ·rename_i i hi
   have hlt := NS hi
   have g1 : (kid ks (i + 1)).each (FQ B) := KE hf.2 (by omega)
   have hp : n.Ai.getD i default = n.Ai[i] := by simp [List.getD_eq_getElem?_getD, hlt]
   unfold kid at g0 g1
   dsimp only
   rw [hp]
   split
   ·have hne := h.1.2.2.2.2.1 _ (List.getElem_mem hlt)
    have hx : n.Ai[i].nodes.getD 0 default ∈ n.Ai[i].nodes := by
     cases hn : n.Ai[i].nodes with
     | nil => exact absurd hn hne
     | cons x r => simp
    have b1 := AG hx
    have b2 := AG (List.getElem_mem hlt)
    have b3 : Ac.bulk n.Ai[i] = Ac.bulk n.Ai[i].nodes + 1 := rfl
    generalize n.Ai[i].nodes.getD 0 default = x at *
    have b4 : Ac.bulk x = Ac.bulk x.kind + Ac.bulk x.n + (x.s.size + 1) + Ac.bulk x.kids + 1 := rfl
    have b5 : Ac.bulk n = Ac.bulk n.kind + Ac.bulk n.pos + Ac.bulk n.n + Ac.bulk n.s + Ac.bulk n.kids + Ac.bulk n.Ai + 1 := rfl
    have b6 := hf.1.2.2
    have c1 : Ac.bulk x.kind = 1 := rfl
    have c2 : Ac.bulk x.n = 1 := rfl
    have c3 : Ac.bulk n.kind = 1 := rfl
    have c4 : Ac.bulk n.pos = 1 := rfl
    have c5 : Ac.bulk n.n = 1 := rfl
    have c6 : Ac.bulk n.s = n.s.size + 1 := rfl
    have c7 := Ag n.kids
    have c8 := Ag x.kids
    have d1 : Es (⟨7, n.pos, 0, x.s, [], []⟩ : Node) 2 = 6 + x.s.size + 2 + 1 := rfl
    have d2 := (Sa 7 n.pos 0 x.s).2
    rw [Tr.each, Tr.K9, Tr.K9, Tr.K9]
    refine ⟨⟨⟨fun e => ?_, fun e => ?_, fun e => ?_, fun e => ?_⟩, ?_, ?_⟩, g0, g1, trivial⟩
    ·simp at e
    ·simp at e
    ·simp at e
    ·simp at e
    ·show Es (⟨7, n.pos, 0, x.s, [], []⟩ : Node) 2 ≤ _
     omega
    ·omega
   ·exact g1
 ·exact hf0
def TK (B : Nat) (t : Tr) : Prop := t.rk ∧ t.each (FQ B)
theorem Lg {B : Nat} (n : Node) (ks : List Tr) (h : TK B (.mk n ks)) : ∀ k ∈ ks, TK B k := fun k hk => by
 obtain ⟨h1, h2⟩ := h
 rw [Tr.rk] at h1
 rw [Tr.each] at h2
 exact ⟨Cl.1 h1.2 k hk, De.1 h2.2 k hk⟩
theorem Rn {B : Nat} (n : Node) (ks ks' : List Tr) (h : TK B (.mk n ks)) (hl : ks'.length = ks.length) (hk : ∀ k ∈ ks', TK B k) : TK B (.mk n ks') := by
 obtain ⟨h1, h2⟩ := h
 rw [Tr.rk] at h1
 rw [Tr.each] at h2
 unfold TK
 rw [Tr.rk, Tr.each, hl]
 exact ⟨⟨h1.1, Cl.2 fun k h => (hk k h).1⟩, h2.1, De.2 fun k h => (hk k h).2⟩
theorem HP {B : Nat} (hB : 1100 ≤ B) (t : Tr) (h : TK B t) : TK B (AE t) ∧ (AE t).size ≤ t.size := Wf hB h.1 h.2
theorem XI {B : Nat} (t : Tr) (h : TK B t) : TK B (AW t) ∧ (AW t).size ≤ t.size := Up h.1 h.2
theorem Yq {B : Nat} (t : Tr) (h : TK B t) : TK B (AR t) ∧ (AR t).size ≤ t.size := WB h.1 h.2
theorem Xv {B : Nat} {p : Program} (hx : Ac.bulk p ≤ 4294967296) (hb : Db p = true) (hB : ∀ n ∈ p.nodes, Ac.bulk n ≤ B) : TK B (A2 p.nodes 0) := by
 refine ⟨LV hx hb, ?_⟩
 obtain ⟨f1, f2, f3, f4, f5⟩ := CJ hx hb
 have hk : ∀ i, i < p.nodes.length → ∀ k ∈ Bp p.nodes i, (i : Int) < k ∧ k < p.nodes.length := fun i hi k hk => DM f3 hi hk
 have hn : ∀ n ∈ p.nodes, FQ B n n.kids.length := fun n hn => by
  have h1 := hB n hn
  have h2 := Jy n
  simp only [Db, JD, Bool.and_eq_true, decide_eq_true_eq, List.all_eq_true] at hb
  obtain ⟨⟨⟨⟨⟨_, _⟩, _⟩, h4⟩, _⟩, h6⟩ := hb
  have h3 := h4 n hn
  unfold A1 at h3
  split at h3
  ·cases h3
  rename_i h0
  refine ⟨⟨fun e => ⟨?_, ?_⟩, fun e => ?_, fun e => ?_, fun e => ?_⟩, by omega, h1⟩
  ·have ha : AX n.kind = 2 := by rw [e]; rfl
   rw [ha] at h0; omega
  ·simpa [e] using h3
  ·have ha : AX n.kind = 3 := by rw [e]; rfl
   rw [ha] at h0; omega
  ·have ha : AX n.kind = 2 := by rw [e]; rfl
   rw [ha] at h0; omega
  ·simp only [e, if_true, Bool.and_eq_true, decide_eq_true_eq] at h3
   exact h3.1
 have key : ∀ (f i : Nat), i < p.nodes.length → p.nodes.length - i ≤ f → (Bx p.nodes f i).each (FQ B) := by
  intro f
  induction f with
  | zero => intro i hi hf; omega
  | succ f ih =>
   intro i hi hf
   rw [Bx, Tr.each]
   have e : p.nodes.getD i default = p.nodes[i] := by simp [List.getD_eq_getElem?_getD, hi]
   refine ⟨?_, De.2 fun t ht => ?_⟩
   ·rw [List.length_map, Bp, e]; exact hn _ (List.getElem_mem hi)
   ·obtain ⟨k, hk', rfl⟩ := List.mem_map.1 ht
    have := hk i hi k hk'
    exact ih k.toNat (by omega) (by omega)
 exact key p.nodes.length 0 (by omega) (by omega)
theorem Sd {B : Nat} : ∀ t : Tr, t.each (FQ B) → ∀ b, ∀ n ∈ BF b t, Ac.bulk n ≤ B := Tr.ind fun n ks ih h b m hm => by
 rw [Tr.each] at h
 rw [BF] at hm
 rcases List.mem_cons.1 hm with rfl | hm
 ·rw [Jy]
  have h1 := h.1.2.1
  simp only [Es, Fi] at h1 ⊢
  exact h1
 ·exact NM (fun k hk => ih k hk (De.1 h.2 k hk)) _ m hm
def SmP (B : Nat) (p : Program) : Prop := Ac.bulk p.types ≤ B ∧ p.nodes.length ≤ 600 ∧ ∀ n ∈ p.nodes, Ac.bulk n ≤ B
theorem SmP.bulk {B : Nat} {p : Program} (h : SmP B p) : Ac.bulk p ≤ 601 * B + 2 := by
 obtain ⟨h1, h2, h3⟩ := h
 have e : Ac.bulk p = Ac.bulk p.types + Ac.bulk p.nodes + 1 := rfl
 have h4 : ∀ l : List Node, (∀ n ∈ l, Ac.bulk n ≤ B) → Ac.bulk l ≤ l.length * B + 1 := by
  intro l
  induction l with
  | nil => intro _; simp [Ac.bulk]
  | cons n l ih =>
   intro h
   have a1 := h n (by simp)
   have a2 := ih fun k hk => h k (by simp [hk])
   have a3 : Ac.bulk (n :: l) = Ac.bulk n + Ac.bulk l := by show (List.map Ac.bulk (n :: l)).sum + 1 = _ + ((l.map Ac.bulk).sum + 1); simp; omega
   rw [a3, List.length_cons, Nat.succ_mul]; omega
 have h5 := h4 _ h3
 have h6 := Nat.mul_le_mul_right B h2
 omega
theorem To {B : Nat} {R : Tr → Tr} (hR : ∀ t, TK B t → TK B (R t) ∧ (R t).size ≤ t.size) {p : Program} (hx : Ac.bulk p ≤ 4294967296) (h : SmP B p) : SmP B (Dh R p) := by
 unfold Dh
 split
 ·rename_i hb
  have h1 := Hw Lg Rn hR _ (Xv hx hb h.2.2)
  have h2 := (D5 hx hb).2.2.2.1
  refine ⟨h.1, ?_, Sd _ h1.1.2 0⟩
  show (BF 0 _).length ≤ 600
  rw [Di]; omega
 ·refine ⟨?_, Nat.zero_le _, fun n hn => by cases hn⟩
  have := Ag p.types
  have := h.1
  show 1 ≤ B
  omega
def Uo (p : Program) : Program := Dh AE (Dh AR (if 0 < (Dh AW p).nodes.length then Dh AW p else p))
def Fp : Nat → Program → Program
 | 0, p => p
 | k + 1, p => Fp k (Uo p)
def Eo (p : Program) (r : Int) : Program := if Db p = true then Fp (min r.toNat 20) ⟨p.types, BF 0 (A2 p.nodes 0)⟩ else ⟨[], []⟩
end Go.Proofs.YtppjinmlfcokaaaGreat
set_option linter.unusedVariables false
set_option maxRecDepth 100000
namespace Go.Proofs.YtppjinmlfcokaaaGreat
open Go.Proofs.YtppjinmlfcokaaaGreat.Av

theorem Hg : Tryz.prog.follows .mixedOrders = true := by kernel_rfl

def Bw : Ir Tryz.prog 116 [(66,66),(108,66),(121,66)] [9999] 1 := ⟨_, _, Tryz.func116, Hg, by kernel_rfl, Ah [] Tryz.progTables (by conv => lhs; cbv) (by kernel_rfl)⟩
def Ef : Ir Tryz.prog 117 [] [] 1 := ⟨_, _, Tryz.func117, Hg, by kernel_rfl, Ah [] Tryz.progTables (by conv => lhs; cbv) (by kernel_rfl)⟩
def A8 : Ir Tryz.prog 56 [(11, 7777)] [9999] 1 := ⟨_, _, Tryz.func56, Hg, by kernel_rfl, Ah [] Tryz.progTables (by conv => lhs; cbv) (by kernel_rfl)⟩
def F5 : Ir Tryz.prog 24 [(8,7775),(10,7775), (11, 7777), (12, 7777), (13, 7777)] [9999] 1 := ⟨_, _, Tryz.func24, Hg, by kernel_rfl, Ah [] Tryz.progTables (by conv => lhs; cbv) (by kernel_rfl)⟩
end Go.Proofs.YtppjinmlfcokaaaGreat
set_option linter.unusedVariables false
set_option maxRecDepth 100000
namespace Go.Proofs.YtppjinmlfcokaaaGreat
open Go.Proofs.YtppjinmlfcokaaaGreat.Av

theorem Dn : Tryz.prog.follows .mixedOrders = true := by kernel_rfl

def M1 : Ir Tryz.prog 180 [] [] 2 := ⟨_, _, Tryz.func180, Dn, by kernel_rfl, Ah [] Tryz.progTables (by conv => lhs; cbv) (by kernel_rfl)⟩
def MX : Ir Tryz.prog 181 [] [] 2 := ⟨_, _, Tryz.func181, Dn, by kernel_rfl, Ah [] Tryz.progTables (by conv => lhs; cbv) (by kernel_rfl)⟩
def MZ : Ir Tryz.prog 182 [] [] 2 := ⟨_, _, Tryz.func182, Dn, by kernel_rfl, Ah [] Tryz.progTables (by conv => lhs; cbv) (by kernel_rfl)⟩
def M0 : Ir Tryz.prog 183 [] [] 2 := ⟨_, _, Tryz.func183, Dn, by kernel_rfl, Ah [] Tryz.progTables (by conv => lhs; cbv) (by kernel_rfl)⟩
def MY : Ir Tryz.prog 184 [] [] 2 := ⟨_, _, Tryz.func184, Dn, by kernel_rfl, Ah [] Tryz.progTables (by conv => lhs; cbv) (by kernel_rfl)⟩
def J3 : Ir Tryz.prog 185 [] [] 1 := ⟨_, _, Tryz.func185, Dn, by kernel_rfl, Ah [] Tryz.progTables (by conv => lhs; cbv) (by kernel_rfl)⟩
def J2 : Ir Tryz.prog 179 [] [9999] 3 := ⟨_, _, Tryz.func179, Dn, by kernel_rfl, Ah [] Tryz.progTables (by conv => lhs; cbv) (by kernel_rfl)⟩
def B9 : Ir Tryz.prog 147 [(133, 7777), (23, 7777), (35, 7777), (53, 7777)] [9999] 4 := ⟨_, _, Tryz.func147, Dn, by kernel_rfl, Ah [] Tryz.progTables (by conv => lhs; cbv) (by kernel_rfl)⟩
end Go.Proofs.YtppjinmlfcokaaaGreat
set_option linter.unusedVariables false
set_option maxRecDepth 100000
namespace Go.Proofs.YtppjinmlfcokaaaGreat
open Go.Proofs.YtppjinmlfcokaaaGreat.Av

theorem CZ : Tryz.prog.follows .mixedOrders = true := by kernel_rfl

def M7 : Ir Tryz.prog 205 [] [] 1 := ⟨_, _, Tryz.func205, CZ, by kernel_rfl, Ah [] Tryz.progTables (by conv => lhs; cbv) (by kernel_rfl)⟩
def Nc : Ir Tryz.prog 192 [(7,0)] [] 2 := ⟨_, _, Tryz.func192, CZ, by kernel_rfl, Ah [] Tryz.progTables (by conv => lhs; cbv) (by kernel_rfl)⟩
def M8 : Ir Tryz.prog 193 [(7,0)] [] 2 := ⟨_, _, Tryz.func193, CZ, by kernel_rfl, Ah [] Tryz.progTables (by conv => lhs; cbv) (by kernel_rfl)⟩
def Na : Ir Tryz.prog 194 [(7,0)] [] 2 := ⟨_, _, Tryz.func194, CZ, by kernel_rfl, Ah [] Tryz.progTables (by conv => lhs; cbv) (by kernel_rfl)⟩
def Nb : Ir Tryz.prog 195 [] [] 2 := ⟨_, _, Tryz.func195, CZ, by kernel_rfl, Ah [] Tryz.progTables (by conv => lhs; cbv) (by kernel_rfl)⟩
def M9 : Ir Tryz.prog 196 [] [] 2 := ⟨_, _, Tryz.func196, CZ, by kernel_rfl, Ah [] Tryz.progTables (by conv => lhs; cbv) (by kernel_rfl)⟩
def KX : Ir Tryz.prog 191 [] [] 1 := ⟨_, _, Tryz.func191, CZ, by kernel_rfl, Ah [] Tryz.progTables (by conv => lhs; cbv) (by kernel_rfl)⟩
def CY : Ir Tryz.prog 163 [] [] 3 := ⟨_, _, Tryz.func163, CZ, by kernel_rfl, Ah [] Tryz.progTables (by conv => lhs; cbv) (by kernel_rfl)⟩
def F3 : Ir Tryz.prog 164 [] [] 1 := ⟨_, _, Tryz.func164, CZ, by kernel_rfl, Ah [] Tryz.progTables (by conv => lhs; cbv) (by kernel_rfl)⟩
end Go.Proofs.YtppjinmlfcokaaaGreat

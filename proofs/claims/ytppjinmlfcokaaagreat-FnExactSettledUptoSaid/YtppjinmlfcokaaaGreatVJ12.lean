/-
 RIGHT PATTERNS AND VALUES, told plainly. Conditions: none.
-/
import Derived.Test.YtppjinmlfcokaaaGreatVWords
import Derived.Test.YtppjinmlfcokaaaGreatVJ10
import Derived.Test.YtppjinmlfcokaaaGreatVJ08
import Derived.Test.YtppjinmlfcokaaaGreatVGProg
set_option linter.unusedVariables false
namespace Go.Proofs.YtppjinmlfcokaaaGreat
open Go.RowKit Go.Proofs.YtppjinmlfcokaaaGreat.Av Go.Proofs.YtppjinmlfcokaaaGreat.Ml
open Go.Proofs.YtppjinmlfcokaaaGreat.Av.AVal (av)

def Ay {α : Type} [Inhabited α] (kd : α → Int) (l : List α) (kids : List Int) (d : Int) : Bool :=
 match kids with
 | [k] => decide (0 ≤ k) && decide (k < l.length) && decide (kd (l.getD k.toNat default) = d)
 | _ => false
def Er (l : List Bg) (n : Bg) : Bool :=
 if n.kind = 1 ∨ n.kind = 6 then decide (n.kids.length = 0) && decide (n.n = 0) && decide (n.s = bs [])
 else if n.kind = 2 then decide (n.kids.length = 0) && decide (n.n = 0) && EC n.s
 else if n.kind = 3 then decide (n.kids.length = 0) && decide (n.s = bs []) && (decide (-4611686018427387903 ≤ n.n) && decide (n.n ≤ 4611686018427387903))
 else if n.kind = 4 then decide (n.n = 0) && FT n.s n.kids.length (Ay Bg.kind l n.kids 5)
 else if n.kind = 5 then decide (n.kids.length = 2) && decide (n.n = 0) && decide (n.s = bs [])
 else false
def varsOf (l : List Bg) : List ByteArray := l.filterMap fun n => if n.kind = 2 then some n.s else none
def GN (l : List Bg) (i : Nat) : Bool := Er l (l.getD i default) && !(decide ((l.getD i default).kind = 2) && (varsOf (l.take i)).any fun x => decide ((l.getD i default).s = x))
def B2 (l : List Bg) (i : Nat) : List Int := (l.getD i default).kids
def Et (l : List Bg) : Bool := (decide (1 ≤ (l.length : Int)) && decide ((l.length : Int) ≤ 600)) && Fh (B2 l) l.length && allI (GN l) l.length
theorem Tx {α : Type} [Inhabited α] {kd : α → Int} {l : List α} {kids : List Int} {d : Int} (h : ¬ (0 ≤ kids.getD 0 0 ∧ kids.getD 0 0 < l.length)) : Ay kd l kids d = false := by
 unfold Ay; split
 ·rename_i k
  simp only [List.getD_cons_zero] at h
  by_cases h0 : 0 ≤ k
  ·have : ¬ k < l.length := fun h1 => h ⟨h0, h1⟩
   simp [this]
  ·simp [h0]
 ·rfl
theorem Ka {l : List Bg} {k : Nat} (h : k < l.length) : varsOf (l.take (k + 1)) = varsOf (l.take k) ++ (if l[k].kind = 2 then [l[k].s] else []) := by
 rw [List.take_succ_eq_append_getElem h, varsOf, List.filterMap_append]
 congr 1
 split <;> simp_all
theorem H6 {l : List Bg} (hx : Ac.bulk l ≤ 4294967296) (k : Nat) (hk : k < l.length) : l[k].kids.length ≤ 4294967296 ∧ l[k].s.size ≤ 4294967296 := by
 have h1 := Au (List.getElem_mem hk)
 have h2 : Ac.bulk l[k] = Ac.bulk l[k].kind + Ac.bulk l[k].n + Ac.bulk l[k].s + Ac.bulk l[k].kids + 1 := rfl
 have h3 := Ai l[k].kids
 have h4 : Ac.bulk l[k].s = l[k].s.size + 1 := rfl
 omega
theorem Jd (l : List Bg) : (varsOf l).length ≤ l.length := List.length_filterMap_le _ _
end Go.Proofs.YtppjinmlfcokaaaGreat
set_option linter.unusedVariables false
namespace Go.Proofs.YtppjinmlfcokaaaGreat
open Go.RowKit Go.Proofs.YtppjinmlfcokaaaGreat.Av Go.Proofs.YtppjinmlfcokaaaGreat.Ml
open Go.Proofs.YtppjinmlfcokaaaGreat.Av.AVal (av)

def FR : Nat → List Nat → Option (List Nat)
 | 0, l => some l
 | _ + 1, [] => none
 | c + 1, a :: l => FR (a + c) l
termination_by _ l => l.length
theorem Fw (l : List Nat) : FR 0 l = some l := by rw [FR]
theorem IH (c : Nat) : FR (c + 1) [] = none := by rw [FR]
theorem Hz (c a : Nat) (l : List Nat) : FR (c + 1) (a :: l) = FR (a + c) l := by rw [FR]
theorem Abq : ∀ (l : List Nat) (a c : Nat), FR (a + c) l = (FR a l).bind (FR c) := by
 intro l
 induction l with
 | nil =>
  intro a c
  cases a with
  | zero => rw [Nat.zero_add, Fw]; rfl
  | succ a => rw [show a + 1 + c = (a + c) + 1 by omega, IH, IH]; rfl
 | cons x l ih =>
  intro a c
  cases a with
  | zero => rw [Nat.zero_add, Fw]; rfl
  | succ a => rw [show a + 1 + c = (a + c) + 1 by omega, Hz, Hz, ← Nat.add_assoc, ih]
theorem Rn : ∀ (l : List Nat) (c : Nat) (r : List Nat), FR c l = some r → r.length ≤ l.length ∧ r = l.drop (l.length - r.length) ∧ (0 < c → r.length < l.length) := by
 intro l
 induction l with
 | nil =>
  intro c r h
  cases c with
  | zero => rw [Fw] at h; cases h; simp
  | succ c => rw [IH] at h; cases h
 | cons x l ih =>
  intro c r h
  cases c with
  | zero => rw [Fw] at h; cases h; simp
  | succ c =>
   rw [Hz] at h
   obtain ⟨h1, h2, h3⟩ := ih _ _ h
   refine ⟨by simp; omega, ?_, fun _ => by simp; omega⟩
   rw [List.length_cons, show l.length + 1 - r.length = (l.length - r.length) + 1 by omega, List.drop_succ_cons]
   exact h2
def Ex (e : Nat → Option Nat) : Nat → Nat → Option Nat
 | 0, p => some p
 | c + 1, p => (e p).bind (Ex e c)
def DP (A : List Nat) : Nat → Nat → Option Nat
 | 0, _ => none
 | f + 1, p => if p < A.length then Ex (DP A f) (A.getD p 0) (p + 1) else none
theorem NF (A : List Nat) : ∀ (f p : Nat), A.length - p < f → DP A f p = (FR 1 (A.drop p)).map (fun r => A.length - r.length)
 | 0, p, h => by omega
 | f + 1, p, h => by
  -- c types behind p
  have hit : ∀ c q, p < q → q ≤ A.length → Ex (DP A f) c q = (FR c (A.drop q)).map (fun r => A.length - r.length) := by
   intro c
   induction c with
   | zero => intro q _ hq; rw [Fw]; simp [Ex]; omega
   | succ c ih =>
    intro q hpq hq
    rw [Ex, NF A f q (by omega), Nat.add_comm c 1, Abq]
    cases hs : FR 1 (A.drop q) with
    | none => rfl
    | some r =>
     obtain ⟨h1, h2, h3⟩ := Rn _ _ _ hs
     have h4 := h3 (by omega)
     rw [List.length_drop] at h1 h2 h4
     simp only [Option.map_some, Option.bind_some]
     rw [ih _ (by omega) (by omega)]
     congr 1
     rw [List.drop_drop] at h2
     rw [h2, List.length_drop]
     congr 1; congr 1; omega
  unfold DP
  by_cases hp : p < A.length
  ·rw [if_pos hp, hit _ _ (by omega) (by omega), List.drop_eq_getElem_cons hp, Hz, Nat.add_zero]
   simp [List.getD_eq_getElem?_getD, hp]
  ·rw [if_neg hp, List.drop_of_length_le (by omega), IH]; rfl

def EZ (x : AY) : Bool :=
 if x.name = bs [] then (decide (0 ≤ x.var) && decide (x.var ≤ 9999)) && decide (x.arity = 0)
 else if x.var = 0 then
  if x.name = bs [45, 62] ∨ x.name = bs [42] then decide (x.arity = 2)
  else if x.name = bs [114, 101, 102] then decide (x.arity = 1)
  else EC x.name && (decide (0 ≤ x.arity) && decide (x.arity ≤ 2))
 else false
theorem MD {x : AY} (h : EZ x = true) : 0 ≤ x.arity ∧ x.arity ≤ 2 := by
 unfold EZ at h
 split at h
 ·simp only [Bool.and_eq_true, decide_eq_true_eq] at h; omega
 ·split at h
  ·split at h
   ·simp only [decide_eq_true_eq] at h; omega
   ·split at h
    ·simp only [decide_eq_true_eq] at h; omega
    ·simp only [Bool.and_eq_true, decide_eq_true_eq] at h; omega
  ·cases h
def arL (l : List AY) : List Nat := l.map fun x => x.arity.toNat
def Fg (l : List AY) : Bool := l.all EZ && decide (FR 1 (arL l) = some [])
def tyB (l : List AY) : Bool := decide ((l.length : Int) ≤ 200) && Fg l
end Go.Proofs.YtppjinmlfcokaaaGreat
set_option linter.unusedVariables false
namespace Go.Proofs.YtppjinmlfcokaaaGreat
open Go.RowKit Go.Proofs.YtppjinmlfcokaaaGreat.Av Go.Proofs.YtppjinmlfcokaaaGreat.Ml
open Go.Proofs.YtppjinmlfcokaaaGreat.Av.AVal (av)

def AO (k : Int) : Int :=
 if k = 1 ∨ k = 2 ∨ k = 3 ∨ k = 12 then 0
 else if k = 5 ∨ k = 14 ∨ k = 16 ∨ k = 17 then 1
 else if k = 6 ∨ k = 7 ∨ k = 8 ∨ k = 10 ∨ k = 11 ∨ k = 15 ∨ k = 18 ∨ k = 19 then 2
 else if k = 9 then 3
 else -1
def Ax (l : List Node) (kids : List Int) (d : Int) : Bool :=
 match kids with
 | k :: _ => decide (0 ≤ k) && decide (k < l.length) && decide ((l.getD k.toNat default).kind = d)
 | [] => false
def AE (nm : Node → Bool) (l : List Node) (n : Node) : Bool :=
 if n.pos < 0 ∨ (0 ≤ AO n.kind ∧ (n.kids.length : Int) ≠ AO n.kind) ∨ (n.kind ≠ 13 ∧ n.Ae ≠ []) ∨ (n.kind ≠ 1 ∧ n.kind ≠ 3 ∧ n.n ≠ 0) then false
 else if n.kind = 1 then (decide (0 ≤ n.n) && decide (n.n ≤ 4611686018427387903)) && decide (n.s = bs [])
 else if n.kind = 2 then true
 else if n.kind = 3 ∨ n.kind = 5 ∨ n.kind = 7 ∨ n.kind = 15 then nm n
 else if n.kind = 8 then nm n && Ax l n.kids 5
 else if n.kind = 10 then opsL.any fun x => decide (n.s = x)
 else if n.kind = 4 then FT n.s n.kids.length (Ay Node.kind l n.kids 11)
 else if n.kind = 6 ∨ n.kind = 9 ∨ n.kind = 11 ∨ n.kind = 12 ∨ n.kind = 14 ∨ n.kind = 16 ∨ n.kind = 17 ∨ n.kind = 18 ∨ n.kind = 19 then decide (n.s = bs [])
 else if n.kind = 13 then decide (n.s = bs []) && decide (1 ≤ (n.Ae.length : Int)) && decide ((n.kids.length : Int) = n.Ae.length + 1)
 else false
def BC (n : Node) : Bool := EC n.s && decide (n.n = 0)
def Aq (l : List Node) (i : Nat) : List Int := (l.getD i default).kids
def D6 (c : Con) (m : Int) : Bool :=
 Q9 c.name && (if c.has then tyB c.arg.items else decide (c.arg.items = [])) && c.arg.items.all fun x => !(decide (x.name = bs []) && decide (m ≤ x.var))
def FP (t : BF) : Bool :=
 EC t.name && (decide (0 ≤ t.params) && decide (t.params ≤ 2)) && (decide (1 ≤ (t.cons.length : Int)) && decide ((t.cons.length : Int) ≤ 8)) && t.cons.all fun c => D6 c t.params
def GX (nm : Node → Bool) (p : Program) : Bool :=
 (decide (1 ≤ (p.nodes.length : Int)) && decide ((p.nodes.length : Int) ≤ 600)) && decide ((p.types.length : Int) ≤ 8) && Fh (Aq p.nodes) p.nodes.length && p.nodes.all (AE nm p.nodes) && p.types.all FP
def Bv (p : Program) : Bool := GX BC p && p.nodes.all fun n => n.Ae.all fun q => Et q.nodes
theorem Eg {l : List Node} (hx : Ac.bulk l ≤ 4294967296) {n : Node} (hn : n ∈ l) : n.kids.length ≤ 4294967296 ∧ n.s.size ≤ 4294967296 ∧ Ac.bulk n.Ae ≤ 4294967296 ∧ n.Ae.length ≤ 4294967296 := by
 have h1 := Au hn
 have h2 : Ac.bulk n = Ac.bulk n.kind + Ac.bulk n.pos + Ac.bulk n.n + Ac.bulk n.s + Ac.bulk n.kids + Ac.bulk n.Ae + 1 := rfl
 have h3 := Ai n.kids
 have h4 : Ac.bulk n.s = n.s.size + 1 := rfl
 have h5 := Ai n.Ae
 omega
end Go.Proofs.YtppjinmlfcokaaaGreat
set_option linter.unusedVariables false
namespace Go.Proofs.YtppjinmlfcokaaaGreat
open Go.RowKit Go.Proofs.YtppjinmlfcokaaaGreat.Av Go.Proofs.YtppjinmlfcokaaaGreat.Ml
open Go.Proofs.YtppjinmlfcokaaaGreat.Av.AVal (av)

inductive Tr where
 | mk (n : Node) (ks : List Tr)
theorem Tr.ind {P : Tr → Prop} (h : ∀ n ks, (∀ k ∈ ks, P k) → P (.mk n ks)) : ∀ t, P t
 | .mk n ks => h n ks fun k hk => Tr.ind h k
termination_by t => SizeOf.sizeOf t
decreasing_by
 have := List.sizeOf_lt_of_mem hk
 simp only [Tr.mk.sizeOf_spec]
 omega

mutual
def exA : Tr → AV
 | .mk n ks => .obj [.int .i64 n.kind, .int .i64 n.pos, .int .i64 n.n, .str n.s, .sl (AdH ks), .sl (n.Ae.map av)]
def AdH : List Tr → List AV
 | [] => []
 | t :: ts => exA t :: AdH ts
end
mutual
def XJ : Tr → AV
 | .mk n ks => .agg [.int .i64 n.kind, .int .i64 n.pos, .int .i64 n.n, .str n.s, .sl (n.kids.map av), .sl (n.Ae.map av), .sl (Uo ks)]
def Uo : List Tr → List AV
 | [] => []
 | t :: ts => XJ t :: Uo ts
end
theorem Ws : ∀ ks, AdH ks = ks.map exA
 | [] => by rw [AdH]; rfl
 | t :: ts => by rw [AdH, Ws ts]; rfl
theorem Rk : ∀ ks, Uo ks = ks.map XJ
 | [] => by rw [Uo]; rfl
 | t :: ts => by rw [Uo, Rk ts]; rfl
theorem KN (n : Node) (ks : List Tr) : exA (.mk n ks) = .obj [.int .i64 n.kind, .int .i64 n.pos, .int .i64 n.n, .str n.s, .sl (ks.map exA), .sl (n.Ae.map av)] := by rw [exA, Ws]
theorem KV (n : Node) (ks : List Tr) : XJ (.mk n ks) = .agg [.int .i64 n.kind, .int .i64 n.pos, .int .i64 n.n, .str n.s, .sl (n.kids.map av), .sl (n.Ae.map av), .sl (ks.map XJ)] := by rw [XJ, Rk]
theorem AbU : ∀ t, Ad (exA t) := Tr.ind fun n ks ih => by
 rw [KN]
 refine Ad.obj ?_
 simp only [List.mem_cons, List.not_mem_nil, or_false]
 rintro x (rfl | rfl | rfl | rfl | rfl | rfl)
 ·exact BB _
 ·exact BB _
 ·exact BB _
 ·exact Ad.str _
 ·refine Ad.sl fun e he y hy => ?_
  obtain ⟨k, hk, rfl⟩ := List.mem_map.1 he
  have h := ih k hk
  cases k with | mk m js =>
  rw [KN] at hy h
  simp only [AV.cells, List.mem_cons, List.not_mem_nil, or_false] at hy
  subst hy
  exact h
 ·exact Ak n.Ae
theorem XI : ∀ t, ∀ y ∈ (XJ t).cells, Ad y := Tr.ind fun n ks ih => by
 rw [KV]
 simp only [AV.cells, List.mem_cons, List.not_mem_nil, or_false]
 rintro x (rfl | rfl | rfl | rfl | rfl | rfl | rfl)
 ·exact BB _
 ·exact BB _
 ·exact BB _
 ·exact Ad.str _
 ·exact Ak n.kids
 ·exact Ak n.Ae
 ·refine Ad.sl fun e he y hy => ?_
  obtain ⟨k, hk, rfl⟩ := List.mem_map.1 he
  exact ih k hk y hy
instance : AVal Tr := ⟨exA, 1, fun x => (by cases x; rw [KN]; rfl), fun x => (by cases x; rw [KN]; rfl), fun x y hy => (by
 have h := AbU x
 cases x with | mk n ks =>
 rw [KN] at hy h
 simp only [AV.cells, List.mem_cons, List.not_mem_nil, or_false] at hy
 subst hy
 exact h), fun x hp => (by cases x; rw [KN]; rfl), fun x y hy => (by
 cases x with | mk n ks =>
 rw [KN] at hy
 simp only [AV.cells, List.mem_cons, List.not_mem_nil, or_false] at hy
 subst hy
 rfl)⟩
structure Sub where
 t : Tr
instance : AVal Sub := ⟨fun x => XJ x.t, 7, fun x => (by obtain ⟨⟨n, ks⟩⟩ := x; simp only [KV]; rfl), fun x => (by obtain ⟨⟨n, ks⟩⟩ := x; simp only [KV]; rfl), fun x y hy => XI x.t y hy, fun x hp => (by obtain ⟨⟨n, ks⟩⟩ := x; simp only [KV]; rfl), fun x y hy => (by
 obtain ⟨⟨n, ks⟩⟩ := x
 simp only [KV, AV.cells, List.mem_cons, List.not_mem_nil, or_false] at hy
 rcases hy with rfl | rfl | rfl | rfl | rfl | rfl | rfl <;> rfl)⟩
theorem FL (n : Node) (ks : List Tr) : av (Tr.mk n ks) = .obj [.int .i64 n.kind, .int .i64 n.pos, .int .i64 n.n, .str n.s, .sl (ks.map av), .sl (n.Ae.map av)] := KN n ks
theorem Bb (n : Node) (ks : List Tr) : av (Sub.mk (Tr.mk n ks)) = .agg [.int .i64 n.kind, .int .i64 n.pos, .int .i64 n.n, .str n.s, .sl (n.kids.map av), .sl (n.Ae.map av), .sl ((ks.map Sub.mk).map av)] := by
 rw [List.map_map]; exact KV n ks

mutual
def Tr.size : Tr → Nat
 | .mk _ ks => Tr.AJ ks + 1
def Tr.AJ : List Tr → Nat
 | [] => 0
 | t :: ts => t.size + Tr.AJ ts
end
def PN (n : Node) (m : Nat) : Prop := (n.kind = 3 → m = 0) ∧ (n.kind = 13 → m = n.Ae.length + 1) ∧ Ac.bulk n ≤ 4294967296
mutual
def Tr.ok : Tr → Prop
 | .mk n ks => PN n ks.length ∧ Tr.oks ks
def Tr.oks : List Tr → Prop
 | [] => True
 | t :: ts => t.ok ∧ Tr.oks ts
end
theorem TB : ∀ {ks : List Tr} {k : Tr}, Tr.oks ks → k ∈ ks → k.ok
 | [], k, _, hk => by cases hk
 | t :: ts, k, h, hk => by
  rw [Tr.oks] at h
  rcases List.mem_cons.1 hk with rfl | hk
  ·exact h.1
  ·exact TB h.2 hk
theorem X4 : ∀ {ks : List Tr}, (∀ k ∈ ks, k.ok) → Tr.oks ks
 | [], _ => by rw [Tr.oks]; trivial
 | t :: ts, h => by rw [Tr.oks]; exact ⟨h t (by simp), X4 fun k hk => h k (by simp [hk])⟩
theorem Cq : ∀ {ks : List Tr} {k : Tr}, k ∈ ks → k.size ≤ Tr.AJ ks
 | [], k, hk => by cases hk
 | t :: ts, k, hk => by
  rw [Tr.AJ]
  rcases List.mem_cons.1 hk with rfl | hk
  ·omega
  ·have := Cq hk; omega
theorem size_pos (t : Tr) : 1 ≤ t.size := by cases t; rw [Tr.size]; omega
theorem Cy : ∀ ks : List Tr, ks.length ≤ Tr.AJ ks
 | [] => by rw [Tr.AJ]; exact Nat.zero_le _
 | t :: ts => by rw [Tr.AJ]; have := Cy ts; have := size_pos t; simp; omega

def Bw (l : List Node) : Nat → Nat → Tr
 | 0, _ => .mk default []
 | f + 1, i => .mk (l.getD i default) ((Aq l i).map fun k => Bw l f k.toNat)
theorem VY {K : Nat → List Int} {n : Nat} {e : Nat → Option Nat} (hle : ∀ a m, e a = some m → a < m ∧ m ≤ n) (he : ∀ a m, e a = some m → ∀ i, a ≤ i → i < m → ∃ f' m', B9 K n f' i = some m') :
  ∀ {ks : List Int} {a m : Nat}, a ≤ n → BR e ks a = some m → ∀ i, a ≤ i → i < m → ∃ f' m', B9 K n f' i = some m'
 | [], a, m, _, h => by cases h; intro i h1 h2; omega
 | k :: ks, a, m, ha, h => by
  unfold BR at h
  split at h
  ·split at h
   ·rename_i m' hm'
    intro i h4 h5
    rcases Nat.lt_or_ge i m' with h6 | h6
    ·exact he _ _ hm' i h4 h6
    ·exact VY hle he (hle _ _ hm').2 h i h6 h5
   ·cases h
  ·cases h
theorem Aax (K : Nat → List Int) (n : Nat) : ∀ (f a m : Nat), B9 K n f a = some m → ∀ i, a ≤ i → i < m → ∃ f' m', B9 K n f' i = some m'
 | 0, a, m, h => by cases h
 | f + 1, a, m, h => by
  intro i hi him
  rcases Nat.lt_or_ge a i with h2 | h2
  ·unfold B9 at h
   split at h
   ·exact VY (HS K n f) (Aax K n f) (by omega) h i (by omega) him
   ·cases h
  ·obtain rfl : i = a := by omega
   exact ⟨_, _, h⟩
theorem MW (l : List Node) (hk : ∀ i, i < l.length → ∀ k ∈ Aq l i, (i : Int) < k ∧ k < l.length) : ∀ (f g i : Nat), i < l.length → l.length - i ≤ f → l.length - i ≤ g → Bw l f i = Bw l g i
 | 0, g, i, hi, hf, _ => by omega
 | f + 1, 0, i, hi, _, hg => by omega
 | f + 1, g + 1, i, hi, hf, hg => by
  rw [Bw, Bw]
  congr 1
  refine List.map_congr_left fun k hk' => ?_
  have := hk i hi k hk'
  exact MW l hk f g k.toNat (by omega) (by omega) (by omega)
theorem Qh {l : List Node} {f g : Nat} (ih : ∀ a m, B9 (Aq l) l.length f a = some m → (Bw l g a).size + a = m) : ∀ {ks : List Int} {a m : Nat}, BR (B9 (Aq l) l.length f) ks a = some m → Tr.AJ (ks.map fun k => Bw l g k.toNat) + a = m
 | [], a, m, h => by cases h; rw [List.map_nil, Tr.AJ]; omega
 | k :: ks, a, m, h => by
  unfold BR at h
  split at h
  ·rename_i hk
   split at h
   ·rename_i m' hm'
    have h1 := ih _ _ hm'
    have h2 := Qh ih h
    rw [List.map_cons, Tr.AJ, hk, Int.toNat_natCast]
    omega
   ·cases h
  ·cases h
theorem Nx (l : List Node) : ∀ (f a m : Nat), B9 (Aq l) l.length f a = some m → (Bw l f a).size + a = m
 | 0, a, m, h => by cases h
 | f + 1, a, m, h => by
  unfold B9 at h
  split at h
  ·rw [Bw, Tr.size]
   have := Qh (Nx l f) h
   omega
  ·cases h
def Al (l : List Node) (i : Nat) : Tr := Bw l l.length i
theorem BP {l : List Node} (hk : ∀ i, i < l.length → ∀ k ∈ Aq l i, (i : Int) < k ∧ k < l.length) {i : Nat} (hi : i < l.length) : Al l i = .mk (l.getD i default) ((Aq l i).map fun k => Al l k.toNat) := by
 unfold Al
 obtain ⟨m, hm⟩ : ∃ m, l.length = m + 1 := ⟨l.length - 1, by omega⟩
 rw [hm, Bw]
 congr 1
 refine List.map_congr_left fun k hk' => ?_
 have := hk i hi k hk'
 rw [MW l hk m (m + 1) k.toNat (by omega) (by omega) (by omega)]
theorem Ui {l : List Node} (h : Fh (Aq l) l.length = true) {i : Nat} (hi : i < l.length) : (Al l i).size ≤ l.length := by
 have hk : ∀ i, i < l.length → ∀ k ∈ Aq l i, (i : Int) < k ∧ k < l.length := fun i hi k hk => Ef h hi hk
 obtain ⟨f, m, h1⟩ := Aax _ _ _ _ _ (of_decide_eq_true h) i (Nat.zero_le _) hi
 have h2 := AdL _ _ h1 (f + l.length) (by omega)
 have h3 := Nx l _ _ _ h2
 have h4 := HS _ _ _ _ _ h2
 rw [Al, MW l hk l.length (f + l.length) i hi (by omega) (by omega)]
 omega
theorem Rg {l : List Node} (hk : ∀ i, i < l.length → ∀ k ∈ Aq l i, (i : Int) < k ∧ k < l.length) (hn : ∀ n ∈ l, PN n n.kids.length) : ∀ (f i : Nat), i < l.length → l.length - i ≤ f → (Bw l f i).ok
 | 0, i, hi, hf => by omega
 | f + 1, i, hi, hf => by
  rw [Bw, Tr.ok]
  have e : l.getD i default = l[i] := by simp [List.getD_eq_getElem?_getD, hi]
  refine ⟨?_, X4 fun t ht => ?_⟩
  ·rw [List.length_map, Aq, e]; exact hn _ (List.getElem_mem hi)
  ·obtain ⟨k, hk', rfl⟩ := List.mem_map.1 ht
   have := hk i hi k hk'
   exact Rg hk hn f k.toNat (by omega) (by omega)
end Go.Proofs.YtppjinmlfcokaaaGreat

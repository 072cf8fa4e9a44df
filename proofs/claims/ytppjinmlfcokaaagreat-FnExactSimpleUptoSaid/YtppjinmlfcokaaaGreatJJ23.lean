/-
 PatOk OF THE REFERENCE, by its abstract text. Conditions: none.
-/
import Derived.Test.YtppjinmlfcokaaaGreatJJ22
import Derived.Test.YtppjinmlfcokaaaGreatJWords
import Derived.Test.YtppjinmlfcokaaaGreatJJ09
import Derived.Test.YtppjinmlfcokaaaGreatJGProg
import Derived.Test.YtppjinmlfcokaaaGreatJJ20
import Derived.Test.YtppjinmlfcokaaaGreatProg
import Derived.Test.YtppjinmlfcokaaaGreatJAvDraw
set_option linter.unusedVariables false
set_option linter.unusedSimpArgs false
set_option maxRecDepth 100000
namespace Go.Proofs.YtppjinmlfcokaaaGreat
open Go.RowKit Go.Proofs.YtppjinmlfcokaaaGreat.Av Go.Proofs.YtppjinmlfcokaaaGreat.Ml
open Go.Proofs.YtppjinmlfcokaaaGreat.Av.AVal (av)

theorem Xt {l : List Bu} {i : Nat} (hi : i ≤ l.length) (s : ByteArray) : ((varsOf (l.take i)).any fun x => decide (s = x)) = true ↔ ∃ j, ∃ h : j < l.length, j < i ∧ l[j].kind = 2 ∧ l[j].s = s := by
 rw [List.any_eq_true]
 simp only [varsOf, List.mem_filterMap, decide_eq_true_eq]
 constructor
 ·rintro ⟨x, ⟨n, hn, hx⟩, rfl⟩
  obtain ⟨j, hj, rfl⟩ := List.mem_take_iff_getElem.1 hn
  split at hx
  ·rename_i hk
   exact ⟨j, by omega, by omega, hk, by simpa using hx⟩
  ·cases hx
 ·rintro ⟨j, hj, hji, hk, rfl⟩
  exact ⟨_, ⟨l[j], List.mem_take_iff_getElem.2 ⟨j, by omega, rfl⟩, by simp [hk]⟩, rfl⟩

def AeI (l : List Bu) (a : Bu) (j : Nat) : Prop := ∀ i, ∀ h : i < l.length, i < j → ¬ (a.kind = 2 ∧ l[i].kind = 2 ∧ l[i].s = a.s)
theorem Tk (l : List Bu) (hx : Ac.bulk l ≤ 4294967296) : Ak Tryz.prog 131 [.agg [.sl (l.map av)]] (.bool (Gk l)) := by
 have hl := Ag l
 refine LD.F rfl (by simp; exact Ae.agg (by simp; exact Ao l)) (Ae.bool _) ?_
 simp +contextual -dsimp only [↓SD, SU, simprocAttr, LD, Aa]
 refine ⟨fun h1 => ⟨fun h2 => by rw [LZ (by omega)], fun h2 => ?_⟩, fun h1 => by rw [LZ (by omega)]⟩
 refine Am (X := Nat) (fun k => ⟨[(1, .obj [.sl (l.map av)]), (17, .sl (l.map av)), (18, .int .i64 l.length), (19, .int .i64 k)], []⟩) (fun k => k ≤ l.length ∧ ∀ i, i < k → IV l i = true) (fun k => l.length - k) 0 ⟨Nat.zero_le _, fun i h => by omega⟩ (by simp +contextual -dsimp only [↓SD, SU, simprocAttr]) trivial ?_
 intro k ⟨hk, hp⟩
 by_cases hlt : k < l.length
 ·have e := getD_map av l k .top hlt
  obtain ⟨s1, s2⟩ := HY hx k hlt
  have C3 := VV l l[k] (by omega) (by omega) (by omega)
  have hI : IV l k = (FR l l[k] && !(decide (l[k].kind = 2) && (varsOf (l.take k)).any fun x => decide (l[k].s = x))) := by simp only [IV, ES hlt]
  have hany := Xt (l := l) (i := k) (by omega) l[k].s
  generalize l[k] = a at *
  rw [A3] at C3
  simp +contextual -dsimp only [↓SD, SU, simprocAttr, Aa, hlt, e, A3]
  intro w
  cases hb : FR l a with
  | false =>
   rw [hb] at C3
   refine Ab _ C3 ?_
   simp +contextual -dsimp only [↓SD, SU, simprocAttr]
   rw [O2 hlt (by rw [hI, hb]; rfl)]
  | true =>
   rw [hb] at C3
   refine Ab _ C3 ?_
   simp +contextual -dsimp only [↓SD, SU, simprocAttr]
   refine Am (X := Nat) (fun j => ⟨[(1, .obj [.sl (l.map av)]), (3, .int .i64 k), (4, .ptr 4 w 0 0), (5, .int .i64 j), (17, .sl (l.map av)), (18, .int .i64 l.length), (19, .int .i64 k)], [(4, ⟨w, false, 96, 4, [av a]⟩)]⟩) (fun j => j ≤ k ∧ AeI l a j) (fun j => k - j) 0 ⟨Nat.zero_le _, fun i _ h => by omega⟩ (by simp +contextual -dsimp only [↓SD, SU, simprocAttr]) (by simp +contextual -dsimp only [↓SD, SU, simprocAttr, A3]) ?_
   intro j ⟨hj, hq⟩
   by_cases hjk : j < k
   ·have hjl : j < l.length := by omega
    have e2 := getD_map av l j .top hjl
    simp +contextual -dsimp only [↓SD, SU, simprocAttr, Aa, hjk, hjl, e2, A3]
    have hq2 : ¬ (a.kind = 2 ∧ l[j].kind = 2 ∧ l[j].s = a.s) → AeI l a (j + 1) := fun h0 i hi hij => by
     rcases Nat.lt_succ_iff_lt_or_eq.1 hij with h1 | rfl
     ·exact hq i hi h1
     ·exact h0
    (repeat' (first | intro _ | refine And.intro ?_ ?_))
    all_goals first | omega | skip
    ·rename_i g1 g2 g3
     have : ((varsOf (l.take k)).any fun x => decide (a.s = x)) = true := hany.2 ⟨j, hjl, hjk, g2, g3⟩
     rw [O2 hlt (by rw [hI, hb, g1, this]; rfl)]
    ·rename_i g1 g2 g3
     exact Af.le ⟨j + 1, ⟨⟨hjk, hq2 (fun h => g3 h.2.2)⟩, (by first | omega | (simp only; omega))⟩, rfl⟩ (by simp +contextual -dsimp only [↓SD, SU, simprocAttr, Int.natCast_add]) (by simp +contextual -dsimp only [↓SD, SU, simprocAttr, A3, g1])
    ·rename_i g1 g2
     exact Af.le ⟨j + 1, ⟨⟨hjk, hq2 (fun h => g2 h.2.1)⟩, (by first | omega | (simp only; omega))⟩, rfl⟩ (by simp +contextual -dsimp only [↓SD, SU, simprocAttr, Int.natCast_add]) (by simp +contextual -dsimp only [↓SD, SU, simprocAttr, A3, g1])
    ·rename_i g1
     exact Af.le ⟨j + 1, ⟨⟨hjk, hq2 (fun h => g1 h.1)⟩, (by first | omega | (simp only; omega))⟩, rfl⟩ (by simp +contextual -dsimp only [↓SD, SU, simprocAttr, Int.natCast_add]) (by simp +contextual -dsimp only [↓SD, SU, simprocAttr, A3])
   ·obtain rfl : j = k := by omega
    have hIk : IV l j = true := by
     rw [hI, hb, Bool.true_and, Bool.not_eq_true', Bool.and_eq_false_iff]
     by_cases g : a.kind = 2
     ·right
      rw [← Bool.not_eq_true, hany]
      rintro ⟨i, h, hi, g2, g3⟩
      exact hq i h hi ⟨g, g2, g3⟩
     ·left; exact decide_eq_false g
    simp +contextual -dsimp only [↓SD, SU, simprocAttr, Nat.lt_irrefl]
    refine ⟨by omega, Af.le ⟨j + 1, ⟨⟨hlt, fun i hi => (Nat.lt_succ_iff_lt_or_eq.1 hi).elim (hp i) (fun e => e ▸ hIk)⟩, (by first | omega | (simp only; omega))⟩, rfl⟩ (by simp +contextual -dsimp only [↓SD, SU, simprocAttr, Int.natCast_add]) trivial⟩
 ·obtain rfl : k = l.length := by omega
  have C := X8 l hx (l.length + 1) 0 (by omega) (by omega)
  simp +contextual -dsimp only [↓SD, SU, simprocAttr, Aa, Nat.lt_irrefl]
  refine Ab _ C ?_
  simp +contextual -dsimp only [↓SD, SU, simprocAttr, Aa]
  congr 1
  cases ht : Fc (Fg l) l.length with
  | true =>
   rw [Zk (by omega) (by omega) ht hp]
   unfold Fc at ht
   rw [of_decide_eq_true ht]; simp [IH]
  | false =>
   rw [R2 ht]
   unfold Fc at ht
   cases ho : Cv (Fg l) l.length (l.length + 1) 0 with
   | none => simp [IH]
   | some m =>
    rw [ho] at ht
    have hne : m ≠ l.length := fun e => by simp [e] at ht
    exact decide_eq_false (by simp only [IH]; omega)

end Go.Proofs.YtppjinmlfcokaaaGreat
set_option linter.unusedVariables false
namespace Go.Proofs.YtppjinmlfcokaaaGreat
open Go.RowKit Go.Proofs.YtppjinmlfcokaaaGreat.Av Go.Proofs.YtppjinmlfcokaaaGreat.Ml
open Go.Proofs.YtppjinmlfcokaaaGreat.Av.AVal (av)

def FO : Nat → List Nat → Option (List Nat)
 | 0, l => some l
 | _ + 1, [] => none
 | c + 1, a :: l => FO (a + c) l
termination_by _ l => l.length
theorem Fw (l : List Nat) : FO 0 l = some l := by rw [FO]
theorem IM (c : Nat) : FO (c + 1) [] = none := by rw [FO]
theorem Hs (c a : Nat) (l : List Nat) : FO (c + 1) (a :: l) = FO (a + c) l := by rw [FO]
theorem Aa3 : ∀ (l : List Nat) (a c : Nat), FO (a + c) l = (FO a l).bind (FO c) := by
 intro l
 induction l with
 | nil =>
  intro a c
  cases a with
  | zero => rw [Nat.zero_add, Fw]; rfl
  | succ a => rw [show a + 1 + c = (a + c) + 1 by omega, IM, IM]; rfl
 | cons x l ih =>
  intro a c
  cases a with
  | zero => rw [Nat.zero_add, Fw]; rfl
  | succ a => rw [show a + 1 + c = (a + c) + 1 by omega, Hs, Hs, ← Nat.add_assoc, ih]
theorem Rs : ∀ (l : List Nat) (c : Nat) (r : List Nat), FO c l = some r → r.length ≤ l.length ∧ r = l.drop (l.length - r.length) ∧ (0 < c → r.length < l.length) := by
 intro l
 induction l with
 | nil =>
  intro c r h
  cases c with
  | zero => rw [Fw] at h; cases h; simp
  | succ c => rw [IM] at h; cases h
 | cons x l ih =>
  intro c r h
  cases c with
  | zero => rw [Fw] at h; cases h; simp
  | succ c =>
   rw [Hs] at h
   obtain ⟨h1, h2, h3⟩ := ih _ _ h
   refine ⟨by simp; omega, ?_, fun _ => by simp; omega⟩
   rw [List.length_cons, show l.length + 1 - r.length = (l.length - r.length) + 1 by omega, List.drop_succ_cons]
   exact h2
def I2 (e : Nat → Option Nat) : Nat → Nat → Option Nat
 | 0, p => some p
 | c + 1, p => (e p).bind (I2 e c)
def IG (A : List Nat) : Nat → Nat → Option Nat
 | 0, _ => none
 | f + 1, p => if p < A.length then I2 (IG A f) (A.getD p 0) (p + 1) else none
theorem Ss (A : List Nat) : ∀ (f p : Nat), A.length - p < f → IG A f p = (FO 1 (A.drop p)).map (fun r => A.length - r.length)
 | 0, p, h => by omega
 | f + 1, p, h => by
  -- c types behind p
  have hit : ∀ c q, p < q → q ≤ A.length → I2 (IG A f) c q = (FO c (A.drop q)).map (fun r => A.length - r.length) := by
   intro c
   induction c with
   | zero => intro q _ hq; rw [Fw]; simp [I2]; omega
   | succ c ih =>
    intro q hpq hq
    rw [I2, Ss A f q (by omega), Nat.add_comm c 1, Aa3]
    cases hs : FO 1 (A.drop q) with
    | none => rfl
    | some r =>
     obtain ⟨h1, h2, h3⟩ := Rs _ _ _ hs
     have h4 := h3 (by omega)
     rw [List.length_drop] at h1 h2 h4
     simp only [Option.map_some, Option.bind_some]
     rw [ih _ (by omega) (by omega)]
     congr 1
     rw [List.drop_drop] at h2
     rw [h2, List.length_drop]
     congr 1; congr 1; omega
  unfold IG
  by_cases hp : p < A.length
  ·rw [if_pos hp, hit _ _ (by omega) (by omega), List.drop_eq_getElem_cons hp, Hs, Nat.add_zero]
   simp [List.getD_eq_getElem?_getD, hp]
  ·rw [if_neg hp, List.drop_of_length_le (by omega), IM]; rfl

def Gf (x : Bb) : Bool :=
 if x.name = bs [] then (decide (0 ≤ x.var) && decide (x.var ≤ 9999)) && decide (x.arity = 0)
 else if x.var = 0 then
  if x.name = bs [45, 62] ∨ x.name = bs [42] then decide (x.arity = 2)
  else if x.name = bs [114, 101, 102] then decide (x.arity = 1)
  else FV x.name && (decide (0 ≤ x.arity) && decide (x.arity ≤ 2))
 else false
theorem VZ {x : Bb} (h : Gf x = true) : 0 ≤ x.arity ∧ x.arity ≤ 2 := by
 unfold Gf at h
 split at h
 ·simp only [Bool.and_eq_true, decide_eq_true_eq] at h; omega
 ·split at h
  ·split at h
   ·simp only [decide_eq_true_eq] at h; omega
   ·split at h
    ·simp only [decide_eq_true_eq] at h; omega
    ·simp only [Bool.and_eq_true, decide_eq_true_eq] at h; omega
  ·cases h
def arL (l : List Bb) : List Nat := l.map fun x => x.arity.toNat
def FN (l : List Bb) : Bool := l.all Gf && decide (FO 1 (arL l) = some [])
def tyB (l : List Bb) : Bool := decide ((l.length : Int) ≤ 200) && FN l
end Go.Proofs.YtppjinmlfcokaaaGreat
set_option linter.unusedVariables false
namespace Go.Proofs.YtppjinmlfcokaaaGreat
open Go.RowKit Go.Proofs.YtppjinmlfcokaaaGreat.Av Go.Proofs.YtppjinmlfcokaaaGreat.Ml
open Go.Proofs.YtppjinmlfcokaaaGreat.Av.AVal (av)

def AX (k : Int) : Int :=
 if k = 1 ∨ k = 2 ∨ k = 3 ∨ k = 12 then 0
 else if k = 5 ∨ k = 14 ∨ k = 16 ∨ k = 17 then 1
 else if k = 6 ∨ k = 7 ∨ k = 8 ∨ k = 10 ∨ k = 11 ∨ k = 15 ∨ k = 18 ∨ k = 19 then 2
 else if k = 9 then 3
 else -1
def AF (l : List Node) (kids : List Int) (d : Int) : Bool :=
 match kids with
 | k :: _ => decide (0 ≤ k) && decide (k < l.length) && decide ((l.getD k.toNat default).kind = d)
 | [] => false
def A1 (nm : Node → Bool) (l : List Node) (n : Node) : Bool :=
 if n.pos < 0 ∨ (0 ≤ AX n.kind ∧ (n.kids.length : Int) ≠ AX n.kind) ∨ (n.kind ≠ 13 ∧ n.Ai ≠ []) ∨ (n.kind ≠ 1 ∧ n.kind ≠ 3 ∧ n.n ≠ 0) then false
 else if n.kind = 1 then (decide (0 ≤ n.n) && decide (n.n ≤ 4611686018427387903)) && decide (n.s = bs [])
 else if n.kind = 2 then true
 else if n.kind = 3 ∨ n.kind = 5 ∨ n.kind = 7 ∨ n.kind = 15 then nm n
 else if n.kind = 8 then nm n && AF l n.kids 5
 else if n.kind = 10 then opsL.any fun x => decide (n.s = x)
 else if n.kind = 4 then Kw n.s n.kids.length (AH Node.kind l n.kids 11)
 else if n.kind = 6 ∨ n.kind = 9 ∨ n.kind = 11 ∨ n.kind = 12 ∨ n.kind = 14 ∨ n.kind = 16 ∨ n.kind = 17 ∨ n.kind = 18 ∨ n.kind = 19 then decide (n.s = bs [])
 else if n.kind = 13 then decide (n.s = bs []) && decide (1 ≤ (n.Ai.length : Int)) && decide ((n.kids.length : Int) = n.Ai.length + 1)
 else false
def BM (n : Node) : Bool := FV n.s && decide (n.n = 0)
def Bp (l : List Node) (i : Nat) : List Int := (l.getD i default).kids
def Fa (c : Con) (m : Int) : Bool :=
 TZ c.name && (if c.has then tyB c.arg.items else decide (c.arg.items = [])) && c.arg.items.all fun x => !(decide (x.name = bs []) && decide (m ≤ x.var))
def HX (t : BK) : Bool :=
 FV t.name && (decide (0 ≤ t.params) && decide (t.params ≤ 2)) && (decide (1 ≤ (t.cons.length : Int)) && decide ((t.cons.length : Int) ≤ 8)) && t.cons.all fun c => Fa c t.params
def JD (nm : Node → Bool) (p : Program) : Bool :=
 (decide (1 ≤ (p.nodes.length : Int)) && decide ((p.nodes.length : Int) ≤ 600)) && decide ((p.types.length : Int) ≤ 8) && Fc (Bp p.nodes) p.nodes.length && p.nodes.all (A1 nm p.nodes) && p.types.all HX
def Db (p : Program) : Bool := JD BM p && p.nodes.all fun n => n.Ai.all fun q => Gk q.nodes
theorem D7 {l : List Node} (hx : Ac.bulk l ≤ 4294967296) {n : Node} (hn : n ∈ l) : n.kids.length ≤ 4294967296 ∧ n.s.size ≤ 4294967296 ∧ Ac.bulk n.Ai ≤ 4294967296 ∧ n.Ai.length ≤ 4294967296 := by
 have h1 := AG hn
 have h2 : Ac.bulk n = Ac.bulk n.kind + Ac.bulk n.pos + Ac.bulk n.n + Ac.bulk n.s + Ac.bulk n.kids + Ac.bulk n.Ai + 1 := rfl
 have h3 := Ag n.kids
 have h4 : Ac.bulk n.s = n.s.size + 1 := rfl
 have h5 := Ag n.Ai
 omega
end Go.Proofs.YtppjinmlfcokaaaGreat
set_option linter.unusedVariables false
set_option maxRecDepth 100000
namespace Go.Proofs.YtppjinmlfcokaaaGreat
open Go.Proofs.YtppjinmlfcokaaaGreat.Av

theorem Gv : Tryz.prog.follows .mixedOrders = true := by kernel_rfl

def M6 : Ir Tryz.prog 189 [] [] 1 := ⟨_, _, Tryz.func189, Gv, by kernel_rfl, Ah [] Tryz.progTables (by conv => lhs; cbv) (by kernel_rfl)⟩
def KW : Ir Tryz.prog 204 [] [] 1 := ⟨_, _, Tryz.func204, Gv, by kernel_rfl, Ah [] Tryz.progTables (by conv => lhs; cbv) (by kernel_rfl)⟩
def JJ : Ir Tryz.prog 158 [] [] 1 := ⟨_, _, Tryz.func158, Gv, by kernel_rfl, Ah [] Tryz.progTables (by conv => lhs; cbv) (by kernel_rfl)⟩
def Fq : Ir Tryz.prog 169 [] [] 1 := ⟨_, _, Tryz.func169, Gv, by kernel_rfl, Ah [] Tryz.progTables (by conv => lhs; cbv) (by kernel_rfl)⟩
def HG : Ir Tryz.prog 143 [] [] 2 := ⟨_, _, Tryz.func143, Gv, by kernel_rfl, Ah [] Tryz.progTables (by conv => lhs; cbv) (by kernel_rfl)⟩
def MW : Ir Tryz.prog 128 [] [] 1 := ⟨_, _, Tryz.func128, Gv, by kernel_rfl, Ah [] Tryz.progTables (by conv => lhs; cbv) (by kernel_rfl)⟩
end Go.Proofs.YtppjinmlfcokaaaGreat

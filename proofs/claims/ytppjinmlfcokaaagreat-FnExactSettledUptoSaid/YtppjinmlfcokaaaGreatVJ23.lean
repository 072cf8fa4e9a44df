/-
  THE ABSTRACT TEXTS OF FUNCTIONS (Num), printed by irgen.py, and that they are the functions' own. Conditions: none.
-/
import Derived.Test.YtppjinmlfcokaaaGreatProg
import Derived.Test.YtppjinmlfcokaaaGreatVAvDraw
import Derived.Test.YtppjinmlfcokaaaGreatVJ07
import Derived.Test.YtppjinmlfcokaaaGreatVJ10
import Derived.Test.YtppjinmlfcokaaaGreatVJ15
import Derived.Test.YtppjinmlfcokaaaGreatVJ13
import Derived.Test.YtppjinmlfcokaaaGreatVIrPrt
set_option linter.unusedVariables false
set_option maxRecDepth 100000
namespace Go.Proofs.YtppjinmlfcokaaaGreat
open Go.Proofs.YtppjinmlfcokaaaGreat.Av

theorem Of : Tryz.prog.follows .mixedOrders = true := by kernel_rfl

def FY : Ir Tryz.prog 177 [] [] 1 := ⟨_, _, Tryz.func177, Of, by kernel_rfl, Aj [] Tryz.progTables (by conv => lhs; cbv) (by kernel_rfl)⟩
def JK : Ir Tryz.prog 144 [] [] 1 := ⟨_, _, Tryz.func144, Of, by kernel_rfl, Aj [] Tryz.progTables (by conv => lhs; cbv) (by kernel_rfl)⟩
end Go.Proofs.YtppjinmlfcokaaaGreat
set_option linter.unusedVariables false
set_option linter.unusedSimpArgs false
namespace Go.Proofs.YtppjinmlfcokaaaGreat
open Go.RowKit Go.Proofs.YtppjinmlfcokaaaGreat.Av Go.Proofs.YtppjinmlfcokaaaGreat.Ml
open Go.Proofs.YtppjinmlfcokaaaGreat.Av.AVal (av)

def dig (k : Nat) : List UInt8 := if h : k < 10 then [UInt8.ofNat (48 + k)] else dig (k / 10) ++ [UInt8.ofNat (48 + k % 10)]
termination_by k
decreasing_by exact Nat.div_lt_self (by omega) (by decide)
def M3 (k : Nat) : ByteArray := ⟨(dig k).toArray⟩
theorem NG {k : Nat} (h : k < 10) : dig k = [UInt8.ofNat (48 + k)] := by rw [dig, dif_pos h]
theorem NH {k : Nat} (h : ¬ k < 10) : dig k = dig (k / 10) ++ [UInt8.ofNat (48 + k % 10)] := by rw [dig, dif_neg h]

theorem AaB : ∀ (n k : Nat), 1 ≤ n → k < 10 ^ n → (dig k).length ≤ n
 | 0, _, h, _ => absurd h (by decide)
 | n + 1, k, _, hk => by
  by_cases h : k < 10
  ·rw [NG h]; simp
  ·rw [NH h]
   have h1 : 1 ≤ n := by
    rcases Nat.eq_zero_or_pos n with rfl | h1
    ·simp at hk; omega
    ·exact h1
   have := AaB n (k / 10) h1 (by rw [Nat.pow_succ] at hk; omega)
   simp; exact this

def Mz (n : Int) : ByteArray := if -4611686018427387904 ≤ n ∧ n ≤ 4611686018427387903 then (if n < 0 then ⟨#[45]⟩ ++ M3 (-n).toNat else M3 n.toNat) else ⟨#[]⟩
theorem OW (k : Nat) (hk : k ≤ 9223372036854775808) : (M3 k).size ≤ 64 := by
 have := AaB 20 k (by decide) (by omega)
 show (List.toArray _).size ≤ 64
 simp; omega
theorem OR (n : Int) : (Mz n).size ≤ 65 := by
 unfold Mz
 split
 ·split
  ·rw [ByteArray.size_append]; have := OW (-n).toNat (by omega); have h : (⟨#[45]⟩ : ByteArray).size = 1 := rfl; omega
  ·have := OW n.toNat (by omega); omega
 ·show (0 : Nat) ≤ 65; omega

theorem YA {k : Nat} (h : k < 10) : M3 k = ⟨[UInt8.ofNat (48 + k)].toArray⟩ := by unfold M3; rw [NG h]
theorem YB {k : Nat} (h : ¬ k < 10) : M3 k = M3 (k / 10) ++ ⟨[UInt8.ofNat (48 + k % 10)].toArray⟩ := by
 unfold M3; rw [NH h]; first | (rw [ByteArray.mk_append_mk]; done) | (rw [ByteArray.mk_append_mk]; simp)
theorem T3 (m : Nat) (h : m < 256) : AV.int .u8 ((UInt8.ofNat m).toNat : Int) = .int .u8 (m : Int) := by
 rw [UInt8.toNat_ofNat']; congr 1; omega

end Go.Proofs.YtppjinmlfcokaaaGreat
set_option linter.unusedVariables false
set_option linter.unusedSimpArgs false
set_option maxRecDepth 100000
namespace Go.Proofs.YtppjinmlfcokaaaGreat
open Go.RowKit Go.Proofs.YtppjinmlfcokaaaGreat.Av Go.Proofs.YtppjinmlfcokaaaGreat.Ml
open Go.Proofs.YtppjinmlfcokaaaGreat.Av.AVal (av)

theorem MC (k : Nat) : k ≤ 9223372036854775808 → Ah Tryz.prog 177 [.int .i64 (-(k : Int))] (.str (M3 k)) := by
 induction k using Nat.strongRecOn with
 | _ k ih =>
  intro hk
  refine FY.F rfl (by simp; exact BB _) (Ad.str _) ?_
  by_cases h10 : k < 10
  ·have h1 : -10 < -(k : Int) := by omega
   have h2 : (48 : Int) - -(k : Int) = ((48 + k : Nat) : Int) := by omega
   rw [YA h10]
   simp +contextual -dsimp only [↓SD, SU, Nat.reduceAdd, Nat.reduceBEq, Nat.reduceEqDiff, Nat.reduceLeDiff, Nat.reduceLT, Nat.reduceSub, ↓reduceIte, reduceCtorEq, Int.reduceToNat, Int.reduceEq, Int.reduceLT, Int.reduceLE, Int.reduceNeg, Int.reduceAdd, Int.reduceSub, FY, h1]
   refine ⟨by omega, by omega, ?_⟩
   refine T2 _ _ [UInt8.ofNat (48 + k)] rfl (by rw [List.map_cons, List.map_nil, T3 _ (by omega), ← h2]) ?_
   simp +contextual -dsimp only [↓SD, SU, Nat.reduceAdd, Nat.reduceBEq, Nat.reduceEqDiff, Nat.reduceLeDiff, Nat.reduceLT, Nat.reduceSub, ↓reduceIte, reduceCtorEq, Int.reduceToNat]
  ·have h1 : ¬ -10 < -(k : Int) := by omega
   have h2 : (-(k : Int)).tdiv 10 = -((k / 10 : Nat) : Int) := by rw [Int.neg_tdiv, Int.tdiv_eq_ediv_of_nonneg (by omega)]; rfl
   have h3 : (-(k : Int)).tmod 10 = -((k % 10 : Nat) : Int) := by rw [Int.neg_tmod, Int.tmod_eq_emod_of_nonneg (by omega)]; rfl
   have h4 : (48 : Int) - -((k % 10 : Nat) : Int) = ((48 + k % 10 : Nat) : Int) := by omega
   have C := ih (k / 10) (by omega) (by omega)
   have hs := OW (k / 10) (by omega)
   rw [YB h10]
   simp +contextual -dsimp only [↓SD, SU, Nat.reduceAdd, Nat.reduceBEq, Nat.reduceEqDiff, Nat.reduceLeDiff, Nat.reduceLT, Nat.reduceSub, ↓reduceIte, reduceCtorEq, Int.reduceToNat, Int.reduceEq, Int.reduceLT, Int.reduceLE, Int.reduceNeg, Int.reduceAdd, Int.reduceSub, FY, h1, h2, h3]
   refine ⟨by omega, ?_⟩
   refine Aa _ C ?_
   simp +contextual -dsimp only [↓SD, SU, Nat.reduceAdd, Nat.reduceBEq, Nat.reduceEqDiff, Nat.reduceLeDiff, Nat.reduceLT, Nat.reduceSub, ↓reduceIte, reduceCtorEq, Int.reduceToNat, Int.reduceEq, Int.reduceLT, Int.reduceLE, Int.reduceNeg, Int.reduceAdd, Int.reduceSub, h3, h4]
   refine ⟨by omega, by omega, by omega, ?_⟩
   refine T2 _ _ [UInt8.ofNat (48 + k % 10)] rfl (by rw [List.map_cons, List.map_nil, T3 _ (by omega)]) ?_
   simp +contextual -dsimp only [↓SD, SU, Nat.reduceAdd, Nat.reduceBEq, Nat.reduceEqDiff, Nat.reduceLeDiff, Nat.reduceLT, Nat.reduceSub, ↓reduceIte, reduceCtorEq, Int.reduceToNat]
   have h5 : (⟨[UInt8.ofNat (48 + k % 10)].toArray⟩ : ByteArray).size = 1 := rfl
   unfold maxLen; omega
theorem HY (n : Int) (h : -9223372036854775808 ≤ n ∧ n ≤ 9223372036854775807) : (IntKind.i64.wrap (n * 2) / 2 = n) ↔ (-4611686018427387904 ≤ n ∧ n ≤ 4611686018427387903) := by
 rw [IntKind.wrap_i64]
 omega
theorem Uq (n : Int) (h : -9223372036854775808 ≤ n ∧ n ≤ 9223372036854775807) : Ah Tryz.prog 176 [.int .i64 n] (.int .i64 (IntKind.i64.wrap (n * 2) / 2)) := by
 refine Hj.F rfl (by simp; exact BB _) (BB _) ?_
 have e1 : min 1 IntKind.i64.bits = 1 := rfl
 have e2 : ∀ x : Int, x.fdiv (2 ^ 1) = x / 2 := fun x => by rw [Int.fdiv_eq_ediv_of_nonneg _ (by decide)]; rfl
 have e3 : n * 2 ^ 1 = n * 2 := rfl
 simp +contextual -dsimp only [↓SD, SU, Nat.reduceAdd, Nat.reduceBEq, Nat.reduceEqDiff, Nat.reduceLeDiff, Nat.reduceLT, Nat.reduceSub, ↓reduceIte, reduceCtorEq, Int.reduceToNat, Int.reduceEq, Int.reduceLT, Int.reduceLE, Int.reduceNeg, Int.reduceAdd, Int.reduceSub, Hj, e1, e2, e3]
 rw [IntKind.wrap_i64]
 omega
theorem Hy (n : Int) (hn : -9223372036854775808 ≤ n ∧ n ≤ 9223372036854775807) : Ah Tryz.prog 144 [.int .i64 n] (.str (Mz n)) := by
 refine JK.F rfl (by simp; exact BB _) (Ad.str _) ?_
 have C := Uq n hn
 have W := HY n hn
 simp +contextual -dsimp only [↓SD, SU, Nat.reduceAdd, Nat.reduceBEq, Nat.reduceEqDiff, Nat.reduceLeDiff, Nat.reduceLT, Nat.reduceSub, ↓reduceIte, reduceCtorEq, Int.reduceToNat, Int.reduceEq, Int.reduceLT, Int.reduceLE, Int.reduceNeg, Int.reduceAdd, Int.reduceSub, JK]
 refine Aa _ C ?_
 by_cases hin : -4611686018427387904 ≤ n ∧ n ≤ 4611686018427387903
 ·have hw := W.2 hin
  by_cases h0 : n < 0
  ·have hS : Mz n = ⟨#[45]⟩ ++ M3 (-n).toNat := by unfold Mz; rw [if_pos hin, if_pos h0]
   obtain ⟨k, rfl⟩ : ∃ k : Nat, n = -(k : Int) := ⟨(-n).toNat, by omega⟩
   have hs := OW k (by omega)
   have hk : (-(-(k : Int))).toNat = k := by omega
   rw [hS, hk]
   simp +contextual -dsimp only [↓SD, SU, Nat.reduceAdd, Nat.reduceBEq, Nat.reduceEqDiff, Nat.reduceLeDiff, Nat.reduceLT, Nat.reduceSub, ↓reduceIte, reduceCtorEq, Int.reduceToNat, Int.reduceEq, Int.reduceLT, Int.reduceLE, Int.reduceNeg, Int.reduceAdd, Int.reduceSub, hw, h0]
   refine Aa _ (MC k (by omega)) ?_
   have hb : bs [45] = (⟨#[45]⟩ : ByteArray) := rfl
   simp +contextual -dsimp only [↓SD, SU, Nat.reduceAdd, Nat.reduceBEq, Nat.reduceEqDiff, Nat.reduceLeDiff, Nat.reduceLT, Nat.reduceSub, ↓reduceIte, reduceCtorEq, Int.reduceToNat, Int.reduceEq, Int.reduceLT, Int.reduceLE, Int.reduceNeg, Int.reduceAdd, Int.reduceSub, hb]
   have h1 : (⟨#[45]⟩ : ByteArray).size = 1 := rfl
   unfold maxLen; omega
  ·have hS : Mz n = M3 n.toNat := by unfold Mz; rw [if_pos hin, if_neg h0]
   obtain ⟨k, rfl⟩ : ∃ k : Nat, n = (k : Int) := ⟨n.toNat, by omega⟩
   rw [hS, Int.toNat_natCast]
   simp +contextual -dsimp only [↓SD, SU, Nat.reduceAdd, Nat.reduceBEq, Nat.reduceEqDiff, Nat.reduceLeDiff, Nat.reduceLT, Nat.reduceSub, ↓reduceIte, reduceCtorEq, Int.reduceToNat, Int.reduceEq, Int.reduceLT, Int.reduceLE, Int.reduceNeg, Int.reduceAdd, Int.reduceSub, hw, h0]
   refine ⟨by omega, ?_⟩
   refine Aa _ (MC k (by omega)) ?_
   simp +contextual -dsimp only [↓SD, SU, Nat.reduceAdd, Nat.reduceBEq, Nat.reduceEqDiff, Nat.reduceLeDiff, Nat.reduceLT, Nat.reduceSub, ↓reduceIte, reduceCtorEq, Int.reduceToNat, Int.reduceEq, Int.reduceLT, Int.reduceLE, Int.reduceNeg, Int.reduceAdd, Int.reduceSub]
 ·have hw : ¬ IntKind.i64.wrap (n * 2) / 2 = n := fun h => hin (W.1 h)
  have hS : Mz n = ⟨#[]⟩ := by unfold Mz; rw [if_neg hin]
  rw [hS]
  simp +contextual -dsimp only [↓SD, SU, Nat.reduceAdd, Nat.reduceBEq, Nat.reduceEqDiff, Nat.reduceLeDiff, Nat.reduceLT, Nat.reduceSub, ↓reduceIte, reduceCtorEq, Int.reduceToNat, Int.reduceEq, Int.reduceLT, Int.reduceLE, Int.reduceNeg, Int.reduceAdd, Int.reduceSub, hw]
  first | done | rfl

theorem Aca {hp : Hp} {k v n : Nat} {b : Box} (hk : Ao hp k = some b) (hv : b.ver = v) (hn : n = b.es.length) : Hd hp (.row k v n) = some b.es := by
 unfold Hd
 simp only [hk, hv, hn, true_and, Nat.le_refl, if_true, List.take_length]
structure DS where
 m : Nat
 l : List UInt8
 v : Nat
end Go.Proofs.YtppjinmlfcokaaaGreat
set_option linter.unusedVariables false
set_option linter.unusedSimpArgs false
set_option maxRecDepth 100000
namespace Go.Proofs.YtppjinmlfcokaaaGreat
open Go.RowKit Go.Proofs.YtppjinmlfcokaaaGreat.Av Go.Proofs.YtppjinmlfcokaaaGreat.Ml
open Go.Proofs.YtppjinmlfcokaaaGreat.Av.AVal (av)

def Aa7 (i : Nat) : ByteArray := if 25 < i then bs [39, 122] ++ Mz i else bs [39] ++ ⟨[UInt8.ofNat (97 + i)].toArray⟩
theorem Aeo (i : Nat) : (Aa7 i).size ≤ 67 := by
 unfold Aa7
 have h := OR i
 have h1 : (bs [39, 122]).size = 2 := rfl
 have h2 : (bs [39]).size = 1 := rfl
 have h3 : (⟨[UInt8.ofNat (97 + i)].toArray⟩ : ByteArray).size = 1 := rfl
 split
 ·rw [ByteArray.size_append]; omega
 ·rw [ByteArray.size_append]; omega
theorem AbL (i : Nat) (hi : i ≤ 9999) : Ah Tryz.prog 142 [.int .i64 i] (.str (Aa7 i)) := by
 refine HJ.F rfl (by simp; exact BB _) (Ad.str _) ?_
 have hs := OR (i : Int)
 have h1 : (bs [39, 122]).size = 2 := rfl
 by_cases h : 25 < i
 ·have h' : (25 : Int) < i := by omega
  rw [Aa7, if_pos h]
  simp +contextual -dsimp (maxSteps := 2000000) only [↓SD, SU, simprocAttr, HJ, h']
  refine Aa _ (Hy i (by omega)) ?_
  simp +contextual -dsimp (maxSteps := 2000000) only [↓SD, SU, simprocAttr]
  unfold maxLen; omega
 ·have h' : ¬ (25 : Int) < i := by omega
  have e : (97 : Int) + i = ((97 + i : Nat) : Int) := by omega
  rw [Aa7, if_neg h]
  simp +contextual -dsimp (maxSteps := 2000000) only [↓SD, SU, simprocAttr, HJ, h', e]
  refine ⟨by omega, by omega, ?_⟩
  refine T2 _ _ [UInt8.ofNat (97 + i)] rfl (by rw [List.map_cons, List.map_nil, T3 _ (by omega)]) ?_
  simp +contextual -dsimp (maxSteps := 2000000) only [↓SD, SU, simprocAttr]
  have h5 : (⟨[UInt8.ofNat (97 + i)].toArray⟩ : ByteArray).size = 1 := rfl
  have h2 : (bs [39]).size = 1 := rfl
  unfold maxLen; omega
def tyS (l : List AY) : Nat → Nat → ByteArray
 | 0, _ => bs []
 | f + 1, p => match l[p]? with
  | none => bs []
  | some x =>
   if x.name = bs [] then Aa7 x.var.toNat
   else if x.arity = 0 then x.name
   else if x.arity = 1 then bs [40] ++ tyS l f (p + 1) ++ bs [41, 32] ++ x.name
   else if x.name = bs [45, 62] ∨ x.name = bs [42] then bs [40] ++ tyS l f (p + 1) ++ bs [32] ++ x.name ++ bs [32] ++ tyS l f ((DP (arL l) f (p + 1)).getD 0) ++ bs [41]
   else bs [40] ++ tyS l f (p + 1) ++ bs [44, 32] ++ tyS l f ((DP (arL l) f (p + 1)).getD 0) ++ bs [41, 32] ++ x.name
def X2 (l : List AY) (k : Nat) : Nat := ((l.take k).map fun x => 80 + x.name.size).sum
theorem Abx {l : List AY} {k : Nat} (h : k < l.length) : X2 l (k + 1) = X2 l k + (80 + l[k].name.size) := by
 unfold X2
 rw [List.take_succ_eq_append_getElem h, List.map_append, List.sum_append]; rfl
theorem XA (l : List AY) : ∀ (f p e : Nat), l.all EZ = true → DP (arL l) f p = some e → p < l.length ∧ p < e ∧ e ≤ l.length ∧ (tyS l f p).size + X2 l p ≤ X2 l e
 | 0, p, e, _, h => by cases h
 | f + 1, p, e, hi, h => by
  have hl : (arL l).length = l.length := by simp [arL]
  rw [DP] at h
  split at h
  case isFalse => cases h
  rename_i hp
  rw [hl] at hp
  have hg : l[p]? = some l[p] := List.getElem?_eq_getElem hp
  have hst := Abx hp
  have har := MD (List.all_eq_true.1 hi l[p] (List.getElem_mem hp))
  have hag : (arL l).getD p 0 = l[p].arity.toNat := by simp [arL, List.getD_eq_getElem?_getD, hp]
  rw [hag] at h
  rw [tyS, hg]
  have ih := fun q e => XA l f q e hi
  generalize l[p] = x at *
  dsimp only
  have hv := Aeo x.var.toNat
  have s1 : (bs [40]).size = 1 := rfl
  have s2 : (bs [41, 32]).size = 2 := rfl
  have s3 : (bs [32]).size = 1 := rfl
  have s4 : (bs [41]).size = 1 := rfl
  have s5 : (bs [44, 32]).size = 2 := rfl
  have hcase : x.arity = 0 ∨ x.arity = 1 ∨ x.arity = 2 := by omega
  rcases hcase with ha | ha | ha
  ·rw [ha] at h ⊢
   obtain rfl : p + 1 = e := by simpa [Ex] using h
   refine ⟨hp, by omega, by omega, ?_⟩
   split
   ·omega
   ·rw [if_pos rfl]; omega
  ·rw [ha] at h ⊢
   have h1 : DP (arL l) f (p + 1) = some e := by
    have : Ex (DP (arL l) f) 1 (p + 1) = some e := h
    rw [Ex] at this
    cases hx : DP (arL l) f (p + 1) with
    | none => rw [hx] at this; cases this
    | some q => rw [hx] at this; exact this
   have g := ih (p + 1) e h1
   refine ⟨hp, by omega, by omega, ?_⟩
   split
   ·omega
   ·rw [if_neg (by decide), if_pos rfl]
    simp only [ByteArray.size_append]
    omega
  ·rw [ha] at h ⊢
   obtain ⟨q, h1, h2⟩ : ∃ q, DP (arL l) f (p + 1) = some q ∧ DP (arL l) f q = some e := by
    have : Ex (DP (arL l) f) 2 (p + 1) = some e := h
    rw [Ex] at this
    cases hx : DP (arL l) f (p + 1) with
    | none => rw [hx] at this; cases this
    | some q =>
     rw [hx, Option.bind_some, Ex] at this
     cases hy : DP (arL l) f q with
     | none => rw [hy] at this; cases this
     | some z => rw [hy] at this; exact ⟨q, rfl, hy.trans this⟩
   have g1 := ih (p + 1) q h1
   have g2 := ih q e h2
   rw [h1, Option.getD_some]
   refine ⟨hp, by omega, by omega, ?_⟩
   split
   ·omega
   ·rw [if_neg (by decide), if_neg (by decide)]
    split
    all_goals
     simp only [ByteArray.size_append]
     omega
theorem ZC (l : List AY) (k : Nat) : X2 l k ≤ 81 * Ac.bulk l := by
 have h1 : ∀ m : List AY, (m.map fun x => 80 + x.name.size).sum ≤ 81 * (m.map Ac.bulk).sum := by
  intro m
  induction m with
  | nil => exact Nat.zero_le _
  | cons x m ih =>
   have h2 : Ac.bulk x = Ac.bulk x.var + Ac.bulk x.name + Ac.bulk x.arity + 1 := rfl
   have h3 : Ac.bulk x.name = x.name.size + 1 := rfl
   simp only [List.map_cons, List.sum_cons]
   omega
 have h2 : ((l.take k).map Ac.bulk).sum ≤ (l.map Ac.bulk).sum := by
  have e := congrArg (fun m => (m.map Ac.bulk).sum) (List.take_append_drop k l)
  simp only [List.map_append, List.sum_append] at e
  omega
 have h3 := h1 (l.take k)
 have h4 : Ac.bulk l = (l.map Ac.bulk).sum + 1 := GA l
 unfold X2
 omega
set_option maxHeartbeats 4000000 in
theorem P2 (l : List AY) (hx : Ac.bulk l ≤ 4294967296) (hi : l.all EZ = true) : ∀ (f p e : Nat), l.length - p < f → DP (arL l) f p = some e → Ah Tryz.prog 79 [.agg [.sl (l.map av)], .int .i64 p] (.str (tyS l f p))
 | 0, p, e, _, h => by cases h
 | f + 1, p, e, hf, h => by
  have hle := XA l (f + 1) p e hi h
  have hpe := ZC l e
  have hll := Ai l
  refine DT.F rfl (by simp; exact ⟨Ad.agg (by simp; exact Ak l), BB _⟩) (Ad.str _) ?_
  have hl : (arL l).length = l.length := by simp [arL]
  rw [DP] at h
  split at h
  case isFalse => cases h
  rename_i hp
  rw [hl] at hp
  have hg : l[p]? = some l[p] := List.getElem?_eq_getElem hp
  have e1 := getD_map av l p .top hp
  have hit := List.all_eq_true.1 hi l[p] (List.getElem_mem hp)
  have har := MD hit
  have hag : (arL l).getD p 0 = l[p].arity.toNat := by simp [arL, List.getD_eq_getElem?_getD, hp]
  rw [hag] at h
  have hsz := hle.2.2.2
  rw [tyS, hg] at hsz ⊢
  have CT := fun q e => P2 l hx hi f q e
  have CE := Sb l hx hi f (p + 1) (by omega) (by omega)
  have hp1 : (p : Int) + 1 = ((p + 1 : Nat) : Int) := by omega
  generalize l[p] = x at *
  obtain ⟨vr, nm, ar⟩ := x
  dsimp only at hsz h hit har e1 ⊢
  rw [A5] at e1
  by_cases hn : nm = bs []
  ·subst hn
   rw [if_pos rfl]
   unfold EZ at hit
   rw [if_pos rfl] at hit
   simp only [Bool.and_eq_true, decide_eq_true_eq] at hit
   have CV := AbL vr.toNat (by omega)
   rw [show ((vr.toNat : Nat) : Int) = vr by omega] at CV
   simp +contextual -dsimp (maxSteps := 2000000) only [↓SD, SU, simprocAttr, DT, Ab, hp, e1]
   intro v5
   refine Aa _ CV ?_
   simp +contextual -dsimp (maxSteps := 2000000) only [↓SD, SU, simprocAttr]
  rw [if_neg hn] at hsz ⊢
  have hcase : ar = 0 ∨ ar = 1 ∨ ar = 2 := by omega
  rcases hcase with rfl | rfl | rfl
  ·rw [if_pos rfl]
   simp +contextual -dsimp (maxSteps := 2000000) only [↓SD, SU, simprocAttr, DT, Ab, hp, e1, hn]
  ·have h1 : DP (arL l) f (p + 1) = some e := by
    have : Ex (DP (arL l) f) 1 (p + 1) = some e := h
    rw [Ex] at this
    cases hx : DP (arL l) f (p + 1) with
    | none => rw [hx] at this; cases this
    | some q => rw [hx] at this; exact this
   have C1 := CT (p + 1) e (by omega) h1
   rw [if_neg (by decide), if_pos rfl] at hsz ⊢
   generalize tyS l f (p + 1) = A at *
   simp only [ByteArray.size_append] at hsz
   simp +contextual -dsimp (maxSteps := 2000000) only [↓SD, SU, simprocAttr, DT, Ab, hp, e1, hn, hp1]
   intro v5
   refine ⟨by omega, ?_⟩
   refine Aa _ C1 ?_
   simp +contextual -dsimp (maxSteps := 2000000) only [↓SD, SU, simprocAttr, ByteArray.size_append]
   unfold maxLen; omega
  ·obtain ⟨q, h1, h2⟩ : ∃ q, DP (arL l) f (p + 1) = some q ∧ DP (arL l) f q = some e := by
    have : Ex (DP (arL l) f) 2 (p + 1) = some e := h
    rw [Ex] at this
    cases hx : DP (arL l) f (p + 1) with
    | none => rw [hx] at this; cases this
    | some q =>
     rw [hx, Option.bind_some, Ex] at this
     cases hy : DP (arL l) f q with
     | none => rw [hy] at this; cases this
     | some z => rw [hy] at this; exact ⟨q, rfl, hy.trans this⟩
   have hq := Aay (arL l) f (p + 1) q h1
   have C1 := CT (p + 1) q (by omega) h1
   have C2 := CT q e (by omega) h2
   rw [h1] at CE
   rw [if_neg (by decide), if_neg (by decide), h1, Option.getD_some] at hsz ⊢
   generalize tyS l f (p + 1) = A at *
   generalize tyS l f q = B at *
   by_cases ho : nm = bs [45, 62] ∨ nm = bs [42]
   ·rw [if_pos ho] at hsz ⊢
    simp only [ByteArray.size_append] at hsz
    rcases ho with hO | hO
    ·simp +contextual -dsimp (maxSteps := 2000000) only [↓SD, SU, simprocAttr, DT, Ab, hp, e1, hn, hp1]
     intro v5
     refine ⟨by omega, ?_⟩
     refine Aa _ C1 ?_
     simp +contextual -dsimp (maxSteps := 2000000) only [↓SD, SU, simprocAttr, hp1]
     refine ⟨by omega, ?_⟩
     refine Aa _ CE ?_
     simp +contextual -dsimp (maxSteps := 2000000) only [↓SD, SU, simprocAttr, Hn]
     refine Aa _ C2 ?_
     simp +contextual -dsimp (maxSteps := 2000000) only [↓SD, SU, simprocAttr, hO, ByteArray.size_append]
     rw [hO] at hsz
     unfold maxLen; omega
    ·have hne : (bs [42] = bs [45, 62]) = False := eq_false (by decide)
     simp +contextual -dsimp (maxSteps := 2000000) only [↓SD, SU, simprocAttr, DT, Ab, hp, e1, hn, hp1]
     intro v5
     refine ⟨by omega, ?_⟩
     refine Aa _ C1 ?_
     simp +contextual -dsimp (maxSteps := 2000000) only [↓SD, SU, simprocAttr, hp1]
     refine ⟨by omega, ?_⟩
     refine Aa _ CE ?_
     simp +contextual -dsimp (maxSteps := 2000000) only [↓SD, SU, simprocAttr, Hn]
     refine Aa _ C2 ?_
     simp +contextual -dsimp (maxSteps := 2000000) only [↓SD, SU, simprocAttr, hne, hO, ByteArray.size_append]
     rw [hO] at hsz
     unfold maxLen; omega
   ·rw [if_neg ho] at hsz ⊢
    simp only [ByteArray.size_append] at hsz
    have hne : (nm = bs [45, 62]) = False := eq_false fun h => ho (.inl h)
    have hne2 : (nm = bs [42]) = False := eq_false fun h => ho (.inr h)
    simp +contextual -dsimp (maxSteps := 2000000) only [↓SD, SU, simprocAttr, DT, Ab, hp, e1, hn, hp1]
    intro v5
    refine ⟨by omega, ?_⟩
    refine Aa _ C1 ?_
    simp +contextual -dsimp (maxSteps := 2000000) only [↓SD, SU, simprocAttr, hp1]
    refine ⟨by omega, ?_⟩
    refine Aa _ CE ?_
    simp +contextual -dsimp (maxSteps := 2000000) only [↓SD, SU, simprocAttr, Hn]
    refine Aa _ C2 ?_
    simp +contextual -dsimp (maxSteps := 2000000) only [↓SD, SU, simprocAttr, hne, hne2, ByteArray.size_append]
    unfold maxLen; omega
end Go.Proofs.YtppjinmlfcokaaaGreat

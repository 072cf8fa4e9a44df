/-
 A LET BUILT FROM TWO PARTS OF A TREE, in rows of its own, gets the names of a tree. Conditions: none.
-/
import Derived.Test.YtppjinmlfcokaaaGreatVJ34
import Derived.Test.YtppjinmlfcokaaaGreatVCopyO
import Derived.Test.YtppjinmlfcokaaaGreatProg
import Derived.Test.YtppjinmlfcokaaaGreatVAvDraw
set_option linter.unusedVariables false
set_option linter.unusedSimpArgs false
set_option maxRecDepth 100000
namespace Go.Proofs.YtppjinmlfcokaaaGreat
open Go.RowKit Go.Proofs.YtppjinmlfcokaaaGreat.Av Go.Proofs.YtppjinmlfcokaaaGreat.Ml
open Go.Proofs.YtppjinmlfcokaaaGreat.Av.AVal (av)
open OVal (ov oh on)

inductive KS (nm a b : Nat) : Nat → Nat → Prop where
 | root : KS nm a b 82 nm
 | row : KS nm a b 80 (sub nm 0)
 | Ae : KS nm a b 83 (sub nm 1)
 | fst {k k' : Nat} (h : Pth a (sub (sub nm 0) 0) k k') : KS nm a b k k'
 | snd {k k' : Nat} (h : Pth b (sub (sub nm 0) 1) k k') : KS nm a b k k'
theorem KS.cs {nm a b k k' : Nat} (h : KS nm a b k k') : (k = 82 ∧ k' = nm) ∨ (k = 80 ∧ k' = sub nm 0) ∨ (k = 83 ∧ k' = sub nm 1) ∨ Pth a (sub (sub nm 0) 0) k k' ∨ Pth b (sub (sub nm 0) 1) k k' := by
 cases h with
 | root => exact .inl ⟨rfl, rfl⟩
 | row => exact .inr (.inl ⟨rfl, rfl⟩)
 | Ae => exact .inr (.inr (.inl ⟨rfl, rfl⟩))
 | fst h => exact .inr (.inr (.inr (.inl h)))
 | snd h => exact .inr (.inr (.inr (.inr h)))
theorem KS.inj {nm a b : Nat} (ha : 10000 ≤ a) (hb : 10000 ≤ b) (hab : ∀ k, InT a k → ¬ InT b k) : ∀ k k1 k2, KS nm a b k k1 → KS nm a b k k2 → k1 = k2 := by
 intro k k1 k2 h1 h2
 have fa : ∀ {k k'}, Pth a (sub (sub nm 0) 0) k k' → 10000 ≤ k := fun h => Nat.le_trans ha h.l.le
 have fb : ∀ {k k'}, Pth b (sub (sub nm 0) 1) k k' → 10000 ≤ k := fun h => Nat.le_trans hb h.l.le
 rcases h1.cs with h1 | h1 | h1 | h1 | h1 <;> rcases h2.cs with h2 | h2 | h2 | h2 | h2
 all_goals first
  | omega
  | (have := fa h1; omega)
  | (have := fb h1; omega)
  | (have := fa h2; omega)
  | (have := fb h2; omega)
  | exact h1.inj h2
  | exact absurd h2.l (hab _ h1.l)
  | exact absurd h1.l (hab _ h2.l)
theorem KS.AeU {nm a b : Nat} : ∀ k1 k2 k', KS nm a b k1 k' → KS nm a b k2 k' → k1 = k2 := by
 intro k1 k2 k' h1 h2
 have n1 := Eu nm 0
 have n2 := Eu nm 1
 have n3 : sub nm 0 ≠ sub nm 1 := fun e => by have := (ER e).2; omega
 have fa : ∀ {k k'}, Pth a (sub (sub nm 0) 0) k k' → sub nm 0 < k' ∧ k' ≠ sub nm 1 := fun h => ⟨Nat.lt_of_lt_of_le (Eu _ _) h.r.le, fun e => by have := h.r.up; rw [e] at this; exact Dn (i := 0) (j := 1) (by omega) this .root⟩
 have fb : ∀ {k k'}, Pth b (sub (sub nm 0) 1) k k' → sub nm 0 < k' ∧ k' ≠ sub nm 1 := fun h => ⟨Nat.lt_of_lt_of_le (Eu _ _) h.r.le, fun e => by have := h.r.up; rw [e] at this; exact Dn (i := 0) (j := 1) (by omega) this .root⟩
 rcases h1.cs with h1 | h1 | h1 | h1 | h1 <;> rcases h2.cs with h2 | h2 | h2 | h2 | h2
 all_goals first
  | omega
  | (have := fa h1; omega)
  | (have := fb h1; omega)
  | (have := fa h2; omega)
  | (have := fb h2; omega)
  | exact h1.AeU h2
  | exact absurd h2.r (fun h2 => by have := h1.r.sib h2; omega)
def Ado (pos : Int) (s : ByteArray) : Node := ⟨7, pos, 0, s, [], []⟩
def PY (v u z a b : Nat) (pos : Int) (s : ByteArray) (vs : Nat → Nat) (x y : Tr) : Hp := (82, (⟨v, false, 102, 6, [.agg [.int .i64 7, .int .i64 pos, .int .i64 0, .str s, .row 80 u 2, .row 83 z 0]]⟩ : Box)) :: (80, ⟨u, false, 55, 1, [.ptr a (vs a) 0 0, .ptr b (vs b) 0 0]⟩) :: (83, ⟨z, false, 86, 1, []⟩) :: (oh a vs x ++ oh b vs y)
def Aa1 (T : Tr) (r : AV) (hp' : Hp) : Prop := (∃ q vs, r = ov q vs T ∧ hp' = oh q vs T) ∨ ∃ (v u z a b : Nat) (pos : Int) (s : ByteArray) (vs : Nat → Nat) (x y : Tr), 10000 ≤ a ∧ 10000 ≤ b ∧ (∀ k, InT a k → ¬ InT b k) ∧ T = Tr.mk (Ado pos s) [x, y] ∧ r = .ptr 82 v 0 0 ∧ hp' = PY v u z a b pos s vs x y
set_option maxHeartbeats 2000000 in
theorem TY {T : Tr} {r : AV} {hp' : Hp} (nm : Nat) (h : Aa1 T r hp') : Af ⟨[(0, r)], hp'⟩ fun s => DC nm T (Bp s.fr 0) s.hp := by
 rcases h with ⟨q, vs, rfl, rfl⟩ | ⟨v, u, z, a, b, pos, s, vs, x, y, ha, hb, hab, rfl, rfl, rfl⟩
 ·refine Af.Aft 0 q nm T rfl (OVal.self _ _ _) fun N => ?_
  exact Af.le (t := ⟨[(0, ov nm (fun _ => N) T)], oh nm (fun _ => N) T⟩) ⟨fun _ => N, rfl, rfl⟩ (by simp [OA, Bp]) (Cj (OVal.self _ _ _))
 ·obtain ⟨va, hva⟩ : ∃ va : Nat → Nat, va = fun q => if q = 82 then v else if q = 80 then u else if q = 83 then z else vs q := ⟨_, rfl⟩
  have v1 : va 82 = v := by rw [hva]; rfl
  have v2 : va 80 = u := by rw [hva]; rfl
  have v3 : va 83 = z := by rw [hva]; rfl
  have v4 : ∀ q, 10000 ≤ q → vs q = va q := fun q hq => by rw [hva]; dsimp only; rw [if_neg (by omega), if_neg (by omega), if_neg (by omega)]
  have hxy : AR (oh a vs x ++ oh b vs y) (oh a vs x ++ oh b vs y) := Lg (OVal.self _ _ _) (OVal.self _ _ _) fun p hp q hq e => hab _ (OVal.inh hq) (e ▸ OVal.inh hp)
  have hge : ∀ p ∈ oh a vs x ++ oh b vs y, 10000 ≤ p.1 := fun p hp => by
   rcases List.mem_append.1 hp with h | h
   ·have := (OVal.inh h).le; omega
   ·have := (OVal.inh h).le; omega
  have hself : AR (PY v u z a b pos s vs x y) (PY v u z a b pos s vs x y) := by
   refine ⟨BH, ?_, ?_, ?_⟩
   ·exact (BL (by decide)).trans BH
   ·exact (BL (by decide)).trans ((BL (by decide)).trans BH)
   ·exact Cd (Cd (Cd hxy (fun p hp e => by have := hge p hp; omega)) (fun p hp e => by have := hge p hp; omega)) (fun p hp e => by have := hge p hp; omega)
  refine Af.Af5 (KS nm a b) va (KS.inj ha hb hab) KS.AeU (82 :: 80 :: 83 :: (on a x ++ on b y)) (PY v u z a b pos s vs x y) (fun N => oh nm (fun _ => N) (Tr.mk (Ado pos s) [x, y])) (fun N => (0, .ptr nm N 0 0) :: [(0, .ptr 82 v 0 0)]) hself (fun p hp => ?_) (fun N p' hp' => ⟨(OVal.free nm _ _ p' hp').1, ?_⟩) (fun N S w μ μ' f hμ hle hf => ?_) fun N => ?_
  ·simp only [PY, List.mem_cons, List.mem_append] at hp
   rcases hp with rfl | rfl | rfl | h | h
   ·exact ⟨by simp, rfl⟩
   ·exact ⟨by simp, rfl⟩
   ·exact ⟨by simp, rfl⟩
   ·have h2 : p.1 ∈ on a x := by rw [← OVal.names a vs x]; exact List.mem_map_of_mem h
    exact ⟨by simp [h2], (OVal.free _ _ _ p h).1⟩
   ·have h2 : p.1 ∈ on b y := by rw [← OVal.names b vs y]; exact List.mem_map_of_mem h
    exact ⟨by simp [h2], (OVal.free _ _ _ p h).1⟩
  ·rw [N5, Cn] at hp'
   rcases List.mem_append.1 hp' with h | h
   ·rcases List.mem_append.1 h with h | h
    ·simp only [ohL, List.append_nil, List.mem_append, Nat.zero_add] at h
     rcases h with h | h
     ·obtain ⟨p, hp, h1, h2, h3, h4, h5, h6, h7⟩ := ORn.bx a (sub (sub nm 0) 0) N vs x p' h
      exact ⟨p, by simp [PY, hp], .fst h1, h2.trans (v4 _ (by have := h1.l.le; omega)), h3, h4, h5, h6, fun i e' he => let ⟨e, q1, q2⟩ := h7 i e' he; ⟨e, q1, q2.mono fun k k' h => ⟨.fst h, v4 _ (by have := h.l.le; omega)⟩⟩⟩
     ·obtain ⟨p, hp, h1, h2, h3, h4, h5, h6, h7⟩ := ORn.bx b (sub (sub nm 0) 1) N vs y p' h
      exact ⟨p, by simp [PY, hp], .snd h1, h2.trans (v4 _ (by have := h1.l.le; omega)), h3, h4, h5, h6, fun i e' he => let ⟨e, q1, q2⟩ := h7 i e' he; ⟨e, q1, q2.mono fun k k' h => ⟨.snd h, v4 _ (by have := h.l.le; omega)⟩⟩⟩
    ·rw [List.mem_singleton.1 h]
     refine ⟨(80, ⟨u, false, 55, 1, [.ptr a (vs a) 0 0, .ptr b (vs b) 0 0]⟩), by simp [PY], .row, v2.symm, rfl, rfl, rfl, rfl, fun i e' he => ?_⟩
     rw [v4 a ha, v4 b hb]
     simp only [Gg, ovL, AD, Nat.zero_add] at he ⊢
     match i, he with
     | 0, he => simp at he; subst he; exact ⟨_, rfl, .cons (.ptr a _ 0 0 (.fst .root)) .nil⟩
     | 1, he => simp at he; subst he; exact ⟨_, rfl, .cons (.ptr b _ 0 0 (.snd .root)) .nil⟩
     | i + 2, he => simp at he
   ·rcases List.mem_append.1 h with h | h
    ·have h2 : oh (sub nm 1) (fun _ => N) (Ado pos s).Ae = [(sub nm 1, Gg (sub nm 1) (fun _ => N) ([] : List Pat))] := by rw [show (Ado pos s).Ae = [] from rfl, Cn]; rfl
     rw [h2] at h
     rw [List.mem_singleton.1 h]
     exact ⟨(83, ⟨z, false, 86, 1, []⟩), by simp [PY], .Ae, v3.symm, rfl, rfl, rfl, rfl, fun i e' he => by simp [Gg, ovL] at he⟩
    ·rw [List.mem_singleton.1 h]
     refine ⟨(82, ⟨v, false, 102, 6, [.agg [.int .i64 7, .int .i64 pos, .int .i64 0, .str s, .row 80 u 2, .row 83 z 0]]⟩), by simp [PY], .root, v1.symm, rfl, rfl, rfl, rfl, fun i e' he => ?_⟩
     rw [← v2, ← v3]
     match i, he with
     | 0, he => simp at he; subst he; exact ⟨_, rfl, .cons (.Hf _ rfl) (.cons (.Hf _ rfl) (.cons (.Hf _ rfl) (.cons (.Hf _ rfl) (.cons (.row 80 _ _ .row) (.cons (.row 83 _ _ .Ae) .nil)))))⟩
     | i + 1, he => simp at he
  ·refine LR (fun t => (hf t).mono (fun _ h => h) (Av.BU.refl _ _) hle) ?_
   have hv := hf 0
   have hc : Ff (KS nm a b) va N (AV.ptr 82 v 0 0).cells (AV.ptr nm N 0 0).cells := .cons (v1 ▸ .ptr 82 nm 0 0 .root) .nil
   exact Ue (x := .ptr 82 v 0 0) (x' := .ptr nm N 0 0) rfl hc hμ hv
  ·exact Af.le (t := ⟨[(0, .ptr nm N 0 0)], oh nm (fun _ => N) (Tr.mk (Ado pos s) [x, y])⟩) ⟨fun _ => N, by rw [AD]; rfl, rfl⟩ (by simp [OA, Bp]) (Cj (OVal.self _ _ _))
end Go.Proofs.YtppjinmlfcokaaaGreat
set_option linter.unusedVariables false
set_option maxRecDepth 100000
namespace Go.Proofs.YtppjinmlfcokaaaGreat
open Go.Proofs.YtppjinmlfcokaaaGreat.Av

theorem IA : Tryz.prog.follows .mixedOrders = true := by kernel_rfl

def EW : Ir Tryz.prog 25 [(8,7775),(10,7775), (11, 7777), (12, 7777), (13, 7777)] [9999] 1 := ⟨_, _, Tryz.func25, IA, by kernel_rfl, Aj [] Tryz.progTables (by conv => lhs; cbv) (by kernel_rfl)⟩
def Lq : Ir Tryz.prog 120 [] [] 2 := ⟨_, _, Tryz.func120, IA, by kernel_rfl, Aj [] Tryz.progTables (by conv => lhs; cbv) (by kernel_rfl)⟩
def D4 : Ir Tryz.prog 57 [(80,80),(82,82)] [9999] 1 := ⟨((.seq (.region [⟨some 2, none, .mov (.c .DE)⟩]) (.seq (.seq (.region [⟨some 6, none, .mov (.t 0)⟩, ⟨some 7, none, .Fz (.t 6)⟩, ⟨some 8, none, .B3 0 (.t 7)⟩, ⟨some 9, none, .load false 1 (.t 8)⟩, ⟨some 10, none, .bin .neq .other (.t 9) (.c (.int .i64 13))⟩, ⟨some 11, none, .mov (.t 10)⟩, ⟨some 12, some (11, false), .mov (.t 0)⟩, ⟨some 13, some (11, false), .Fz (.t 12)⟩, ⟨some 14, some (11, false), .B3 4 (.t 13)⟩, ⟨some 15, some (11, false), .load false 1 (.t 14)⟩, ⟨some 16, some (11, false), .B6 1 (.t 15) (.c (.int .i64 0))⟩, ⟨some 17, some (11, false), .load false 1 (.t 16)⟩, ⟨some 18, some (11, false), .call 118 [(.t 17)]⟩, ⟨some 19, some (11, false), .un .not (.t 18)⟩, ⟨some 20, none, .pick (.t 11) (.c (.bool true)) (.t 19)⟩, ⟨some 21, none, .mov (.t 20)⟩, ⟨some 22, some (21, false), .mov (.t 0)⟩, ⟨some 23, some (21, false), .Fz (.t 22)⟩, ⟨some 24, some (21, false), .B3 4 (.t 23)⟩, ⟨some 25, some (21, false), .load false 1 (.t 24)⟩, ⟨some 26, some (21, false), .B6 1 (.t 25) (.c (.int .i64 0))⟩, ⟨some 27, some (21, false), .load false 1 (.t 26)⟩, ⟨some 28, some (21, false), .Fz (.t 27)⟩, ⟨some 29, some (21, false), .B3 0 (.t 28)⟩, ⟨some 30, some (21, false), .load false 1 (.t 29)⟩, ⟨some 31, some (21, false), .bin .eql .other (.t 30) (.c (.int .i64 2))⟩, ⟨some 32, none, .pick (.t 21) (.c (.bool true)) (.t 31)⟩]) (.cond (.t 32) (.seq (.region [⟨some 33, none, .mov (.t 0)⟩, ⟨some 2, none, .mov (.t 33)⟩]) .Oz) .skip)) (.seq (.seq (.region [⟨some 34, none, .mov (.t 0)⟩, ⟨some 35, none, .Fz (.t 34)⟩, ⟨some 36, none, .B3 5 (.t 35)⟩, ⟨some 37, none, .load false 1 (.t 36)⟩, ⟨some 38, none, .len false (.t 37)⟩, ⟨some 39, none, .mov (.c (.int .i64 0))⟩]) (.block 0 (.loop (.seq (.region [⟨some 40, none, .bin .lss .other (.t 39) (.t 38)⟩]) (.seq (.cond (.t 40) .skip (.exit 0)) (.seq (.block 1 (.seq (.region [⟨some 41, none, .mov (.t 39)⟩, ⟨some 42, none, .B6 1 (.t 37) (.t 39)⟩, ⟨some 43, none, .load true 1 (.t 42)⟩, ⟨some 4, none, .HT 4 86 1 (.c (.agg [.An]))⟩, ⟨some 3, none, .mov (.t 41)⟩, ⟨none, none, .store 1 (.t 4) (.t 43)⟩]) (.seq (.region [⟨some 44, none, .B3 0 (.t 4)⟩, ⟨some 45, none, .load false 1 (.t 44)⟩, ⟨some 46, none, .B6 4 (.t 45) (.c (.int .i64 0))⟩, ⟨some 47, none, .load true 4 (.t 46)⟩, ⟨some 5, none, .HT 5 96 4 (.c (.agg [(.int .i64 0), (.int .i64 0), (.str (bs [])), .An]))⟩, ⟨none, none, .store 4 (.t 5) (.t 47)⟩]) (.seq (.seq (.draw [⟨some 48, none, .load true 4 (.t 5)⟩, ⟨some 49, none, .mov (.t 0)⟩, ⟨some 50, none, .Fz (.t 49)⟩, ⟨some 51, none, .B3 4 (.t 50)⟩, ⟨some 52, none, .load false 1 (.t 51)⟩, ⟨some 53, none, .B6 1 (.t 52) (.c (.int .i64 0))⟩, ⟨some 54, none, .load false 1 (.t 53)⟩, ⟨some 55, none, .call 120 [(.t 48), (.t 54)]⟩, ⟨some 56, none, .un .not (.t 55)⟩]) (.cond (.t 56) (.exit 1) .skip)) (.seq (.seq (.region [⟨some 57, none, .B3 0 (.t 5)⟩, ⟨some 58, none, .load false 1 (.t 57)⟩, ⟨some 59, none, .bin .eql .other (.t 58) (.c (.int .i64 2))⟩]) (.cond (.t 59) (.seq (.seq (.region [⟨some 60, none, .mov (.t 0)⟩, ⟨some 61, none, .Fz (.t 60)⟩, ⟨some 62, none, .B3 1 (.t 61)⟩, ⟨some 64, none, .B3 2 (.t 5)⟩, ⟨some 66, none, .mov (.t 0)⟩, ⟨some 67, none, .Fz (.t 66)⟩, ⟨some 68, none, .B3 4 (.t 67)⟩, ⟨some 69, none, .load false 1 (.t 68)⟩, ⟨some 70, none, .B6 1 (.t 69) (.c (.int .i64 0))⟩, ⟨some 71, none, .load false 1 (.t 70)⟩, ⟨some 72, none, .mov (.t 0)⟩, ⟨some 73, none, .Fz (.t 72)⟩, ⟨some 74, none, .B3 4 (.t 73)⟩, ⟨some 75, none, .load false 1 (.t 74)⟩, ⟨some 76, none, .mov (.t 3)⟩, ⟨some 77, none, .bin .add .other (.t 76) (.c (.int .i64 1))⟩, ⟨some 78, none, .B6 1 (.t 75) (.t 77)⟩, ⟨some 79, none, .load false 1 (.t 78)⟩]) (.both (.seq (.region [⟨some 63, none, .load false 1 (.t 62)⟩]) (.both (.region [⟨some 65, none, .load false 1 (.t 64)⟩, ⟨some 80, none, .slO 80 55 2 .DE [(0, (.t 71)), (1, (.t 79))]⟩, ⟨some 81, none, .build [(.int .i64 0), (.int .i64 0), (.int .i64 0), (.str (bs [])), .An, .An] [(0, (1, (.c (.int .i64 7)))), (1, (1, (.t 63))), (3, (1, (.t 65))), (4, (1, (.t 80)))]⟩, ⟨some 82, none, .HT 82 102 6 (.t 81)⟩, ⟨some 2, none, .mov (.t 82)⟩]) (.region [⟨some 80, none, .slO 80 55 2 .DE [(0, (.t 71)), (1, (.t 79))]⟩, ⟨some 65, none, .load false 1 (.t 64)⟩, ⟨some 81, none, .build [(.int .i64 0), (.int .i64 0), (.int .i64 0), (.str (bs [])), .An, .An] [(0, (1, (.c (.int .i64 7)))), (1, (1, (.t 63))), (3, (1, (.t 65))), (4, (1, (.t 80)))]⟩, ⟨some 82, none, .HT 82 102 6 (.t 81)⟩, ⟨some 2, none, .mov (.t 82)⟩]))) (.both (.seq (.region [⟨some 65, none, .load false 1 (.t 64)⟩]) (.both (.region [⟨some 63, none, .load false 1 (.t 62)⟩, ⟨some 80, none, .slO 80 55 2 .DE [(0, (.t 71)), (1, (.t 79))]⟩, ⟨some 81, none, .build [(.int .i64 0), (.int .i64 0), (.int .i64 0), (.str (bs [])), .An, .An] [(0, (1, (.c (.int .i64 7)))), (1, (1, (.t 63))), (3, (1, (.t 65))), (4, (1, (.t 80)))]⟩, ⟨some 82, none, .HT 82 102 6 (.t 81)⟩, ⟨some 2, none, .mov (.t 82)⟩]) (.region [⟨some 80, none, .slO 80 55 2 .DE [(0, (.t 71)), (1, (.t 79))]⟩, ⟨some 63, none, .load false 1 (.t 62)⟩, ⟨some 81, none, .build [(.int .i64 0), (.int .i64 0), (.int .i64 0), (.str (bs [])), .An, .An] [(0, (1, (.c (.int .i64 7)))), (1, (1, (.t 63))), (3, (1, (.t 65))), (4, (1, (.t 80)))]⟩, ⟨some 82, none, .HT 82 102 6 (.t 81)⟩, ⟨some 2, none, .mov (.t 82)⟩]))) (.region [⟨some 80, none, .slO 80 55 2 .DE [(0, (.t 71)), (1, (.t 79))]⟩, ⟨some 63, none, .load false 1 (.t 62)⟩, ⟨some 65, none, .load false 1 (.t 64)⟩, ⟨some 81, none, .build [(.int .i64 0), (.int .i64 0), (.int .i64 0), (.str (bs [])), .An, .An] [(0, (1, (.c (.int .i64 7)))), (1, (1, (.t 63))), (3, (1, (.t 65))), (4, (1, (.t 80)))]⟩, ⟨some 82, none, .HT 82 102 6 (.t 81)⟩, ⟨some 2, none, .mov (.t 82)⟩])))) .Oz) .skip)) (.seq (.region [⟨some 83, none, .mov (.t 0)⟩, ⟨some 84, none, .Fz (.t 83)⟩, ⟨some 85, none, .B3 4 (.t 84)⟩, ⟨some 86, none, .load false 1 (.t 85)⟩, ⟨some 87, none, .mov (.t 3)⟩, ⟨some 88, none, .bin .add .other (.t 87) (.c (.int .i64 1))⟩, ⟨some 89, none, .B6 1 (.t 86) (.t 88)⟩, ⟨some 90, none, .load false 1 (.t 89)⟩, ⟨some 2, none, .mov (.t 90)⟩]) .Oz)))))) (.region [⟨some 91, none, .bin .add .other (.t 39) (.c (.int .i64 1))⟩, ⟨some 39, none, .mov (.t 91)⟩]))))))) (.seq (.region [⟨some 92, none, .mov (.t 0)⟩, ⟨some 2, none, .mov (.t 92)⟩]) .Oz)))), [(.t 2)]), _, Tryz.func57, IA, by kernel_rfl, by kernel_rfl⟩
end Go.Proofs.YtppjinmlfcokaaaGreat
set_option linter.unusedVariables false
set_option maxRecDepth 100000
namespace Go.Proofs.YtppjinmlfcokaaaGreat
open Go.Proofs.YtppjinmlfcokaaaGreat.Av

theorem GH : Tryz.prog.follows .mixedOrders = true := by kernel_rfl

def EV : Ir Tryz.prog 26 [(9,7775),(11,7775), (12, 7777), (13, 7777), (14, 7777)] [9999] 1 := ⟨_, _, Tryz.func26, GH, by kernel_rfl, Aj [10003] Tryz.progTables (by conv => lhs; cbv) (by kernel_rfl)⟩
def CK : Ir Tryz.prog 121 [(38,38), (62, 7777)] [9999] 3 := ⟨_, _, Tryz.func121, GH, by kernel_rfl, Aj [10009] Tryz.progTables (by conv => lhs; cbv) (by kernel_rfl)⟩
def Dx : Ir Tryz.prog 58 [(35, 7777)] [9999, 3] 1 := ⟨_, _, Tryz.func58, GH, by kernel_rfl, Aj [] Tryz.progTables (by conv => lhs; cbv) (by kernel_rfl)⟩
def Im : Ir Tryz.prog 55 [(29,7777), (24, 7777)] [9999] 2 := ⟨_, _, Tryz.func55, GH, by kernel_rfl, Aj [10004] Tryz.progTables (by conv => lhs; cbv) (by kernel_rfl)⟩
end Go.Proofs.YtppjinmlfcokaaaGreat

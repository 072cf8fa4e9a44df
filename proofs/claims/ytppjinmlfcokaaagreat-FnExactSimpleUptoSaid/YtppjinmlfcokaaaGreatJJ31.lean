/-
  THE ABSTRACT TEXTS OF FUNCTIONS (TidyP), printed by irgen.py, and that they are the functions' own. Conditions: none.
-/
import Derived.Test.YtppjinmlfcokaaaGreatProg
import Derived.Test.YtppjinmlfcokaaaGreatJAvDraw
import Derived.Test.YtppjinmlfcokaaaGreatJJ28
set_option linter.unusedVariables false
set_option maxRecDepth 100000
namespace Go.Proofs.YtppjinmlfcokaaaGreat
open Go.Proofs.YtppjinmlfcokaaaGreat.Av

theorem GH : Tryz.prog.follows .mixedOrders = true := by kernel_rfl

def EN : Ir Tryz.prog 26 [(9,7775),(11,7775), (12, 7777), (13, 7777), (14, 7777)] [9999] 1 := ⟨_, _, Tryz.func26, GH, by kernel_rfl, Ah [10003] Tryz.progTables (by conv => lhs; cbv) (by kernel_rfl)⟩
def CM : Ir Tryz.prog 121 [(38,38), (62, 7777)] [9999] 3 := ⟨_, _, Tryz.func121, GH, by kernel_rfl, Ah [10009] Tryz.progTables (by conv => lhs; cbv) (by kernel_rfl)⟩
def Ds : Ir Tryz.prog 58 [(35, 7777)] [9999, 3] 1 := ⟨_, _, Tryz.func58, GH, by kernel_rfl, Ah [] Tryz.progTables (by conv => lhs; cbv) (by kernel_rfl)⟩
def Iq : Ir Tryz.prog 55 [(29,7777), (24, 7777)] [9999] 2 := ⟨_, _, Tryz.func55, GH, by kernel_rfl, Ah [10004] Tryz.progTables (by conv => lhs; cbv) (by kernel_rfl)⟩
end Go.Proofs.YtppjinmlfcokaaaGreat
set_option linter.unusedVariables false
namespace Go.Proofs.YtppjinmlfcokaaaGreat
open Go.RowKit Go.Proofs.YtppjinmlfcokaaaGreat.Av Go.Proofs.YtppjinmlfcokaaaGreat.Ml
open Go.Proofs.YtppjinmlfcokaaaGreat.Av.AVal (av)

def Adu (k : Int) : Bool := decide (k = 5) || decide (k = 7) || decide (k = 8) || decide (k = 15)
mutual
def Tr.wt : Tr → Nat
 | .mk n ks => 1 + (n.Ai.map fun q => (varsOf q.nodes).length).sum + Tr.wts ks
def Tr.wts : List Tr → Nat
 | [] => 0
 | t :: ts => t.wt + Tr.wts ts
end
mutual
def Tr.pne : Tr → Prop
 | .mk n ks => (∀ q ∈ n.Ai, q.nodes ≠ []) ∧ Tr.Ad5 ks
def Tr.Ad5 : List Tr → Prop
 | [] => True
 | t :: ts => t.pne ∧ Tr.Ad5 ts
end
end Go.Proofs.YtppjinmlfcokaaaGreat
set_option linter.unusedVariables false
namespace Go.Proofs.YtppjinmlfcokaaaGreat
open Go.RowKit Go.Proofs.YtppjinmlfcokaaaGreat.Av Go.Proofs.YtppjinmlfcokaaaGreat.Ml
open Go.Proofs.YtppjinmlfcokaaaGreat.Av.AVal (av)

def Da : Nat → List Tr → List Int
 | _, [] => []
 | b, t :: ts => (b : Int) :: Da (b + t.size) ts
mutual
def BF : Nat → Tr → List Node
 | b, .mk n ks => { n with kids := Da (b + 1) ks } :: BI (b + 1) ks
def BI : Nat → List Tr → List Node
 | _, [] => []
 | b, t :: ts => BF b t ++ BI (b + t.size) ts
end
theorem Sc {ks : List Tr} (h : ∀ k ∈ ks, ∀ b, (BF b k).length = k.size) : ∀ b, (BI b ks).length = Tr.AM ks := by
 induction ks with
 | nil => intro b; rw [BI, Tr.AM]; rfl
 | cons k ks ih =>
  intro b
  rw [BI, Tr.AM, List.length_append, h k (by simp), ih (fun k hk => h k (by simp [hk]))]
theorem Di : ∀ (t : Tr) (b : Nat), (BF b t).length = t.size := Tr.ind fun n ks ih b => by
 rw [BF, Tr.size, List.length_cons, Sc ih]
theorem JI (b : Nat) (ks : List Tr) : (BI b ks).length = Tr.AM ks := Sc (fun k _ b => Di k b) b
theorem L4 : ∀ (b : Nat) (ks : List Tr) (k : Tr), BI b (ks ++ [k]) = BI b ks ++ BF (b + Tr.AM ks) k
 | b, [], k => by simp [BI, Tr.AM]
 | b, t :: ts, k => by
  rw [List.cons_append, BI, BI, Tr.AM, L4, List.append_assoc, Nat.add_assoc]
theorem NN : ∀ (b : Nat) (ks : List Tr) (k : Tr), Da b (ks ++ [k]) = Da b ks ++ [((b + Tr.AM ks : Nat) : Int)]
 | b, [], k => by simp [Da, Tr.AM]
 | b, t :: ts, k => by
  rw [List.cons_append, Da, Da, Tr.AM, NN, List.cons_append, Nat.add_assoc]
theorem Fi : ∀ (b : Nat) (ks : List Tr), (Da b ks).length = ks.length
 | b, [] => rfl
 | b, t :: ts => by rw [Da, List.length_cons, List.length_cons, Fi]
theorem NG : ∀ (ks : List Tr) (k : Tr), Tr.AM (ks ++ [k]) = Tr.AM ks + k.size
 | [], k => by simp [Tr.AM]
 | t :: ts, k => by rw [List.cons_append, Tr.AM, Tr.AM, NG]; omega
theorem JC : ∀ (ks : List Tr) (j : Nat) (h : j < ks.length), Tr.AM (ks.take j) + (ks[j]).size ≤ Tr.AM ks
 | t :: ts, 0, h => by simp [Tr.AM]
 | t :: ts, j + 1, h => by
  have := JC ts j (by simpa using h)
  simp only [List.take_succ_cons, Tr.AM, List.getElem_cons_succ]
  omega
end Go.Proofs.YtppjinmlfcokaaaGreat
set_option linter.unusedVariables false
namespace Go.Proofs.YtppjinmlfcokaaaGreat
open Go.RowKit Go.Proofs.YtppjinmlfcokaaaGreat.Av Go.Proofs.YtppjinmlfcokaaaGreat.Ml
open Go.Proofs.YtppjinmlfcokaaaGreat.Av.AVal (av)

def shT (s : Int) (n : Node) : Node := { n with kids := n.kids.map (· + s) }
theorem XL (l : List Node) {a b c : Nat} (h1 : a ≤ b) (h2 : b ≤ c) : (l.drop a).take (c - a) = (l.drop a).take (b - a) ++ (l.drop b).take (c - b) := by
 have e : c - a = (b - a) + (c - b) := by omega
 rw [e, List.take_add, List.drop_drop]
 congr 3
 omega
theorem VX {l : List Node} {n f : Nat} (ih : ∀ (a m b : Nat) (s : Int), Cv (Bp l) n f a = some m → (b : Int) - a = s → BF b (Bx l f a) = ((l.drop a).take (m - a)).map (shT s)) (hn : n = l.length) :
  ∀ (ks : List Int) (nx m b : Nat) (s : Int), nx ≤ n → Dj (Cv (Bp l) n f) ks nx = some m → (b : Int) - nx = s →
   BI b (ks.map fun k => Bx l f k.toNat) = ((l.drop nx).take (m - nx)).map (shT s) ∧ Da b (ks.map fun k => Bx l f k.toNat) = ks.map (· + s)
 | [], nx, m, b, s, hl, h, hs => by
  rw [Dj] at h; cases h
  rw [List.map_nil, BI, Da]; simp
 | k :: ks, nx, m, b, s, hl, h, hs => by
  rw [Dj] at h
  split at h
  ·rename_i hk
   cases he : Cv (Bp l) n f nx with
   | none => rw [he] at h; cases h
   | some m1 =>
    rw [he] at h
    simp only at h
    have h1 := HS (Bp l) n f nx m1 he
    have h2 := O5 (HS (Bp l) n f) h h1.2
    have hz := NP l f nx m1 (hn ▸ he)
    have hk2 : k.toNat = nx := by omega
    rw [List.map_cons, BI, Da, hk2]
    generalize hT : Bx l f nx = T at *
    have e1 := ih nx m1 b s he hs
    rw [hT] at e1
    obtain ⟨e2, e3⟩ := VX ih hn ks m1 m (b + T.size) s h1.2 h (by omega)
    rw [e1, e2, e3, XL l (show nx ≤ m1 by omega) h2.1, List.map_append]
    refine ⟨rfl, ?_⟩
    rw [List.map_cons]
    congr 1
    omega
  ·cases h
theorem ZK {l : List Node} {n : Nat} (hn : n = l.length) : ∀ (f a m b : Nat) (s : Int), Cv (Bp l) n f a = some m → (b : Int) - a = s → BF b (Bx l f a) = ((l.drop a).take (m - a)).map (shT s)
 | 0, a, m, b, s, h, _ => by rw [Cv] at h; cases h
 | f + 1, a, m, b, s, h, hs => by
  have hm := HS (Bp l) n (f + 1) a m h
  rw [Cv] at h
  split at h
  ·rename_i hl
   obtain ⟨e1, e2⟩ := VX (fun a m b s => ZK hn f a m b s) hn (Bp l a) (a + 1) m (b + 1) s (by omega) h (by omega)
   have hal : a < l.length := by omega
   rw [Bx, BF, e1, e2]
   have ed : l.drop a = l[a] :: l.drop (a + 1) := List.drop_eq_getElem_cons hal
   have hg : l.getD a default = l[a] := by simp [List.getD_eq_getElem?_getD, hal]
   have hk : Bp l a = l[a].kids := by rw [Bp, hg]
   obtain ⟨c, hc⟩ : ∃ c, m - a = c + 1 := ⟨m - a - 1, by omega⟩
   have hc2 : m - (a + 1) = c := by omega
   rw [ed, hc, hc2, List.take_succ_cons, List.map_cons, hk, hg]
   rfl
  ·cases h
theorem I1 {l : List Node} (h : Fc (Bp l) l.length = true) : BF 0 (A2 l 0) = l := by
 have h1 := of_decide_eq_true h
 have h2 := ZK (l := l) rfl _ 0 l.length 0 0 h1 rfl
 have hid : ∀ n : Node, shT 0 n = n := fun n => by
  obtain ⟨a, b, c, d, e, f⟩ := n
  simp [shT]
 rw [A2]
 have hl : 0 < l.length := by
  cases hl : l.length with
  | zero => rw [hl] at h1; simp [Cv] at h1
  | succ n => omega
 rw [Qi l (fun i hi k hk => DM h hi hk) l.length (l.length + 1) 0 hl (Nat.le_refl _) (by omega), h2, List.drop_zero, Nat.sub_zero, List.take_length, List.map_congr_left (g := id) fun n _ => hid n, List.map_id]
def Es (n : Node) (m : Nat) : Nat := 6 + n.s.size + m + Ac.bulk n.Ai
mutual
def Tr.bulk : Tr → Nat
 | .mk n ks => Es n ks.length + Tr.OC ks
def Tr.OC : List Tr → Nat
 | [] => 0
 | t :: ts => t.bulk + Tr.OC ts
end
theorem Jy (n : Node) : Ac.bulk n = Es n n.kids.length := by
 have h1 : Ac.bulk n = Ac.bulk n.kind + Ac.bulk n.pos + Ac.bulk n.n + (n.s.size + 1) + Ac.bulk n.kids + Ac.bulk n.Ai + 1 := rfl
 have h2 : Ac.bulk n.kind = 1 := rfl
 have h3 : Ac.bulk n.pos = 1 := rfl
 have h4 : Ac.bulk n.n = 1 := rfl
 rw [h1, Ns, Es]; omega
theorem SL {α : Type} [Ac α] : ∀ a b : List α, Ac.bulk (a ++ b) + 1 = Ac.bulk a + Ac.bulk b
 | [], b => by show Ac.bulk b + 1 = 1 + Ac.bulk b; omega
 | x :: a, b => by
  have h := SL a b
  show Ac.bulk x + Ac.bulk (a ++ b) + 1 = Ac.bulk x + Ac.bulk a + Ac.bulk b
  omega
theorem X0 {ks : List Tr} (h : ∀ k ∈ ks, ∀ b, Ac.bulk (BF b k) = k.bulk + 1) : ∀ b, Ac.bulk (BI b ks) = Tr.OC ks + 1 := by
 induction ks with
 | nil => intro b; rw [BI, Tr.OC]; rfl
 | cons k ks ih =>
  intro b
  have h1 := SL (BF b k) (BI (b + k.size) ks)
  rw [h k (by simp), ih (fun k hk => h k (by simp [hk]))] at h1
  rw [BI, Tr.OC]; omega
theorem Abk : ∀ (t : Tr) (b : Nat), Ac.bulk (BF b t) = t.bulk + 1 := Tr.ind fun n ks ih b => by
 have h1 := Jy ({ n with kids := Da (b + 1) ks })
 have h2 : Ac.bulk (BF b (.mk n ks)) = Ac.bulk ({ n with kids := Da (b + 1) ks } : Node) + Ac.bulk (BI (b + 1) ks) := by rw [BF]; rfl
 rw [h2, h1, X0 ih, Tr.bulk]
 simp only [Es, Fi]; omega
end Go.Proofs.YtppjinmlfcokaaaGreat
set_option linter.unusedVariables false
set_option maxRecDepth 100000
namespace Go.Proofs.YtppjinmlfcokaaaGreat
open Go.Proofs.YtppjinmlfcokaaaGreat.Av

theorem EC : Tryz.prog.follows .mixedOrders = true := by kernel_rfl

def Gs : Ir Tryz.prog 165 [] [] 3 := ⟨_, _, Tryz.func165, EC, by kernel_rfl, Ah [] Tryz.progTables (by conv => lhs; cbv) (by kernel_rfl)⟩
def Gr : Ir Tryz.prog 119 [] [] 2 := ⟨_, _, Tryz.func119, EC, by kernel_rfl, Ah [] Tryz.progTables (by conv => lhs; cbv) (by kernel_rfl)⟩
def Kh : Ir Tryz.prog 118 [] [] 1 := ⟨_, _, Tryz.func118, EC, by kernel_rfl, Ah [] Tryz.progTables (by conv => lhs; cbv) (by kernel_rfl)⟩
def I5 : Ir Tryz.prog 148 [] [] 2 := ⟨_, _, Tryz.func148, EC, by kernel_rfl, Ah [] Tryz.progTables (by conv => lhs; cbv) (by kernel_rfl)⟩
def Gp : Ir Tryz.prog 149 [] [] 3 := ⟨_, _, Tryz.func149, EC, by kernel_rfl, Ah [] Tryz.progTables (by conv => lhs; cbv) (by kernel_rfl)⟩
def GU : Ir Tryz.prog 83 [] [] 3 := ⟨_, _, Tryz.func83, EC, by kernel_rfl, Ah [] Tryz.progTables (by conv => lhs; cbv) (by kernel_rfl)⟩
def J0 : Ir Tryz.prog 85 [] [] 1 := ⟨_, _, Tryz.func85, EC, by kernel_rfl, Ah [] Tryz.progTables (by conv => lhs; cbv) (by kernel_rfl)⟩
end Go.Proofs.YtppjinmlfcokaaaGreat
set_option linter.unusedVariables false
set_option linter.unusedSimpArgs false
set_option maxRecDepth 100000
namespace Go.Proofs.YtppjinmlfcokaaaGreat
open Go.RowKit Go.Proofs.YtppjinmlfcokaaaGreat.Av Go.Proofs.YtppjinmlfcokaaaGreat.Ml
open Go.Proofs.YtppjinmlfcokaaaGreat.Av.AVal (av)

def hasName (q : Pat) (s : ByteArray) : Bool := (varsOf q.nodes).any fun x => decide (s = x)
def B5 (n : Node) (i : Nat) (s : ByteArray) : Bool :=
 if n.kind = 5 ∨ n.kind = 8 then decide (n.s = s)
 else if n.kind = 7 ∨ n.kind = 15 then decide ((i : Int) = 1) && decide (n.s = s)
 else if n.kind = 13 then decide (0 < (i : Int)) && hasName (n.Ai.getD (i - 1) default) s
 else false
mutual
def DW (s : ByteArray) : Tr → Nat
 | .mk n ks => if n.kind = 3 then (if n.s = s then 1 else 0) else FJ s n 0 ks
def FJ (s : ByteArray) (n : Node) : Nat → List Tr → Nat
 | _, [] => 0
 | i, t :: ts => (if B5 n i s then 0 else DW s t) + FJ s n (i + 1) ts
end
theorem WA {s : ByteArray} {n : Node} : ∀ {ks : List Tr} {i : Nat}, (∀ k ∈ ks, DW s k ≤ k.size) → FJ s n i ks ≤ Tr.AM ks
 | [], i, _ => by rw [FJ]; exact Nat.zero_le _
 | t :: ts, i, h => by
  rw [FJ, Tr.AM]
  have h1 := h t (by simp)
  have h2 := WA (s := s) (n := n) (ks := ts) (i := i + 1) fun k hk => h k (by simp [hk])
  split <;> omega
theorem Aeo (s : ByteArray) : ∀ t, DW s t ≤ t.size := Tr.ind fun n ks ih => by
 rw [DW, Tr.size]
 have := WA (s := s) (n := n) (ks := ks) (i := 0) ih
 repeat' split
 all_goals omega

theorem Om (q : Pat) (s : ByteArray) (hx : Ac.bulk q ≤ 4294967296) : Ak Tryz.prog 148 [av q, .str s] (.bool (hasName q s)) := by
 obtain ⟨l⟩ := q
 have hl := Ag l
 have hb : Ac.bulk l + 1 ≤ 4294967296 := hx
 refine I5.F rfl (by simp; exact ⟨AVal.clean _, Ae.str _⟩) (Ae.bool _) ?_
 simp +contextual -dsimp only [↓SD, SU, simprocAttr, I5, Cc, Aa]
 refine Am (X := Nat) (fun k => ⟨[(1, .str s), (8, .sl (l.map av)), (9, .int .i64 l.length), (10, .int .i64 k)], []⟩) (fun k => k ≤ l.length ∧ ((varsOf (l.take k)).any fun x => decide (s = x)) = false) (fun k => l.length - k) 0 ⟨Nat.zero_le _, rfl⟩ (by simp +contextual -dsimp only [↓SD, SU, simprocAttr]) trivial ?_
 rintro k ⟨hk, hp⟩
 by_cases hlt : k < l.length
 ·have e := getD_map av l k .top hlt
  have hv := Ku hlt
  have hm := List.getElem_mem hlt
  have hin : l[k].kind = 2 → s = l[k].s → hasName ⟨l⟩ s = true := fun h1 h2 => by
   simp only [hasName, List.any_eq_true, decide_eq_true_eq]
   exact ⟨l[k].s, by simp only [varsOf, List.mem_filterMap]; exact ⟨l[k], hm, by rw [if_pos h1]⟩, h2⟩
  generalize l[k] = a at *
  simp +contextual -dsimp only [↓SD, SU, simprocAttr, Aa, hlt, e, A3]
  (repeat' (first | intro _ | refine And.intro ?_ ?_))
  all_goals first | omega | skip
  ·rename_i h1 h2
   rw [hin h1 h2.symm]
  ·rename_i h1 h2
   exact Af.le ⟨k + 1, ⟨⟨hlt, by rw [hv, if_pos h1, List.any_append, hp]; simp [Ne.symm h2]⟩, (by first | omega | (simp only; omega))⟩, rfl⟩ (by simp +contextual -dsimp only [↓SD, SU, simprocAttr, Int.natCast_add]) trivial
  ·rename_i h1
   exact Af.le ⟨k + 1, ⟨⟨hlt, by rw [hv, if_neg h1, List.append_nil, hp]⟩, (by first | omega | (simp only; omega))⟩, rfl⟩ (by simp +contextual -dsimp only [↓SD, SU, simprocAttr, Int.natCast_add]) trivial
 ·obtain rfl : k = l.length := by omega
  rw [List.take_length] at hp
  simp +contextual -dsimp only [↓SD, SU, simprocAttr, Aa, Nat.lt_irrefl]
  simp only [hasName, hp]

theorem WU (n : Node) (ks : List Tr) (i : Nat) (s : ByteArray) (hn : Ac.bulk n ≤ 4294967296) (hi : i ≤ 4294967296) (h13 : n.kind = 13 → i ≤ n.Ai.length) : Ak Tryz.prog 165 [av (Tr.mk n ks), .int .i64 i, .str s] (.bool (B5 n i s)) := by
 refine Gs.F rfl (by simp; exact ⟨AVal.clean _, Bo _, Ae.str _⟩) (Ae.bool _) ?_
 by_cases h : n.kind = 13 ∧ 0 < i
 ·obtain ⟨h1, h2⟩ := h
  obtain ⟨j, rfl⟩ : ∃ j, i = j + 1 := ⟨i - 1, by omega⟩
  have hlt : j < n.Ai.length := by have := h13 h1; omega
  have hj : ((j + 1 : Nat) : Int) - 1 = j := by omega
  have hj0 : (0 : Int) < ((j + 1 : Nat) : Int) := by omega
  have e := getD_map av n.Ai j .top hlt
  have hb : Ac.bulk n = Ac.bulk n.kind + Ac.bulk n.pos + Ac.bulk n.n + Ac.bulk n.s + Ac.bulk n.kids + Ac.bulk n.Ai + 1 := rfl
  have hm := AG (List.getElem_mem hlt)
  have hd : n.Ai.getD j default = n.Ai[j] := by simp [List.getD_eq_getElem?_getD, hlt]
  have hv : B5 n (j + 1) s = hasName n.Ai[j] s := by simp [B5, h1, hlt]
  have hq : Ac.bulk n.Ai[j] = Ac.bulk n.Ai[j].nodes + 1 := rfl
  have hl := Ue n.Ai[j]
  have C1 := Vi n.Ai[j].nodes (by omega)
  have C2 := Gc (varsOf n.Ai[j].nodes) s (by omega)
  rw [hv]
  clear hv
  generalize n.Ai[j] = q at *
  simp +contextual -dsimp only [↓SD, SU, simprocAttr, Gs, FK, Aa, h1, hj, hj0, hlt, e, Cc]
  (repeat' (first | intro _ | refine And.intro ?_ ?_))
  all_goals first | omega | skip
  refine Ab _ C1 ?_
  simp +contextual -dsimp only [↓SD, SU, simprocAttr]
  refine Ab _ C2 ?_
  simp +contextual -dsimp only [↓SD, SU, simprocAttr, hasName]
 ·simp +contextual -dsimp only [↓SD, SU, simprocAttr, Gs, FK, Aa]
  (repeat' (first | intro _ | refine And.intro ?_ ?_))
  all_goals first | omega | (exact absurd ⟨‹_›, by omega⟩ h) | (simp [B5, *]; done) | (simp [B5, *]; omega) | trace_state
theorem VQ (n : Node) (i : Nat) (s : ByteArray) (hn : Ac.bulk n ≤ 4294967296) (hi : i ≤ 4294967296) (h13 : n.kind = 13 → i ≤ n.Ai.length) : Ak Tryz.prog 149 [av n, .int .i64 i, .str s] (.bool (B5 n i s)) := by
 refine Gp.F rfl (by simp; exact ⟨AVal.clean _, Bo _, Ae.str _⟩) (Ae.bool _) ?_
 by_cases h : n.kind = 13 ∧ 0 < i
 ·obtain ⟨h1, h2⟩ := h
  obtain ⟨j, rfl⟩ : ∃ j, i = j + 1 := ⟨i - 1, by omega⟩
  have hlt : j < n.Ai.length := by have := h13 h1; omega
  have hj : ((j + 1 : Nat) : Int) - 1 = j := by omega
  have hj0 : (0 : Int) < ((j + 1 : Nat) : Int) := by omega
  have e := getD_map av n.Ai j .top hlt
  have hb : Ac.bulk n = Ac.bulk n.kind + Ac.bulk n.pos + Ac.bulk n.n + Ac.bulk n.s + Ac.bulk n.kids + Ac.bulk n.Ai + 1 := rfl
  have hm := AG (List.getElem_mem hlt)
  have hv : B5 n (j + 1) s = hasName n.Ai[j] s := by simp [B5, h1, hlt]
  have C1 := Om n.Ai[j] s (by omega)
  rw [hv]
  clear hv
  generalize n.Ai[j] = q at *
  rw [Cc] at C1
  simp +contextual -dsimp only [↓SD, SU, simprocAttr, Gp, Ay, Aa, h1, hj, hj0, hlt, e, Cc]
  (repeat' (first | intro _ | refine And.intro ?_ ?_))
  all_goals first | omega | skip
  refine Ab _ C1 ?_
  simp +contextual -dsimp only [↓SD, SU, simprocAttr]
 ·simp +contextual -dsimp only [↓SD, SU, simprocAttr, Gp, Ay, Aa]
  (repeat' (first | intro _ | refine And.intro ?_ ?_))
  all_goals first | omega | (exact absurd ⟨‹_›, by omega⟩ h) | (simp [B5, *]; done) | (simp [B5, *]; omega) | trace_state

theorem Adj (s : ByteArray) (hs : s.size ≤ 4294967296) : ∀ t : Tr, t.ok → t.size ≤ 4294967296 → Ak Tryz.prog 119 [av t, .str s] (.int .i64 (DW s t)) := Tr.ind fun n ks ih hok hsz => by
 rw [Tr.ok] at hok
 rw [Tr.size] at hsz
 obtain ⟨⟨k3, k13, kb⟩, koks⟩ := hok
 have hlen := CD ks
 refine Gr.F rfl (by simp; exact ⟨AVal.clean _, Ae.str _⟩) (Bo _) ?_
 by_cases h3 : n.kind = 3
 ·simp +contextual -dsimp only [↓SD, SU, simprocAttr, Gr, FK, Aa, h3]
  (repeat' (first | intro _ | refine And.intro ?_ ?_))
  all_goals rw [DW, if_pos h3]; simp [*]
 ·simp +contextual -dsimp only [↓SD, SU, simprocAttr, Gr, FK, Aa, h3]
  refine Am (X := Nat × Nat) (fun x => ⟨[(0, .obj [.int .i64 n.kind, .int .i64 n.pos, .int .i64 n.n, .str n.s, .sl (ks.map av), .sl (n.Ai.map av)]), (1, .str s), (5, .int .i64 x.2), (22, .sl (ks.map av)), (23, .int .i64 ks.length), (24, .int .i64 x.1)], []⟩) (fun x => x.1 ≤ ks.length ∧ DW s (.mk n ks) = x.2 + FJ s n x.1 (ks.drop x.1)) (fun x => ks.length - x.1) (0, 0) ⟨Nat.zero_le _, by rw [DW, if_neg h3, List.drop_zero]; simp⟩ (by simp +contextual -dsimp only [↓SD, SU, simprocAttr]) trivial ?_
  rintro ⟨k, c⟩ ⟨hk, hc⟩
  simp only at hk hc
  have hle := Aeo s (.mk n ks)
  rw [Tr.size] at hle
  by_cases hlt : k < ks.length
  ·have e := getD_map av ks k .top hlt
   have hm := List.getElem_mem hlt
   have hsm := Cr hm
   have C1 := WU n ks k s kb (by omega) (fun h => by have := k13 h; omega)
   have C2 := ih ks[k] hm (Tw koks hm) (by omega)
   rw [List.drop_eq_getElem_cons hlt, FJ] at hc
   rw [FK] at C1
   cases hb : B5 n k s with
   | true =>
    rw [hb] at C1 hc
    rw [if_pos rfl] at hc
    generalize ks[k] = t at *
    simp +contextual -dsimp only [↓SD, SU, simprocAttr, Aa, hlt, e, Pb]
    refine Ab _ C1 ?_
    simp +contextual -dsimp only [↓SD, SU, simprocAttr]
    refine ⟨by omega, Af.le ⟨(k + 1, c), ⟨⟨hlt, by simp only; omega⟩, (by first | omega | (simp only; omega))⟩, rfl⟩ (by simp +contextual -dsimp only [↓SD, SU, simprocAttr, Int.natCast_add]) trivial⟩
   | false =>
    rw [hb] at C1 hc
    rw [if_neg Bool.false_ne_true] at hc
    generalize ks[k] = t at *
    simp +contextual -dsimp only [↓SD, SU, simprocAttr, Aa, hlt, e, Pb]
    refine Ab _ C1 ?_
    simp +contextual -dsimp only [↓SD, SU, simprocAttr, OW]
    refine Ab _ C2 ?_
    simp +contextual -dsimp only [↓SD, SU, simprocAttr]
    refine ⟨by omega, by omega, Af.le ⟨(k + 1, c + DW s t), ⟨⟨hlt, by simp only; omega⟩, (by first | omega | (simp only; omega))⟩, rfl⟩ (by simp +contextual -dsimp only [↓SD, SU, simprocAttr, Int.natCast_add]) trivial⟩
  ·obtain rfl : k = ks.length := by omega
   rw [List.drop_length, FJ] at hc
   simp +contextual -dsimp only [↓SD, SU, simprocAttr, Aa, Nat.lt_irrefl]
   rw [hc]; simp
end Go.Proofs.YtppjinmlfcokaaaGreat

/-
 NAMELESS FORMS OF EXPRESSIONS, told plainly. Conditions: none.
-/
import Derived.Test.YtppjinmlfcokaaaGreatVJ12
import Derived.Test.YtppjinmlfcokaaaGreatProg
import Derived.Test.YtppjinmlfcokaaaGreatVAvDraw
import Derived.Test.YtppjinmlfcokaaaGreatVJ10
import Derived.Test.YtppjinmlfcokaaaGreatVJ07
set_option linter.unusedVariables false
namespace Go.Proofs.YtppjinmlfcokaaaGreat
open Go.RowKit Go.Proofs.YtppjinmlfcokaaaGreat.Av Go.Proofs.YtppjinmlfcokaaaGreat.Ml
open Go.Proofs.YtppjinmlfcokaaaGreat.Av.AVal (av)

def Ad1 (k : Int) : Bool := decide (k = 5) || decide (k = 7) || decide (k = 8) || decide (k = 15)
mutual
def Tr.wt : Tr → Nat
 | .mk n ks => 1 + (n.Ae.map fun q => (varsOf q.nodes).length).sum + Tr.wts ks
def Tr.wts : List Tr → Nat
 | [] => 0
 | t :: ts => t.wt + Tr.wts ts
end
mutual
def Tr.pne : Tr → Prop
 | .mk n ks => (∀ q ∈ n.Ae, q.nodes ≠ []) ∧ Tr.AeG ks
def Tr.AeG : List Tr → Prop
 | [] => True
 | t :: ts => t.pne ∧ Tr.AeG ts
end
end Go.Proofs.YtppjinmlfcokaaaGreat
set_option linter.unusedVariables false
namespace Go.Proofs.YtppjinmlfcokaaaGreat
open Go.RowKit Go.Proofs.YtppjinmlfcokaaaGreat.Av Go.Proofs.YtppjinmlfcokaaaGreat.Ml
open Go.Proofs.YtppjinmlfcokaaaGreat.Av.AVal (av)

def Dd : Nat → List Tr → List Int
 | _, [] => []
 | b, t :: ts => (b : Int) :: Dd (b + t.size) ts
mutual
def Bz : Nat → Tr → List Node
 | b, .mk n ks => { n with kids := Dd (b + 1) ks } :: BD (b + 1) ks
def BD : Nat → List Tr → List Node
 | _, [] => []
 | b, t :: ts => Bz b t ++ BD (b + t.size) ts
end
theorem R8 {ks : List Tr} (h : ∀ k ∈ ks, ∀ b, (Bz b k).length = k.size) : ∀ b, (BD b ks).length = Tr.AJ ks := by
 induction ks with
 | nil => intro b; rw [BD, Tr.AJ]; rfl
 | cons k ks ih =>
  intro b
  rw [BD, Tr.AJ, List.length_append, h k (by simp), ih (fun k hk => h k (by simp [hk]))]
theorem Dm : ∀ (t : Tr) (b : Nat), (Bz b t).length = t.size := Tr.ind fun n ks ih b => by
 rw [Bz, Tr.size, List.length_cons, R8 ih]
theorem Jl (b : Nat) (ks : List Tr) : (BD b ks).length = Tr.AJ ks := R8 (fun k _ b => Dm k b) b
theorem LM : ∀ (b : Nat) (ks : List Tr) (k : Tr), BD b (ks ++ [k]) = BD b ks ++ Bz (b + Tr.AJ ks) k
 | b, [], k => by simp [BD, Tr.AJ]
 | b, t :: ts, k => by
  rw [List.cons_append, BD, BD, Tr.AJ, LM, List.append_assoc, Nat.add_assoc]
theorem Nu : ∀ (b : Nat) (ks : List Tr) (k : Tr), Dd b (ks ++ [k]) = Dd b ks ++ [((b + Tr.AJ ks : Nat) : Int)]
 | b, [], k => by simp [Dd, Tr.AJ]
 | b, t :: ts, k => by
  rw [List.cons_append, Dd, Dd, Tr.AJ, Nu, List.cons_append, Nat.add_assoc]
theorem ED : ∀ (b : Nat) (ks : List Tr), (Dd b ks).length = ks.length
 | b, [] => rfl
 | b, t :: ts => by rw [Dd, List.length_cons, List.length_cons, ED]
theorem Nn : ∀ (ks : List Tr) (k : Tr), Tr.AJ (ks ++ [k]) = Tr.AJ ks + k.size
 | [], k => by simp [Tr.AJ]
 | t :: ts, k => by rw [List.cons_append, Tr.AJ, Tr.AJ, Nn]; omega
theorem Jf : ∀ (ks : List Tr) (j : Nat) (h : j < ks.length), Tr.AJ (ks.take j) + (ks[j]).size ≤ Tr.AJ ks
 | t :: ts, 0, h => by simp [Tr.AJ]
 | t :: ts, j + 1, h => by
  have := Jf ts j (by simpa using h)
  simp only [List.take_succ_cons, Tr.AJ, List.getElem_cons_succ]
  omega
end Go.Proofs.YtppjinmlfcokaaaGreat
set_option linter.unusedVariables false
namespace Go.Proofs.YtppjinmlfcokaaaGreat
open Go.RowKit Go.Proofs.YtppjinmlfcokaaaGreat.Av Go.Proofs.YtppjinmlfcokaaaGreat.Ml
open Go.Proofs.YtppjinmlfcokaaaGreat.Av.AVal (av)

def shT (s : Int) (n : Node) : Node := { n with kids := n.kids.map (· + s) }
theorem XN (l : List Node) {a b c : Nat} (h1 : a ≤ b) (h2 : b ≤ c) : (l.drop a).take (c - a) = (l.drop a).take (b - a) ++ (l.drop b).take (c - b) := by
 have e : c - a = (b - a) + (c - b) := by omega
 rw [e, List.take_add, List.drop_drop]
 congr 3
 omega
theorem VZ {l : List Node} {n f : Nat} (ih : ∀ (a m b : Nat) (s : Int), B9 (Aq l) n f a = some m → (b : Int) - a = s → Bz b (Bw l f a) = ((l.drop a).take (m - a)).map (shT s)) (hn : n = l.length) :
  ∀ (ks : List Int) (nx m b : Nat) (s : Int), nx ≤ n → BR (B9 (Aq l) n f) ks nx = some m → (b : Int) - nx = s →
   BD b (ks.map fun k => Bw l f k.toNat) = ((l.drop nx).take (m - nx)).map (shT s) ∧ Dd b (ks.map fun k => Bw l f k.toNat) = ks.map (· + s)
 | [], nx, m, b, s, hl, h, hs => by
  rw [BR] at h; cases h
  rw [List.map_nil, BD, Dd]; simp
 | k :: ks, nx, m, b, s, hl, h, hs => by
  rw [BR] at h
  split at h
  ·rename_i hk
   cases he : B9 (Aq l) n f nx with
   | none => rw [he] at h; cases h
   | some m1 =>
    rw [he] at h
    simp only at h
    have h1 := HS (Aq l) n f nx m1 he
    have h2 := OV (HS (Aq l) n f) h h1.2
    have hz := Nx l f nx m1 (hn ▸ he)
    have hk2 : k.toNat = nx := by omega
    rw [List.map_cons, BD, Dd, hk2]
    generalize hT : Bw l f nx = T at *
    have e1 := ih nx m1 b s he hs
    rw [hT] at e1
    obtain ⟨e2, e3⟩ := VZ ih hn ks m1 m (b + T.size) s h1.2 h (by omega)
    rw [e1, e2, e3, XN l (show nx ≤ m1 by omega) h2.1, List.map_append]
    refine ⟨rfl, ?_⟩
    rw [List.map_cons]
    congr 1
    omega
  ·cases h
theorem Z7 {l : List Node} {n : Nat} (hn : n = l.length) : ∀ (f a m b : Nat) (s : Int), B9 (Aq l) n f a = some m → (b : Int) - a = s → Bz b (Bw l f a) = ((l.drop a).take (m - a)).map (shT s)
 | 0, a, m, b, s, h, _ => by rw [B9] at h; cases h
 | f + 1, a, m, b, s, h, hs => by
  have hm := HS (Aq l) n (f + 1) a m h
  rw [B9] at h
  split at h
  ·rename_i hl
   obtain ⟨e1, e2⟩ := VZ (fun a m b s => Z7 hn f a m b s) hn (Aq l a) (a + 1) m (b + 1) s (by omega) h (by omega)
   have hal : a < l.length := by omega
   rw [Bw, Bz, e1, e2]
   have ed : l.drop a = l[a] :: l.drop (a + 1) := List.drop_eq_getElem_cons hal
   have hg : l.getD a default = l[a] := by simp [List.getD_eq_getElem?_getD, hal]
   have hk : Aq l a = l[a].kids := by rw [Aq, hg]
   obtain ⟨c, hc⟩ : ∃ c, m - a = c + 1 := ⟨m - a - 1, by omega⟩
   have hc2 : m - (a + 1) = c := by omega
   rw [ed, hc, hc2, List.take_succ_cons, List.map_cons, hk, hg]
   rfl
  ·cases h
theorem PZ {l : List Node} (h : Fh (Aq l) l.length = true) : Bz 0 (Al l 0) = l := by
 have h1 := of_decide_eq_true h
 have h2 := Z7 (l := l) rfl _ 0 l.length 0 0 h1 rfl
 have hid : ∀ n : Node, shT 0 n = n := fun n => by
  obtain ⟨a, b, c, d, e, f⟩ := n
  simp [shT]
 rw [Al]
 have hl : 0 < l.length := by
  cases hl : l.length with
  | zero => rw [hl] at h1; simp [B9] at h1
  | succ n => omega
 rw [MW l (fun i hi k hk => Ef h hi hk) l.length (l.length + 1) 0 hl (Nat.le_refl _) (by omega), h2, List.drop_zero, Nat.sub_zero, List.take_length, List.map_congr_left (g := id) fun n _ => hid n, List.map_id]
def Ew (n : Node) (m : Nat) : Nat := 6 + n.s.size + m + Ac.bulk n.Ae
mutual
def Tr.bulk : Tr → Nat
 | .mk n ks => Ew n ks.length + Tr.Ok ks
def Tr.Ok : List Tr → Nat
 | [] => 0
 | t :: ts => t.bulk + Tr.Ok ts
end
theorem Ja (n : Node) : Ac.bulk n = Ew n n.kids.length := by
 have h1 : Ac.bulk n = Ac.bulk n.kind + Ac.bulk n.pos + Ac.bulk n.n + (n.s.size + 1) + Ac.bulk n.kids + Ac.bulk n.Ae + 1 := rfl
 have h2 : Ac.bulk n.kind = 1 := rfl
 have h3 : Ac.bulk n.pos = 1 := rfl
 have h4 : Ac.bulk n.n = 1 := rfl
 rw [h1, M6, Ew]; omega
theorem SL {α : Type} [Ac α] : ∀ a b : List α, Ac.bulk (a ++ b) + 1 = Ac.bulk a + Ac.bulk b
 | [], b => by show Ac.bulk b + 1 = 1 + Ac.bulk b; omega
 | x :: a, b => by
  have h := SL a b
  show Ac.bulk x + Ac.bulk (a ++ b) + 1 = Ac.bulk x + Ac.bulk a + Ac.bulk b
  omega
theorem Yb {ks : List Tr} (h : ∀ k ∈ ks, ∀ b, Ac.bulk (Bz b k) = k.bulk + 1) : ∀ b, Ac.bulk (BD b ks) = Tr.Ok ks + 1 := by
 induction ks with
 | nil => intro b; rw [BD, Tr.Ok]; rfl
 | cons k ks ih =>
  intro b
  have h1 := SL (Bz b k) (BD (b + k.size) ks)
  rw [h k (by simp), ih (fun k hk => h k (by simp [hk]))] at h1
  rw [BD, Tr.Ok]; omega
theorem AbI : ∀ (t : Tr) (b : Nat), Ac.bulk (Bz b t) = t.bulk + 1 := Tr.ind fun n ks ih b => by
 have h1 := Ja ({ n with kids := Dd (b + 1) ks })
 have h2 : Ac.bulk (Bz b (.mk n ks)) = Ac.bulk ({ n with kids := Dd (b + 1) ks } : Node) + Ac.bulk (BD (b + 1) ks) := by rw [Bz]; rfl
 rw [h2, h1, Yb ih, Tr.bulk]
 simp only [Ew, ED]; omega
end Go.Proofs.YtppjinmlfcokaaaGreat
set_option linter.unusedVariables false
namespace Go.Proofs.YtppjinmlfcokaaaGreat
open Go.RowKit Go.Proofs.YtppjinmlfcokaaaGreat.Av Go.Proofs.YtppjinmlfcokaaaGreat.Ml
open Go.Proofs.YtppjinmlfcokaaaGreat.Av.AVal (av)

mutual
def Tr.all (P : Node → Prop) : Tr → Prop
 | .mk n ks => P n ∧ Tr.Ab9 P ks
def Tr.Ab9 (P : Node → Prop) : List Tr → Prop
 | [] => True
 | t :: ts => t.all P ∧ Tr.Ab9 P ts
end
theorem AaT {P : Node → Prop} : ∀ {ks : List Tr}, (∀ k ∈ ks, k.all P) → Tr.Ab9 P ks
 | [], _ => by rw [Tr.Ab9]; trivial
 | t :: ts, h => by rw [Tr.Ab9]; exact ⟨h t (by simp), AaT fun k hk => h k (by simp [hk])⟩
theorem O1 {P : Node → Prop} {l : List Node} (hk : ∀ i, i < l.length → ∀ k ∈ Aq l i, (i : Int) < k ∧ k < l.length) (hn : ∀ n ∈ l, P n) : ∀ (f i : Nat), i < l.length → l.length - i ≤ f → (Bw l f i).all P
 | 0, i, hi, hf => by omega
 | f + 1, i, hi, hf => by
  rw [Bw, Tr.all]
  have e : l.getD i default = l[i] := by simp [List.getD_eq_getElem?_getD, hi]
  refine ⟨e ▸ hn _ (List.getElem_mem hi), AaT fun t ht => ?_⟩
  obtain ⟨k, hk', rfl⟩ := List.mem_map.1 ht
  have := hk i hi k hk'
  exact O1 hk hn f k.toNat (by omega) (by omega)
def ZZ (n : Node) : Prop := (n.kind = 3 → n.Ae = []) ∧ (∀ q ∈ n.Ae, q.nodes ≠ []) ∧ (Ad1 n.kind = true → 1 ≤ n.s.size) ∧ ∀ q ∈ n.Ae, ∀ x ∈ q.nodes, x.kind = 2 → 1 ≤ x.s.size
theorem AfE : ∀ t : Tr, t.all ZZ → t.pne := Tr.ind fun n ks ih h => by
 rw [Tr.all] at h
 rw [Tr.pne]
 refine ⟨h.1.2.1, ?_⟩
 have h2 := h.2
 clear h
 induction ks with
 | nil => rw [Tr.AeG]; trivial
 | cons t ts ih2 =>
  rw [Tr.Ab9] at h2
  rw [Tr.AeG]
  exact ⟨ih t (by simp) h2.1, ih2 (fun k hk => ih k (by simp [hk])) h2.2⟩
theorem GA {α : Type} [Ac α] : ∀ l : List α, Ac.bulk l = (l.map Ac.bulk).sum + 1
 | [] => rfl
 | a :: l => by
  have := GA l
  show Ac.bulk a + Ac.bulk l = _
  rw [this, List.map_cons, List.sum_cons]; omega
theorem Aen (l : List Bg) : 5 * (varsOf l).length + 1 ≤ Ac.bulk l := by
 rw [GA]
 have h1 := List.length_filterMap_le (fun n : Bg => if n.kind = 2 then some n.s else none) l
 have h2 : 5 * l.length ≤ (l.map Ac.bulk).sum := by
  clear h1
  induction l with
  | nil => exact Nat.le_refl _
  | cons x l ih =>
   have h3 : Ac.bulk x = Ac.bulk x.kind + Ac.bulk x.n + (x.s.size + 1) + Ac.bulk x.kids + 1 := rfl
   have h4 : Ac.bulk x.kind = 1 := rfl
   have h5 : Ac.bulk x.n = 1 := rfl
   have h6 := M6 x.kids
   simp only [List.map_cons, List.sum_cons, List.length_cons]; omega
 unfold varsOf
 omega
theorem Ud : ∀ {ks : List Tr}, (∀ k ∈ ks, 5 * k.wt ≤ k.bulk) → 5 * Tr.wts ks ≤ Tr.Ok ks
 | [], _ => by rw [Tr.wts, Tr.Ok]; exact Nat.le_refl _
 | t :: ts, h => by
  have h1 := h t (by simp)
  have h2 := Ud (ks := ts) (fun k hk => h k (by simp [hk]))
  rw [Tr.wts, Tr.Ok]; omega
theorem Aeh : ∀ t : Tr, 5 * t.wt ≤ t.bulk := Tr.ind fun n ks ih => by
 have h1 := Ud ih
 have h2 : 5 * (n.Ae.map fun q => (varsOf q.nodes).length).sum ≤ Ac.bulk n.Ae := by
  rw [GA]
  have : ∀ l : List Pat, 5 * (l.map fun q => (varsOf q.nodes).length).sum ≤ (l.map Ac.bulk).sum := by
   intro l
   induction l with
   | nil => exact Nat.le_refl _
   | cons q l ih =>
    have h3 := Aen q.nodes
    have h4 : Ac.bulk q = Ac.bulk q.nodes + 1 := rfl
    simp only [List.map_cons, List.sum_cons]; omega
  have := this n.Ae
  omega
 rw [Tr.wt, Tr.bulk, Ew]; omega
end Go.Proofs.YtppjinmlfcokaaaGreat
set_option linter.unusedVariables false
set_option maxRecDepth 100000
namespace Go.Proofs.YtppjinmlfcokaaaGreat
open Go.Proofs.YtppjinmlfcokaaaGreat.Av

theorem BW : Tryz.prog.follows .mixedOrders = true := by kernel_rfl

def Lr : Ir Tryz.prog 153 [] [] 1 := ⟨_, _, Tryz.func153, BW, by kernel_rfl, Aj [] Tryz.progTables (by conv => lhs; cbv) (by kernel_rfl)⟩
def DB : Ir Tryz.prog 95 [] [] 3 := ⟨_, _, Tryz.func95, BW, by kernel_rfl, Aj [] Tryz.progTables (by conv => lhs; cbv) (by kernel_rfl)⟩
def EH : Ir Tryz.prog 98 [] [] 1 := ⟨_, _, Tryz.func98, BW, by kernel_rfl, Aj [] Tryz.progTables (by conv => lhs; cbv) (by kernel_rfl)⟩
def Ft : Ir Tryz.prog 47 [] [] 2 := ⟨_, _, Tryz.func47, BW, by kernel_rfl, Aj [] Tryz.progTables (by conv => lhs; cbv) (by kernel_rfl)⟩
def Ii : Ir Tryz.prog 94 [] [] 2 := ⟨_, _, Tryz.func94, BW, by kernel_rfl, Aj [] Tryz.progTables (by conv => lhs; cbv) (by kernel_rfl)⟩
def Ih : Ir Tryz.prog 97 [] [] 1 := ⟨_, _, Tryz.func97, BW, by kernel_rfl, Aj [] Tryz.progTables (by conv => lhs; cbv) (by kernel_rfl)⟩
def Iq : Ir Tryz.prog 22 [] [] 1 := ⟨_, _, Tryz.func22, BW, by kernel_rfl, Aj [] Tryz.progTables (by conv => lhs; cbv) (by kernel_rfl)⟩
def Hc : Ir Tryz.prog 48 [] [] 1 := ⟨_, _, Tryz.func48, BW, by kernel_rfl, Aj [] Tryz.progTables (by conv => lhs; cbv) (by kernel_rfl)⟩
def Hb : Ir Tryz.prog 51 [] [] 1 := ⟨_, _, Tryz.func51, BW, by kernel_rfl, Aj [] Tryz.progTables (by conv => lhs; cbv) (by kernel_rfl)⟩
def JF : Ir Tryz.prog 132 [] [] 1 := ⟨_, _, Tryz.func132, BW, by kernel_rfl, Aj [] Tryz.progTables (by conv => lhs; cbv) (by kernel_rfl)⟩
def AK : Ir Tryz.prog 63 [] [] 2 := ⟨_, _, Tryz.func63, BW, by kernel_rfl, Aj [] Tryz.progTables (by conv => lhs; cbv) (by kernel_rfl)⟩
def G0 : Ir Tryz.prog 64 [] [] 2 := ⟨_, _, Tryz.func64, BW, by kernel_rfl, Aj [] Tryz.progTables (by conv => lhs; cbv) (by kernel_rfl)⟩
def FW : Ir Tryz.prog 62 [] [] 2 := ⟨_, _, Tryz.func62, BW, by kernel_rfl, Aj [] Tryz.progTables (by conv => lhs; cbv) (by kernel_rfl)⟩
def F0 : Ir Tryz.prog 29 [] [] 1 := ⟨_, _, Tryz.func29, BW, by kernel_rfl, Aj [] Tryz.progTables (by conv => lhs; cbv) (by kernel_rfl)⟩
end Go.Proofs.YtppjinmlfcokaaaGreat
set_option linter.unusedVariables false
set_option maxRecDepth 100000
namespace Go.Proofs.YtppjinmlfcokaaaGreat
open Go.Proofs.YtppjinmlfcokaaaGreat.Av

theorem FI : Tryz.prog.follows .mixedOrders = true := by kernel_rfl

def Ls : Ir Tryz.prog 52 [] [] 1 := ⟨_, _, Tryz.func52, FI, by kernel_rfl, Aj [] Tryz.progTables (by conv => lhs; cbv) (by kernel_rfl)⟩
def JY : Ir Tryz.prog 104 [] [] 2 := ⟨_, _, Tryz.func104, FI, by kernel_rfl, Aj [] Tryz.progTables (by conv => lhs; cbv) (by kernel_rfl)⟩
def F5 : Ir Tryz.prog 105 [] [] 2 := ⟨_, _, Tryz.func105, FI, by kernel_rfl, Aj [] Tryz.progTables (by conv => lhs; cbv) (by kernel_rfl)⟩
def Lk : Ir Tryz.prog 131 [] [] 1 := ⟨_, _, Tryz.func131, FI, by kernel_rfl, Aj [] Tryz.progTables (by conv => lhs; cbv) (by kernel_rfl)⟩
def Dw : Ir Tryz.prog 170 [] [] 2 := ⟨_, _, Tryz.func170, FI, by kernel_rfl, Aj [] Tryz.progTables (by conv => lhs; cbv) (by kernel_rfl)⟩
def GZ : Ir Tryz.prog 171 [] [] 2 := ⟨_, _, Tryz.func171, FI, by kernel_rfl, Aj [] Tryz.progTables (by conv => lhs; cbv) (by kernel_rfl)⟩
end Go.Proofs.YtppjinmlfcokaaaGreat
set_option linter.unusedVariables false
set_option maxRecDepth 100000
namespace Go.Proofs.YtppjinmlfcokaaaGreat
open Go.Proofs.YtppjinmlfcokaaaGreat.Av

theorem MY : Tryz.prog.follows .mixedOrders = true := by kernel_rfl

def JX : Ir Tryz.prog 93 [(9,7777)] [] 2 := ⟨_, _, Tryz.func93, MY, by kernel_rfl, Aj [] Tryz.progTables (by conv => lhs; cbv) (by kernel_rfl)⟩
def Io : Ir Tryz.prog 152 [(29,7777)] [9999] 5 := ⟨_, _, Tryz.func152, MY, by kernel_rfl, Aj [] Tryz.progTables (by conv => lhs; cbv) (by kernel_rfl)⟩
end Go.Proofs.YtppjinmlfcokaaaGreat
set_option linter.unusedVariables false
set_option linter.unusedSimpArgs false
set_option maxRecDepth 100000
namespace Go.Proofs.YtppjinmlfcokaaaGreat
open Go.RowKit Go.Proofs.YtppjinmlfcokaaaGreat.Av Go.Proofs.YtppjinmlfcokaaaGreat.Ml
open Go.Proofs.YtppjinmlfcokaaaGreat.Av.AVal (av)

def Mm (n : Nat) (g : FuncId) (caps : List AV) (v5 v6 : Nat) (nx : Nat) : Hp :=
 [(5, ⟨v5, false, 3, 1, [.int .i64 nx]⟩), (6, ⟨v6, false, 185, 1, [.fn 152 [.ptr 5 v5 0 0, .obj [.int .i64 n], .obj [.fn g caps], .ptr 6 v6 0 0]]⟩)]
theorem EB (n : Nat) (g : FuncId) (caps : List AV) (v5 v6 : Nat) (nx : Nat) : Mm n g caps v5 v6 nx = [(5, ⟨v5, false, 3, 1, [.int .i64 nx]⟩), (6, ⟨v6, false, 185, 1, [.fn 152 [.ptr 5 v5 0 0, .obj [.int .i64 n], .obj [.fn g caps], .ptr 6 v6 0 0]]⟩)] := eqq rfl
def Jv (n : Nat) (g : FuncId) (caps : List AV) (v5 v6 : Nat) (o : Option Nat) (r : AV) (hp' : Hp) : Prop :=
 ∃ nx', r = .bool o.isSome ∧ hp' = Mm n g caps v5 v6 nx' ∧ (∀ m, o = some m → nx' = m)
theorem Jv.of {n : Nat} {g : FuncId} {caps : List AV} {v5 v6 nx : Nat} {o : Option Nat} {b : Bool} (h : o.isSome = b) (hm : ∀ m, o = some m → nx = m) : Jv n g caps v5 v6 o (.bool b) (Mm n g caps v5 v6 nx) := ⟨nx, by rw [h], rfl, hm⟩
theorem Aej (K : Nat → List Int) (n : Nat) (hn : n ≤ 4294967296) (g : FuncId) (caps : List AV) (hc : ∀ hp, caps.map (AV.B5 hp) = caps) (hK : ∀ i, i < n → (K i).length ≤ 4294967296 ∧ Ah Tryz.prog g (.int .i64 i :: caps) (.sl ((K i).map av))) (v5 v6 : Nat) :
  ∀ (f : Nat) (i : Int) (nx : Nat), nx ≤ n → n - nx < f → Bu Tryz.prog 152 [.int .i64 i, .ptr 5 v5 0 0, .obj [.int .i64 n], .obj [.fn g caps], .ptr 6 v6 0 0] (Mm n g caps v5 v6 nx) (Jv n g caps v5 v6 (IF K n f i nx)) := by
 intro f
 induction f with
 | zero => intro i nx _ h; omega
 | succ f ih =>
  intro i nx hnx hf
  refine Io.H rfl ?_
  simp +contextual -dsimp only [↓SD, SU, simprocAttr, Io, EB, hc]
  refine ⟨fun hi => ⟨fun hle => ?_, fun hle => ⟨by omega, ?_⟩⟩, fun hi => ?_⟩
  ·refine Af.post (Mm n g caps v5 v6 nx) ?_
   simp +contextual -dsimp only [↓SD, SU, simprocAttr, EB]
   refine Jv.of ?_ ?_ <;> simp [IF, B9, hi, Nat.not_lt.2 hle]
  ·obtain ⟨hk1, hk2⟩ := hK nx (by omega)
   refine Aa _ hk2 ?_
   simp +contextual -dsimp only [↓SD, SU, simprocAttr, Ab]
   refine Am (X := Nat × Nat) (fun x => ⟨[(4, .ptr 6 v6 0 0), (21, .sl ((K nx).map av)), (22, .int .i64 (K nx).length), (23, .int .i64 x.1)], Mm n g caps v5 v6 x.2⟩) (fun x => x.1 ≤ (K nx).length ∧ nx < x.2 ∧ x.2 ≤ n ∧ BR (B9 K n f) (K nx) (nx + 1) = BR (B9 K n f) ((K nx).drop x.1) x.2) (fun x => (K nx).length - x.1) (0, nx + 1) ⟨Nat.zero_le _, by simp, by simp only; omega, rfl⟩ (by simp +contextual -dsimp only [↓SD, SU, simprocAttr]) (by simp +contextual -dsimp only [↓SD, SU, simprocAttr, EB, Int.natCast_add]) ?_
   rintro ⟨j, m⟩ ⟨hj, hm1, hm2, he⟩
   simp only at hj hm1 hm2 he
   have hw : IF K n (f + 1) i nx = BR (B9 K n f) ((K nx).drop j) m := by
    rw [IF, if_pos hi, B9, if_pos (by omega), he]
   by_cases hlt : j < (K nx).length
   ·have e := getD_map av (K nx) j .top hlt
    rw [List.drop_eq_getElem_cons hlt, BR] at he
    have hw' : IF K n (f + 1) i nx = match IF K n f (K nx)[j] m with | some m' => BR (B9 K n f) ((K nx).drop (j + 1)) m' | none => none := by
     rw [hw, List.drop_eq_getElem_cons hlt, BR, IF]
     split <;> rfl
    have C := ih (K nx)[j] m hm2 (by omega)
    simp +contextual -dsimp only [↓SD, SU, simprocAttr, Ab, e, AA, hlt, EB, hc]
    refine Bx [5, 6] C (by simp +contextual -dsimp only [↓SD, SU, simprocAttr, EB]) ?_
    rintro r hp' ⟨nx', rfl, rfl, hnx'⟩
    cases ho : IF K n f (K nx)[j] m with
    | none =>
     rw [ho] at hw'
     simp +contextual -dsimp only [↓SD, SU, simprocAttr, ho, Option.isSome_none]
     refine Af.post (Mm n g caps v5 v6 nx') ?_
     simp +contextual -dsimp only [↓SD, SU, simprocAttr, EB]
     rw [hw']
     exact Jv.of rfl (fun m h => by cases h)
    | some m' =>
     rw [ho] at hw'
     obtain rfl := hnx' m' ho
     have hm' : m < nx' ∧ nx' ≤ n := by
      unfold IF at ho
      split at ho
      ·exact HS K n f m nx' ho
      ·cases ho
     simp +contextual -dsimp only [↓SD, SU, simprocAttr, ho, Option.isSome_some]
     refine ⟨by omega, Af.le ⟨(j + 1, nx'), ⟨⟨hlt, by simp only; omega, hm'.2, ?_⟩, (by first | omega | (simp only; omega))⟩, rfl⟩ (by simp +contextual -dsimp only [↓SD, SU, simprocAttr, Int.natCast_add]) (by simp +contextual -dsimp only [↓SD, SU, simprocAttr, EB])⟩
     rw [he]
     simp only at hw' ⊢
     rw [IF, if_pos hi, B9, if_pos (by omega), he] at hw'
     exact hw'
   ·obtain rfl : j = (K nx).length := by omega
    rw [List.drop_length, BR] at hw
    simp +contextual -dsimp only [↓SD, SU, simprocAttr, Ab, Nat.lt_irrefl]
    refine Af.post (Mm n g caps v5 v6 m) ?_
    simp +contextual -dsimp only [↓SD, SU, simprocAttr, EB]
    rw [hw]
    exact Jv.of rfl (fun m h => by cases h; rfl)
  ·refine Af.post (Mm n g caps v5 v6 nx) ?_
   simp +contextual -dsimp only [↓SD, SU, simprocAttr, EB]
   refine Jv.of ?_ ?_ <;> simp [IF, hi]

theorem P9 (K : Nat → List Int) (n : Nat) (hn : n ≤ 4294967296) (g : FuncId) (caps : List AV) (hp : ∀ x ∈ caps, Ad x) (hc : ∀ hp, caps.map (AV.B5 hp) = caps) (hK : ∀ i, i < n → (K i).length ≤ 4294967296 ∧ Ah Tryz.prog g (.int .i64 i :: caps) (.sl ((K i).map av))) :
  Ah Tryz.prog 93 [.int .i64 n, .fn g caps] (.bool (Fh K n)) := by
 refine JX.F rfl (by simp; exact ⟨BB _, Ad.fn hp⟩) (Ad.bool _) ?_
 simp +contextual -dsimp only [↓SD, SU, simprocAttr, JX, hc]
 intro v5 v6
 have C := Aej K n hn g caps hc hK v5 v6 (n + 1) 0 0 (Nat.zero_le _) (by omega)
 refine Bx [5, 6] C (by simp +contextual -dsimp only [↓SD, SU, simprocAttr, EB]) ?_
 rintro r hp' ⟨nx', rfl, rfl, hnx'⟩
 have e0 : IF K n (n + 1) 0 0 = B9 K n (n + 1) 0 := by rw [IF, if_pos (by rfl)]
 rw [e0] at hnx' ⊢
 cases ho : B9 K n (n + 1) 0 with
 | none =>
  simp +contextual -dsimp only [↓SD, SU, simprocAttr, ho, Option.isSome_none]
  simp [Fh, ho]
 | some m =>
  obtain rfl := hnx' m ho
  simp +contextual -dsimp only [↓SD, SU, simprocAttr, ho, Option.isSome_some, EB]
  simp [Fh, ho]
end Go.Proofs.YtppjinmlfcokaaaGreat
set_option linter.unusedVariables false
set_option linter.unusedSimpArgs false
set_option maxRecDepth 100000
namespace Go.Proofs.YtppjinmlfcokaaaGreat
open Go.RowKit Go.Proofs.YtppjinmlfcokaaaGreat.Av Go.Proofs.YtppjinmlfcokaaaGreat.Ml
open Go.Proofs.YtppjinmlfcokaaaGreat.Av.AVal (av)

set_option maxHeartbeats 4000000 in
theorem Tu (l : List Bg) (n : Bg) (hl : l.length ≤ 4294967296) (hk : n.kids.length ≤ 4294967296) (hs : n.s.size ≤ 4294967296) (hin : n.kids.length = 1 → 0 ≤ n.kids.getD 0 0 ∧ n.kids.getD 0 0 < l.length) :
  Ah Tryz.prog 105 [.agg [.sl (l.map av)], av n] (.bool (Er l n)) := by
 refine F5.F rfl (by simp; exact ⟨Ad.agg (by simp; exact Ak l), AVal.clean n⟩) (Ad.bool _) ?_
 obtain ⟨kind, nn, s, kids⟩ := n
 simp only at hk hs hin ⊢
 rcases kids with _ | ⟨k0, _ | ⟨k1, _ | ⟨k2, ks⟩⟩⟩
 case cons.nil =>
  obtain ⟨g0, g1⟩ := hin rfl
  simp only [List.getD_cons_zero] at g0 g1
  have g2 : k0.toNat < l.length := by omega
  have e := Lb l default g2
  rw [AU] at e
  simp +contextual -dsimp only [↓SD, SU, simprocAttr, F5, AU, AA, Ab, g0, g1, g2, e]
  (repeat' (first | intro _ | refine And.intro ?_ ?_))
  all_goals first | omega | skip
  all_goals first | (refine Aa _ (Fk _ (by omega)) ?_; simp +contextual -dsimp only [↓SD, SU, simprocAttr, *]; (repeat' (first | intro _ | refine And.intro ?_ ?_))) | (refine Aa _ (EP _ _ _) ?_; simp +contextual -dsimp only [↓SD, SU, simprocAttr, *]; (repeat' (first | intro _ | refine And.intro ?_ ?_))) | (refine Aa _ (Iv _ _ _ (by omega)) ?_; simp +contextual -dsimp only [↓SD, SU, simprocAttr, *]; (repeat' (first | intro _ | refine And.intro ?_ ?_))) | skip
  all_goals first | omega | (simp [Er, Ay, g0, g1, *]; done) | trace_state
 all_goals
  simp +contextual -dsimp only [↓SD, SU, simprocAttr, F5, AU, Ab]
  (repeat' (first | intro _ | refine And.intro ?_ ?_))
  all_goals first | omega | skip
  all_goals first | (refine Aa _ (Fk _ (by omega)) ?_; simp +contextual -dsimp only [↓SD, SU, simprocAttr, *]; (repeat' (first | intro _ | refine And.intro ?_ ?_))) | (refine Aa _ (EP _ _ _) ?_; simp +contextual -dsimp only [↓SD, SU, simprocAttr, *]; (repeat' (first | intro _ | refine And.intro ?_ ?_))) | (refine Aa _ (Iv _ _ _ (by omega)) ?_; simp +contextual -dsimp only [↓SD, SU, simprocAttr, *]; (repeat' (first | intro _ | refine And.intro ?_ ?_))) | skip
  all_goals first | omega | (simp [Er, Ay, *]; done) | trace_state

set_option maxHeartbeats 4000000 in
theorem VV (l : List Bg) (n : Bg) (hl : l.length ≤ 4294967296) (hk : n.kids.length ≤ 4294967296) (hs : n.s.size ≤ 4294967296) :
  Ah Tryz.prog 170 [.agg [.sl (l.map av)], av n] (.bool (Er l n)) := by
 refine Dw.F rfl (by simp; exact ⟨Ad.agg (by simp; exact Ak l), AVal.clean n⟩) (Ad.bool _) ?_
 obtain ⟨kind, nn, s, kids⟩ := n
 simp only at hk hs ⊢
 rcases kids with _ | ⟨k0, _ | ⟨k1, _ | ⟨k2, ks⟩⟩⟩
 case cons.nil =>
  by_cases g : 0 ≤ k0 ∧ k0 < l.length
  ·obtain ⟨g0, g1⟩ := g
   have g2 : k0.toNat < l.length := by omega
   have e := Lb l default g2
   rw [AU] at e
   simp +contextual -dsimp only [↓SD, SU, simprocAttr, Dw, AU, AA, Ab, g0, g1, g2, e]
   (repeat' (first | intro _ | refine And.intro ?_ ?_))
   all_goals first | omega | skip
   all_goals first | (refine Aa _ (AW _ (by omega)) ?_; simp +contextual -dsimp only [↓SD, SU, simprocAttr, *, Ab]; (repeat' (first | intro _ | refine And.intro ?_ ?_))) | (refine Aa _ (FH _ _ _ (by omega)) ?_; simp +contextual -dsimp only [↓SD, SU, simprocAttr, *, Ab]; (repeat' (first | intro _ | refine And.intro ?_ ?_))) | skip
   all_goals first | omega | (simp [Er, Ay, g0, g1, *]; done) | trace_state
  ·have ho : Ay Bg.kind l [k0] 5 = false := Tx (by simpa using g)
   by_cases g0 : 0 ≤ k0
   case' pos => have g1 : ¬ k0 < l.length := fun h => g ⟨g0, h⟩
   case' pos => simp +contextual -dsimp only [↓SD, SU, simprocAttr, Dw, AU, AA, Ab, g0, g1]
   case' neg => simp +contextual -dsimp only [↓SD, SU, simprocAttr, Dw, AU, AA, Ab, g0]
   all_goals clear g
   all_goals
    (repeat' (first | intro _ | refine And.intro ?_ ?_))
    all_goals first | omega | skip
    all_goals first | (refine Aa _ (AW _ (by omega)) ?_; simp +contextual -dsimp only [↓SD, SU, simprocAttr, *, Ab]; (repeat' (first | intro _ | refine And.intro ?_ ?_))) | (refine Aa _ (FH _ _ _ (by omega)) ?_; simp +contextual -dsimp only [↓SD, SU, simprocAttr, *, Ab]; (repeat' (first | intro _ | refine And.intro ?_ ?_))) | skip
    all_goals first | omega | (simp [Er, ho, *]; done) | trace_state
 case cons.cons.cons =>
  have q0 : ¬ ((ks.length + 1 + 1 + 1 : Nat) : Int) = 0 := by omega
  have q1 : ¬ ((ks.length + 1 + 1 + 1 : Nat) : Int) = 1 := by omega
  have q2 : ¬ ((ks.length + 1 + 1 + 1 : Nat) : Int) = 2 := by omega
  simp +contextual -dsimp only [↓SD, SU, simprocAttr, Dw, AU, Ab, q0, q1, q2]
  (repeat' (first | intro _ | refine And.intro ?_ ?_))
  all_goals first | omega | skip
  all_goals first | (refine Aa _ (AW _ (by omega)) ?_; simp +contextual -dsimp only [↓SD, SU, simprocAttr, *, Ab]; (repeat' (first | intro _ | refine And.intro ?_ ?_))) | (refine Aa _ (FH _ _ _ (by omega)) ?_; simp +contextual -dsimp only [↓SD, SU, simprocAttr, *, Ab]; (repeat' (first | intro _ | refine And.intro ?_ ?_))) | skip
  all_goals first | omega | (simp [Er, Ay, *]; done) | trace_state
 all_goals
  simp +contextual -dsimp only [↓SD, SU, simprocAttr, Dw, AU, Ab]
  (repeat' (first | intro _ | refine And.intro ?_ ?_))
  all_goals first | omega | skip
  all_goals first | (refine Aa _ (AW _ (by omega)) ?_; simp +contextual -dsimp only [↓SD, SU, simprocAttr, *, Ab]; (repeat' (first | intro _ | refine And.intro ?_ ?_))) | (refine Aa _ (FH _ _ _ (by omega)) ?_; simp +contextual -dsimp only [↓SD, SU, simprocAttr, *, Ab]; (repeat' (first | intro _ | refine And.intro ?_ ?_))) | skip
  all_goals first | omega | (simp [Er, Ay, *]; done) | trace_state
end Go.Proofs.YtppjinmlfcokaaaGreat

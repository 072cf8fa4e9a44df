/-
  THE ABSTRACT TEXTS OF FUNCTIONS (ReadT), printed by irgen.py, and that they are the functions' own. Conditions: none.
-/
import Derived.Test.YtoffpbehgncakaaGreatProg
import Derived.Test.YtoffpbehgncakaaGreatKAvDraw
import Derived.Test.YtoffpbehgncakaaGreatKJ15
import Derived.Test.YtoffpbehgncakaaGreatKAvSimp
set_option linter.unusedVariables false
set_option maxRecDepth 100000
namespace Go.Proofs.YtoffpbehgncakaaGreat
open Go.Proofs.YtoffpbehgncakaaGreat.Av

theorem DZ : Tryz.prog.follows .mixedOrders = true := by kernel_rfl

def GY : Ir Tryz.prog 184 [(47,47), (105, 7777), (107, 7777), (109, 7777), (114, 7777), (16, 7777), (37, 7777), (82, 7777), (84, 7777), (88, 7777), (90, 7777), (93, 7777)] [9999] 2 := ⟨_, _, Tryz.func184, DZ, by kernel_rfl, AA [] Tryz.progTables (by conv => lhs; cbv) (by kernel_rfl)⟩
def HH : Ir Tryz.prog 172 [(16, 7777), (19, 7777), (22, 7777), (24, 7777), (35, 7777), (37, 7777), (8, 7777)] [9999] 2 := ⟨_, _, Tryz.func172, DZ, by kernel_rfl, AA [10003, 10006] Tryz.progTables (by conv => lhs; cbv) (by kernel_rfl)⟩
def Dp : Ir Tryz.prog 141 [(16, 7777), (17, 7777), (21, 7777), (23, 7777), (35, 7777), (37, 7777)] [9999] 2 := ⟨_, _, Tryz.func141, DZ, by kernel_rfl, AA [10009] Tryz.progTables (by conv => lhs; cbv) (by kernel_rfl)⟩
def HI : Ir Tryz.prog 138 [(18, 7777), (20, 7777), (22, 7777), (24, 7777), (36, 7777), (38, 7777), (40, 7777), (50, 7777), (55, 7777), (73, 7777), (9, 7777)] [9999, 2] 1 := ⟨_, _, Tryz.func138, DZ, by kernel_rfl, AA [10016] Tryz.progTables (by conv => lhs; cbv) (by kernel_rfl)⟩
def HF : Ir Tryz.prog 80 [(15, 7777), (18, 7777), (28, 7777), (37, 7777), (47, 7777), (6, 7777), (8, 7777)] [9999, 9] 1 := ⟨_, _, Tryz.func80, DZ, by kernel_rfl, AA [] Tryz.progTables (by conv => lhs; cbv) (by kernel_rfl)⟩
end Go.Proofs.YtoffpbehgncakaaGreat
set_option linter.unusedVariables false
set_option linter.unusedSimpArgs false
namespace Go.Proofs.YtoffpbehgncakaaGreat
open Go.RowKit Go.Proofs.YtoffpbehgncakaaGreat.Av Go.Proofs.YtoffpbehgncakaaGreat.Ml
open Go.Proofs.YtoffpbehgncakaaGreat.Av.AVal (av)

def slN : List AV → AV
 | [] => .Au
 | x :: l => .sl (x :: l)
mutual
def psA : Px → AV
 | .mk n ks => .agg [.int .i64 n.kind, .int .i64 n.n, .str n.s, .Au, slN (YY ks)]
def YY : List Px → List AV
 | [] => []
 | t :: ts => psA t :: YY ts
end
theorem RW : ∀ ks, YY ks = ks.map psA
 | [] => by rw [YY]; rfl
 | t :: ts => by rw [YY, RW ts]; rfl
theorem Gt (n : Hd) (ks : List Px) : psA (.mk n ks) = .agg [.int .i64 n.kind, .int .i64 n.n, .str n.s, .Au, slN (ks.map psA)] := by rw [psA, RW]
theorem VG (l : List AV) : (slN l).one = true := by cases l <;> rfl
theorem GI (hp : Hp) (l : List AV) : (slN l).Bu hp = slN l := by cases l <;> rfl
theorem Es (t : Px) (hp : Hp) : (psA t).pur hp = psA t := by
 cases t with | mk n ks =>
 rw [Gt]
 simp only [AV.pur, List.map_cons, List.map_nil, GI]
 rfl
theorem V8 (t : Px) (hp : Hp) : (psA t).BW hp = psA t := by
 have h := Es t hp
 cases t with | mk n ks =>
 rw [Gt] at h ⊢
 exact h
theorem Ea (t : Px) : (psA t).cells.length = 5 := by cases t with | mk n ks => rw [Gt]; rfl
theorem Hu (t : Px) : (psA t).ok = true := by cases t with | mk n ks => rw [Gt]; rfl
theorem Qq (t : Px) (F : Nat → AV) (esz i : Nat) (es : List AV) (ps : List (Nat × AF)) (k : List AV → Prop) : F2 (psA t) F esz i es ps k = (((psA t).cells.length = esz ∧ i < es.length) ∧ EG F esz (es.set i (psA t)) ps k) := by simp [F2, Hu]
inductive PxW (m : Nat) : Px → Prop
 | mk (n : Hd) (ks : List Px) (h1 : 0 ≤ n.kind ∧ n.kind ≤ 7) (h2 : -9000000000000000000 ≤ n.n ∧ n.n ≤ 9000000000000000000) (h3 : n.s.size ≤ m) (h4 : ks.length ≤ 2) (h5 : ∀ k ∈ ks, PxW m k) : PxW m (.mk n ks)
end Go.Proofs.YtoffpbehgncakaaGreat
set_option linter.unusedVariables false
set_option linter.unusedVariables false
set_option maxRecDepth 100000
namespace Go.Proofs.YtoffpbehgncakaaGreat
open Go.Proofs.YtoffpbehgncakaaGreat.Av

theorem Bo : Tryz.prog.follows .mixedOrders = true := by kernel_rfl

def DL : Ir Tryz.prog 82 [] [9999] 2 := ⟨_, _, Tryz.func82, Bo, by kernel_rfl, AA [] Tryz.progTables (by conv => lhs; cbv) (by kernel_rfl)⟩
def Ew : Ir Tryz.prog 137 [] [9999] 1 := ⟨_, _, Tryz.func137, Bo, by kernel_rfl, AA [] Tryz.progTables (by conv => lhs; cbv) (by kernel_rfl)⟩
def Js : Ir Tryz.prog 79 [(6, 7777)] [9999] 2 := ⟨_, _, Tryz.func79, Bo, by kernel_rfl, AA [] Tryz.progTables (by conv => lhs; cbv) (by kernel_rfl)⟩
def Ff : Ir Tryz.prog 139 [(6, 7777), (9, 7777)] [9999] 2 := ⟨_, _, Tryz.func139, Bo, by kernel_rfl, AA [] Tryz.progTables (by conv => lhs; cbv) (by kernel_rfl)⟩
def HE : Ir Tryz.prog 140 [(13, 7777), (7, 7777)] [9999] 2 := ⟨_, _, Tryz.func140, Bo, by kernel_rfl, AA [] Tryz.progTables (by conv => lhs; cbv) (by kernel_rfl)⟩
def Ge : Ir Tryz.prog 185 [(4, 7777), (9, 7777)] [9999] 1 := ⟨_, _, Tryz.func185, Bo, by kernel_rfl, AA [] Tryz.progTables (by conv => lhs; cbv) (by kernel_rfl)⟩
def DK : Ir Tryz.prog 173 [(11,11)] [9999] 2 := ⟨_, _, Tryz.func173, Bo, by kernel_rfl, AA [] Tryz.progTables (by conv => lhs; cbv) (by kernel_rfl)⟩
def Gf : Ir Tryz.prog 186 [(10, 7777), (5, 7777), (7, 7777)] [9999] 1 := ⟨_, _, Tryz.func186, Bo, by kernel_rfl, AA [] Tryz.progTables (by conv => lhs; cbv) (by kernel_rfl)⟩
def Fh : Ir Tryz.prog 142 [(6, 7777), (8, 7777)] [9999] 2 := ⟨_, _, Tryz.func142, Bo, by kernel_rfl, AA [] Tryz.progTables (by conv => lhs; cbv) (by kernel_rfl)⟩
def Fp : Ir Tryz.prog 171 [(32, 7777), (7, 7777)] [9999] 1 := ⟨_, _, Tryz.func171, Bo, by kernel_rfl, AA [] Tryz.progTables (by conv => lhs; cbv) (by kernel_rfl)⟩
def FT : Ir Tryz.prog 188 [(22, 7777), (5, 7777)] [9999] 1 := ⟨_, _, Tryz.func188, Bo, by kernel_rfl, AA [] Tryz.progTables (by conv => lhs; cbv) (by kernel_rfl)⟩
def Gg : Ir Tryz.prog 174 [(6, 7777)] [9999] 1 := ⟨_, _, Tryz.func174, Bo, by kernel_rfl, AA [] Tryz.progTables (by conv => lhs; cbv) (by kernel_rfl)⟩
def FV : Ir Tryz.prog 143 [(4, 7777), (8, 7777)] [9999] 1 := ⟨_, _, Tryz.func143, Bo, by kernel_rfl, AA [] Tryz.progTables (by conv => lhs; cbv) (by kernel_rfl)⟩
def Jt : Ir Tryz.prog 175 [(15, 7777)] [9999] 2 := ⟨_, _, Tryz.func175, Bo, by kernel_rfl, AA [] Tryz.progTables (by conv => lhs; cbv) (by kernel_rfl)⟩
def HG : Ir Tryz.prog 187 [] [9999] 2 := ⟨_, _, Tryz.func187, Bo, by kernel_rfl, AA [] Tryz.progTables (by conv => lhs; cbv) (by kernel_rfl)⟩
def IA : Ir Tryz.prog 144 [] [9999] 4 := ⟨_, _, Tryz.func144, Bo, by kernel_rfl, AA [] Tryz.progTables (by conv => lhs; cbv) (by kernel_rfl)⟩
end Go.Proofs.YtoffpbehgncakaaGreat
set_option linter.unusedVariables false
set_option maxRecDepth 100000
namespace Go.Proofs.YtoffpbehgncakaaGreat
open Go.Proofs.YtoffpbehgncakaaGreat.Av

theorem Cn : Tryz.prog.follows .mixedOrders = true := by kernel_rfl

def FW : Ir Tryz.prog 128 [] [] 3 := ⟨_, _, Tryz.func128, Cn, by kernel_rfl, AA [] Tryz.progTables (by conv => lhs; cbv) (by kernel_rfl)⟩
def Gh : Ir Tryz.prog 129 [] [9999] 2 := ⟨_, _, Tryz.func129, Cn, by kernel_rfl, AA [] Tryz.progTables (by conv => lhs; cbv) (by kernel_rfl)⟩
def HL : Ir Tryz.prog 135 [] [9999] 2 := ⟨_, _, Tryz.func135, Cn, by kernel_rfl, AA [] Tryz.progTables (by conv => lhs; cbv) (by kernel_rfl)⟩
def D5 : Ir Tryz.prog 132 [] [] 1 := ⟨_, _, Tryz.func132, Cn, by kernel_rfl, AA [] Tryz.progTables (by conv => lhs; cbv) (by kernel_rfl)⟩
def IC : Ir Tryz.prog 133 [] [9999] 2 := ⟨_, _, Tryz.func133, Cn, by kernel_rfl, AA [] Tryz.progTables (by conv => lhs; cbv) (by kernel_rfl)⟩
def HP : Ir Tryz.prog 169 [] [] 1 := ⟨_, _, Tryz.func169, Cn, by kernel_rfl, AA [] Tryz.progTables (by conv => lhs; cbv) (by kernel_rfl)⟩
def HQ : Ir Tryz.prog 134 [] [9999] 1 := ⟨_, _, Tryz.func134, Cn, by kernel_rfl, AA [] Tryz.progTables (by conv => lhs; cbv) (by kernel_rfl)⟩
def FY : Ir Tryz.prog 136 [] [] 1 := ⟨_, _, Tryz.func136, Cn, by kernel_rfl, AA [] Tryz.progTables (by conv => lhs; cbv) (by kernel_rfl)⟩
def IJ : Ir Tryz.prog 78 [(105, 7777), (115, 7777), (153, 7777), (49, 7777)] [9999] 1 := ⟨_, _, Tryz.func78, Cn, by kernel_rfl, AA [] Tryz.progTables (by conv => lhs; cbv) (by kernel_rfl)⟩
end Go.Proofs.YtoffpbehgncakaaGreat
set_option linter.unusedVariables false
set_option maxRecDepth 100000
namespace Go.Proofs.YtoffpbehgncakaaGreat
open Go.Proofs.YtoffpbehgncakaaGreat.Av

theorem JG : Tryz.prog.follows .mixedOrders = true := by kernel_rfl

def IF : Ir Tryz.prog 183 [] [] 1 := ⟨_, _, Tryz.func183, JG, by kernel_rfl, AA [] Tryz.progTables (by conv => lhs; cbv) (by kernel_rfl)⟩
def Ju : Ir Tryz.prog 170 [(6,6)] [] 1 := ⟨_, _, Tryz.func170, JG, by kernel_rfl, AA [] Tryz.progTables (by conv => lhs; cbv) (by kernel_rfl)⟩
end Go.Proofs.YtoffpbehgncakaaGreat
set_option linter.unusedVariables false
set_option maxRecDepth 100000
namespace Go.Proofs.YtoffpbehgncakaaGreat
open Go.Proofs.YtoffpbehgncakaaGreat.Av

theorem LP : Tryz.prog.follows .mixedOrders = true := by kernel_rfl

def Ex : Ir Tryz.prog 107 [] [] 1 := ⟨_, _, Tryz.func107, LP, by kernel_rfl, AA [] Tryz.progTables (by conv => lhs; cbv) (by kernel_rfl)⟩
def HR : Ir Tryz.prog 62 [] [] 1 := ⟨_, _, Tryz.func62, LP, by kernel_rfl, AA [] Tryz.progTables (by conv => lhs; cbv) (by kernel_rfl)⟩
end Go.Proofs.YtoffpbehgncakaaGreat

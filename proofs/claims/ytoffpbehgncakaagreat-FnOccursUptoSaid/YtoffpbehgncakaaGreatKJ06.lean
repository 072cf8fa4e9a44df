/-
 FROM READING TO ABSTRACT VALUES: a Go value that reads as plain data stands for the data's abstract value. Conditions: none.
-/
import Derived.Test.YtoffpbehgncakaaGreatKJ05
import Derived.Test.YtoffpbehgncakaaGreatProg
import Derived.Test.YtoffpbehgncakaaGreatKAvDraw
set_option linter.unusedVariables false
namespace Go.Proofs.YtoffpbehgncakaaGreat
open Go.RowKit Go.Proofs.YtoffpbehgncakaaGreat.Av Go.Proofs.YtoffpbehgncakaaGreat.Ml
open Go.Proofs.YtoffpbehgncakaaGreat.Av.AVal (av)

theorem Cr (n : Int) : Ap (.int .i64 n) := Ap.int _ _
class Em (α : Type) [Rep α] [AVal α] : Prop where
 vr : ∀ {S : Nat → Prop} {w : World} {cs : List Value} {y : α}, Rep.rep S w cs y → VRs S w mu0 cs (av y).cells
theorem Xp {α : Type} [Rep α] [AVal α] [Em α] {S : Nat → Prop} {w : World} {cs : List Value} {y : α} (h : Rep.rep S w cs y) : (av y).cells.length = Rep.n α := by
 rw [← (Em.vr h).1]; exact Rep.len h
instance : Em Int := ⟨fun {S w cs y} h => by obtain ⟨rfl, h1, h2⟩ := h; exact VRs.cons (.int _ _ h1 h2) VRs.nil⟩
instance : Em Bool := ⟨fun {S w cs y} h => by have h : cs = [.bool y] := h; subst h; exact VRs.cons (.bool _) VRs.nil⟩
instance : Em ByteArray := ⟨fun {S w cs y} h => by obtain ⟨rfl, h1⟩ := h; exact VRs.cons (.str _ h1) VRs.nil⟩
theorem C7 {α : Type} [Rep α] [AVal α] [Em α] {S : Nat → Prop} {w : World} {v : Value} {l : List α} (h : DG S w v l) : VR S w mu0 v (.sl (l.map av)) := by
 obtain ⟨a, cap, rfl, h1, h2, h3⟩ := h
 by_cases hl : l = []
 ·subst hl; exact .sl0 a cap h2
 ·obtain ⟨b, o, rfl, hb, hr⟩ := h3.resolve_left hl
  -- the cells of the elements
  have hc : ∀ i j, ∃ v, ∀ e x, (l.map av)[i]? = some e → e.cells[j]? = some x → w.cell? ⟨b, o + i * Rep.n α + j, none⟩ = some v ∧ VR S w mu0 v x := by
   intro i j
   by_cases hi : i < l.length
   ·obtain ⟨cs, h4, h5⟩ := hr i l[i] (by simp [hi])
    have h6 := Em.vr h5
    by_cases hj : j < cs.length
    ·refine ⟨cs[j], fun e x p q => ?_⟩
     simp only [List.getElem?_map, List.getElem?_eq_getElem hi, Option.map_some, Option.some.injEq] at p
     subst p
     exact ⟨h4 j _ (by simp [hj]), h6.2 j _ x (by simp [hj]) q⟩
    ·refine ⟨.nilFunc, fun e x p q => ?_⟩
     simp only [List.getElem?_map, List.getElem?_eq_getElem hi, Option.map_some, Option.some.injEq] at p
     subst p
     have := (List.getElem?_eq_some_iff.1 q).1
     rw [← h6.1] at this
     exact absurd this hj
   ·refine ⟨.nilFunc, fun e x p q => ?_⟩
    have := (List.getElem?_eq_some_iff.1 p).1
    simp at this; exact absurd this hi
  have := VR.sl (S := S) (w := w) (μ := mu0) b o cap (Rep.n α) (fun i j => (hc i j).choose) (l.map av) hb (by simpa using h1) h2 (fun e he => by
   obtain ⟨x, hx, rfl⟩ := List.mem_map.1 he
   obtain ⟨i, hi, rfl⟩ := List.mem_iff_getElem.1 hx
   obtain ⟨cs, h4, h5⟩ := hr i l[i] (by simp [hi])
   exact ⟨Xp h5, AVal.AcG _⟩) (fun i j hi hj => by
   have hi' : i < l.length := by simpa using hi
   obtain ⟨cs, h4, h5⟩ := hr i l[i] (by simp [hi'])
   have hlen := Xp h5
   exact ((hc i j).choose_spec (av l[i]) ((av l[i]).cells[j]'(by omega)) (by simp [hi']) (by simp)).1) (fun i j e x p q => ((hc i j).choose_spec e x p q).2)
  simpa using this
instance {α : Type} [Rep α] [AVal α] [Em α] : Em (List α) := ⟨fun {S w cs y} h => by obtain ⟨v, rfl, h⟩ := h; exact VRs.cons (C7 h) VRs.nil⟩

theorem XX {f : FuncId} {args : List AV} (h : AH Tryz.prog f args (.bool true)) {w : World} {vs : List Value} (hv : VRs (fun b => b < w.heap.size) w mu0 vs args) :
  Calls Tryz.prog f vs.toArray w fun e w' => e = .returned (.bool true) ∧ Below w.heap.size w w' := by
 obtain ⟨_, _, h⟩ := h
 refine (h _ w vs (fun b hb => hb) hv).mono fun e w' ⟨v, he, hr, hb⟩ => ⟨?_, hb⟩
 cases hr; exact he
end Go.Proofs.YtoffpbehgncakaaGreat
set_option linter.unusedVariables false
namespace Go.Proofs.YtoffpbehgncakaaGreat
open Go.RowKit Go.Proofs.YtoffpbehgncakaaGreat.Av Go.Proofs.YtoffpbehgncakaaGreat.Ml
open Go.Proofs.YtoffpbehgncakaaGreat.Av.AVal (av)

instance : AE UInt8 := ⟨fun _ => 1, fun _ => Nat.le_refl _⟩
instance : Em UInt8 := ⟨fun {S w cs y} h => by
 have h : cs = [.int .u8 y.toNat] := h
 subst h
 have := y.toNat_lt
 exact VRs.cons (.int .u8 (y.toNat : Int) (show (0 : Int) ≤ _ by omega) (show (y.toNat : Int) ≤ 255 by omega)) VRs.nil⟩
theorem Aaz : KT 5 UInt8 := ⟨by kernel_rfl, fun h => by
 obtain ⟨n, rfl, rfl, hw⟩ := DataW.trod_int Tryz.underlying5 h
 have hb : 0 ≤ n ∧ n ≤ 255 := by simpa [Lit.wf, IntKind.min, IntKind.max, IntKind.signed, IntKind.bits] using hw
 refine ⟨UInt8.ofNat n.toNat, ?_, by simp [AE.bulk, Rows.uptoBulk]⟩
 show [Value.int .u8 n] = [Value.int .u8 _]
 have : ((UInt8.ofNat n.toNat).toNat : Int) = n := by
  rw [UInt8.toNat_ofNat_of_lt' (by show n.toNat < 256; omega)]; omega
 rw [this]⟩
theorem YN : KT 22 (List UInt8) := Uw Aaz Tryz.underlying22 (by kernel_rfl) (by simp [Rep.n])
end Go.Proofs.YtoffpbehgncakaaGreat
set_option linter.unusedVariables false
namespace Go.Proofs.YtoffpbehgncakaaGreat
open Go.RowKit Go.Proofs.YtoffpbehgncakaaGreat.Av
open Go.Proofs.YtoffpbehgncakaaGreat.Av.AVal (av)

theorem Ai.Acd {fr : List (Nat × AV)} {T : St → Prop} : ∀ (ks : List Nat) {hp : Hp}, Ai ⟨fr, BK ks hp⟩ T → Ai ⟨fr, hp⟩ T
 | [], _, h => h
 | k :: r, _, h => Ai.frz k (Ai.Acd r h)
end Go.Proofs.YtoffpbehgncakaaGreat
set_option linter.unusedVariables false
set_option linter.unusedSimpArgs false
namespace Go.Proofs.YtoffpbehgncakaaGreat
open Go.RowKit Go.Proofs.YtoffpbehgncakaaGreat.Av
open Go.Proofs.YtoffpbehgncakaaGreat.Av.AVal (av)

mutual
def nz : AV → AV
 | .agg cs => .agg (nzL cs)
 | .tup cs => .tup (nzL cs)
 | .sl es => .sl (nzL es)
 | .Au => .sl []
 | x => x
def nzL : List AV → List AV
 | [] => []
 | x :: l => nz x :: nzL l
end
theorem Fy : ∀ l : List AV, nzL l = l.map nz
 | [] => by rw [nzL]; rfl
 | x :: l => by rw [nzL, Fy l]; rfl
theorem Zf {x : AV} (h : x.one = true) : (nz x).one = true := by cases x <;> first | (simp [AV.one] at h; done) | (simp only [nz, AV.one])
theorem Sf (x : AV) : (nz x).cells = x.cells.map nz := by cases x <;> simp [nz, AV.cells, Fy]
theorem Av.VR.nz {S : Nat → Prop} {w : World} {μ : Mu} {v : Value} {x : AV} (h : VR S w μ v x) : VR S w μ v (Go.Proofs.YtoffpbehgncakaaGreat.nz x) := by
 induction h with
 | agg cs xs hl h1 h ih =>
  rw [Go.Proofs.YtoffpbehgncakaaGreat.nz, Fy]
  refine .agg cs _ (by simpa using hl) (fun y hy => ?_) (fun i v y p q => ?_)
  ·obtain ⟨x, hx, rfl⟩ := List.mem_map.1 hy; exact Zf (h1 x hx)
  ·simp only [List.getElem?_map, Option.map_eq_some_iff] at q
   obtain ⟨x, hx, rfl⟩ := q
   exact ih i v x p hx
 | tup cs xs hl h ih =>
  rw [Go.Proofs.YtoffpbehgncakaaGreat.nz, Fy]
  refine .tup cs _ (by simpa using hl) (fun i v y p q => ?_)
  simp only [List.getElem?_map, Option.map_eq_some_iff] at q
  obtain ⟨x, hx, rfl⟩ := q
  exact ih i v x p hx
 | sl b o cap esz vs es hS hl hm hz hc hh ih =>
  rw [Go.Proofs.YtoffpbehgncakaaGreat.nz, Fy]
  have hln : es.length = (es.map Go.Proofs.YtoffpbehgncakaaGreat.nz).length := by simp
  rw [hln]
  refine .sl b o cap esz vs _ hS (by simpa using hl) hm (fun e he => ?_) (fun i j hi => hc i j (by simpa using hi)) (fun i j e x p q => ?_)
  ·obtain ⟨e', he', rfl⟩ := List.mem_map.1 he
   rw [Sf]
   refine ⟨by rw [List.length_map]; exact (hz e' he').1, fun y hy => ?_⟩
   obtain ⟨x, hx, rfl⟩ := List.mem_map.1 hy
   exact Zf ((hz e' he').2 x hx)
  ·simp only [List.getElem?_map, Option.map_eq_some_iff] at p
   obtain ⟨e', he', rfl⟩ := p
   rw [Sf, List.getElem?_map, Option.map_eq_some_iff] at q
   obtain ⟨x', hx', rfl⟩ := q
   exact ih i j e' x' he' hx'
 | Au => rw [Go.Proofs.YtoffpbehgncakaaGreat.nz]; exact .sl0 none 0 (Nat.zero_le _)
 | bool b => exact .bool b
 | int k n h1 h2 => exact .int k n h1 h2
 | str s h => exact .str s h
 | C9 => exact .C9
 | obj b o vs xs hS h1 hc h ih => exact .obj b o vs xs hS h1 hc h
 | sl0 a cap hc => exact .sl0 a cap hc
 | fn f cs xs hl h ih => exact .fn f cs xs hl h
 | F6 => exact .F6
 | ptr k v i off b cap esz h => exact .ptr k v i off b cap esz h
 | row k v n b cap esz h hn hm => exact .row k v n b cap esz h hn hm
 | Hh k v cap esz h => exact .Hh k v cap esz h
 | top v => exact .top v
def AaF (hp : Hp) : AV → AV
 | .tup cs => .tup (cs.map (AV.pur hp))
 | x => x.pur hp
theorem Av.VR.AaF {E : Env} {S : Nat → Prop} {w : World} {μ : Mu} {hp : Hp} (hw : WI E S w μ hp) {v : Value} {x : AV} (h : VR S w μ v x) : VR S w μ v (Go.Proofs.YtoffpbehgncakaaGreat.AaF hp x) := by
 cases x with
 | tup xs =>
  cases h with | tup cs _ hl hh =>
  refine .tup cs _ (by simpa using hl) (fun i v y p q => ?_)
  simp only [List.getElem?_map, Option.map_eq_some_iff] at q
  obtain ⟨x, hx, rfl⟩ := q
  exact (hh i v x p hx).pur hw
 | _ => exact h.pur hw
theorem LW {P : Go.Program} {f : FuncId} {args : List AV} {hp : Hp} {Post Post2 : AV → Hp → Prop} (h : AW P f args hp Post) (hg : ∀ r hp', Post r hp' → ∃ ks hp2, Bt (BK ks hp') hp2 ∧ Post2 (nz (AaF (BK ks hp') r)) hp2) : AW P f args hp Post2 := by
 obtain ⟨hc, h⟩ := h
 refine ⟨hc, fun S w μ vs hW hv => (h S w μ vs hW hv).mono fun e w' ⟨v, r, hp', S', μ', he, hpst, hvr, hw'⟩ => ?_⟩
 obtain ⟨ks, hp2, h1, h2⟩ := hg _ _ hpst
 obtain ⟨S1, w1, s1⟩ := WI.BK (S := S') ks hw'
 exact ⟨v, _, hp2, S1, μ', he, h2, ((hvr.mono s1 (BN.refl _ _) (Mu.le.refl _)).AaF w1).nz, w1.drop (G5 h1)⟩
end Go.Proofs.YtoffpbehgncakaaGreat
set_option linter.unusedVariables false
set_option maxRecDepth 100000
namespace Go.Proofs.YtoffpbehgncakaaGreat
open Go.Proofs.YtoffpbehgncakaaGreat.Av

theorem I0 : Tryz.prog.follows .mixedOrders = true := by kernel_rfl

def FX : Ir Tryz.prog 150 [] [9999] 1 := ⟨_, _, Tryz.func150, I0, by kernel_rfl, AA [] Tryz.progTables (by conv => lhs; cbv) (by kernel_rfl)⟩
def Fi : Ir Tryz.prog 151 [(14, 7777), (16, 7777), (40, 7777)] [9999] 2 := ⟨_, _, Tryz.func151, I0, by kernel_rfl, AA [10010] Tryz.progTables (by conv => lhs; cbv) (by kernel_rfl)⟩
end Go.Proofs.YtoffpbehgncakaaGreat
set_option linter.unusedVariables false
set_option maxRecDepth 100000
namespace Go.Proofs.YtoffpbehgncakaaGreat
open Go.Proofs.YtoffpbehgncakaaGreat.Av

theorem Gn : Tryz.prog.follows .mixedOrders = true := by kernel_rfl

def IE : Ir Tryz.prog 14 [(31,2000)] [9999] 1 := ⟨_, _, Tryz.func14, Gn, by kernel_rfl, AA [] Tryz.progTables (by conv => lhs; cbv) (by kernel_rfl)⟩
def Fj : Ir Tryz.prog 45 [(9,1),(10,1)] [9999] 1 := ⟨_, _, Tryz.func45, Gn, by kernel_rfl, AA [] Tryz.progTables (by conv => lhs; cbv) (by kernel_rfl)⟩
def DM : Ir Tryz.prog 16 [(14, 7777), (18, 7777), (20, 7777), (22, 7777), (24, 7777)] [9999] 2 := ⟨_, _, Tryz.func16, Gn, by kernel_rfl, AA [] Tryz.progTables (by conv => lhs; cbv) (by kernel_rfl)⟩
def ID : Ir Tryz.prog 17 [(14, 7777), (19, 7777), (24, 7777), (29, 7777), (34, 7777), (37, 7777), (40, 7777), (43, 7777), (5, 7777), (9, 7777)] [9999] 1 := ⟨_, _, Tryz.func17, Gn, by kernel_rfl, AA [] Tryz.progTables (by conv => lhs; cbv) (by kernel_rfl)⟩
end Go.Proofs.YtoffpbehgncakaaGreat

/-
 COPIES OF PATTERNS AND TYPES IN ROWS OF THEIR OWN, by the program's abstract texts. Conditions: none.
-/
import Derived.Test.YtppjinmlfcokaaaGreatVJ32
set_option linter.unusedVariables false
set_option linter.unusedSimpArgs false
set_option maxRecDepth 100000
namespace Go.Proofs.YtppjinmlfcokaaaGreat
open Go.RowKit Go.Proofs.YtppjinmlfcokaaaGreat.Av Go.Proofs.YtppjinmlfcokaaaGreat.Ml
open Go.Proofs.YtppjinmlfcokaaaGreat.Av.AVal (av)
open OVal (ov oh on)

def Ae5 (nm : Nat) (ty : TypeId) (esz : Nat) (es : List AV) (r : AV) (hp' : Hp) : Prop := ∃ v, r = .row nm v es.length ∧ hp' = [(nm, ⟨v, false, ty, esz, es⟩)]
theorem Ua (nm : Nat) (l : List Int) (hl : l.length ≤ 4294967296) : Bu Tryz.prog 173 [.sl (l.map av)] [] (Ae5 nm 3 1 (l.map av)) := by
 refine Fa.H rfl ?_
 simp +contextual -dsimp (maxSteps := 2000000) only [↓SD, SU, simprocAttr, Fa, Ab]
 refine ⟨fun h => ?_, fun v => ⟨⟨?_, by omega, by unfold maxLen; omega⟩, fun u => ?_⟩⟩
 ·refine Af.new 2 nm 3 1 rfl fun u => ?_
  have hl0 : l = [] := by simpa using h
  subst hl0
  refine Af.post [(nm, ⟨u, false, 3, 1, []⟩)] ?_
  simp +contextual -dsimp (maxSteps := 2000000) only [↓SD, SU, simprocAttr]
  exact ⟨u, rfl, rfl⟩
 ·rintro y hy
  rw [AB] at hy
  obtain ⟨x, _, rfl⟩ := List.mem_map.1 hy
  exact AVal.len x
 ·rw [AB]
  refine Af.ren 2 5 nm (v := u) (n := l.length) rfl BH rfl fun v' => ?_
  refine Af.post [(nm, ⟨v', false, 3, 1, l.map av⟩)] ?_
  simp +contextual -dsimp (maxSteps := 2000000) only [↓SD, SU, simprocAttr, false_and]
  exact ⟨v', by rw [List.length_map], rfl⟩
theorem OB (nm : Nat) (l : List AY) (hl : l.length ≤ 4294967296) : Bu Tryz.prog 134 [.sl (l.map av)] [] (Ae5 nm 136 3 (l.map av)) := by
 refine CZ.H rfl ?_
 simp +contextual -dsimp (maxSteps := 2000000) only [↓SD, SU, simprocAttr, CZ, Ab]
 refine ⟨fun h => ?_, fun v => ⟨⟨?_, by omega, by unfold maxLen; omega⟩, fun u => ?_⟩⟩
 ·refine Af.new 2 nm 136 3 rfl fun u => ?_
  have hl0 : l = [] := by simpa using h
  subst hl0
  refine Af.post [(nm, ⟨u, false, 136, 3, []⟩)] ?_
  simp +contextual -dsimp (maxSteps := 2000000) only [↓SD, SU, simprocAttr]
  exact ⟨u, rfl, rfl⟩
 ·rintro y hy
  rw [AB] at hy
  obtain ⟨x, _, rfl⟩ := List.mem_map.1 hy
  exact AVal.len x
 ·rw [AB]
  refine Af.ren 2 5 nm (v := u) (n := l.length) rfl BH rfl fun v' => ?_
  refine Af.post [(nm, ⟨v', false, 136, 3, l.map av⟩)] ?_
  simp +contextual -dsimp (maxSteps := 2000000) only [↓SD, SU, simprocAttr, false_and]
  exact ⟨v', by rw [List.length_map], rfl⟩
theorem QS (nm : Nat) (l : List Bg) (hl : l.length ≤ 4294967296) : Bu Tryz.prog 172 [.sl (l.map av)] [] (Ae5 nm 96 4 (l.map av)) := by
 refine C6.H rfl ?_
 simp +contextual -dsimp (maxSteps := 2000000) only [↓SD, SU, simprocAttr, C6, Ab]
 refine ⟨fun h => ?_, fun v => ⟨⟨?_, by omega, by unfold maxLen; omega⟩, fun u => ?_⟩⟩
 ·refine Af.new 2 nm 96 4 rfl fun u => ?_
  have hl0 : l = [] := by simpa using h
  subst hl0
  refine Af.post [(nm, ⟨u, false, 96, 4, []⟩)] ?_
  simp +contextual -dsimp (maxSteps := 2000000) only [↓SD, SU, simprocAttr]
  exact ⟨u, rfl, rfl⟩
 ·rintro y hy
  rw [AB] at hy
  obtain ⟨x, _, rfl⟩ := List.mem_map.1 hy
  exact AVal.len x
 ·rw [AB]
  refine Af.ren 2 5 nm (v := u) (n := l.length) rfl BH rfl fun v' => ?_
  refine Af.post [(nm, ⟨v', false, 96, 4, l.map av⟩)] ?_
  simp +contextual -dsimp (maxSteps := 2000000) only [↓SD, SU, simprocAttr, false_and]
  exact ⟨v', by rw [List.length_map], rfl⟩
theorem Uc (nm : Nat) (l : List Con) (hl : l.length ≤ 4294967296) : Bu Tryz.prog 133 [.sl (l.map av)] [] (Ae5 nm 77 3 (l.map av)) := by
 refine DG.H rfl ?_
 simp +contextual -dsimp (maxSteps := 2000000) only [↓SD, SU, simprocAttr, DG, Ab]
 refine ⟨fun h => ?_, fun v => ⟨⟨?_, by omega, by unfold maxLen; omega⟩, fun u => ?_⟩⟩
 ·refine Af.new 2 nm 77 3 rfl fun u => ?_
  have hl0 : l = [] := by simpa using h
  subst hl0
  refine Af.post [(nm, ⟨u, false, 77, 3, []⟩)] ?_
  simp +contextual -dsimp (maxSteps := 2000000) only [↓SD, SU, simprocAttr]
  exact ⟨u, rfl, rfl⟩
 ·rintro y hy
  rw [AB] at hy
  obtain ⟨x, _, rfl⟩ := List.mem_map.1 hy
  exact AVal.len x
 ·rw [AB]
  refine Af.ren 2 5 nm (v := u) (n := l.length) rfl BH rfl fun v' => ?_
  refine Af.post [(nm, ⟨v', false, 77, 3, l.map av⟩)] ?_
  simp +contextual -dsimp (maxSteps := 2000000) only [↓SD, SU, simprocAttr, false_and]
  exact ⟨v', by rw [List.length_map], rfl⟩
theorem Oi {P : Go.Program} {f : FuncId} {args : List AV} {hp : Hp} {Post Post2 : AV → Hp → Prop} (h : Bu P f args hp Post) (hg : ∀ r hp', Post r hp' → Post2 r hp') : Bu P f args hp Post2 :=
 Dt h fun r hp' hr => Af.here (hg r hp' hr)
theorem X5 (nm : Nat) (vs : Nat → Nat) (l : List AY) : oh nm vs l = [(nm, ⟨vs nm, false, 136, 3, l.map av⟩)] := AeM (fun _ _ _ => rfl) (fun _ _ _ => rfl) nm vs l
theorem Ub (nm : Nat) (l : List Int) (hl : l.length ≤ 4294967296) : Bu Tryz.prog 173 [.sl (l.map av)] [] (DC nm l) := by
 refine Oi (Ua nm l hl) ?_
 rintro r hp' ⟨v, rfl, rfl⟩
 exact ⟨fun _ => v, by rw [DJ, List.length_map], by rw [ZX]⟩
theorem OC (nm : Nat) (l : List AY) (hl : l.length ≤ 4294967296) : Bu Tryz.prog 134 [.sl (l.map av)] [] (DC nm l) := by
 refine Oi (OB nm l hl) ?_
 rintro r hp' ⟨v, rfl, rfl⟩
 exact ⟨fun _ => v, by rw [DJ, List.length_map], by rw [X5]⟩
def MA {α : Type} [AVal α] [OVal α] (nm : Nat) (vs : Nat → Nat) (l : List α) (k : Nat) : List AV := ovL nm vs 0 (l.take k) ++ (l.drop k).map av
section
variable {α : Type} [AVal α] [OVal α]
theorem R3 (nm : Nat) (vs : Nat → Nat) (l : List α) : MA nm vs l 0 = l.map av := rfl
theorem VK (nm : Nat) (vs : Nat → Nat) (l : List α) : MA nm vs l l.length = ovL nm vs 0 l := by simp [MA]
theorem VI {nm : Nat} {vs : Nat → Nat} {l : List α} {k : Nat} (h : k ≤ l.length) : (MA nm vs l k).length = l.length := by simp [MA, Dp]; omega
theorem VJ {nm : Nat} {vs : Nat → Nat} {l : List α} {k : Nat} (h : k < l.length) (d : AV) : (MA nm vs l k).getD k d = av l[k] := by
 have hk : (ovL nm vs 0 (l.take k)).length = k := by simp [Dp]; omega
 simp only [MA, List.getD_eq_getElem?_getD]
 rw [List.getElem?_append_right (by omega), hk, Nat.sub_self, List.drop_eq_getElem_cons h]
 rfl
theorem VH {nm : Nat} {vs vs' : Nat → Nat} {l : List α} {k : Nat} (h : k < l.length) : (MA nm vs' l k).set k (ov (sub nm k) vs l[k]) = MA nm (glue (sub nm k) vs vs') l (k + 1) := by
 have hk : (ovL nm vs' 0 (l.take k)).length = k := by simp [Dp]; omega
 have ht : (l.take k).length = k := by simp; omega
 simp only [MA]
 rw [List.set_append_right _ _ (by omega), hk, Nat.sub_self, List.drop_eq_getElem_cons h, List.map_cons, List.set_cons_zero, List.take_succ_eq_append_getElem h, Mj, ht, Nat.zero_add, (IK vs vs' 0 _ (by omega)).1]
 simp only [ovL, OM, List.append_assoc, List.cons_append, List.nil_append]
theorem Vr {nm : Nat} {vs vs' : Nat → Nat} {l : List α} {k : Nat} (h : k < l.length) : ovL nm (glue (sub nm k) vs vs') 0 (l.take (k + 1)) = ovL nm vs' 0 (l.take k) ++ [ov (sub nm k) vs l[k]] := by
 have ht : (l.take k).length = k := by simp; omega
 rw [List.take_succ_eq_append_getElem h, Mj, ht, Nat.zero_add, (IK vs vs' 0 _ (by omega)).1]
 simp only [ovL, OM]
theorem Fl {a H t : Hp} (h : AR H t) (hn : ∀ p ∈ t, ∀ q ∈ a, q.1 ≠ p.1) : AR (a ++ H) t := AL.2 fun p hp => by
 rw [Cx (fun q hq => hn p hp q hq)]; exact AL.1 h p hp
theorem Cd {j : Nat} {b : Box} {H t : Hp} (h : AR H t) (hn : ∀ p ∈ t, j ≠ p.1) : AR ((j, b) :: H) t := Fl (a := [(j, b)]) h fun p hp q hq => by rw [List.mem_singleton.1 hq]; exact hn p hp
theorem Mx {nm k : Nat} {vs v1 : Nat → Nat} {l : List α} (h : k < l.length) {H : Hp} (h1 : AR H (ohL nm vs 0 (l.take k))) (h2 : AR H (oh (sub nm k) v1 l[k])) : AR H (ohL nm (glue (sub nm k) v1 vs) 0 (l.take (k + 1))) := by
 rw [Ac6 h, AF]; exact ⟨h1, h2⟩
theorem Fy {nm i : Nat} {vs : Nat → Nat} {l : List α} : ∀ p ∈ ohL nm vs i l, 10000 ≤ p.1 := fun p hp => by obtain ⟨q, _, hq⟩ := DY hp; exact hq.ge
theorem TC {nm : Nat} {vs : Nat → Nat} {l : List α} {k : Nat} : ∀ p ∈ ohL nm vs 0 (l.take k), ∃ i, i < k ∧ InT (sub nm i) p.1 := fun p hp => by
 obtain ⟨j, hj, hm⟩ := H7 hp
 rw [Nat.zero_add] at hm
 exact ⟨j, by simp at hj; omega, OVal.inh hm⟩
end
theorem WA (nm : Nat) (q : Pat) (hx : Ac.bulk q ≤ 4294967296) : Bu Tryz.prog 135 [av q] [] (DC nm q) := by
 obtain ⟨l⟩ := q
 have hl := Ai l
 have hb : Ac.bulk l + 1 ≤ 4294967296 := hx
 have C := QS 8 l (by omega)
 refine Dt (Post := fun r hp' => ∃ v vs, r = .agg [.row 8 v l.length] ∧ hp' = (8, ⟨v, false, 96, 4, ovL (sub nm 0) vs 0 l⟩) :: ohL (sub nm 0) vs 0 l) (Ip.H rfl ?_) ?_
 case refine_2 =>
  rintro r hp' ⟨v, vs, rfl, rfl⟩
  refine Af.Af6 0 0 8 (sub nm 0) (v := v) (n := l.length) rfl rfl BH rfl fun v' => ?_
  obtain ⟨H', hH'⟩ : ∃ H', H' = ((sub nm 0, ⟨v', false, 96, 4, ovL (sub nm 0) vs 0 l⟩) :: Ci [8] ((8, ⟨v, false, 96, 4, ovL (sub nm 0) vs 0 l⟩) :: ohL (sub nm 0) vs 0 l) : Hp) := ⟨_, rfl⟩
  have hle := TN (α := Bg) (nm := sub nm 0) (j := 8) (l := l) (vs := vs) (by omega) hH'
  dsimp only
  rw [← hH']
  refine Af.le (t := ⟨[(0, .agg [.row (sub nm 0) v' l.length])], oh (sub nm 0) (glue (sub nm 0) (fun k => if k = sub nm 0 then v' else vs k) vs) l⟩) ?_ (by simp +contextual -dsimp only [↓SD, SU, simprocAttr]) hle
  exact ⟨_, by rw [Tv]; rw [← (K4 (nm := sub nm 0) (vs := vs) (v' := v') l).1]; rfl, rfl⟩
 simp +contextual -dsimp (maxSteps := 2000000) only [↓SD, SU, simprocAttr, Ip, B7, Ab]
 intro v
 refine Bx [] C (by simp +contextual -dsimp only [↓SD, SU, simprocAttr]) ?_
 rintro r hp' ⟨u, rfl, rfl⟩
 simp +contextual -dsimp (maxSteps := 2000000) only [↓SD, SU, simprocAttr, Ab]
 intro v3
 obtain ⟨K, hK⟩ : ∃ K, K = sub nm 0 := ⟨_, rfl⟩
 rw [← hK]
 refine Am (X := Nat × (Nat → Nat)) (fun x => ⟨[(2, .ptr 2 v 0 0), (3, .ptr 3 v3 0 0), (11, .row 8 u l.length), (12, .int .i64 l.length), (13, .int .i64 x.1)], (2, ⟨v, false, 86, 1, [.agg [.An]]⟩) :: (3, ⟨v3, false, 86, 1, [.agg [.row 8 u l.length]]⟩) :: (8, ⟨u, false, 96, 4, MA K x.2 l x.1⟩) :: ohL K x.2 0 (l.take x.1)⟩) (fun x => x.1 ≤ l.length) (fun x => l.length - x.1) (0, fun _ => 0) (Nat.zero_le _) (by simp +contextual -dsimp only [↓SD, SU, simprocAttr]) (by simp +contextual -dsimp only [↓SD, SU, simprocAttr, R3, List.take_zero, Jj]) ?_
 rintro ⟨k, vs⟩ hk
 dsimp only at hk ⊢
 by_cases hlt : k < l.length
 ·have hg := VJ (nm := K) (vs := vs) hlt .top
  have hs := fun v1 => VH (nm := K) (vs := v1) (vs' := vs) hlt
  have hlen := VI (nm := K) (vs := vs) hk
  have hm := Au (List.getElem_mem hlt)
  have hb1 : Ac.bulk l[k] = Ac.bulk l[k].kind + Ac.bulk l[k].n + Ac.bulk l[k].s + Ac.bulk l[k].kids + 1 := rfl
  have hl1 := Ai l[k].kids
  have CI := Ub (sub (sub K k) 0) l[k].kids (by omega)
  obtain ⟨U, hU⟩ : ∃ U, U = ohL K vs 0 (l.take k) := ⟨_, rfl⟩
  have hUU : AR U U := by rw [hU]; exact Dc _ _ _ _
  have hUg : ∀ p ∈ U, 10000 ≤ p.1 := by rw [hU]; exact Fy
  have hUl : ∀ p ∈ U, ∃ i, i < k ∧ InT (sub K i) p.1 := by rw [hU]; exact TC
  have hmo := fun v1 (H : Hp) => Mx (nm := K) (vs := vs) (v1 := v1) hlt (H := H)
  rw [← hU] at hmo ⊢
  clear hU
  generalize MA K vs l k = M at *
  simp only [Vp, VB] at hs hmo
  generalize l[k] = a at *
  rw [AU] at hg
  simp +contextual -dsimp (maxSteps := 2000000) only [↓SD, SU, simprocAttr, Ab, hlt, hg, hlen]
  intro w5
  refine ⟨?_, ?_⟩
  all_goals
   refine Bt [] CI (by simp +contextual -dsimp only [↓SD, SU, simprocAttr]) ?_
   rintro r hp' ⟨v1, rfl, rfl⟩ H hH
   rw [DN] at hH
   have hold := OO hH
   have ho : AR H (oh (sub (sub K k) 0) v1 a.kids) := by rw [hH]; exact Cj (OVal.self _ _ _)
   have hUH : AR H U := by
    rw [hH]
    refine Fl ?_ fun p hp q hq e => ?_
    ·repeat (first | exact hUU | refine Cd ?_ (fun p hp e => by have := hUg p hp; omega))
    ·obtain ⟨i, hi, h1⟩ := hUl p hp
     have h2 := (OVal.inh hq).up
     rw [e] at h2
     have := h1.sib h2
     omega
   simp +contextual -dsimp (maxSteps := 2000000) only [↓SD, SU, simprocAttr, Ab, DJ, hlt, hg, hlen, hold]
   refine ⟨by omega, Af.le ⟨(k + 1, glue (sub K k) v1 vs), ⟨hlt, (by first | omega | (simp only; omega))⟩, rfl⟩ (by simp +contextual -dsimp only [↓SD, SU, simprocAttr, Int.natCast_add]) ?_⟩
   have hs1 := hs v1
   simp only [← hs1]
   simp +contextual -dsimp (maxSteps := 2000000) only [↓SD, SU, simprocAttr, hold, hg]
   exact Cd (hmo v1 H hUH ho) (fun p hp e => by have := Fy p hp; omega)
 ·obtain rfl : k = l.length := by omega
  rw [List.take_length, VK]
  obtain ⟨U, hU⟩ : ∃ U, U = ohL K vs 0 l := ⟨_, rfl⟩
  have hUU : AR U U := by rw [hU]; exact Dc _ _ _ _
  have hUg : ∀ p ∈ U, 10000 ≤ p.1 := by rw [hU]; exact Fy
  have hUc : ∀ (j : Nat) (b : Box) (hp : Hp), j < 10000 → AR hp U → AR ((j, b) :: hp) U := fun j b hp hj h => Cd h fun p hp e => by have := hUg p hp; omega
  rw [← hU]
  simp +contextual -dsimp (maxSteps := 2000000) only [↓SD, SU, simprocAttr, Nat.lt_irrefl]
  refine Af.post ((8, ⟨u, false, 96, 4, ovL K vs 0 l⟩) :: U) ?_
  simp +contextual -dsimp (maxSteps := 2000000) only [↓SD, SU, simprocAttr, false_and]
  exact ⟨by repeat (first | exact hUU | refine hUc _ _ _ (by omega) ?_), u, vs, rfl, by rw [hU, hK]⟩
theorem M5 (nm : Nat) (l : List Pat) (hx : Ac.bulk l ≤ 4294967296) : Bu Tryz.prog 68 [.sl (l.map av)] [] (DC nm l) := by
 have hl := Ai l
 refine HO.H rfl ?_
 simp +contextual -dsimp (maxSteps := 2000000) only [↓SD, SU, simprocAttr, HO, Ab]
 intro v6
 refine Am (X := Nat × Nat × (Nat → Nat)) (fun x => ⟨[(3, .row 6 x.2.1 x.1), (7, .sl (l.map av)), (8, .int .i64 l.length), (9, .int .i64 x.1)], (6, ⟨x.2.1, false, 86, 1, ovL nm x.2.2 0 (l.take x.1)⟩) :: ohL nm x.2.2 0 (l.take x.1)⟩) (fun x => x.1 ≤ l.length) (fun x => l.length - x.1) (0, v6, fun _ => 0) (Nat.zero_le _) (by simp +contextual -dsimp only [↓SD, SU, simprocAttr]) (by simp +contextual -dsimp only [↓SD, SU, simprocAttr, List.take_zero, Jj, ovL]) ?_
 rintro ⟨k, u, vs⟩ hk
 dsimp only at hk ⊢
 by_cases hlt : k < l.length
 ·have e := getD_map av l k .top hlt
  have hm := Au (List.getElem_mem hlt)
  have C := WA (sub nm k) l[k] (by omega)
  have ho := fun v1 => Vr (nm := nm) (vs := v1) (vs' := vs) hlt
  have hmo := fun v1 (H : Hp) => Mx (nm := nm) (vs := vs) (v1 := v1) hlt (H := H)
  have hel : (ovL nm vs 0 (l.take k)).length = k := by rw [Dp]; simp; omega
  obtain ⟨U, hU⟩ : ∃ U, U = ohL nm vs 0 (l.take k) := ⟨_, rfl⟩
  have hUU : AR U U := by rw [hU]; exact Dc _ _ _ _
  have hUg : ∀ p ∈ U, 10000 ≤ p.1 := by rw [hU]; exact Fy
  have hUl : ∀ p ∈ U, ∃ i, i < k ∧ InT (sub nm i) p.1 := by rw [hU]; exact TC
  rw [← hU] at hmo ⊢
  clear hU
  obtain ⟨E, hE⟩ : ∃ E, E = ovL nm vs 0 (l.take k) := ⟨_, rfl⟩
  rw [← hE] at hel ho ⊢
  have hEt : List.take k E = E := List.take_of_length_le (by omega)
  simp only [X6, Tv] at hmo ho
  generalize l[k] = q at *
  rw [B7] at e C
  simp +contextual -dsimp (maxSteps := 2000000) only [↓SD, SU, simprocAttr, Ab, hlt, e]
  intro w5
  refine Bt [] C (by simp +contextual -dsimp only [↓SD, SU, simprocAttr]) ?_
  rintro r hp' ⟨v1, rfl, rfl⟩ H hH
  rw [DN] at hH
  have hold := fun q hq => OO hH q hq
  rw [X6] at hH
  have hoq : AR H (oh (sub (sub nm k) 0) v1 q.nodes) := by rw [hH]; exact Cj (OVal.self _ _ _)
  have hUH : AR H U := by
   rw [hH]
   refine Fl ?_ fun p hp q hq e => ?_
   ·repeat (first | exact hUU | refine Cd ?_ (fun p hp e => by have := hUg p hp; omega))
   ·obtain ⟨i, hi, h1⟩ := hUl p hp
    have h2 := (OVal.inh hq).up
    rw [e] at h2
    have := h1.sib h2
    omega
  have hr1 := BS hoq
  simp +contextual -dsimp (maxSteps := 2000000) only [↓SD, SU, simprocAttr, Ab, Tv, hold, hel, hEt, hr1, false_and, Cu]
  refine ⟨⟨by omega, by unfold maxLen; omega⟩, fun w => ⟨by omega, Af.le ⟨(k + 1, w, glue (sub nm k) v1 vs), ⟨hlt, (by first | omega | (simp only; omega))⟩, rfl⟩ (by simp +contextual -dsimp only [↓SD, SU, simprocAttr, Int.natCast_add]) ?_⟩⟩
  have ho1 := ho v1
  simp only [ho1]
  simp +contextual -dsimp (maxSteps := 2000000) only [↓SD, SU, simprocAttr]
  exact Cd (hmo v1 H hUH hoq) (fun p hp e => by have := Fy p hp; omega)
 ·obtain rfl : k = l.length := by omega
  rw [List.take_length]
  obtain ⟨H, hH⟩ : ∃ H, H = ((6, ⟨u, false, 86, 1, ovL nm vs 0 l⟩) :: ohL nm vs 0 l : Hp) := ⟨_, rfl⟩
  rw [← hH]
  simp +contextual -dsimp (maxSteps := 2000000) only [↓SD, SU, simprocAttr, Ab, Nat.lt_irrefl]
  rw [hH]
  refine Af.ren 2 6 nm (v := u) (n := l.length) rfl BH rfl fun v' => ?_
  obtain ⟨H', hH'⟩ : ∃ H', H' = ((nm, ⟨v', false, 86, 1, ovL nm vs 0 l⟩) :: Ci [6] ((6, ⟨u, false, 86, 1, ovL nm vs 0 l⟩) :: ohL nm vs 0 l) : Hp) := ⟨_, rfl⟩
  have hr : Ao H' nm = some ⟨v', false, 86, 1, ovL nm vs 0 l⟩ := by rw [hH']; exact BH
  have hle := TN (α := Pat) (nm := nm) (j := 6) (l := l) (vs := vs) (by omega) hH'
  dsimp only
  rw [← hH']
  refine Af.post (oh nm (glue nm (fun k => if k = nm then v' else vs k) vs) l) ?_
  simp +contextual -dsimp (maxSteps := 2000000) only [↓SD, SU, simprocAttr, hr, false_and]
  exact ⟨hle, _, (K4 l).1.symm, rfl⟩
set_option maxHeartbeats 4000000 in
theorem Q7 (nm : Nat) (l : List BF) (hx : Ac.bulk l ≤ 4294967296) : Bu Tryz.prog 67 [.sl (l.map av)] [] (DC nm l) := by
 have hl := Ai l
 refine G9.H rfl ?_
 simp +contextual -dsimp (maxSteps := 2000000) only [↓SD, SU, simprocAttr, G9, Ab]
 intro v8
 refine Am (X := Nat × Nat × (Nat → Nat)) (fun x => ⟨[(3, .row 8 x.2.1 x.1), (9, .sl (l.map av)), (10, .int .i64 l.length), (11, .int .i64 x.1)], (8, ⟨x.2.1, false, 72, 3, ovL nm x.2.2 0 (l.take x.1)⟩) :: ohL nm x.2.2 0 (l.take x.1)⟩) (fun x => x.1 ≤ l.length) (fun x => l.length - x.1) (0, v8, fun _ => 0) (Nat.zero_le _) (by simp +contextual -dsimp only [↓SD, SU, simprocAttr]) (by simp +contextual -dsimp only [↓SD, SU, simprocAttr, List.take_zero, Jj, ovL]) ?_
 rintro ⟨k, u, vs⟩ hk
 dsimp only at hk ⊢
 by_cases hlt : k < l.length
 ·have e := getD_map av l k .top hlt
  have hm := Au (List.getElem_mem hlt)
  have ho := fun v1 => Vr (nm := nm) (vs := v1) (vs' := vs) hlt
  have hmo := fun v1 (H : Hp) => Mx (nm := nm) (vs := vs) (v1 := v1) hlt (H := H)
  have hel : (ovL nm vs 0 (l.take k)).length = k := by rw [Dp]; simp; omega
  obtain ⟨U, hU⟩ : ∃ U, U = ohL nm vs 0 (l.take k) := ⟨_, rfl⟩
  have hUU : AR U U := by rw [hU]; exact Dc _ _ _ _
  have hUg : ∀ p ∈ U, 10000 ≤ p.1 := by rw [hU]; exact Fy
  have hUl : ∀ p ∈ U, ∃ i, i < k ∧ InT (sub nm i) p.1 := by rw [hU]; exact TC
  rw [← hU] at hmo ⊢
  clear hU
  obtain ⟨E, hE⟩ : ∃ E, E = ovL nm vs 0 (l.take k) := ⟨_, rfl⟩
  rw [← hE] at hel ho ⊢
  have hEt : List.take k E = E := List.take_of_length_le (by omega)
  simp only [Ac4, AcT] at hmo ho
  generalize l[k] = t at *
  have hbt : Ac.bulk t = Ac.bulk t.name + Ac.bulk t.params + Ac.bulk t.cons + 1 := rfl
  have hcl := Ai t.cons
  rw [BE] at e
  obtain ⟨C0, hC0⟩ : ∃ C0, C0 = sub (sub nm k) 0 := ⟨_, rfl⟩
  have CC := Uc C0 t.cons (by omega)
  rw [← hC0] at ho hmo
  have hKn : ∀ q, q < 10000 → (q == C0) = false := fun q hq => by rw [hC0]; exact Cu hq
  have hKm : ∀ q, q < 10000 → (C0 = q) = False := fun q hq => eq_false fun e => by have := Cm (sub nm k) 0; omega
  simp +contextual -dsimp (maxSteps := 2000000) only [↓SD, SU, simprocAttr, Ab, hlt, e]
  intro w5
  refine Bt [] CC (by simp +contextual -dsimp only [↓SD, SU, simprocAttr]) ?_
  rintro r hp' ⟨uC, rfl, rfl⟩ H hH
  rw [DN] at hH
  have hC : Ao H C0 = some ⟨uC, false, 77, 3, t.cons.map av⟩ := by rw [hH]; exact BH
  have hold : ∀ q, q < 10000 → Ao H q = Ao ([(5, ⟨w5, false, 72, 3, [.agg [.str t.name, .int .i64 t.params, .sl (t.cons.map av)]]⟩), (8, ⟨u, false, 72, 3, E⟩)] ++ U) q := fun q hq => by
   rw [hH, List.cons_append, BL (fun e => by have := Cm (sub nm k) 0; omega)]
   simp only [List.nil_append, Ao, List.cons_append]
   split <;> rfl
  have hUH : AR H U := by
   rw [hH]
   refine Fl ?_ fun p hp q hq e => ?_
   ·repeat (first | exact hUU | refine Cd ?_ (fun p hp e => by have := hUg p hp; omega))
   ·obtain ⟨i, hi, h1⟩ := hUl p hp
    rw [List.mem_singleton.1 hq] at e
    simp only at e
    rw [← e, hC0] at h1
    have := h1.sib (InT.up (i := 0) .root)
    omega
  simp +contextual -dsimp (maxSteps := 2000000) only [↓SD, SU, simprocAttr, Ab, hold, hC, hKn, hKm, List.length_map]
  refine Am (X := Nat × (Nat → Nat)) (fun x => ⟨[(3, .row 8 u k), (5, .ptr 5 w5 0 0), (9, .sl (l.map av)), (10, .int .i64 l.length), (11, .int .i64 k), (20, .row C0 uC t.cons.length), (21, .int .i64 t.cons.length), (22, .int .i64 x.1)], (8, ⟨u, false, 72, 3, E⟩) :: (5, ⟨w5, false, 72, 3, [.agg [.str t.name, .int .i64 t.params, .row C0 uC t.cons.length]]⟩) :: (C0, ⟨uC, false, 77, 3, MA C0 x.2 t.cons x.1⟩) :: (ohL C0 x.2 0 (t.cons.take x.1) ++ U)⟩) (fun x => x.1 ≤ t.cons.length) (fun x => t.cons.length - x.1) (0, fun _ => 0) (Nat.zero_le _) (by simp +contextual -dsimp only [↓SD, SU, simprocAttr]) (by
   simp +contextual -dsimp (maxSteps := 2000000) only [↓SD, SU, simprocAttr, R3, List.take_zero, Jj, hold, hC, hKn, hKm, List.nil_append]
   exact Cd hUH (fun p hp e => by have := hUg p hp; omega)) ?_
  clear hC hold hUH hH H
  rintro ⟨j, vc⟩ hj
  dsimp only at hj ⊢
  by_cases hlj : j < t.cons.length
  ·have hg := VJ (nm := C0) (vs := vc) hlj .top
   have hs := fun v1 => VH (nm := C0) (vs := v1) (vs' := vc) hlj
   have hlen := VI (nm := C0) (vs := vc) hj
   have hmj := Au (List.getElem_mem hlj)
   have hb1 : Ac.bulk t.cons[j] = Ac.bulk t.cons[j].name + Ac.bulk t.cons[j].has + Ac.bulk t.cons[j].arg + 1 := rfl
   have hb2 : Ac.bulk t.cons[j].arg = Ac.bulk t.cons[j].arg.items + 1 := rfl
   have hl1 := Ai t.cons[j].arg.items
   have CI := OC (sub (sub C0 j) 0) t.cons[j].arg.items (by omega)
   obtain ⟨V, hV⟩ : ∃ V, V = ohL C0 vc 0 (t.cons.take j) := ⟨_, rfl⟩
   have hVV : AR V V := by rw [hV]; exact Dc _ _ _ _
   have hVg : ∀ p ∈ V, 10000 ≤ p.1 := by rw [hV]; exact Fy
   have hVl : ∀ p ∈ V, ∃ i, i < j ∧ InT (sub C0 i) p.1 := by rw [hV]; exact TC
   have hmj := fun v1 (H : Hp) => Mx (nm := C0) (vs := vc) (v1 := v1) hlj (H := H)
   rw [← hV] at hmj ⊢
   clear hV
   have hVU : AR (V ++ U) (V ++ U) := by
    refine AF.2 ⟨Cj hVV, Fl hUU fun p hp q hq e => ?_⟩
    obtain ⟨i, hi, h1⟩ := hUl p hp
    obtain ⟨i2, hi2, h2⟩ := hVl q hq
    rw [hC0, e] at h2
    have := h1.sib h2.up.up
    omega
   have hWg : ∀ p ∈ V ++ U, 10000 ≤ p.1 := fun p hp => (List.mem_append.1 hp).elim (hVg p) (hUg p)
   have hWC : ∀ p ∈ V ++ U, C0 ≠ p.1 := fun p hp e => by
    rcases List.mem_append.1 hp with h | h
    ·obtain ⟨i2, hi2, h2⟩ := hVl p h
     exact h2.ne e.symm
    ·obtain ⟨i, hi, h1⟩ := hUl p h
     rw [← e, hC0] at h1
     have := h1.sib (InT.up (i := 0) .root)
     omega
   generalize MA C0 vc t.cons j = M at *
   simp only [AfH, AfI] at hs hmj
   generalize t.cons[j] = a at *
   rw [Ck] at hg
   simp +contextual -dsimp (maxSteps := 2000000) only [↓SD, SU, simprocAttr, Ab, hlj, hg, hlen, hKn, hKm, false_and]
   intro w7
   refine ⟨?_, ?_⟩
   all_goals
    refine Bt [] CI (by simp +contextual -dsimp only [↓SD, SU, simprocAttr]) ?_
    rintro r hp' ⟨v1, rfl, rfl⟩ H hH
    rw [DN] at hH
    have hold := OO hH
    have ho2 : AR H (oh (sub (sub C0 j) 0) v1 a.arg.items) := by rw [hH]; exact Cj (OVal.self _ _ _)
    have hCn : ¬ InT (sub (sub C0 j) 0) C0 := fun h => h.up.ne rfl
    have hHC : Ao H C0 = some ⟨uC, false, 77, 3, M⟩ := by
     rw [hH, Cx (Lh hCn)]
     simp only [Ao, hKm, eq_comm, if_false, if_true]
     first | rfl | simp [Ao, eq_comm, hKm]
    have hWH : AR H (V ++ U) := by
     rw [hH]
     refine Fl ?_ fun p hp q hq e => ?_
     ·repeat (first | exact hVU | refine Cd ?_ (fun p hp e => by have := hWg p hp; omega) | refine Cd ?_ hWC)
     ·have h2 := (OVal.inh hq).up
      rw [e] at h2
      rcases List.mem_append.1 hp with h | h
      ·obtain ⟨i, hi, h1⟩ := hVl p h
       have := h1.sib h2
       omega
      ·obtain ⟨i, hi, h1⟩ := hUl p h
       have h3 := h2.up
       rw [hC0] at h3
       have := h1.sib h3.up
       omega
    simp +contextual -dsimp (maxSteps := 2000000) only [↓SD, SU, simprocAttr, Ab, DJ, hlj, hg, hlen, hold, hHC, hKn, hKm, false_and]
    refine ⟨by omega, Af.le ⟨(j + 1, glue (sub C0 j) v1 vc), ⟨hlj, (by first | omega | (simp only; omega))⟩, rfl⟩ (by simp +contextual -dsimp only [↓SD, SU, simprocAttr, Int.natCast_add]) ?_⟩
    have hs1 := hs v1
    simp only [← hs1]
    simp +contextual -dsimp (maxSteps := 2000000) only [↓SD, SU, simprocAttr, hold, hKm]
    have hC1 : 10000 ≤ C0 := by rw [hC0]; exact Cm _ _
    refine ⟨(by rw [BL (by omega), hold 8 (by omega)]; rfl), (by rw [BL (by omega), hold 5 (by omega)]; rfl), ?_⟩
    exact AF.2 ⟨Cd (hmj v1 H (AF.1 hWH).1 ho2) (fun p hp e => by obtain ⟨i2, _, h2⟩ := DY hp; exact h2.ne e.symm), Cd (AF.1 hWH).2 (fun p hp => hWC p (List.mem_append_right _ hp))⟩
  ·obtain rfl : j = t.cons.length := by omega
   rw [List.take_length, VK]
   obtain ⟨vT, hvT⟩ : ∃ vT : Nat → Nat, vT = glue C0 (fun q => if q = C0 then uC else vc q) vc := ⟨_, rfl⟩
   have hfull := K4 (nm := C0) (vs := vc) (v' := uC) t.cons
   rw [← hvT, DJ] at hfull
   have hCv : vT C0 = uC := by have := hfull.1; cases this; rfl
   have hVV : AR (ohL C0 vc 0 t.cons) (ohL C0 vc 0 t.cons) := Dc _ _ _ _
   have hVg : ∀ p ∈ ohL C0 vc 0 t.cons, 10000 ≤ p.1 := Fy
   have hVC : ∀ p ∈ ohL C0 vc 0 t.cons, C0 ≠ p.1 := fun p hp e => by obtain ⟨i2, _, h2⟩ := DY hp; exact h2.ne e.symm
   have hUC : ∀ p ∈ U, C0 ≠ p.1 := fun p hp e => by
    obtain ⟨i, hi, h1⟩ := hUl p hp
    rw [← e, hC0] at h1
    have := h1.sib (InT.up (i := 0) .root)
    omega
   have hVU : AR (ohL C0 vc 0 t.cons ++ U) U := Fl hUU fun p hp q hq e => by
    obtain ⟨i, hi, h1⟩ := hUl p hp
    obtain ⟨i2, hi2, h2⟩ := DY hq
    rw [hC0, e] at h2
    have := h1.sib h2.up.up
    omega
   have ho1 := ho vT
   rw [hCv] at ho1
   have hm1 := hmo vT
   rw [hfull.2] at hm1
   generalize ohL C0 vc 0 t.cons = V at *
   obtain ⟨R, hR⟩ : ∃ R, R = (C0, (⟨uC, false, 77, 3, ovL C0 vc 0 t.cons⟩ : Box)) :: (V ++ U) := ⟨_, rfl⟩
   have hRU : AR R U := by rw [hR]; exact Cd hVU hUC
   have hRV : AR R (V ++ [(C0, ⟨uC, false, OVal.ty Con, AVal.n Con, ovL C0 vc 0 t.cons⟩)]) := by
    rw [hR]
    exact AF.2 ⟨Cd (Cj hVV) hVC, BH, trivial⟩
   have hRC : Ao R C0 = some ⟨uC, false, 77, 3, ovL C0 vc 0 t.cons⟩ := by rw [hR]; exact BH
   rw [← hR]
   simp +contextual -dsimp (maxSteps := 2000000) only [↓SD, SU, simprocAttr, Nat.lt_irrefl, hel, hEt, hKn, hKm, hRC, false_and]
   refine ⟨⟨by omega, by unfold maxLen; omega⟩, fun w => ⟨by omega, Af.le ⟨(k + 1, w, glue (sub nm k) vT vs), ⟨hlt, (by first | omega | (simp only; omega))⟩, rfl⟩ (by simp +contextual -dsimp only [↓SD, SU, simprocAttr, Int.natCast_add]) ?_⟩⟩
   simp only [ho1]
   simp +contextual -dsimp (maxSteps := 2000000) only [↓SD, SU, simprocAttr]
   have hlow : ∀ (j : Nat) (b : Box) (hp : Hp), j < 10000 → AR hp (ohL nm (glue (sub nm k) vT vs) 0 (l.take (k + 1))) → AR ((j, b) :: hp) (ohL nm (glue (sub nm k) vT vs) 0 (l.take (k + 1))) := fun j b hp hj h => Cd h fun p hp e => by have := Fy p hp; omega
   refine hlow _ _ _ (by omega) (hlow _ _ _ (by omega) (hlow _ _ _ (by omega) (hm1 R hRU hRV)))
 ·obtain rfl : k = l.length := by omega
  rw [List.take_length]
  obtain ⟨H, hH⟩ : ∃ H, H = ((8, ⟨u, false, 72, 3, ovL nm vs 0 l⟩) :: ohL nm vs 0 l : Hp) := ⟨_, rfl⟩
  rw [← hH]
  simp +contextual -dsimp (maxSteps := 2000000) only [↓SD, SU, simprocAttr, Ab, Nat.lt_irrefl]
  rw [hH]
  refine Af.ren 2 8 nm (v := u) (n := l.length) rfl BH rfl fun v' => ?_
  obtain ⟨H', hH'⟩ : ∃ H', H' = ((nm, ⟨v', false, 72, 3, ovL nm vs 0 l⟩) :: Ci [8] ((8, ⟨u, false, 72, 3, ovL nm vs 0 l⟩) :: ohL nm vs 0 l) : Hp) := ⟨_, rfl⟩
  have hr : Ao H' nm = some ⟨v', false, 72, 3, ovL nm vs 0 l⟩ := by rw [hH']; exact BH
  have hle := TN (α := BF) (nm := nm) (j := 8) (l := l) (vs := vs) (by omega) hH'
  dsimp only
  rw [← hH']
  refine Af.post (oh nm (glue nm (fun k => if k = nm then v' else vs k) vs) l) ?_
  simp +contextual -dsimp (maxSteps := 2000000) only [↓SD, SU, simprocAttr, hr, false_and]
  exact ⟨hle, _, (K4 l).1.symm, rfl⟩
end Go.Proofs.YtppjinmlfcokaaaGreat

/-
 COPIES OF PATTERNS AND TYPES IN ROWS OF THEIR OWN, by the program's abstract texts. Conditions: none.
-/
import Derived.Test.YtppjinmlfcokaaaGreatJOProg
import Derived.Test.YtppjinmlfcokaaaGreatJJ17
set_option linter.unusedVariables false
set_option linter.unusedSimpArgs false
set_option maxRecDepth 100000
namespace Go.Proofs.YtppjinmlfcokaaaGreat
open Go.RowKit Go.Proofs.YtppjinmlfcokaaaGreat.Av Go.Proofs.YtppjinmlfcokaaaGreat.Ml
open Go.Proofs.YtppjinmlfcokaaaGreat.Av.AVal (av)
open OVal (ov oh on)

def Aet (nm : Nat) (ty : TypeId) (esz : Nat) (es : List AV) (r : AV) (hp' : Hp) : Prop := ∃ v, r = .row nm v es.length ∧ hp' = [(nm, ⟨v, false, ty, esz, es⟩)]
theorem T9 (nm : Nat) (l : List Int) (hl : l.length ≤ 4294967296) : AU Tryz.prog 173 [.sl (l.map av)] [] (Aet nm 3 1 (l.map av)) := by
 refine EW.H rfl ?_
 simp +contextual -dsimp (maxSteps := 2000000) only [↓SD, SU, simprocAttr, EW, Aa]
 refine ⟨fun h => ?_, fun v => ⟨⟨?_, by omega, by unfold maxLen; omega⟩, fun u => ?_⟩⟩
 ·refine Af.new 2 nm 3 1 rfl fun u => ?_
  have hl0 : l = [] := by simpa using h
  subst hl0
  refine Af.post [(nm, ⟨u, false, 3, 1, []⟩)] ?_
  simp +contextual -dsimp (maxSteps := 2000000) only [↓SD, SU, simprocAttr]
  exact ⟨u, rfl, rfl⟩
 ·rintro y hy
  rw [AK] at hy
  obtain ⟨x, _, rfl⟩ := List.mem_map.1 hy
  exact AVal.len x
 ·rw [AK]
  refine Af.ren 2 5 nm (v := u) (n := l.length) rfl AZ rfl fun v' => ?_
  refine Af.post [(nm, ⟨v', false, 3, 1, l.map av⟩)] ?_
  simp +contextual -dsimp (maxSteps := 2000000) only [↓SD, SU, simprocAttr, false_and]
  exact ⟨v', by rw [List.length_map], rfl⟩
theorem OT (nm : Nat) (l : List Bb) (hl : l.length ≤ 4294967296) : AU Tryz.prog 134 [.sl (l.map av)] [] (Aet nm 136 3 (l.map av)) := by
 refine CV.H rfl ?_
 simp +contextual -dsimp (maxSteps := 2000000) only [↓SD, SU, simprocAttr, CV, Aa]
 refine ⟨fun h => ?_, fun v => ⟨⟨?_, by omega, by unfold maxLen; omega⟩, fun u => ?_⟩⟩
 ·refine Af.new 2 nm 136 3 rfl fun u => ?_
  have hl0 : l = [] := by simpa using h
  subst hl0
  refine Af.post [(nm, ⟨u, false, 136, 3, []⟩)] ?_
  simp +contextual -dsimp (maxSteps := 2000000) only [↓SD, SU, simprocAttr]
  exact ⟨u, rfl, rfl⟩
 ·rintro y hy
  rw [AK] at hy
  obtain ⟨x, _, rfl⟩ := List.mem_map.1 hy
  exact AVal.len x
 ·rw [AK]
  refine Af.ren 2 5 nm (v := u) (n := l.length) rfl AZ rfl fun v' => ?_
  refine Af.post [(nm, ⟨v', false, 136, 3, l.map av⟩)] ?_
  simp +contextual -dsimp (maxSteps := 2000000) only [↓SD, SU, simprocAttr, false_and]
  exact ⟨v', by rw [List.length_map], rfl⟩
theorem QR (nm : Nat) (l : List Bu) (hl : l.length ≤ 4294967296) : AU Tryz.prog 172 [.sl (l.map av)] [] (Aet nm 96 4 (l.map av)) := by
 refine CX.H rfl ?_
 simp +contextual -dsimp (maxSteps := 2000000) only [↓SD, SU, simprocAttr, CX, Aa]
 refine ⟨fun h => ?_, fun v => ⟨⟨?_, by omega, by unfold maxLen; omega⟩, fun u => ?_⟩⟩
 ·refine Af.new 2 nm 96 4 rfl fun u => ?_
  have hl0 : l = [] := by simpa using h
  subst hl0
  refine Af.post [(nm, ⟨u, false, 96, 4, []⟩)] ?_
  simp +contextual -dsimp (maxSteps := 2000000) only [↓SD, SU, simprocAttr]
  exact ⟨u, rfl, rfl⟩
 ·rintro y hy
  rw [AK] at hy
  obtain ⟨x, _, rfl⟩ := List.mem_map.1 hy
  exact AVal.len x
 ·rw [AK]
  refine Af.ren 2 5 nm (v := u) (n := l.length) rfl AZ rfl fun v' => ?_
  refine Af.post [(nm, ⟨v', false, 96, 4, l.map av⟩)] ?_
  simp +contextual -dsimp (maxSteps := 2000000) only [↓SD, SU, simprocAttr, false_and]
  exact ⟨v', by rw [List.length_map], rfl⟩
theorem Ub (nm : Nat) (l : List Con) (hl : l.length ≤ 4294967296) : AU Tryz.prog 133 [.sl (l.map av)] [] (Aet nm 77 3 (l.map av)) := by
 refine Dz.H rfl ?_
 simp +contextual -dsimp (maxSteps := 2000000) only [↓SD, SU, simprocAttr, Dz, Aa]
 refine ⟨fun h => ?_, fun v => ⟨⟨?_, by omega, by unfold maxLen; omega⟩, fun u => ?_⟩⟩
 ·refine Af.new 2 nm 77 3 rfl fun u => ?_
  have hl0 : l = [] := by simpa using h
  subst hl0
  refine Af.post [(nm, ⟨u, false, 77, 3, []⟩)] ?_
  simp +contextual -dsimp (maxSteps := 2000000) only [↓SD, SU, simprocAttr]
  exact ⟨u, rfl, rfl⟩
 ·rintro y hy
  rw [AK] at hy
  obtain ⟨x, _, rfl⟩ := List.mem_map.1 hy
  exact AVal.len x
 ·rw [AK]
  refine Af.ren 2 5 nm (v := u) (n := l.length) rfl AZ rfl fun v' => ?_
  refine Af.post [(nm, ⟨v', false, 77, 3, l.map av⟩)] ?_
  simp +contextual -dsimp (maxSteps := 2000000) only [↓SD, SU, simprocAttr, false_and]
  exact ⟨v', by rw [List.length_map], rfl⟩
theorem OA {P : Go.Program} {f : FuncId} {args : List AV} {hp : Hp} {Post Post2 : AV → Hp → Prop} (h : AU P f args hp Post) (hg : ∀ r hp', Post r hp' → Post2 r hp') : AU P f args hp Post2 :=
 C9 h fun r hp' hr => Af.here (hg r hp' hr)
theorem XW (nm : Nat) (vs : Nat → Nat) (l : List Bb) : oh nm vs l = [(nm, ⟨vs nm, false, 136, 3, l.map av⟩)] := ML (fun _ _ _ => rfl) (fun _ _ _ => rfl) nm vs l
theorem Ua (nm : Nat) (l : List Int) (hl : l.length ≤ 4294967296) : AU Tryz.prog 173 [.sl (l.map av)] [] (BW nm l) := by
 refine OA (T9 nm l hl) ?_
 rintro r hp' ⟨v, rfl, rfl⟩
 exact ⟨fun _ => v, by rw [AJ, List.length_map], by rw [Zz]⟩
theorem OU (nm : Nat) (l : List Bb) (hl : l.length ≤ 4294967296) : AU Tryz.prog 134 [.sl (l.map av)] [] (BW nm l) := by
 refine OA (OT nm l hl) ?_
 rintro r hp' ⟨v, rfl, rfl⟩
 exact ⟨fun _ => v, by rw [AJ, List.length_map], by rw [XW]⟩
def MP {α : Type} [AVal α] [OVal α] (nm : Nat) (vs : Nat → Nat) (l : List α) (k : Nat) : List AV := ovL nm vs 0 (l.take k) ++ (l.drop k).map av
section
variable {α : Type} [AVal α] [OVal α]
theorem R8 (nm : Nat) (vs : Nat → Nat) (l : List α) : MP nm vs l 0 = l.map av := rfl
theorem VI (nm : Nat) (vs : Nat → Nat) (l : List α) : MP nm vs l l.length = ovL nm vs 0 l := by simp [MP]
theorem VG {nm : Nat} {vs : Nat → Nat} {l : List α} {k : Nat} (h : k ≤ l.length) : (MP nm vs l k).length = l.length := by simp [MP, B2]; omega
theorem VH {nm : Nat} {vs : Nat → Nat} {l : List α} {k : Nat} (h : k < l.length) (d : AV) : (MP nm vs l k).getD k d = av l[k] := by
 have hk : (ovL nm vs 0 (l.take k)).length = k := by simp [B2]; omega
 simp only [MP, List.getD_eq_getElem?_getD]
 rw [List.getElem?_append_right (by omega), hk, Nat.sub_self, List.drop_eq_getElem_cons h]
 rfl
theorem VF {nm : Nat} {vs vs' : Nat → Nat} {l : List α} {k : Nat} (h : k < l.length) : (MP nm vs' l k).set k (ov (sub nm k) vs l[k]) = MP nm (glue (sub nm k) vs vs') l (k + 1) := by
 have hk : (ovL nm vs' 0 (l.take k)).length = k := by simp [B2]; omega
 have ht : (l.take k).length = k := by simp; omega
 simp only [MP]
 rw [List.set_append_right _ _ (by omega), hk, Nat.sub_self, List.drop_eq_getElem_cons h, List.map_cons, List.set_cons_zero, List.take_succ_eq_append_getElem h, Ln, ht, Nat.zero_add, (Ho vs vs' 0 _ (by omega)).1]
 simp only [ovL, MA, List.append_assoc, List.cons_append, List.nil_append]
theorem Vl {nm : Nat} {vs vs' : Nat → Nat} {l : List α} {k : Nat} (h : k < l.length) : ovL nm (glue (sub nm k) vs vs') 0 (l.take (k + 1)) = ovL nm vs' 0 (l.take k) ++ [ov (sub nm k) vs l[k]] := by
 have ht : (l.take k).length = k := by simp; omega
 rw [List.take_succ_eq_append_getElem h, Ln, ht, Nat.zero_add, (Ho vs vs' 0 _ (by omega)).1]
 simp only [ovL, MA]
theorem Fk {a H t : Hp} (h : Ax H t) (hn : ∀ p ∈ t, ∀ q ∈ a, q.1 ≠ p.1) : Ax (a ++ H) t := Az.2 fun p hp => by
 rw [BR (fun q hq => hn p hp q hq)]; exact Az.1 h p hp
theorem Ch {j : Nat} {b : Box} {H t : Hp} (h : Ax H t) (hn : ∀ p ∈ t, j ≠ p.1) : Ax ((j, b) :: H) t := Fk (a := [(j, b)]) h fun p hp q hq => by rw [List.mem_singleton.1 hq]; exact hn p hp
theorem MN {nm k : Nat} {vs v1 : Nat → Nat} {l : List α} (h : k < l.length) {H : Hp} (h1 : Ax H (ohL nm vs 0 (l.take k))) (h2 : Ax H (oh (sub nm k) v1 l[k])) : Ax H (ohL nm (glue (sub nm k) v1 vs) 0 (l.take (k + 1))) := by
 rw [Vw h, Ap]; exact ⟨h1, h2⟩
theorem Fy {nm i : Nat} {vs : Nat → Nat} {l : List α} : ∀ p ∈ ohL nm vs i l, 10000 ≤ p.1 := fun p hp => by obtain ⟨q, _, hq⟩ := DP hp; exact hq.ge
theorem Tz {nm : Nat} {vs : Nat → Nat} {l : List α} {k : Nat} : ∀ p ∈ ohL nm vs 0 (l.take k), ∃ i, i < k ∧ InT (sub nm i) p.1 := fun p hp => by
 obtain ⟨j, hj, hm⟩ := GC hp
 rw [Nat.zero_add] at hm
 exact ⟨j, by simp at hj; omega, OVal.inh hm⟩
end
theorem Wx (nm : Nat) (q : Pat) (hx : Ac.bulk q ≤ 4294967296) : AU Tryz.prog 135 [av q] [] (BW nm q) := by
 obtain ⟨l⟩ := q
 have hl := Ag l
 have hb : Ac.bulk l + 1 ≤ 4294967296 := hx
 have C := QR 8 l (by omega)
 refine C9 (Post := fun r hp' => ∃ v vs, r = .agg [.row 8 v l.length] ∧ hp' = (8, ⟨v, false, 96, 4, ovL (sub nm 0) vs 0 l⟩) :: ohL (sub nm 0) vs 0 l) (It.H rfl ?_) ?_
 case refine_2 =>
  rintro r hp' ⟨v, vs, rfl, rfl⟩
  refine Af.Afu 0 0 8 (sub nm 0) (v := v) (n := l.length) rfl rfl AZ rfl fun v' => ?_
  obtain ⟨H', hH'⟩ : ∃ H', H' = ((sub nm 0, ⟨v', false, 96, 4, ovL (sub nm 0) vs 0 l⟩) :: B1 [8] ((8, ⟨v, false, 96, 4, ovL (sub nm 0) vs 0 l⟩) :: ohL (sub nm 0) vs 0 l) : Hp) := ⟨_, rfl⟩
  have hle := Iw (α := Bu) (nm := sub nm 0) (j := 8) (l := l) (vs := vs) (by omega) hH'
  dsimp only
  rw [← hH']
  refine Af.le (t := ⟨[(0, .agg [.row (sub nm 0) v' l.length])], oh (sub nm 0) (glue (sub nm 0) (fun k => if k = sub nm 0 then v' else vs k) vs) l⟩) ?_ (by simp +contextual -dsimp only [↓SD, SU, simprocAttr]) hle
  exact ⟨_, by rw [JG]; rw [← (FU (nm := sub nm 0) (vs := vs) (v' := v') l).1]; rfl, rfl⟩
 simp +contextual -dsimp (maxSteps := 2000000) only [↓SD, SU, simprocAttr, It, Cc, Aa]
 intro v
 refine BB [] C (by simp +contextual -dsimp only [↓SD, SU, simprocAttr]) ?_
 rintro r hp' ⟨u, rfl, rfl⟩
 simp +contextual -dsimp (maxSteps := 2000000) only [↓SD, SU, simprocAttr, Aa]
 intro v3
 obtain ⟨K, hK⟩ : ∃ K, K = sub nm 0 := ⟨_, rfl⟩
 rw [← hK]
 refine Am (X := Nat × (Nat → Nat)) (fun x => ⟨[(2, .ptr 2 v 0 0), (3, .ptr 3 v3 0 0), (11, .row 8 u l.length), (12, .int .i64 l.length), (13, .int .i64 x.1)], (2, ⟨v, false, 86, 1, [.agg [.Aj]]⟩) :: (3, ⟨v3, false, 86, 1, [.agg [.row 8 u l.length]]⟩) :: (8, ⟨u, false, 96, 4, MP K x.2 l x.1⟩) :: ohL K x.2 0 (l.take x.1)⟩) (fun x => x.1 ≤ l.length) (fun x => l.length - x.1) (0, fun _ => 0) (Nat.zero_le _) (by simp +contextual -dsimp only [↓SD, SU, simprocAttr]) (by simp +contextual -dsimp only [↓SD, SU, simprocAttr, R8, List.take_zero, EL]) ?_
 rintro ⟨k, vs⟩ hk
 dsimp only at hk ⊢
 by_cases hlt : k < l.length
 ·have hg := VH (nm := K) (vs := vs) hlt .top
  have hs := fun v1 => VF (nm := K) (vs := v1) (vs' := vs) hlt
  have hlen := VG (nm := K) (vs := vs) hk
  have hm := AG (List.getElem_mem hlt)
  have hb1 : Ac.bulk l[k] = Ac.bulk l[k].kind + Ac.bulk l[k].n + Ac.bulk l[k].s + Ac.bulk l[k].kids + 1 := rfl
  have hl1 := Ag l[k].kids
  have CI := Ua (sub (sub K k) 0) l[k].kids (by omega)
  obtain ⟨U, hU⟩ : ∃ U, U = ohL K vs 0 (l.take k) := ⟨_, rfl⟩
  have hUU : Ax U U := by rw [hU]; exact Cy _ _ _ _
  have hUg : ∀ p ∈ U, 10000 ≤ p.1 := by rw [hU]; exact Fy
  have hUl : ∀ p ∈ U, ∃ i, i < k ∧ InT (sub K i) p.1 := by rw [hU]; exact Tz
  have hmo := fun v1 (H : Hp) => MN (nm := K) (vs := vs) (v1 := v1) hlt (H := H)
  rw [← hU] at hmo ⊢
  clear hU
  generalize MP K vs l k = M at *
  simp only [Hx, KB] at hs hmo
  generalize l[k] = a at *
  rw [A3] at hg
  simp +contextual -dsimp (maxSteps := 2000000) only [↓SD, SU, simprocAttr, Aa, hlt, hg, hlen]
  intro w5
  refine ⟨?_, ?_⟩
  all_goals
   refine As [] CI (by simp +contextual -dsimp only [↓SD, SU, simprocAttr]) ?_
   rintro r hp' ⟨v1, rfl, rfl⟩ H hH
   rw [Bs] at hH
   have hold := EK hH
   have ho : Ax H (oh (sub (sub K k) 0) v1 a.kids) := by rw [hH]; exact Bz (OVal.self _ _ _)
   have hUH : Ax H U := by
    rw [hH]
    refine Fk ?_ fun p hp q hq e => ?_
    ·repeat (first | exact hUU | refine Ch ?_ (fun p hp e => by have := hUg p hp; omega))
    ·obtain ⟨i, hi, h1⟩ := hUl p hp
     have h2 := (OVal.inh hq).up
     rw [e] at h2
     have := h1.sib h2
     omega
   simp +contextual -dsimp (maxSteps := 2000000) only [↓SD, SU, simprocAttr, Aa, AJ, hlt, hg, hlen, hold]
   refine ⟨by omega, Af.le ⟨(k + 1, glue (sub K k) v1 vs), ⟨hlt, (by first | omega | (simp only; omega))⟩, rfl⟩ (by simp +contextual -dsimp only [↓SD, SU, simprocAttr, Int.natCast_add]) ?_⟩
   have hs1 := hs v1
   simp only [← hs1]
   simp +contextual -dsimp (maxSteps := 2000000) only [↓SD, SU, simprocAttr, hold, hg]
   exact Ch (hmo v1 H hUH ho) (fun p hp e => by have := Fy p hp; omega)
 ·obtain rfl : k = l.length := by omega
  rw [List.take_length, VI]
  obtain ⟨U, hU⟩ : ∃ U, U = ohL K vs 0 l := ⟨_, rfl⟩
  have hUU : Ax U U := by rw [hU]; exact Cy _ _ _ _
  have hUg : ∀ p ∈ U, 10000 ≤ p.1 := by rw [hU]; exact Fy
  have hUc : ∀ (j : Nat) (b : Box) (hp : Hp), j < 10000 → Ax hp U → Ax ((j, b) :: hp) U := fun j b hp hj h => Ch h fun p hp e => by have := hUg p hp; omega
  rw [← hU]
  simp +contextual -dsimp (maxSteps := 2000000) only [↓SD, SU, simprocAttr, Nat.lt_irrefl]
  refine Af.post ((8, ⟨u, false, 96, 4, ovL K vs 0 l⟩) :: U) ?_
  simp +contextual -dsimp (maxSteps := 2000000) only [↓SD, SU, simprocAttr, false_and]
  exact ⟨by repeat (first | exact hUU | refine hUc _ _ _ (by omega) ?_), u, vs, rfl, by rw [hU, hK]⟩
theorem Nr (nm : Nat) (l : List Pat) (hx : Ac.bulk l ≤ 4294967296) : AU Tryz.prog 68 [.sl (l.map av)] [] (BW nm l) := by
 have hl := Ag l
 refine HN.H rfl ?_
 simp +contextual -dsimp (maxSteps := 2000000) only [↓SD, SU, simprocAttr, HN, Aa]
 intro v6
 refine Am (X := Nat × Nat × (Nat → Nat)) (fun x => ⟨[(3, .row 6 x.2.1 x.1), (7, .sl (l.map av)), (8, .int .i64 l.length), (9, .int .i64 x.1)], (6, ⟨x.2.1, false, 86, 1, ovL nm x.2.2 0 (l.take x.1)⟩) :: ohL nm x.2.2 0 (l.take x.1)⟩) (fun x => x.1 ≤ l.length) (fun x => l.length - x.1) (0, v6, fun _ => 0) (Nat.zero_le _) (by simp +contextual -dsimp only [↓SD, SU, simprocAttr]) (by simp +contextual -dsimp only [↓SD, SU, simprocAttr, List.take_zero, EL, ovL]) ?_
 rintro ⟨k, u, vs⟩ hk
 dsimp only at hk ⊢
 by_cases hlt : k < l.length
 ·have e := getD_map av l k .top hlt
  have hm := AG (List.getElem_mem hlt)
  have C := Wx (sub nm k) l[k] (by omega)
  have ho := fun v1 => Vl (nm := nm) (vs := v1) (vs' := vs) hlt
  have hmo := fun v1 (H : Hp) => MN (nm := nm) (vs := vs) (v1 := v1) hlt (H := H)
  have hel : (ovL nm vs 0 (l.take k)).length = k := by rw [B2]; simp; omega
  obtain ⟨U, hU⟩ : ∃ U, U = ohL nm vs 0 (l.take k) := ⟨_, rfl⟩
  have hUU : Ax U U := by rw [hU]; exact Cy _ _ _ _
  have hUg : ∀ p ∈ U, 10000 ≤ p.1 := by rw [hU]; exact Fy
  have hUl : ∀ p ∈ U, ∃ i, i < k ∧ InT (sub nm i) p.1 := by rw [hU]; exact Tz
  rw [← hU] at hmo ⊢
  clear hU
  obtain ⟨E, hE⟩ : ∃ E, E = ovL nm vs 0 (l.take k) := ⟨_, rfl⟩
  rw [← hE] at hel ho ⊢
  have hEt : List.take k E = E := List.take_of_length_le (by omega)
  simp only [NJ, JG] at hmo ho
  generalize l[k] = q at *
  rw [Cc] at e C
  simp +contextual -dsimp (maxSteps := 2000000) only [↓SD, SU, simprocAttr, Aa, hlt, e]
  intro w5
  refine As [] C (by simp +contextual -dsimp only [↓SD, SU, simprocAttr]) ?_
  rintro r hp' ⟨v1, rfl, rfl⟩ H hH
  rw [Bs] at hH
  have hold := fun q hq => EK hH q hq
  rw [NJ] at hH
  have hoq : Ax H (oh (sub (sub nm k) 0) v1 q.nodes) := by rw [hH]; exact Bz (OVal.self _ _ _)
  have hUH : Ax H U := by
   rw [hH]
   refine Fk ?_ fun p hp q hq e => ?_
   ·repeat (first | exact hUU | refine Ch ?_ (fun p hp e => by have := hUg p hp; omega))
   ·obtain ⟨i, hi, h1⟩ := hUl p hp
    have h2 := (OVal.inh hq).up
    rw [e] at h2
    have := h1.sib h2
    omega
  have hr1 := Aq hoq
  simp +contextual -dsimp (maxSteps := 2000000) only [↓SD, SU, simprocAttr, Aa, JG, hold, hel, hEt, hr1, false_and, AQ]
  refine ⟨⟨by omega, by unfold maxLen; omega⟩, fun w => ⟨by omega, Af.le ⟨(k + 1, w, glue (sub nm k) v1 vs), ⟨hlt, (by first | omega | (simp only; omega))⟩, rfl⟩ (by simp +contextual -dsimp only [↓SD, SU, simprocAttr, Int.natCast_add]) ?_⟩⟩
  have ho1 := ho v1
  simp only [ho1]
  simp +contextual -dsimp (maxSteps := 2000000) only [↓SD, SU, simprocAttr]
  exact Ch (hmo v1 H hUH hoq) (fun p hp e => by have := Fy p hp; omega)
 ·obtain rfl : k = l.length := by omega
  rw [List.take_length]
  obtain ⟨H, hH⟩ : ∃ H, H = ((6, ⟨u, false, 86, 1, ovL nm vs 0 l⟩) :: ohL nm vs 0 l : Hp) := ⟨_, rfl⟩
  rw [← hH]
  simp +contextual -dsimp (maxSteps := 2000000) only [↓SD, SU, simprocAttr, Aa, Nat.lt_irrefl]
  rw [hH]
  refine Af.ren 2 6 nm (v := u) (n := l.length) rfl AZ rfl fun v' => ?_
  obtain ⟨H', hH'⟩ : ∃ H', H' = ((nm, ⟨v', false, 86, 1, ovL nm vs 0 l⟩) :: B1 [6] ((6, ⟨u, false, 86, 1, ovL nm vs 0 l⟩) :: ohL nm vs 0 l) : Hp) := ⟨_, rfl⟩
  have hr : An H' nm = some ⟨v', false, 86, 1, ovL nm vs 0 l⟩ := by rw [hH']; exact AZ
  have hle := Iw (α := Pat) (nm := nm) (j := 6) (l := l) (vs := vs) (by omega) hH'
  dsimp only
  rw [← hH']
  refine Af.post (oh nm (glue nm (fun k => if k = nm then v' else vs k) vs) l) ?_
  simp +contextual -dsimp (maxSteps := 2000000) only [↓SD, SU, simprocAttr, hr, false_and]
  exact ⟨hle, _, (FU l).1.symm, rfl⟩
set_option maxHeartbeats 4000000 in
theorem Rc (nm : Nat) (l : List BK) (hx : Ac.bulk l ≤ 4294967296) : AU Tryz.prog 67 [.sl (l.map av)] [] (BW nm l) := by
 have hl := Ag l
 refine G6.H rfl ?_
 simp +contextual -dsimp (maxSteps := 2000000) only [↓SD, SU, simprocAttr, G6, Aa]
 intro v8
 refine Am (X := Nat × Nat × (Nat → Nat)) (fun x => ⟨[(3, .row 8 x.2.1 x.1), (9, .sl (l.map av)), (10, .int .i64 l.length), (11, .int .i64 x.1)], (8, ⟨x.2.1, false, 72, 3, ovL nm x.2.2 0 (l.take x.1)⟩) :: ohL nm x.2.2 0 (l.take x.1)⟩) (fun x => x.1 ≤ l.length) (fun x => l.length - x.1) (0, v8, fun _ => 0) (Nat.zero_le _) (by simp +contextual -dsimp only [↓SD, SU, simprocAttr]) (by simp +contextual -dsimp only [↓SD, SU, simprocAttr, List.take_zero, EL, ovL]) ?_
 rintro ⟨k, u, vs⟩ hk
 dsimp only at hk ⊢
 by_cases hlt : k < l.length
 ·have e := getD_map av l k .top hlt
  have hm := AG (List.getElem_mem hlt)
  have ho := fun v1 => Vl (nm := nm) (vs := v1) (vs' := vs) hlt
  have hmo := fun v1 (H : Hp) => MN (nm := nm) (vs := vs) (v1 := v1) hlt (H := H)
  have hel : (ovL nm vs 0 (l.take k)).length = k := by rw [B2]; simp; omega
  obtain ⟨U, hU⟩ : ∃ U, U = ohL nm vs 0 (l.take k) := ⟨_, rfl⟩
  have hUU : Ax U U := by rw [hU]; exact Cy _ _ _ _
  have hUg : ∀ p ∈ U, 10000 ≤ p.1 := by rw [hU]; exact Fy
  have hUl : ∀ p ∈ U, ∃ i, i < k ∧ InT (sub nm i) p.1 := by rw [hU]; exact Tz
  rw [← hU] at hmo ⊢
  clear hU
  obtain ⟨E, hE⟩ : ∃ E, E = ovL nm vs 0 (l.take k) := ⟨_, rfl⟩
  rw [← hE] at hel ho ⊢
  have hEt : List.take k E = E := List.take_of_length_le (by omega)
  simp only [MM, IY] at hmo ho
  generalize l[k] = t at *
  have hbt : Ac.bulk t = Ac.bulk t.name + Ac.bulk t.params + Ac.bulk t.cons + 1 := rfl
  have hcl := Ag t.cons
  rw [BJ] at e
  obtain ⟨C0, hC0⟩ : ∃ C0, C0 = sub (sub nm k) 0 := ⟨_, rfl⟩
  have CC := Ub C0 t.cons (by omega)
  rw [← hC0] at ho hmo
  have hKn : ∀ q, q < 10000 → (q == C0) = false := fun q hq => by rw [hC0]; exact AQ hq
  have hKm : ∀ q, q < 10000 → (C0 = q) = False := fun q hq => eq_false fun e => by have := Ci (sub nm k) 0; omega
  simp +contextual -dsimp (maxSteps := 2000000) only [↓SD, SU, simprocAttr, Aa, hlt, e]
  intro w5
  refine As [] CC (by simp +contextual -dsimp only [↓SD, SU, simprocAttr]) ?_
  rintro r hp' ⟨uC, rfl, rfl⟩ H hH
  rw [Bs] at hH
  have hC : An H C0 = some ⟨uC, false, 77, 3, t.cons.map av⟩ := by rw [hH]; exact AZ
  have hold : ∀ q, q < 10000 → An H q = An ([(5, ⟨w5, false, 72, 3, [.agg [.str t.name, .int .i64 t.params, .sl (t.cons.map av)]]⟩), (8, ⟨u, false, 72, 3, E⟩)] ++ U) q := fun q hq => by
   rw [hH, List.cons_append, BE (fun e => by have := Ci (sub nm k) 0; omega)]
   simp only [List.nil_append, An, List.cons_append]
   split <;> rfl
  have hUH : Ax H U := by
   rw [hH]
   refine Fk ?_ fun p hp q hq e => ?_
   ·repeat (first | exact hUU | refine Ch ?_ (fun p hp e => by have := hUg p hp; omega))
   ·obtain ⟨i, hi, h1⟩ := hUl p hp
    rw [List.mem_singleton.1 hq] at e
    simp only at e
    rw [← e, hC0] at h1
    have := h1.sib (InT.up (i := 0) .root)
    omega
  simp +contextual -dsimp (maxSteps := 2000000) only [↓SD, SU, simprocAttr, Aa, hold, hC, hKn, hKm, List.length_map]
  refine Am (X := Nat × (Nat → Nat)) (fun x => ⟨[(3, .row 8 u k), (5, .ptr 5 w5 0 0), (9, .sl (l.map av)), (10, .int .i64 l.length), (11, .int .i64 k), (20, .row C0 uC t.cons.length), (21, .int .i64 t.cons.length), (22, .int .i64 x.1)], (8, ⟨u, false, 72, 3, E⟩) :: (5, ⟨w5, false, 72, 3, [.agg [.str t.name, .int .i64 t.params, .row C0 uC t.cons.length]]⟩) :: (C0, ⟨uC, false, 77, 3, MP C0 x.2 t.cons x.1⟩) :: (ohL C0 x.2 0 (t.cons.take x.1) ++ U)⟩) (fun x => x.1 ≤ t.cons.length) (fun x => t.cons.length - x.1) (0, fun _ => 0) (Nat.zero_le _) (by simp +contextual -dsimp only [↓SD, SU, simprocAttr]) (by
   simp +contextual -dsimp (maxSteps := 2000000) only [↓SD, SU, simprocAttr, R8, List.take_zero, EL, hold, hC, hKn, hKm, List.nil_append]
   exact Ch hUH (fun p hp e => by have := hUg p hp; omega)) ?_
  clear hC hold hUH hH H
  rintro ⟨j, vc⟩ hj
  dsimp only at hj ⊢
  by_cases hlj : j < t.cons.length
  ·have hg := VH (nm := C0) (vs := vc) hlj .top
   have hs := fun v1 => VF (nm := C0) (vs := v1) (vs' := vc) hlj
   have hlen := VG (nm := C0) (vs := vc) hj
   have hmj := AG (List.getElem_mem hlj)
   have hb1 : Ac.bulk t.cons[j] = Ac.bulk t.cons[j].name + Ac.bulk t.cons[j].has + Ac.bulk t.cons[j].arg + 1 := rfl
   have hb2 : Ac.bulk t.cons[j].arg = Ac.bulk t.cons[j].arg.items + 1 := rfl
   have hl1 := Ag t.cons[j].arg.items
   have CI := OU (sub (sub C0 j) 0) t.cons[j].arg.items (by omega)
   obtain ⟨V, hV⟩ : ∃ V, V = ohL C0 vc 0 (t.cons.take j) := ⟨_, rfl⟩
   have hVV : Ax V V := by rw [hV]; exact Cy _ _ _ _
   have hVg : ∀ p ∈ V, 10000 ≤ p.1 := by rw [hV]; exact Fy
   have hVl : ∀ p ∈ V, ∃ i, i < j ∧ InT (sub C0 i) p.1 := by rw [hV]; exact Tz
   have hmj := fun v1 (H : Hp) => MN (nm := C0) (vs := vc) (v1 := v1) hlj (H := H)
   rw [← hV] at hmj ⊢
   clear hV
   have hVU : Ax (V ++ U) (V ++ U) := by
    refine Ap.2 ⟨Bz hVV, Fk hUU fun p hp q hq e => ?_⟩
    obtain ⟨i, hi, h1⟩ := hUl p hp
    obtain ⟨i2, hi2, h2⟩ := hVl q hq
    rw [hC0, e] at h2
    have := h1.sib h2.up.up
    omega
   have hWg : ∀ p ∈ V ++ U, 10000 ≤ p.1 := fun p hp => (List.mem_append.1 hp).elim (hVg p) (hUg p)
   have hWC : ∀ p ∈ V ++ U, C0 ≠ p.1 := fun p hp e => by
    rcases List.mem_append.1 hp with h | h
    ·obtain ⟨i2, hi2, h2⟩ := hVl p h
     exact h2.ne e.symm
    ·obtain ⟨i, hi, h1⟩ := hUl p h
     rw [← e, hC0] at h1
     have := h1.sib (InT.up (i := 0) .root)
     omega
   generalize MP C0 vc t.cons j = M at *
   simp only [NH, Tx] at hs hmj
   generalize t.cons[j] = a at *
   rw [Cq] at hg
   simp +contextual -dsimp (maxSteps := 2000000) only [↓SD, SU, simprocAttr, Aa, hlj, hg, hlen, hKn, hKm, false_and]
   intro w7
   refine ⟨?_, ?_⟩
   all_goals
    refine As [] CI (by simp +contextual -dsimp only [↓SD, SU, simprocAttr]) ?_
    rintro r hp' ⟨v1, rfl, rfl⟩ H hH
    rw [Bs] at hH
    have hold := EK hH
    have ho2 : Ax H (oh (sub (sub C0 j) 0) v1 a.arg.items) := by rw [hH]; exact Bz (OVal.self _ _ _)
    have hCn : ¬ InT (sub (sub C0 j) 0) C0 := fun h => h.up.ne rfl
    have hHC : An H C0 = some ⟨uC, false, 77, 3, M⟩ := by
     rw [hH, BR (FE hCn)]
     simp only [An, hKm, eq_comm, if_false, if_true]
     first | rfl | simp [An, eq_comm, hKm]
    have hWH : Ax H (V ++ U) := by
     rw [hH]
     refine Fk ?_ fun p hp q hq e => ?_
     ·repeat (first | exact hVU | refine Ch ?_ (fun p hp e => by have := hWg p hp; omega) | refine Ch ?_ hWC)
     ·have h2 := (OVal.inh hq).up
      rw [e] at h2
      rcases List.mem_append.1 hp with h | h
      ·obtain ⟨i, hi, h1⟩ := hVl p h
       have := h1.sib h2
       omega
      ·obtain ⟨i, hi, h1⟩ := hUl p h
       have h3 := h2.up
       rw [hC0] at h3
       have := h1.sib h3.up
       omega
    simp +contextual -dsimp (maxSteps := 2000000) only [↓SD, SU, simprocAttr, Aa, AJ, hlj, hg, hlen, hold, hHC, hKn, hKm, false_and]
    refine ⟨by omega, Af.le ⟨(j + 1, glue (sub C0 j) v1 vc), ⟨hlj, (by first | omega | (simp only; omega))⟩, rfl⟩ (by simp +contextual -dsimp only [↓SD, SU, simprocAttr, Int.natCast_add]) ?_⟩
    have hs1 := hs v1
    simp only [← hs1]
    simp +contextual -dsimp (maxSteps := 2000000) only [↓SD, SU, simprocAttr, hold, hKm]
    have hC1 : 10000 ≤ C0 := by rw [hC0]; exact Ci _ _
    refine ⟨(by rw [BE (by omega), hold 8 (by omega)]; rfl), (by rw [BE (by omega), hold 5 (by omega)]; rfl), ?_⟩
    exact Ap.2 ⟨Ch (hmj v1 H (Ap.1 hWH).1 ho2) (fun p hp e => by obtain ⟨i2, _, h2⟩ := DP hp; exact h2.ne e.symm), Ch (Ap.1 hWH).2 (fun p hp => hWC p (List.mem_append_right _ hp))⟩
  ·obtain rfl : j = t.cons.length := by omega
   rw [List.take_length, VI]
   obtain ⟨vT, hvT⟩ : ∃ vT : Nat → Nat, vT = glue C0 (fun q => if q = C0 then uC else vc q) vc := ⟨_, rfl⟩
   have hfull := FU (nm := C0) (vs := vc) (v' := uC) t.cons
   rw [← hvT, AJ] at hfull
   have hCv : vT C0 = uC := by have := hfull.1; cases this; rfl
   have hVV : Ax (ohL C0 vc 0 t.cons) (ohL C0 vc 0 t.cons) := Cy _ _ _ _
   have hVg : ∀ p ∈ ohL C0 vc 0 t.cons, 10000 ≤ p.1 := Fy
   have hVC : ∀ p ∈ ohL C0 vc 0 t.cons, C0 ≠ p.1 := fun p hp e => by obtain ⟨i2, _, h2⟩ := DP hp; exact h2.ne e.symm
   have hUC : ∀ p ∈ U, C0 ≠ p.1 := fun p hp e => by
    obtain ⟨i, hi, h1⟩ := hUl p hp
    rw [← e, hC0] at h1
    have := h1.sib (InT.up (i := 0) .root)
    omega
   have hVU : Ax (ohL C0 vc 0 t.cons ++ U) U := Fk hUU fun p hp q hq e => by
    obtain ⟨i, hi, h1⟩ := hUl p hp
    obtain ⟨i2, hi2, h2⟩ := DP hq
    rw [hC0, e] at h2
    have := h1.sib h2.up.up
    omega
   have ho1 := ho vT
   rw [hCv] at ho1
   have hm1 := hmo vT
   rw [hfull.2] at hm1
   generalize ohL C0 vc 0 t.cons = V at *
   obtain ⟨R, hR⟩ : ∃ R, R = (C0, (⟨uC, false, 77, 3, ovL C0 vc 0 t.cons⟩ : Box)) :: (V ++ U) := ⟨_, rfl⟩
   have hRU : Ax R U := by rw [hR]; exact Ch hVU hUC
   have hRV : Ax R (V ++ [(C0, ⟨uC, false, OVal.ty Con, AVal.n Con, ovL C0 vc 0 t.cons⟩)]) := by
    rw [hR]
    exact Ap.2 ⟨Ch (Bz hVV) hVC, AZ, trivial⟩
   have hRC : An R C0 = some ⟨uC, false, 77, 3, ovL C0 vc 0 t.cons⟩ := by rw [hR]; exact AZ
   rw [← hR]
   simp +contextual -dsimp (maxSteps := 2000000) only [↓SD, SU, simprocAttr, Nat.lt_irrefl, hel, hEt, hKn, hKm, hRC, false_and]
   refine ⟨⟨by omega, by unfold maxLen; omega⟩, fun w => ⟨by omega, Af.le ⟨(k + 1, w, glue (sub nm k) vT vs), ⟨hlt, (by first | omega | (simp only; omega))⟩, rfl⟩ (by simp +contextual -dsimp only [↓SD, SU, simprocAttr, Int.natCast_add]) ?_⟩⟩
   simp only [ho1]
   simp +contextual -dsimp (maxSteps := 2000000) only [↓SD, SU, simprocAttr]
   have hlow : ∀ (j : Nat) (b : Box) (hp : Hp), j < 10000 → Ax hp (ohL nm (glue (sub nm k) vT vs) 0 (l.take (k + 1))) → Ax ((j, b) :: hp) (ohL nm (glue (sub nm k) vT vs) 0 (l.take (k + 1))) := fun j b hp hj h => Ch h fun p hp e => by have := Fy p hp; omega
   refine hlow _ _ _ (by omega) (hlow _ _ _ (by omega) (hlow _ _ _ (by omega) (hm1 R hRU hRV)))
 ·obtain rfl : k = l.length := by omega
  rw [List.take_length]
  obtain ⟨H, hH⟩ : ∃ H, H = ((8, ⟨u, false, 72, 3, ovL nm vs 0 l⟩) :: ohL nm vs 0 l : Hp) := ⟨_, rfl⟩
  rw [← hH]
  simp +contextual -dsimp (maxSteps := 2000000) only [↓SD, SU, simprocAttr, Aa, Nat.lt_irrefl]
  rw [hH]
  refine Af.ren 2 8 nm (v := u) (n := l.length) rfl AZ rfl fun v' => ?_
  obtain ⟨H', hH'⟩ : ∃ H', H' = ((nm, ⟨v', false, 72, 3, ovL nm vs 0 l⟩) :: B1 [8] ((8, ⟨u, false, 72, 3, ovL nm vs 0 l⟩) :: ohL nm vs 0 l) : Hp) := ⟨_, rfl⟩
  have hr : An H' nm = some ⟨v', false, 72, 3, ovL nm vs 0 l⟩ := by rw [hH']; exact AZ
  have hle := Iw (α := BK) (nm := nm) (j := 8) (l := l) (vs := vs) (by omega) hH'
  dsimp only
  rw [← hH']
  refine Af.post (oh nm (glue nm (fun k => if k = nm then v' else vs k) vs) l) ?_
  simp +contextual -dsimp (maxSteps := 2000000) only [↓SD, SU, simprocAttr, hr, false_and]
  exact ⟨hle, _, (FU l).1.symm, rfl⟩
end Go.Proofs.YtppjinmlfcokaaaGreat

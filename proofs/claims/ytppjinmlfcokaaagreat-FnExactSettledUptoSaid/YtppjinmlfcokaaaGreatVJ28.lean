/-
 WHAT EVERY REWRITING LESSENS: the spaces outside quotes. Conditions: none.
-/
import Derived.Test.YtppjinmlfcokaaaGreatVJ27
import Derived.Test.YtppjinmlfcokaaaGreatVJ25
import Derived.Test.YtppjinmlfcokaaaGreatVJ17
set_option linter.unusedVariables false
set_option linter.unusedSimpArgs false
set_option maxRecDepth 100000
namespace Go.Proofs.YtppjinmlfcokaaaGreat
open Go.RowKit Go.Proofs.YtppjinmlfcokaaaGreat.Av Go.Proofs.YtppjinmlfcokaaaGreat.Ml
open Go.Proofs.YtppjinmlfcokaaaGreat.Av.AVal (av)

theorem Md : ∀ {ks : List Tr} {k : Tr}, k ∈ ks → spT k ≤ Di ks
 | [], k, hk => by cases hk
 | t :: ts, k, hk => by
  rw [Di]
  rcases List.mem_cons.1 hk with rfl | hk
  ·omega
  ·have := Md hk; omega
theorem Y5 {n : Node} (h : n.kind = 1 ∨ n.kind = 2 ∨ n.kind = 12 ∨ n.kind = 4) : spN n 0 = 0 := by
 unfold spN
 rcases h with h | h | h | h <;> simp [h]
theorem RE {s : ByteArray} {a n : Node} : ∀ {ks : List Tr} {i : Nat}, (∀ k ∈ ks, spT (De s a k) = spT k) → Di (BG s a n i ks) = Di ks
 | [], i, _ => by rw [BG]
 | t :: ts, i, h => by
  rw [BG, Di, Di, RE fun k hk => h k (by simp [hk])]
  split
  ·rfl
  ·rw [h t (by simp)]
theorem AcB {s : ByteArray} {a : Node} (ha : a.kind = 1 ∨ a.kind = 2 ∨ a.kind = 12 ∨ a.kind = 4) : ∀ t : Tr, t.rk → spT (De s a t) = spT t := Tr.ind fun n ks ih h => by
 rw [Tr.rk] at h
 rw [De]
 split
 ·rename_i h3
  have hl := List.eq_nil_of_length_eq_zero (h.1.1 (.inr (.inr (.inl h3))))
  subst hl
  split
  ·rw [spT, spT, List.length_nil, Y5 (n := { a with pos := n.pos }) ha]
   unfold spN; simp [h3]
  ·rfl
 ·rw [spT, spT, DR, RE fun k hk => ih k hk (Ch.1 h.2 k hk)]
theorem Yu {B : Nat} {t : Tr} (hf : t.each (FQ B)) : Az t = t ∨ spT (Az t) < spT t := by
 obtain ⟨n, ks⟩ := t
 rw [Tr.each] at hf
 obtain ⟨⟨ha, hb, hc⟩, hfs⟩ := hf
 have sub : ∀ i, i < ks.length → spT (kid ks i) ≤ Di ks := fun i hi => by rw [Hi hi]; exact Md (List.getElem_mem hi)
 rw [Az, spT]
 split
 ·rename_i h10
  have e : spN n ks.length = 2 := by unfold spN; simp [h10]
  split
  ·rename_i m hm
   obtain ⟨k, v, s, rfl, hk, _, _⟩ := LG hm
   refine .inr ?_
   rw [spT, List.length_nil, Y5 (by dsimp only; omega), Di]
   omega
  ·exact .inl rfl
 ·split
  ·rename_i h9
   have hl := ha.2.1 h9
   have e : spN n ks.length = 5 := by unfold spN; simp [h9]
   split
   ·have := sub 1 (by omega); exact .inr (by omega)
   ·split
    ·have := sub 2 (by omega); exact .inr (by omega)
    ·exact .inl rfl
  ·split
   ·rename_i h19
    have hl := ha.2.2.1 h19
    have e : spN n ks.length = 1 := by unfold spN; simp [h19]
    split
    ·have := sub 1 (by omega); exact .inr (by omega)
    ·exact .inl rfl
   ·split
    ·rename_i h7
     have e : spN n ks.length = 5 := by unfold spN; simp [h7]
     split
     ·rename_i hk
      by_cases hl : 1 < ks.length
      ·have := sub 1 hl; exact .inr (by omega)
      ·have e2 : kid ks 1 = .mk default [] := by unfold kid; simp [List.getD_eq_getElem?_getD, hl]
       have e3 : spT (.mk default []) = 0 := by rw [spT, Di]; rfl
       exact .inr (by rw [e2, e3]; omega)
     ·exact .inl rfl
    ·exact .inl rfl
theorem YE {t : Tr} (h : t.rk) : AM t = t ∨ spT (AM t) < spT t := by
 obtain ⟨n, ks⟩ := t
 rw [Tr.rk] at h
 rw [AM, spT]
 split
 ·rename_i hc
  have hl := h.1.2.2.1 hc.1
  split
  ·exact .inl rfl
  ·rename_i i hi
   have hlt := K8 hi
   have e : 4 * n.Ae.length + 2 ≤ spN n ks.length := by unfold spN; simp [hc.1]
   refine .inr ?_
   cases ks with
   | nil => simp at hl
   | cons t ts =>
    have e1 : (t :: ts).getD 0 (.mk default []) = t := rfl
    have hi2 : i < ts.length := by simp at hl; omega
    have e2 : (t :: ts).getD (i + 1) (.mk default []) = ts[i] := by simp [List.getD_eq_getElem?_getD, hi2]
    have h3 := Md (List.getElem_mem hi2)
    rw [e1, e2]
    rw [Di]
    dsimp only
    split
    ·rw [spT, Di, Di, Di]
     have e3 : spN (⟨7, n.pos, 0, ((n.Ae.getD i default).nodes.getD 0 default).s, [], []⟩ : Node) [t, ts[i]].length = 5 := rfl
     omega
    ·omega
 ·exact .inl rfl
theorem XL {t : Tr} (h : t.rk) : AP t = t ∨ spT (AP t) < spT t := by
 obtain ⟨n, ks⟩ := t
 rw [Tr.rk] at h
 rw [AP, spT]
 split
 ·rename_i hc
  have hl := h.1.2.1 hc.1
  have g0 := Is h.2 (i := 0) (by omega)
  have g1 := Is h.2 (i := 1) (by omega)
  obtain ⟨p1, _, _⟩ := HE g0.1 hc.2
  have hk : (ks.getD 0 (.mk default [])).hd.kind = 1 ∨ (ks.getD 0 (.mk default [])).hd.kind = 2 ∨ (ks.getD 0 (.mk default [])).hd.kind = 12 ∨ (ks.getD 0 (.mk default [])).hd.kind = 4 := by
   have hp := hc.2
   rw [p1] at hp
   simp only [Es, CG, Bool.or_eq_true, Bool.and_eq_true, decide_eq_true_eq] at hp
   omega
  refine .inr ?_
  rw [AcB hk _ g1.1]
  have e : spN n ks.length = 5 := by unfold spN; simp [hc.1]
  have e2 : ks.getD 1 (.mk default []) = ks[1]'(by omega) := by simp [List.getD_eq_getElem?_getD, show 1 < ks.length by omega]
  have := Md (List.getElem_mem (show 1 < ks.length by omega))
  rw [e2]; omega
 ·exact .inl rfl
theorem Ux {R : Tr → Tr} : ∀ {ks : List Tr}, (∀ k ∈ ks, AZ R k = k ∨ spT (AZ R k) < spT k) → ks.map (AZ R) = ks ∨ Di (ks.map (AZ R)) < Di ks
 | [], _ => .inl rfl
 | t :: ts, h => by
  have h1 := h t (by simp)
  have h2 := Ux (ks := ts) fun k hk => h k (by simp [hk])
  rw [List.map_cons, Di, Di]
  rcases h1 with h1 | h1 <;> rcases h2 with h2 | h2
  ·rw [h1, h2]; exact .inl rfl
  ·rw [h1]; exact .inr (by omega)
  ·rw [h2]; exact .inr (by omega)
  ·exact .inr (by omega)
theorem Aey {K : Tr → Prop} {R : Tr → Tr} (hk : ∀ n ks, K (.mk n ks) → ∀ k ∈ ks, K k) (hm : ∀ n ks ks', K (.mk n ks) → ks'.length = ks.length → (∀ k ∈ ks', K k) → K (.mk n ks')) (hR : ∀ t, K t → K (R t) ∧ (R t).size ≤ t.size) (hs : ∀ t, K t → R t = t ∨ spT (R t) < spT t) : ∀ t : Tr, K t → AZ R t = t ∨ spT (AZ R t) < spT t := Tr.ind fun n ks ih h => by
 have hks := hk n ks h
 rw [KY]
 rcases Ux (R := R) fun k hk => ih k hk (hks k hk) with h1 | h1
 ·rw [h1]; exact hs _ h
 ·have h2 := hs _ (hm n ks _ h (List.length_map (AZ R)) fun k hk' => by
   obtain ⟨q, hq, rfl⟩ := List.mem_map.1 hk'
   exact (GM hk hm hR q (hks q hq)).1)
  have h3 : spT (.mk n (ks.map (AZ R))) < spT (.mk n ks) := by rw [spT, spT, List.length_map]; omega
  refine .inr ?_
  rcases h2 with h2 | h2
  ·rw [h2]; exact h3
  ·omega
theorem Ads {ks : List Tr} (h : ∀ k ∈ ks, ∀ b, ((Bz b k).map fun n => spN n n.kids.length).sum = spT k) : ∀ b, ((BD b ks).map fun n => spN n n.kids.length).sum = Di ks := by
 induction ks with
 | nil => intro b; rw [BD, Di]; rfl
 | cons k ks ih =>
  intro b
  rw [BD, Di, List.map_append, List.sum_append, h k (by simp), ih fun k hk => h k (by simp [hk])]
theorem Z8 : ∀ (t : Tr) (b : Nat), ((Bz b t).map fun n => spN n n.kids.length).sum = spT t := Tr.ind fun n ks ih b => by
 rw [Bz, spT, List.map_cons, List.sum_cons, Ads ih, ED]
 rfl
theorem AfZ (l : List Node) : ((l.map zpN).map fun n => spN n n.kids.length) = l.map fun n => spN n n.kids.length := by
 rw [List.map_map]; rfl
theorem Wp : ∀ {ks : List Tr}, (∀ k ∈ ks, ∀ b, spT (NB b k) = spT k) → ∀ b, Di (Iu b ks) = Di ks
 | [], _, b => by rw [Iu]
 | t :: ts, h, b => by rw [Iu, Di, Di, h t (by simp), Wp fun k hk => h k (by simp [hk])]
theorem Sl : ∀ (ks : List Tr) (b : Nat), (Iu b ks).length = ks.length
 | [], b => by rw [Iu]
 | t :: ts, b => by rw [Iu, List.length_cons, List.length_cons, Sl]
theorem AeX : ∀ (t : Tr) (b : Nat), spT (NB b t) = spT t := Tr.ind fun n ks ih b => by
 rw [NB, spT, spT, Wp ih, Sl]; rfl
def Ov (R : Tr → Tr) : Prop := ∀ t, TK 2100000 t → (TK 2100000 (R t) ∧ (R t).size ≤ t.size) ∧ (R t = t ∨ spT (R t) < spT t)
theorem H4 : Ov Az := fun t h => ⟨HQ (by decide) t h, Yu h.2⟩
theorem H5 : Ov AM := fun t h => ⟨YD t h, YE h.1⟩
theorem HZ : Ov AP := fun t h => ⟨XK t h, XL h.1⟩
theorem OH {R : Tr → Tr} {p : Program} (hb : Bv p = true) : Dj R p = ⟨p.types, Bz 0 (AZ R (Al p.nodes 0))⟩ := by rw [Dj, if_pos hb]
theorem Zm {R : Tr → Tr} (hR : Ov R) {p : Program} (hx : Ac.bulk p ≤ 4294967296) (hs : SmP 2100000 p) (hb : Bv p = true) : Dj R p = p ∨ spT (AZ R (Al p.nodes 0)) < spT (Al p.nodes 0) := by
 rcases Aey Je O5 (fun t h => (hR t h).1) (fun t h => (hR t h).2) _ (Te hx hb hs.2.2) with h | h
 ·rw [OH hb, h, PZ (Dk hx hb).2.2.1]; exact .inl rfl
 ·exact .inr h
theorem XO {R : Tr → Tr} (hR : Ov R) {p : Program} (hx : Ac.bulk p ≤ 4294967296) (hs : SmP 2100000 p) (hb : Bv p = true) : decide ((Dj R p).nodes.map zpN = p.nodes.map zpN) = decide (Dj R p = p) := by
 rw [Bool.eq_iff_iff, decide_eq_true_eq, decide_eq_true_eq]
 refine ⟨fun h => ?_, fun h => by rw [h]⟩
 rcases Zm hR hx hs hb with h1 | h1
 ·exact h1
 ·have h2 := congrArg (fun l => (l.map fun n => spN n n.kids.length).sum) h
  simp only [AfZ, OH hb, Z8] at h2
  have h3 := Z8 (Al p.nodes 0) 0
  rw [PZ (Dk hx hb).2.2.1] at h3
  omega
end Go.Proofs.YtppjinmlfcokaaaGreat
set_option linter.unusedVariables false
set_option linter.unusedSimpArgs false
set_option maxRecDepth 100000
namespace Go.Proofs.YtppjinmlfcokaaaGreat
open Go.RowKit Go.Proofs.YtppjinmlfcokaaaGreat.Av Go.Proofs.YtppjinmlfcokaaaGreat.Ml
open Go.Proofs.YtppjinmlfcokaaaGreat.Av.AVal (av)

theorem G5 {e : Nat → Option Nat} {ks : List Int} {a m : Nat} (h : BR e ks a = some m) (hl : ks.length = 1) : ks = [(a : Int)] ∧ e a = some m := by
 match ks, hl with
 | [k], _ =>
 rw [BR] at h
 split at h
 ·rename_i hk
  cases he : e a with
  | none => simp only [he] at h; cases h
  | some c => simp only [he, BR] at h; exact ⟨by rw [hk], h⟩
 ·cases h
theorem V0 {e : Nat → Option Nat} {k : Int} {ks : List Int} {a m : Nat} (h : BR e (k :: ks) a = some m) : k = (a : Int) ∧ ∃ c, e a = some c ∧ BR e ks c = some m := by
 rw [BR] at h
 split at h
 ·rename_i hk
  cases he : e a with
  | none => simp only [he] at h; cases h
  | some c => simp only [he] at h; exact ⟨hk, c, rfl, h⟩
 ·cases h
theorem DF {e : Nat → Option Nat} {ks : List Int} {a m : Nat} (h : BR e ks a = some m) (hl : ks.length = 2) : ∃ c : Nat, ks = [(a : Int), (c : Int)] ∧ e a = some c ∧ e c = some m := by
 match ks, hl with
 | [k, k'], _ =>
 obtain ⟨e1, c, e2, h⟩ := V0 h
 obtain ⟨e3, e4⟩ := G5 h rfl
 cases e3
 exact ⟨c, by rw [e1], e2, e4⟩
theorem Aff {e : Nat → Option Nat} {ks : List Int} {a m : Nat} (h : BR e ks a = some m) (hl : ks.length = 3) : ∃ c d : Nat, ks = [(a : Int), (c : Int), (d : Int)] ∧ e a = some c ∧ e c = some d ∧ e d = some m := by
 match ks, hl with
 | k :: ks, hl =>
 obtain ⟨e1, c, e2, h⟩ := V0 h
 obtain ⟨d, e3, e4, e5⟩ := DF h (by simpa using hl)
 exact ⟨c, d, by rw [e1, e3], e2, e4, e5⟩
theorem EN {K : Nat → List Int} {n f i e : Nat} (h : B9 K n f i = some e) : ∃ g, f = g + 1 ∧ i < n ∧ BR (B9 K n g) (K i) (i + 1) = some e := by
 cases f with
 | zero => cases h
 | succ g =>
  rw [B9] at h
  split at h
  ·rename_i hi; exact ⟨g, rfl, hi, h⟩
  ·cases h
theorem Mg {s : ByteArray} {k : Int} {p : Bool} (h : FT s k p = true) : k ≤ 1 := by
 unfold FT at h
 split at h
 ·have := of_decide_eq_true h; omega
 ·split at h
  ·simp only [Bool.and_eq_true, decide_eq_true_eq] at h; omega
  ·simp only [Bool.and_eq_true, decide_eq_true_eq] at h; omega
def Px (l : List Bg) (k : Nat) : Nat := ((l.take k).map fun x => 80 + x.s.size).sum
theorem RR {l : List Bg} {k : Nat} (h : k < l.length) : Px l (k + 1) = Px l k + (80 + (l.getD k default).s.size) := by
 unfold Px
 rw [List.take_succ_eq_append_getElem h, List.map_append, List.sum_append]; simp [List.getD_eq_getElem?_getD, h]
theorem ZG {l : List Bg} (hp : Et l = true) : ∀ f i e, B9 (B2 l) l.length f i = some e → (∃ k, Clk (LH l f i) k) ∧ (LH l f i).size + Px l i ≤ Px l e := by
 intro f
 induction f with
 | zero => intro i e h; cases h
 | succ f ih =>
  intro i e h
  obtain ⟨g, hg, hi, h⟩ := EN h
  cases hg
  simp only [Et, Bool.and_eq_true, M9] at hp
  have hn := hp.2 i hi
  simp only [GN, Bool.and_eq_true] at hn
  have hn := hn.1
  have hs := RR hi
  have s1 : ((bs [40])).size = 1 := rfl
  have s2 : ((bs [44, 32])).size = 2 := rfl
  have s3 : ((bs [41])).size = 1 := rfl
  have s4 : ((bs [32, 58, 58, 32])).size = 4 := rfl
  have s5 : ((bs [32])).size = 1 := rfl
  have s6 : ((bs [95])).size = 1 := rfl
  have s7 : ((bs [40, 41])).size = 2 := rfl
  have c1 : Clk (bs [40]) 0 := AH _ _ (by decide)
  have c2 : Clk (bs [44, 32]) 1 := AH _ _ (by decide)
  have c3 : Clk (bs [41]) 0 := AH _ _ (by decide)
  have c4 : Clk (bs [32, 58, 58, 32]) 2 := AH _ _ (by decide)
  have c5 : Clk (bs [32]) 1 := AH _ _ (by decide)
  have leaf : (B2 l i).length = 0 → e = i + 1 := fun h0 => by
   rw [List.eq_nil_of_length_eq_zero h0, BR] at h; cases h; rfl
  rw [LH]
  have hK : B2 l i = (l.getD i default).kids := rfl
  generalize hP : l.getD i default = n at *
  unfold Er at hn
  unfold AfF
  simp only [← hK] at hn ⊢
  split at hn
  ·rename_i h0
   simp only [Bool.and_eq_true, decide_eq_true_eq] at hn
   have := leaf hn.1.1
   subst this
   rcases h0 with h0 | h0 <;> simp only [h0, if_true, if_false, Int.reduceEq]
   ·exact ⟨⟨_, AH _ 0 (by decide)⟩, by omega⟩
   ·exact ⟨⟨_, AH _ 0 (by decide)⟩, by omega⟩
  ·rename_i n0
   rw [if_neg (fun h => n0 (.inl h))]
   split at hn
   ·rename_i h0
    simp only [Bool.and_eq_true, decide_eq_true_eq] at hn
    have := leaf hn.1.1
    subst this
    rw [if_pos h0]
    exact ⟨⟨_, (W0.name hn.2).clk⟩, by omega⟩
   ·rename_i h2
    rw [if_neg h2]
    split at hn
    ·rename_i h0
     simp only [Bool.and_eq_true, decide_eq_true_eq] at hn
     have := leaf hn.1.1
     subst this
     rw [if_pos h0]
     have := OR n.n
     exact ⟨⟨_, AaC _⟩, by omega⟩
    ·rename_i h3
     rw [if_neg h3, if_neg (fun h => n0 (.inr h))]
     split at hn
     ·rename_i h4
      rw [if_neg (by omega)]
      simp only [Bool.and_eq_true, decide_eq_true_eq] at hn
      have hw := W0.con hn.2
      split
      ·rename_i h0
       have := leaf h0
       subst this
       exact ⟨⟨_, hw.clk⟩, by omega⟩
      ·rename_i h0
       split
       ·rename_i hc
        have hn := hn.2
        rw [hc, Hu] at hn
        simp only [Bool.and_eq_true, decide_eq_true_eq] at hn
        obtain ⟨e1, e2⟩ := G5 h (by omega)
        obtain ⟨g, rfl, hi2, hk⟩ := EN e2
        have hk5 : (l.getD (i + 1) default).kind = 5 := by
         have := hn.2
         rw [e1] at this
         simp only [Ay, Bool.and_eq_true, decide_eq_true_eq] at this
         simpa using this.2
        have hn2 := hp.2 (i + 1) hi2
        simp only [GN, Bool.and_eq_true] at hn2
        have hn2 := hn2.1
        unfold Er at hn2
        simp only [hk5] at hn2
        simp at hn2
        obtain ⟨c, e3, e4, e5⟩ := DF hk (show (B2 l (i + 1)).length = 2 from hn2.1.1)
        have a1 := ih (i + 1 + 1) c (Em _ _ _ _ _ e4)
        have a2 := ih c e (Em _ _ _ _ _ e5)
        have hs2 := RR hi2
        obtain ⟨⟨k1, q1⟩, z1⟩ := a1
        obtain ⟨⟨k2, q2⟩, z2⟩ := a2
        have f1 : ((B2 l i).getD 0 0).toNat = i + 1 := by rw [e1]; rfl
        have f2 : ((B2 l (i + 1)).getD 0 0).toNat = i + 1 + 1 := by rw [e3]; rfl
        have f3 : ((B2 l (i + 1)).getD 1 0).toNat = c := by rw [e3]; rfl
        simp only [f1, f2, f3]
        refine ⟨⟨_, (((c1.app q1).app c4).app q2).app c3⟩, ?_⟩
        simp only [ByteArray.size_append]
        omega
       ·rename_i hc
        have hl : (B2 l i).length = 1 := by have := Mg hn.2; omega
        obtain ⟨e1, e2⟩ := G5 h hl
        obtain ⟨⟨k1, q1⟩, z1⟩ := ih (i + 1) e e2
        have f1 : ((B2 l i).getD 0 0).toNat = i + 1 := by rw [e1]; rfl
        simp only [f1]
        refine ⟨⟨_, (((c1.app hw.clk).app c5).app q1).app c3⟩, ?_⟩
        simp only [ByteArray.size_append]
        omega
     ·split at hn
      ·rename_i h5
       simp only [Bool.and_eq_true, decide_eq_true_eq] at hn
       rw [if_pos h5]
       obtain ⟨c, e3, e4, e5⟩ := DF h hn.1.1
       obtain ⟨⟨k1, q1⟩, z1⟩ := ih (i + 1) c e4
       obtain ⟨⟨k2, q2⟩, z2⟩ := ih c e e5
       have f2 : ((B2 l i).getD 0 0).toNat = i + 1 := by rw [e3]; rfl
       have f3 : ((B2 l i).getD 1 0).toNat = c := by rw [e3]; rfl
       simp only [f2, f3]
       refine ⟨⟨_, (((c1.app q1).app c2).app q2).app c3⟩, ?_⟩
       simp only [ByteArray.size_append]
       omega
      ·cases hn
theorem ZF {q : Pat} (hp : Et q.nodes = true) : Clk (J5 q) (sc 0 (bl (J5 q))) ∧ (J5 q).size ≤ 100 * Ac.bulk q := by
 have h0 := hp
 simp only [Et, Bool.and_eq_true] at h0
 obtain ⟨⟨k, c⟩, z⟩ := ZG hp _ 0 _ (of_decide_eq_true h0.1.2)
 refine ⟨Clk.self c, ?_⟩
 have h1 : Px q.nodes q.nodes.length ≤ 80 * Ac.bulk q.nodes := by
  unfold Px
  rw [List.take_length]
  generalize q.nodes = l
  induction l with
  | nil => simp
  | cons x l ih =>
   have e1 : Ac.bulk (x :: l) = Ac.bulk x + Ac.bulk l := by show (List.map Ac.bulk (x :: l)).sum + 1 = _ + ((l.map Ac.bulk).sum + 1); simp; omega
   have e2 : Ac.bulk x = Ac.bulk x.kind + Ac.bulk x.n + (x.s.size + 1) + Ac.bulk x.kids + 1 := rfl
   rw [List.map_cons, List.sum_cons]
   omega
 have h2 : Ac.bulk q = Ac.bulk q.nodes + 1 := rfl
 have h3 : (J5 q).size ≤ Px q.nodes q.nodes.length := by show (LH q.nodes _ 0).size ≤ _; omega
 omega
end Go.Proofs.YtppjinmlfcokaaaGreat

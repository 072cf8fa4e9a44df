/-
 A PROGRAM DRAWN WITH A FIELD SPOILT AT TIMES: l04Any. Conditions: none.
-/
import Derived.Test.YtoffpbehgncakaaGreatKDrawF
import Derived.Test.YtoffpbehgncakaaGreatKJ36
set_option linter.unusedVariables false
set_option linter.unusedSimpArgs false
set_option maxRecDepth 100000
namespace Go.Proofs.YtoffpbehgncakaaGreat
open Go.RowKit Go.Proofs.YtoffpbehgncakaaGreat.Av Go.Proofs.YtoffpbehgncakaaGreat.Ml
open Go.Proofs.YtoffpbehgncakaaGreat.Av.AVal (av)
open OVal (ov oh on)

def Qf (c : List UInt8) (v : Nat) (r : AV) (hp' : Hp) : Prop := ∃ (p : Program) (i : Nat) (h : Int), nz r = av p ∧ Ob p ∧ C6 c i h ∧ hp' = [(2000, BR c v i h)]
theorem QZ {c : List UInt8} {v i v2 : Nat} {h : Int} {fr : List (Nat × AV)} {hp : Hp} {X1 X2 : AV} (ks : List Nat) (hk : C6 c i h) (h0 : Bf fr 2 = .ptr 2 v2 0 0) (h2 : Ay hp 2 = some ⟨v2, false, 26, 2, [.agg [X1, X2]]⟩) (hc : Ay hp 2000 = some (BR c v i h)) (hks : ∀ k ∈ ks, k ≠ 2 ∧ k ≠ 2000) (he : ∃ p : Program, nz (AV.pur (BK ks hp) (.agg [X1, X2])) = av p ∧ Ob p) : Ai ⟨fr, hp⟩ (KU [En.c true 2 2] (Qf c v)) := by
 obtain ⟨p, e, hp'⟩ := he
 refine Ai.Acd ks (Ai.post [(2000, BR c v i h)] ?_)
 have a1 : Ay (BK ks hp) 2 = some ⟨v2, false, 26, 2, [.agg [X1, X2]]⟩ := (BI fun e => (hks _ e).1 rfl).trans h2
 have a2 : Ay (BK ks hp) 2000 = some (BR c v i h) := (BI fun e => (hks _ e).2 rfl).trans hc
 generalize BK ks hp = H at *
 obtain ⟨Y1, hY1⟩ : ∃ Y, AV.Bu H X1 = Y := ⟨_, rfl⟩
 obtain ⟨Y2, hY2⟩ : ∃ Y, AV.Bu H X2 = Y := ⟨_, rfl⟩
 have e' : nz (.agg [Y1, Y2]) = av p := by rw [← hY1, ← hY2]; exact e
 simp +contextual -dsimp (maxSteps := 2000000) only [↓SD, SU, simprocAttr, h0, a1, a2, hY1, hY2]
 exact ⟨p, i, h, e', hp', hk, rfl⟩
theorem Q0 {T : Hp} {nm m nT nF : Nat} {c : List UInt8} {v i v2 u u3 : Nat} {h : Int} {fr : List (Nat × AV)} {hp : Hp} {F TY : List AV} (hD : Ee nm T) (hm : m ≤ 402) (hk : C6 c i h) (h0 : Bf fr 2 = .ptr 2 v2 0 0) (h2 : Ay hp 2 = some ⟨v2, false, 26, 2, [.agg [.row 2103 u3 nT, .row 2102 u nF]]⟩) (hnT : nT = TY.length) (hnF : nF = F.length) (hc : Ay hp 2000 = some (BR c v i h)) (hN : Ay hp 2102 = some ⟨u, false, 51, 6, F⟩) (hY : Ay hp 2103 = some ⟨u3, false, 91, 3, TY⟩) (hI : ∀ p ∈ T, p.2.ty ≠ 96 → Ay hp p.1 = some p.2) (hF : F.length ≤ 600) (hFn : ∀ y ∈ F, Ui m T y)
  (hTY : TY = [] ∨ ∃ (x : ByteArray) (n : Int) (l : List Con) (K w : Nat) (R : List AV), TY = .agg [.str x, .int .i64 n, .row K w l.length] :: R ∧ x.size ≤ 402 ∧ Uk l ∧ K ∈ KX 96 T ∧ Ay hp K = some ⟨w, false, 96, 3, l.map av⟩ ∧ ∀ y ∈ R, TyA m y) (hTl : TY.length ≤ m) : Ai ⟨fr, hp⟩ (KU [En.c true 2 2] (Qf c v)) := by
 subst hnT hnF
 have hfar := hD.far
 have hlow : ∀ k, k < 10000 → k ∉ Oo T := fun k hk e => by have := G6 hfar k e; omega
 refine QZ (Oo T ++ [2102, 2103]) hk h0 h2 hc (fun k hk => ?_) (K4 (hlow _ (by decide)) (hlow _ (by decide)) hN hY (fun y hy => ?_) (fun y hy => ?_) hF (by omega))
 ·rcases List.mem_append.1 hk with hk | hk
  ·have := G6 hfar k hk; omega
  ·simp at hk; omega
 ·refine K6 hD.2.1 hfar (fun p hp ht => hI p hp (by rcases ht with e | e <;> (rw [e]; decide))) hm (hFn y hy) (fun k hk => ?_) _
  obtain ⟨_, _, _, _, _, P, _, hP, rfl, _⟩ := hFn y hy
  rcases hP with rfl | ⟨K, vs, l, rfl, hK, hle, _⟩
  ·cases hk
  ·rw [List.mem_singleton.1 hk, Cc hle]
   exact hI _ (EY (Cc hle)) (show (66 : TypeId) ≠ 96 by decide)
 ·rcases hTY with rfl | ⟨x, n, l, K, w, R, rfl, hx, hl, hK, hKT, hR⟩
  ·cases hy
  ·rcases List.mem_cons.1 hy with rfl | hy
   ·exact JJ hx hl hKT (List.mem_append.2 (.inl (List.mem_append.2 (.inr hK))))
   ·exact Mn hm (hR y hy) _
theorem Aa8 {T : Hp} {m ni : Nat} {F : List AV} {z : AV} (hF : ∀ y ∈ F, F4 m T y) (hm : m ≤ 402) (hz : Ui m T z) : ∀ y ∈ F.set ni z, Ui m T y := fun y hy => by
 rcases List.mem_or_eq_of_mem_set hy with h | rfl
 ·exact (hF y h).c hm
 ·exact hz
theorem Aa7 {T hp : Hp} {m : Nat} {TY : List AV} (h : Lj m T TY) (hm : m ≤ 402) (hT : Bt hp T) : TY = [] ∨ ∃ (x : ByteArray) (n : Int) (l : List Con) (K w : Nat) (R : List AV), TY = .agg [.str x, .int .i64 n, .row K w l.length] :: R ∧ x.size ≤ 402 ∧ Uk l ∧ K ∈ KX 96 T ∧ Ay hp K = some ⟨w, false, 96, 3, l.map av⟩ ∧ ∀ y ∈ R, TyA m y := by
 rcases h with h | ⟨x, n, l, K, w, R, h1, h2, h3, h4, h5, h6, h7⟩
 ·exact .inl h
 ·exact .inr ⟨x, n, l, K, w, R, h1, by omega, El h4 hm, Fu h6 rfl, G5 hT _ _ h6, h7⟩
theorem DE {T : Hp} {nm m nT nF ni : Nat} {c : List UInt8} {v i v2 u u3 : Nat} {h : Int} {fr : List (Nat × AV)} {hp : Hp} {F TY : List AV} {kd pos n : Int} {s : ByteArray} {es : List AV} {P : AV} (hD : Ee nm T) (hm : m ≤ 402) (hFn : ∀ y ∈ F, F4 m T y) (hF : F.length ≤ 600) (hTY : Lj m T TY) (hTl : TY.length ≤ m) (hP : Gs m T P) (hk : C6 c i h) (ks : List Int) (h0 : Bf fr 2 = .ptr 2 v2 0 0) (h2 : Ay hp 2 = some ⟨v2, false, 26, 2, [.agg [.row 2103 u3 nT, .row 2102 u nF]]⟩) (hnT : nT = TY.length) (hnF : nF = F.length) (hc : Ay hp 2000 = some (BR c v i h)) (hN : Ay hp 2102 = some ⟨u, false, 51, 6, F.set ni (.agg [.int .i64 kd, .int .i64 pos, .int .i64 n, .str s, .sl es, P])⟩) (hes : es = ks.map av) (hY : Ay hp 2103 = some ⟨u3, false, 91, 3, TY⟩) (hT : Bt hp T) (hs : s.size ≤ 402) (hks : ks.length ≤ 2000000) : Ai ⟨fr, hp⟩ (KU [En.c true 2 2] (Qf c v)) :=
 Q0 hD hm hk h0 h2 hnT (by rw [List.length_set]; exact hnF) hc hN hY (fun p hp _ => AP.1 hT p hp) (by rw [List.length_set]; exact hF) (Aa8 hFn hm ⟨kd, pos, n, s, ks, P, hs, hP, by rw [hes], hks⟩) (Aa7 hTY hm hT) hTl
def Yh (x : Int) : AV := .agg [.sl [.agg [.int .i64 x, .int .i64 0, .str (bs [120]), .Au]]]
theorem TP {T : Hp} {nm m nT nF ni Kn vn N : Nat} {c : List UInt8} {v i v2 u u3 : Nat} {h : Int} {fr : List (Nat × AV)} {hp : Hp} {F TY : List AV} {kd pos n : Int} {s : ByteArray} {es : List AV} (hD : Ee nm T) (hm : m ≤ 402) (hFn : ∀ y ∈ F, F4 m T y) (hF : F.length ≤ 600) (hTY : Lj m T TY) (hTl : TY.length ≤ m) (hk : C6 c i h) (ks : List Int) (x : Int)
  (hP : (Kn = 81 ∧ N = 1 ∧ Ay hp 81 = some ⟨vn, false, 66, 1, [Yh x]⟩) ∨ ∃ K vs, ∃ l : List Pat, Kn = K ∧ 10000 ≤ K ∧ N = l.length + 1 ∧ Bt T (oh K vs l) ∧ l.length ≤ m ∧ (∀ q ∈ l, QOk m q) ∧ Ay hp K = some ⟨vn, false, 66, 1, ovL K vs 0 l ++ [Yh x]⟩) (hj : ∀ (j : Nat) (hj : j < F.length), j ≠ ni → Kn ∉ kq F[j])
  (h0 : Bf fr 2 = .ptr 2 v2 0 0) (h2 : Ay hp 2 = some ⟨v2, false, 26, 2, [.agg [.row 2103 u3 nT, .row 2102 u nF]]⟩) (hnT : nT = TY.length) (hnF : nF = F.length) (hc : Ay hp 2000 = some (BR c v i h)) (hN : Ay hp 2102 = some ⟨u, false, 51, 6, F.set ni (.agg [.int .i64 kd, .int .i64 pos, .int .i64 n, .str s, .sl es, .row Kn vn N])⟩) (hes : es = ks.map av) (hY : Ay hp 2103 = some ⟨u3, false, 91, 3, TY⟩) (hT : ∀ p ∈ T, p.1 ≠ Kn → Ay hp p.1 = some p.2) (hs : s.size ≤ 402) (hks : ks.length ≤ 2000000) : Ai ⟨fr, hp⟩ (KU [En.c true 2 2] (Qf c v)) := by
 have hfar := hD.far
 have hTT := hD.2.1
 subst hes hnT
 have hlow : ∀ k, k < 10000 → k ∉ Oo T := fun k hk e => by have := G6 hfar k e; omega
 have hKty : ∀ p ∈ T, p.1 = Kn → p.2.ty = 66 := fun p hp e => by
  rcases hP with ⟨h1, _⟩ | ⟨K, vs, l, h1, h2, h3, h4, _⟩
  ·have := hfar p hp; omega
  ·have e1 := Cc h4
   rw [← h1, ← e, AP.1 hTT p hp] at e1
   exact congrArg Box.ty (Option.some.inj e1)
 refine Ai.frz 81 ?_
 have hne : ∀ k, k ≠ 81 → Ay (Dr hp 81) k = Ay hp k := fun k hk => Cm (Ne.symm hk)
 have hT' : ∀ p ∈ T, p.1 ≠ Kn → Ay (Dr hp 81) p.1 = some p.2 := fun p hp hk => (hne _ (by have := hfar p hp; omega)).trans (hT p hp hk)
 have hI : ∀ p ∈ T, p.2.ty = 3 ∨ p.2.ty = 83 → Ay (Dr hp 81) p.1 = some p.2 := fun p hp ht => hT' p hp fun e => by
  have := hKty p hp e
  rw [this] at ht
  exact absurd ht (by decide)
 have key : ∀ L, ∃ l : List Pat, nz (AV.Bu (BK (SX T ++ L) (Dr hp 81)) (.row Kn vn N)) = .sl (l.map av) ∧ l.length ≤ 403 ∧ ∀ q ∈ l, q.nodes.length ≤ 1210 ∧ ∀ x ∈ q.nodes, x.s.size ≤ 402 ∧ x.kids.length ≤ 2 := fun L => by
  have hone : ∀ q ∈ [(⟨[⟨x, 0, bs [120], []⟩]⟩ : Pat)], q.nodes.length ≤ 1210 ∧ ∀ x ∈ q.nodes, x.s.size ≤ 402 ∧ x.kids.length ≤ 2 := fun q hq => by
   rw [List.mem_singleton.1 hq]
   refine ⟨by simp, fun y hy => ?_⟩
   rw [List.mem_singleton.1 hy]
   exact ⟨by rw [Cz]; simp, by simp⟩
  have hex : nz (Yh x) = av (⟨[⟨x, 0, bs [120], []⟩]⟩ : Pat) := rfl
  rcases hP with ⟨rfl, rfl, h1⟩ | ⟨K, vs, l, rfl, hK, rfl, hle, hl, hq, h1⟩
  ·have h3 : Ay (Dr hp 81) 81 = some ⟨vn, true, 66, 1, [Yh x]⟩ := QM h1
   refine ⟨_, ?_, ?_, hone⟩
   ·rw [DU (n := 1) (Pv (fun _ => rfl) _ h3) rfl, nz, nzL, nzL, hex]; rfl
   ·simp
  ·have h3 := R0 hTT hfar hI hle ((hne _ (by omega)).trans h1) (ex' := [Yh x]) (fun _ _ => rfl) (fun _ => rfl) L
   refine ⟨l ++ [⟨[⟨x, 0, bs [120], []⟩]⟩], ?_, by rw [List.length_append]; simp only [List.length_cons, List.length_nil]; omega, fun q hq' => ?_⟩
   ·rw [show l.length + 1 = l.length + [Yh x].length from rfl, h3, nz, Fy, List.map_append, List.map_append]
    have := Fx Zg l
    rw [nz, Fy] at this
    rw [AV.sl.inj this, List.map_cons, hex]; rfl
   ·rcases List.mem_append.1 hq' with h | h
    ·exact YO (hq q h) hm
    ·exact hone q h
 refine QZ (Oo T ++ [2102, 2103]) hk h0 ((hne _ (by decide)).trans h2) ((hne _ (by decide)).trans hc) (fun k hk => ?_) ?_
 ·rcases List.mem_append.1 hk with hk | hk
  ·have := G6 hfar k hk; omega
  ·simp at hk; omega
 rw [show nF = (F.set ni (.agg [.int .i64 kd, .int .i64 pos, .int .i64 n, .str s, .sl (ks.map av), .row Kn vn N])).length by rw [List.length_set]; exact hnF]
 refine K4 (hlow _ (by decide)) (hlow _ (by decide)) ((hne _ (by decide)).trans hN) ((hne _ (by decide)).trans hY) (fun y hy => ?_) (fun y hy => ?_) (by rw [List.length_set]; exact hF) (by omega)
 ·obtain ⟨j, hjl, rfl⟩ := List.mem_iff_getElem.1 hy
  rw [List.length_set] at hjl
  by_cases e : ni = j
  ·subst e
   rw [List.getElem_set_self]
   obtain ⟨l, h1, h2, h3⟩ := key (KX 96 T)
   refine ⟨⟨kd, pos, n, s, ks, l⟩, ?_, hs, hks, h2, h3⟩
   show nz (.agg [.int .i64 kd, .int .i64 pos, .int .i64 n, .str s, .sl (ks.map av), AV.Bu _ (.row Kn vn N)]) = _
   have h4 := Fx UI ks
   simp only [nz] at h4
   simp only [nz, nzL, Oo, h1, h4]
   rfl
  ·rw [List.getElem_set_ne e]
   refine K6 hTT hfar hI hm ((hFn _ (List.getElem_mem hjl)).c hm) (fun k hk => ?_) _
   have hkn : k ≠ Kn := fun e2 => hj j hjl (Ne.symm e) (e2 ▸ hk)
   obtain ⟨_, _, _, _, _, P, _, hPA, hy2, _⟩ := hFn _ (List.getElem_mem hjl)
   rw [hy2] at hk
   rcases hPA with rfl | ⟨K, vs, l, rfl, hK, hle, _⟩
   ·cases hk
   ·rw [List.mem_singleton.1 hk] at hkn ⊢
    rw [Cc hle]
    exact hT' _ (EY (Cc hle)) hkn
 ·rcases hTY with rfl | ⟨x', n', l, K, w, R, rfl, hx, hn, hl, hK, hKT, hR⟩
  ·cases hy
  ·rcases List.mem_cons.1 hy with rfl | hy
   ·refine JJ (by omega) (El hl hm) (hT' _ (EY hKT) fun e => ?_) (List.mem_append.2 (.inl (List.mem_append.2 (.inr (Fu hKT rfl)))))
    exact absurd (hKty _ (EY hKT) e) (show (96 : TypeId) ≠ 66 by decide)
   ·exact Mn hm (hR y hy) _
theorem NO {T : Hp} {nm m nT nF ni K0 w0 nl : Nat} {c : List UInt8} {v i v2 u u3 : Nat} {h : Int} {fr : List (Nat × AV)} {hp : Hp} {F R es0 : List AV} {kd pos n n0 : Int} {s x0 : ByteArray} {es : List AV} {P : AV} (hD : Ee nm T) (hm : m ≤ 402) (hFn : ∀ y ∈ F, F4 m T y) (hF : F.length ≤ 600) (hx0 : x0.size ≤ m) (l0 : List Con) (hl0 : Uk l0) (hR : ∀ y ∈ R, TyA m y) (hRl : R.length + 1 ≤ m) (hKc : K0 ∈ KX 96 T) (hP : Gs m T P) (hk : C6 c i h) (ks : List Int) (h0 : Bf fr 2 = .ptr 2 v2 0 0) (h2 : Ay hp 2 = some ⟨v2, false, 26, 2, [.agg [.row 2103 u3 nT, .row 2102 u nF]]⟩) (hnT : nT = R.length + 1) (hnF : nF = F.length) (hc : Ay hp 2000 = some (BR c v i h)) (hN : Ay hp 2102 = some ⟨u, false, 51, 6, F.set ni (.agg [.int .i64 kd, .int .i64 pos, .int .i64 n, .str s, .sl es, P])⟩) (hes : es = ks.map av) (hY : Ay hp 2103 = some ⟨u3, false, 91, 3, .agg [.str x0, .int .i64 n0, .row K0 w0 nl] :: R⟩) (hnl : nl = l0.length) (hK : Ay hp K0 = some ⟨w0, false, 96, 3, es0⟩) (hes0 : es0 = l0.map av) (hI : ∀ p ∈ T, p.1 ≠ K0 → Ay hp p.1 = some p.2) (hs : s.size ≤ 402) (hks : ks.length ≤ 2000000) : Ai ⟨fr, hp⟩ (KU [En.c true 2 2] (Qf c v)) := by
 subst hnl hes0
 refine Q0 hD hm hk h0 h2 (by rw [List.length_cons]; exact hnT) (by rw [List.length_set]; exact hnF) hc hN hY (fun p hp ht => hI p hp fun e => ?_) (by rw [List.length_set]; exact hF) (Aa8 hFn hm ⟨kd, pos, n, s, ks, P, hs, hP, by rw [hes], hks⟩) (.inr ⟨x0, n0, l0, K0, w0, R, rfl, by omega, hl0, hKc, hK, hR⟩) (by rw [List.length_cons]; omega)
 have h1 := AP.1 hD.2.1 p hp
 rw [e] at h1
 exact GG hD.2.1 h1 ht hKc
theorem ZR {c0 : Con} {l1 : List Con} (h : Uk (c0 :: l1)) (s : ByteArray) (b : Bool) (hs : s.size ≤ 402) : Uk (⟨s, b, c0.arg⟩ :: l1) := ⟨h.1, fun d hd => by
 rcases List.mem_cons.1 hd with rfl | hd
 ·exact ⟨hs, (h.2 c0 List.mem_cons_self).2⟩
 ·exact h.2 d (List.mem_cons_of_mem _ hd)⟩
theorem SF {K : Nat} : ∀ {F : List AV} {ni : Nat} (hF : (F.flatMap kq).Nodup) (hni : ni < F.length) (hK : K ∈ kq F[ni]) (j : Nat) (hj : j < F.length), j ≠ ni → K ∉ kq F[j]
 | [], _, _, hni, _, _, _, _ => absurd hni (Nat.not_lt_zero _)
 | y :: F, ni, hF, hni, hK, j, hj, hne => fun hm => by
  rw [List.flatMap_cons] at hF
  obtain ⟨h1, h2, h3⟩ := List.nodup_append.1 hF
  cases ni with
  | zero =>
   cases j with
   | zero => exact hne rfl
   | succ j => exact h3 K hK K (List.mem_flatMap.2 ⟨_, List.getElem_mem (by simpa using hj), hm⟩) rfl
  | succ ni =>
   cases j with
   | zero => exact h3 K hm K (List.mem_flatMap.2 ⟨_, List.getElem_mem (by simpa using hni), hK⟩) rfl
   | succ j => exact SF h2 (by simpa using hni) hK j (by simpa using hj) (fun e => hne (by rw [e])) hm
set_option maxHeartbeats 16000000 in
theorem UU (c : List UInt8) (v i : Nat) (h : Int) (hk : C6 c i h) : AW Tryz.prog 89 [.ptr 2000 v 0 0] [(2000, BR c v i h)] (Qf c v) := by
 refine Iy.H rfl ?_
 simp +contextual -dsimp (maxSteps := 2000000) only [↓SD, SU, simprocAttr, CFB, Iy]
 intro v2
 refine Ao [2000] (Jp c v i 1 h hk) (by simp +contextual -dsimp only [↓SD, SU, simprocAttr]) ?_
 clear hk
 rintro r hp' ⟨i, h, hk, (⟨rfl, rfl⟩ | ⟨TY, u3, u, F, T, m, rfl, rfl, hD, hF, hm, hFn, hFq, hTY, hTn, hO⟩)⟩ H hH
 ·subst hH
  simp +contextual -dsimp (maxSteps := 2000000) only [↓SD, SU, simprocAttr, CFB]
  intro v3
  (refine Ad [2000] (AJ c v _ _ hk (24) (by omega)) (by simp +contextual -dsimp only [↓SD, SU, simprocAttr]) ?_; clear hk; rintro r hp' ⟨k, i, h, rfl, hk, hk, rfl⟩)
  simp +contextual -dsimp (maxSteps := 2000000) only [↓SD, SU, simprocAttr, CFB]
  refine QZ [] hk rfl rfl (by simp +contextual -dsimp only [↓SD, SU, simprocAttr]) (fun k hk => by cases hk) ⟨⟨[], []⟩, rfl, UH⟩
 ·have hTl : ∀ k, k < 10000 → ∀ hp, Ay (T ++ hp) k = Ay hp k := fun k hk hp => Db fun p hp' => by have := hD.far p hp'; omega
  have hfar := hD.far
  have hTself := hD.2.1
  have hUT := hD.2.2
  have hTr : ∀ X, BU [2000] (T ++ X) = T ++ BU [2000] X := fun X => by
   have := Ps (l := [2000]) hfar
   unfold BU at this ⊢
   rw [List.filter_append, this]
  have hKt := fun K b (h : Ay T K = some b) (X : Hp) => (SQ h : Ay (T ++ X) K = some b)
  subst hH
  simp +contextual -dsimp (maxSteps := 2000000) only [↓SD, SU, simprocAttr, CFB, List.cons_append, hTl]
  intro v3
  refine Ao [2000] (AJ c v _ _ hk 24 (by omega)) (by simp +contextual -dsimp only [↓SD, SU, simprocAttr]) ?_
  clear hk
  rintro r hp' ⟨k, i, h, rfl, hkk, hk, rfl⟩ H hH
  obtain ⟨k0, k1⟩ := hkk.in (by omega)
  subst hH
  by_cases hF0 : F.length = 0
  ·have hF1 : ((F.length : Int) = 0) := by omega
   simp +contextual -dsimp (maxSteps := 2000000) only [↓SD, SU, simprocAttr, CFB, List.cons_append, hTr, hTl, hF1]
   have hle : ∀ X, Bt (T ++ X) T := fun X => EB hTself
   have hTT : Bt ((2, ⟨v2, false, 26, 2, [.agg [.row 2103 u3 TY.length, .row 2102 u F.length]]⟩) :: (2000, BR c v i h) :: (3, ⟨v3, false, 26, 2, [.agg [.row 2103 u3 TY.length, .row 2102 u F.length]]⟩) :: (3, ⟨v3, false, 26, 2, [.agg [.Au, .Au]]⟩) :: (2103, ⟨u3, false, 91, 3, TY⟩) :: (2102, ⟨u, false, 51, 6, F⟩) :: (T ++ [(2, ⟨v2, false, 26, 2, [.agg [.Au, .Au]]⟩)])) T := by repeat (first | exact hle _ | refine Ag ?_ hfar (by decide))
   exact Q0 hD hm hk rfl rfl rfl rfl rfl rfl rfl (fun p hp _ => AP.1 hTT p hp) hF (fun y hy => (hFn y hy).c hm) (Aa7 hTY hm hTT) (by omega)
  ·have hF1 : ¬ ((F.length : Int) = 0) := by omega
   simp +contextual -dsimp (maxSteps := 2000000) only [↓SD, SU, simprocAttr, CFB, List.cons_append, hTr, hTl, hF1]
   refine Ao [2000] (AJ c v _ _ hk F.length (by omega)) (by simp +contextual -dsimp only [↓SD, SU, simprocAttr]) ?_
   clear hk
   rintro r hp' ⟨ni, i, h, rfl, hni, hk, rfl⟩ H hH
   obtain ⟨ni0, ni1⟩ := hni.in (by omega)
   obtain ⟨ni, rfl⟩ : ∃ q : Nat, ni = q := ⟨ni.toNat, by omega⟩
   have hni : ni < F.length := by omega
   obtain ⟨kd, pos, n, s, ks, P, hs, hPA, hy, hks⟩ := hFn _ (List.getElem_mem hni)
   have e1 : F.getD ni .top = .agg [.int .i64 kd, .int .i64 pos, .int .i64 n, .str s, .sl (ks.map av), P] := by rw [List.getD_eq_getElem?_getD, List.getElem?_eq_getElem hni]; exact hy
   subst hH
   have h81 : ∀ y ∈ F, 81 ∉ kq y := fun y hy e => by
    obtain ⟨_, _, _, _, _, P, _, hP, rfl, _⟩ := hFn y hy
    rcases hP with rfl | ⟨K, vs, l, rfl, hK, _⟩
    ·cases e
    ·have := List.mem_singleton.1 e; omega
   rcases hPA with rfl | ⟨K, vs, l, rfl, hK, hle, hll, hq⟩
   case' inl =>
    have hKm := True.intro
    have hol := True.intro
    have hot := True.intro
    have hPA : Gs m T .Au := .inl rfl
    have hKn := True.intro
    have hKT := True.intro
   case' inr =>
    have hPA : Gs m T (.row K (vs K) l.length) := .inr ⟨K, vs, l, rfl, hK, hle, hll, hq⟩
    have hKn : ∀ q, q < 10000 → (q == K) = false := fun q hq => beq_eq_false_iff_ne.2 (by omega)
    have hKT := fun X => hKt _ _ (Cc hle) X
    have hKq : K ∈ kq F[ni] := by rw [hy]; exact List.mem_singleton.2 rfl
    have hKm : ∀ q, q < 10000 → (K == q) = false := fun q hq => beq_eq_false_iff_ne.2 (by omega)
    have hol : (ovL K vs 0 l).length = l.length := Kd _ _ _ _
    have hot : List.take l.length (ovL K vs 0 l) = ovL K vs 0 l := List.take_of_length_le (by rw [hol]; exact Nat.le_refl _)
   all_goals
    have hle0 : ∀ X, Bt (T ++ X) T := fun X => EB hTself
    have ht : List.take ks.length (ks.map av : List AV) = ks.map av := List.take_of_length_le (by simp)
    simp +contextual -dsimp (maxSteps := 2000000) only [↓SD, SU, simprocAttr, CFB, List.cons_append, hTr, hTl, hni, e1, Ab, Aa, hKn, hKT]
    intro v6 v26
    refine ⟨⟨fun e he => by (obtain ⟨x, _, rfl⟩ := List.mem_map.1 he; rfl), by omega, by unfold maxLen; omega⟩, fun w26 => ?_⟩
    have hkc : k = 0 ∨ k = 1 ∨ k = 2 ∨ k = 3 ∨ k = 4 ∨ k = 5 ∨ k = 6 ∨ k = 7 ∨ k = 8 ∨ k = 9 ∨ 10 ≤ k := by omega
    clear hkk
    rcases hkc with rfl | rfl | rfl | rfl | rfl | rfl | rfl | rfl | rfl | rfl | hk10
    ·simp +contextual -dsimp (maxSteps := 2000000) only [↓SD, SU, simprocAttr, CFB]
     refine Ao [2000] (AJ c v _ _ hk 22 (by omega)) (by simp +contextual -dsimp only [↓SD, SU, simprocAttr]) ?_
     clear hk
     rintro r hp' ⟨x, i, h, rfl, hx, hk, rfl⟩ H hH
     subst hH
     have hx' := hx.in (by omega)
     simp +contextual -dsimp (maxSteps := 2000000) only [↓SD, SU, simprocAttr, CFB, List.cons_append, hTr, hTl, hni, e1, Ab, Aa, hKn, hKT]
     refine ⟨by omega, ?_⟩
     refine BQ ?_
     refine Ai.frz 26 ?_
     refine Ai.Jk 6 rfl ?_
     refine Ai.here ?_
     simp +contextual -dsimp (maxSteps := 2000000) only [↓SD, SU, simprocAttr, CFB, List.cons_append, hTr, hTl, hni, e1, Ab, Aa, hKn, hKT, ht]
     refine DE hD hm hFn hF hTY (by omega) hPA hk ks rfl rfl rfl rfl rfl rfl rfl rfl (by repeat (first | exact hle0 _ | refine Ag ?_ hfar (by decide))) (by omega) (by omega)
    ·simp +contextual -dsimp (maxSteps := 2000000) only [↓SD, SU, simprocAttr, CFB]
     refine Ao [2000] (MZ c v _ _ hk) (by simp +contextual -dsimp only [↓SD, SU, simprocAttr]) ?_
     clear hk
     rintro r hp' ⟨sz, i, h, rfl, hsz, hk, rfl⟩ H hH
     subst hH
     simp +contextual -dsimp (maxSteps := 2000000) only [↓SD, SU, simprocAttr, CFB, List.cons_append, hTr, hTl, hni, e1, Ab, Aa, hKn, hKT]
     refine BQ ?_
     refine Ai.frz 26 ?_
     refine Ai.Jk 6 rfl ?_
     refine Ai.here ?_
     simp +contextual -dsimp (maxSteps := 2000000) only [↓SD, SU, simprocAttr, CFB, List.cons_append, hTr, hTl, hni, e1, Ab, Aa, hKn, hKT, ht]
     refine DE hD hm hFn hF hTY (by omega) hPA hk ks rfl rfl rfl rfl rfl rfl rfl rfl (by repeat (first | exact hle0 _ | refine Ag ?_ hfar (by decide))) (by omega) (by omega)
    ·simp +contextual -dsimp (maxSteps := 2000000) only [↓SD, SU, simprocAttr, CFB]
     refine Ao [2000] (K9 c v _ _ hk) (by simp +contextual -dsimp only [↓SD, SU, simprocAttr]) ?_
     clear hk
     rintro r hp' ⟨x, i, h, rfl, hx, hk, rfl⟩ H hH
     subst hH
     simp +contextual -dsimp (maxSteps := 2000000) only [↓SD, SU, simprocAttr, CFB, List.cons_append, hTr, hTl, hni, e1, Ab, Aa, hKn, hKT]
     refine BQ ?_
     refine Ai.frz 26 ?_
     refine Ai.Jk 6 rfl ?_
     refine Ai.here ?_
     simp +contextual -dsimp (maxSteps := 2000000) only [↓SD, SU, simprocAttr, CFB, List.cons_append, hTr, hTl, hni, e1, Ab, Aa, hKn, hKT, ht]
     refine DE hD hm hFn hF hTY (by omega) hPA hk ks rfl rfl rfl rfl rfl rfl rfl rfl (by repeat (first | exact hle0 _ | refine Ag ?_ hfar (by decide))) (by omega) (by omega)
    ·simp +contextual -dsimp (maxSteps := 2000000) only [↓SD, SU, simprocAttr, CFB]
     refine ⟨?_, ?_⟩
     all_goals
      refine Ao [2000] (K9 c v _ _ hk) (by simp +contextual -dsimp only [↓SD, SU, simprocAttr]) ?_
      clear hk
      rintro r hp' ⟨x, i, h, rfl, hx, hk, rfl⟩ H hH
      subst hH
      have ht3 : List.take (ks.length + 1) (ks.map av ++ [.int .i64 x] : List AV) = ks.map av ++ [.int .i64 x] := List.take_of_length_le (by simp)
      simp +contextual -dsimp (maxSteps := 2000000) only [↓SD, SU, simprocAttr, CFB, List.cons_append, hTr, hTl, hni, e1, Ab, Aa, hKn, hKT, ht]
      refine ⟨⟨by omega, by unfold maxLen; omega⟩, fun w => ?_⟩
      refine BQ ?_
      refine Ai.frz 26 ?_
      refine Ai.Jk 6 rfl ?_
      refine Ai.here ?_
      simp +contextual -dsimp (maxSteps := 2000000) only [↓SD, SU, simprocAttr, CFB, List.cons_append, hTr, hTl, hni, e1, Ab, Aa, hKn, hKT, ht3, List.length_append, List.map_append]
      refine DE hD hm hFn hF hTY (by omega) hPA hk (ks ++ [x]) rfl rfl rfl rfl rfl rfl (by rw [List.map_append]; rfl) rfl (by repeat (first | exact hle0 _ | refine Ag ?_ hfar (by decide))) (by omega) (by rw [List.length_append]; show ks.length + 1 ≤ _; omega)
    ·simp +contextual -dsimp (maxSteps := 2000000) only [↓SD, SU, simprocAttr, CFB]
     refine BQ ?_
     refine Ai.frz 26 ?_
     refine Ai.Jk 6 rfl ?_
     refine Ai.here ?_
     by_cases hk0 : 0 < ks.length
     ·have hkl : (0 : Int) < ks.length := by omega
      have hd : List.drop 1 (ks.map av : List AV) = (ks.drop 1).map av := by rw [List.map_drop]
      have hd2 : List.take (ks.length - 1) ((ks.drop 1).map av : List AV) = (ks.drop 1).map av := List.take_of_length_le (by simp)
      simp +contextual -dsimp (maxSteps := 2000000) only [↓SD, SU, simprocAttr, CFB, List.cons_append, hTr, hTl, hni, e1, Ab, Aa, hKn, hKT, ht, hkl, hk0, hd, hd2]
      refine ⟨⟨by omega, fun e he => by (obtain ⟨x, _, rfl⟩ := List.mem_map.1 he; rfl)⟩, ?_⟩
      refine DE hD hm hFn hF hTY (by omega) hPA hk (ks.drop 1) rfl rfl rfl rfl rfl rfl rfl rfl (by repeat (first | exact hle0 _ | refine Ag ?_ hfar (by decide))) (by omega) (by rw [List.length_drop]; omega)
     ·have hkl : ¬ (0 : Int) < ks.length := by omega
      simp +contextual -dsimp (maxSteps := 2000000) only [↓SD, SU, simprocAttr, CFB, List.cons_append, hTr, hTl, hni, e1, Ab, Aa, hKn, hKT, ht, hkl]
      refine DE hD hm hFn hF hTY (by omega) hPA hk ks rfl rfl rfl rfl rfl rfl rfl rfl (by repeat (first | exact hle0 _ | refine Ag ?_ hfar (by decide))) (by omega) (by omega)
    ·simp +contextual -dsimp (maxSteps := 2000000) only [↓SD, SU, simprocAttr, CFB]
     refine BQ ?_
     refine Ai.frz 26 ?_
     refine Ai.Jk 6 rfl ?_
     refine Ai.here ?_
     simp +contextual -dsimp (maxSteps := 2000000) only [↓SD, SU, simprocAttr, CFB, List.cons_append, hTr, hTl, hni, e1, Ab, Aa, hKn, hKT, ht]
     refine DE hD hm hFn hF hTY (by omega) hPA hk ks rfl rfl rfl rfl rfl rfl rfl rfl (by repeat (first | exact hle0 _ | refine Ag ?_ hfar (by decide))) (by omega) (by omega)
    ·simp +contextual -dsimp (maxSteps := 2000000) only [↓SD, SU, simprocAttr, CFB]
     refine BQ ?_
     refine Ai.frz 26 ?_
     refine Ai.Jk 6 rfl ?_
     refine Ai.here ?_
     simp +contextual -dsimp (maxSteps := 2000000) only [↓SD, SU, simprocAttr, CFB, List.cons_append, hTr, hTl, hni, e1, Ab, Aa, hKn, hKT, ht]
     refine ⟨?_, ?_⟩
     all_goals
      refine Ao [2000] (AJ c v _ _ hk 8 (by omega)) (by simp +contextual -dsimp only [↓SD, SU, simprocAttr]) ?_
      clear hk
      rintro r hp' ⟨x, i, h, rfl, hx, hk, rfl⟩ H hH
      subst hH
      simp +contextual -dsimp (maxSteps := 2000000) only [↓SD, SU, simprocAttr, CFB, List.cons_append, hTr, hTl, hni, e1, Ab, Aa, hKn, hKT, ht, hKm, hol]
      first
       | refine ⟨⟨rfl, rfl, by omega, by unfold maxLen; omega⟩, fun w => ?_⟩
       | refine ⟨by unfold maxLen; omega, fun w => ?_⟩
      all_goals try simp +contextual -dsimp (maxSteps := 2000000) only [↓SD, SU, simprocAttr, CFB, List.cons_append, hTr, hTl, hni, e1, Ab, Aa, hKn, hKT, ht, hKm, hot]
      first
       | refine TP hD hm hFn hF hTY (by omega) hk ks x (.inl ⟨rfl, rfl, rfl⟩) (fun j hj _ e => h81 _ (List.getElem_mem hj) e) rfl rfl rfl rfl rfl rfl rfl rfl (fun p hp hne => ?_) (by omega) (by omega)
       | refine TP (kd := kd) (pos := pos) (n := n) (s := s) hD hm hFn hF hTY (by omega) hk ks x (.inr ⟨K, vs, l, rfl, hK, rfl, hle, hll, hq, by simp +contextual -dsimp (maxSteps := 2000000) only [↓SD, SU, simprocAttr, hKn]; rfl⟩) (SF hFq hni hKq) rfl rfl rfl rfl (by simp +contextual -dsimp only [↓SD, SU, simprocAttr, hKm]) (by simp +contextual -dsimp only [↓SD, SU, simprocAttr, hKm]) rfl (by simp +contextual -dsimp only [↓SD, SU, simprocAttr, hKm]) (fun p hp hne => ?_) (by omega) (by omega)
      have h1 := hfar p hp
      repeat (first | exact AP.1 (hle0 _) p hp | refine (B5 (by omega)).trans ?_ | refine (B5 (Ne.symm hne)).trans ?_)
    ·simp +contextual -dsimp (maxSteps := 2000000) only [↓SD, SU, simprocAttr, CFB]
     refine BQ ?_
     refine Ai.frz 26 ?_
     refine Ai.Jk 6 rfl ?_
     refine Ai.here ?_
     have hTY0 := hTY
     rcases hTY with rfl | ⟨x0, n0, l0, K0, w0, R, rfl, hx0, hn0, hl0, hK0, hK0T, hR⟩
     ·simp +contextual -dsimp (maxSteps := 2000000) only [↓SD, SU, simprocAttr, CFB, List.cons_append, hTr, hTl, hni, e1, Ab, Aa, hKn, hKT, ht, List.length_nil, Nat.lt_irrefl]
      refine DE hD hm hFn hF hTY0 (by simp) hPA hk ks rfl rfl rfl rfl rfl rfl rfl rfl (by repeat (first | exact hle0 _ | refine Ag ?_ hfar (by decide))) (by omega) (by omega)
     ·have hz : (0 : Int) < (((.agg [.str x0, .int .i64 n0, .row K0 w0 l0.length] :: R : List AV).length : Nat) : Int) := by rw [List.length_cons]; omega
      have hz2 : 0 < (.agg [.str x0, .int .i64 n0, .row K0 w0 l0.length] :: R : List AV).length := Nat.succ_pos _
      have hK0n : ∀ q, q < 10000 → (q == K0) = false := fun q hq => beq_eq_false_iff_ne.2 (by omega)
      have hK0m : ∀ q, q < 10000 → (K0 == q) = false := fun q hq => beq_eq_false_iff_ne.2 (by omega)
      have hK0X := hKt _ _ hK0T
      have hone : 1 ≤ l0.length := hO _ _ _ _ _ _ rfl
      obtain ⟨c0, l1, rfl⟩ : ∃ c0 l1, l0 = c0 :: l1 := by cases l0 with | nil => exact absurd hone (by simp) | cons a b => exact ⟨a, b, rfl⟩
      have hz3 : 0 < R.length + 1 := Nat.succ_pos _
      have hz4 : (0 : Int) < ((R.length : Int) + 1) := by omega
      have hz5 : 0 < l1.length + 1 := Nat.succ_pos _
      have hav : (av c0 : AV) = .agg [.str c0.name, .bool c0.has, .sl (c0.arg.items.map av)] := rfl
      simp +contextual -dsimp (maxSteps := 2000000) only [↓SD, SU, simprocAttr, CFB, List.cons_append, hTr, hTl, hni, e1, Ab, Aa, hKn, hKT, ht, hz, hz2, hz3, hz4, hz5, hK0n, hK0m, hK0X, hav, List.map_cons, Int.natCast_add]
      refine ⟨?_, ?_⟩
      all_goals
       refine Ao [2000] (AJ c v _ _ hk 5 (by omega)) (by simp +contextual -dsimp only [↓SD, SU, simprocAttr]) ?_
       clear hk
       rintro r hp' ⟨x, i, h, rfl, hx, hk, rfl⟩ H hH
       obtain ⟨hx1, hx2⟩ := hx.in (by omega)
       subst hH
       simp +contextual -dsimp (maxSteps := 2000000) only [↓SD, SU, simprocAttr, CFB, List.cons_append, hTr, hTl, hni, e1, Ab, Aa, hKn, hKT, ht, hz, hz2, hz3, hz4, hz5, hK0n, hK0m, hK0X, hav, List.map_cons, Int.natCast_add]
       refine ⟨by omega, ?_⟩
       refine NO (kd := kd) (pos := pos) (n := n) (s := s) hD hm hFn hF hx0 (c0 :: l1) (El hl0 hm) hR (by simpa using hTn) (Fu hK0T rfl) hPA hk ks rfl rfl rfl rfl rfl rfl rfl rfl rfl (by first | (simp +contextual -dsimp (maxSteps := 2000000) only [↓SD, SU, simprocAttr, hK0n, hK0m, hK0X]; done) | (simp +contextual -dsimp (maxSteps := 2000000) only [↓SD, SU, simprocAttr, hK0n, hK0m, hK0X]; rfl)) rfl (fun p hp hne => by have h1 := hfar p hp; (repeat (first | exact AP.1 (hle0 _) p hp | refine (B5 (by omega)).trans ?_ | refine (B5 (Ne.symm hne)).trans ?_))) (by omega) (by omega)
    ·simp +contextual -dsimp (maxSteps := 2000000) only [↓SD, SU, simprocAttr, CFB]
     refine BQ ?_
     refine Ai.frz 26 ?_
     refine Ai.Jk 6 rfl ?_
     refine Ai.here ?_
     have hTY0 := hTY
     rcases hTY with rfl | ⟨x0, n0, l0, K0, w0, R, rfl, hx0, hn0, hl0, hK0, hK0T, hR⟩
     ·simp +contextual -dsimp (maxSteps := 2000000) only [↓SD, SU, simprocAttr, CFB, List.cons_append, hTr, hTl, hni, e1, Ab, Aa, hKn, hKT, ht, List.length_nil, Nat.lt_irrefl]
      refine DE hD hm hFn hF hTY0 (by simp) hPA hk ks rfl rfl rfl rfl rfl rfl rfl rfl (by repeat (first | exact hle0 _ | refine Ag ?_ hfar (by decide))) (by omega) (by omega)
     ·have hz : (0 : Int) < (((.agg [.str x0, .int .i64 n0, .row K0 w0 l0.length] :: R : List AV).length : Nat) : Int) := by rw [List.length_cons]; omega
      have hz2 : 0 < (.agg [.str x0, .int .i64 n0, .row K0 w0 l0.length] :: R : List AV).length := Nat.succ_pos _
      have hK0n : ∀ q, q < 10000 → (q == K0) = false := fun q hq => beq_eq_false_iff_ne.2 (by omega)
      have hK0m : ∀ q, q < 10000 → (K0 == q) = false := fun q hq => beq_eq_false_iff_ne.2 (by omega)
      have hK0X := hKt _ _ hK0T
      have hone : 1 ≤ l0.length := hO _ _ _ _ _ _ rfl
      obtain ⟨c0, l1, rfl⟩ : ∃ c0 l1, l0 = c0 :: l1 := by cases l0 with | nil => exact absurd hone (by simp) | cons a b => exact ⟨a, b, rfl⟩
      have hz3 : 0 < R.length + 1 := Nat.succ_pos _
      have hz4 : (0 : Int) < ((R.length : Int) + 1) := by omega
      have hz5 : 0 < l1.length + 1 := Nat.succ_pos _
      have hav : (av c0 : AV) = .agg [.str c0.name, .bool c0.has, .sl (c0.arg.items.map av)] := rfl
      simp +contextual -dsimp (maxSteps := 2000000) only [↓SD, SU, simprocAttr, CFB, List.cons_append, hTr, hTl, hni, e1, Ab, Aa, hKn, hKT, ht, hz, hz2, hz3, hz4, hz5, hK0n, hK0m, hK0X, hav, List.map_cons, Int.natCast_add]
      refine ⟨⟨⟨?_, ?_⟩, ?_⟩, ?_⟩
      all_goals
       refine Ao [2000] (MZ c v _ _ hk) (by simp +contextual -dsimp only [↓SD, SU, simprocAttr]) ?_
       clear hk
       rintro r hp' ⟨sz, i, h, rfl, hsz, hk, rfl⟩ H hH
       subst hH
       simp +contextual -dsimp (maxSteps := 2000000) only [↓SD, SU, simprocAttr, CFB, List.cons_append, hTr, hTl, hni, e1, Ab, Aa, hKn, hKT, ht, hz, hz2, hz3, hz4, hz5, hK0n, hK0m, hK0X, hav, List.map_cons, Int.natCast_add]
       try refine ⟨by omega, ?_⟩
       refine NO (kd := kd) (pos := pos) (n := n) (s := s) (n0 := n0) (w0 := w0) (nl := l1.length + 1) (u := u) (u3 := u3) (es := ks.map av) (ni := ni) hD hm hFn hF hx0 (⟨sz, c0.has, c0.arg⟩ :: l1) (ZR (El hl0 hm) sz c0.has (by omega)) hR (by simpa using hTn) (Fu hK0T rfl) hPA hk ks rfl rfl rfl rfl (by simp +contextual -dsimp only [↓SD, SU, simprocAttr, hK0m]) (by simp +contextual -dsimp only [↓SD, SU, simprocAttr, hK0m]) rfl (by simp +contextual -dsimp only [↓SD, SU, simprocAttr, hK0m]) rfl (by first | (simp +contextual -dsimp (maxSteps := 2000000) only [↓SD, SU, simprocAttr, hK0n, hK0m, hK0X]; done) | (simp +contextual -dsimp (maxSteps := 2000000) only [↓SD, SU, simprocAttr, hK0n, hK0m, hK0X]; rfl)) rfl (fun p hp hne => by have h1 := hfar p hp; (repeat (first | exact AP.1 (hle0 _) p hp | refine (B5 (by omega)).trans ?_ | refine (B5 (Ne.symm hne)).trans ?_))) (by omega) (by omega)
    ·simp +contextual -dsimp (maxSteps := 2000000) only [↓SD, SU, simprocAttr, CFB]
     refine BQ ?_
     refine Ai.frz 26 ?_
     refine Ai.Jk 6 rfl ?_
     refine Ai.here ?_
     have hTY0 := hTY
     rcases hTY with rfl | ⟨x0, n0, l0, K0, w0, R, rfl, hx0, hn0, hl0, hK0, hK0T, hR⟩
     ·simp +contextual -dsimp (maxSteps := 2000000) only [↓SD, SU, simprocAttr, CFB, List.cons_append, hTr, hTl, hni, e1, Ab, Aa, hKn, hKT, ht, List.length_nil, Nat.lt_irrefl]
      refine DE hD hm hFn hF hTY0 (by simp) hPA hk ks rfl rfl rfl rfl rfl rfl rfl rfl (by repeat (first | exact hle0 _ | refine Ag ?_ hfar (by decide))) (by omega) (by omega)
     ·have hz : (0 : Int) < (((.agg [.str x0, .int .i64 n0, .row K0 w0 l0.length] :: R : List AV).length : Nat) : Int) := by rw [List.length_cons]; omega
      have hz2 : 0 < (.agg [.str x0, .int .i64 n0, .row K0 w0 l0.length] :: R : List AV).length := Nat.succ_pos _
      have hK0n : ∀ q, q < 10000 → (q == K0) = false := fun q hq => beq_eq_false_iff_ne.2 (by omega)
      have hK0m : ∀ q, q < 10000 → (K0 == q) = false := fun q hq => beq_eq_false_iff_ne.2 (by omega)
      have hK0X := hKt _ _ hK0T
      have hone : 1 ≤ l0.length := hO _ _ _ _ _ _ rfl
      obtain ⟨c0, l1, rfl⟩ : ∃ c0 l1, l0 = c0 :: l1 := by cases l0 with | nil => exact absurd hone (by simp) | cons a b => exact ⟨a, b, rfl⟩
      have hz3 : 0 < R.length + 1 := Nat.succ_pos _
      have hz4 : (0 : Int) < ((R.length : Int) + 1) := by omega
      have hz5 : 0 < l1.length + 1 := Nat.succ_pos _
      have hav : (av c0 : AV) = .agg [.str c0.name, .bool c0.has, .sl (c0.arg.items.map av)] := rfl
      simp +contextual -dsimp (maxSteps := 2000000) only [↓SD, SU, simprocAttr, CFB, List.cons_append, hTr, hTl, hni, e1, Ab, Aa, hKn, hKT, ht, hz, hz2, hz3, hz4, hz5, hK0n, hK0m, hK0X, hav, List.map_cons, Int.natCast_add]
      refine ⟨by omega, by omega, ?_⟩
      refine NO (kd := kd) (pos := pos) (n := n) (s := s) (n0 := n0) (w0 := w0) (nl := l1.length + 1) (u := u) (u3 := u3) (es := ks.map av) (ni := ni) hD hm hFn hF hx0 (⟨c0.name, !c0.has, c0.arg⟩ :: l1) (ZR (El hl0 hm) c0.name (!c0.has) ((El hl0 hm).2 c0 List.mem_cons_self).1) hR (by simpa using hTn) (Fu hK0T rfl) hPA hk ks rfl rfl rfl rfl (by simp +contextual -dsimp only [↓SD, SU, simprocAttr, hK0m]) (by simp +contextual -dsimp only [↓SD, SU, simprocAttr, hK0m]) rfl (by simp +contextual -dsimp only [↓SD, SU, simprocAttr, hK0m]) rfl (by first | (simp +contextual -dsimp (maxSteps := 2000000) only [↓SD, SU, simprocAttr, hK0n, hK0m, hK0X]; done) | (simp +contextual -dsimp (maxSteps := 2000000) only [↓SD, SU, simprocAttr, hK0n, hK0m, hK0X]; rfl)) rfl (fun p hp hne => by have h1 := hfar p hp; (repeat (first | exact AP.1 (hle0 _) p hp | refine (B5 (by omega)).trans ?_ | refine (B5 (Ne.symm hne)).trans ?_))) (by omega) (by omega)
    ·have n0 : ∀ q : Int, q < 10 → (k = q) = False := fun q hq => eq_false (by omega)
     simp +contextual -dsimp (maxSteps := 2000000) only [↓SD, SU, simprocAttr, CFB, n0]
     refine BQ ?_
     refine Ai.frz 26 ?_
     refine Ai.Jk 6 rfl ?_
     refine Ai.here ?_
     simp +contextual -dsimp (maxSteps := 2000000) only [↓SD, SU, simprocAttr, CFB, List.cons_append, hTr, hTl, hni, e1, Ab, Aa, hKn, hKT, n0, ht]
     refine DE hD hm hFn hF hTY (by omega) hPA hk ks rfl rfl rfl rfl rfl rfl rfl rfl (by repeat (first | exact hle0 _ | refine Ag ?_ hfar (by decide))) (by omega) (by omega)
end Go.Proofs.YtoffpbehgncakaaGreat

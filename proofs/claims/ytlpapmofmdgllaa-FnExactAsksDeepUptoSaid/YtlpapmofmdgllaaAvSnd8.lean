/-
  STORES AND APPENDS TO OWN ROWS. Conditions: none.
-/
import Derived.Test.YtlpapmofmdgllaaAvSnd7
set_option linter.unusedVariables false
set_option linter.unusedSimpArgs false
namespace Go.Proofs.Ytlpapmofmdgllaa.Av
open Go.RowKit

theorem splice_get (cur : List Value) (o : Nat) (vs : List Value) (q : Nat) (hl : o + vs.length ≤ cur.length) : (cur.take o ++ vs ++ cur.drop (o + vs.length))[q]? = if o ≤ q ∧ q < o + vs.length then vs[q - o]? else cur[q]? := by
  have h1 : (cur.take o).length = o := by simp; omega
  rw [List.append_assoc, List.getElem?_append, h1]
  by_cases h2 : q < o
  · rw [if_pos h2, if_neg (by omega), List.getElem?_take, if_pos h2]
  · rw [if_neg h2, List.getElem?_append]
    by_cases h3 : q - o < vs.length
    · rw [if_pos h3, if_pos (by omega)]
    · rw [if_neg h3, if_neg (by omega)]
      simp only [List.getElem?_drop]
      congr 1; omega

theorem mul_step {i n z : Nat} (h : i < n) : i * z + z ≤ n * z := by
  have := Nat.mul_le_mul_right z (show i + 1 ≤ n from h)
  rw [Nat.add_mul, Nat.one_mul] at this
  exact this

theorem setc_cells {e : AV} {off : Nat} {xs : List AV} (he : e.ok = true) (h1 : ∀ x ∈ xs, x.one = true) (hl : off + xs.length ≤ e.cells.length) : (e.setc off xs).cells = lay e.cells off xs ∧ (e.setc off xs).ok = true := by
  cases e with
  | agg cs => exact ⟨rfl, rfl⟩
  | _ =>
    simp only [AV.cells, List.length_cons, List.length_nil] at hl
    match xs, h1, hl with
    | [], _, hl =>
      simp only [AV.setc, AV.cells, lay]
      have : off = 0 ∨ off = 1 := by simp at hl; omega
      rcases this with rfl | rfl <;> simp <;> exact he
    | [x], h1, hl =>
      have : off = 0 := by simp at hl; omega
      subst this
      simp only [AV.setc, lay]
      rw [cells_one (h1 x (by simp))]
      simp [AV.cells, AV.ok, h1 x (by simp)]
    | x :: y :: r, _, hl => simp at hl; omega

section
variable {P : Program} {E : Env} {S : Nat → Prop} {w : World} {μ : Mu} {hp : Hp} {fr : Nat → AV} {ρ : Operand → Value}

theorem w_store {o : Oper} {t : TypeId} {a x : Operand} {ia ix : IArg} {n : Nat} {K : AV → Hp → Prop} (ho : o.op = .store t a x) (hn : tySize P t = some n) (ha : lowArg a = some ia) (hx : lowArg x = some ix)
    (h : aStore hp n (ia.ev fr) (ix.ev fr) fun hp => K (.tup []) hp) (hw : WI E S w μ hp) (hf : Fits S w μ fr ρ o.op.operands.toList) : Yield P ρ o w (WPost E S μ w K) := by
  unfold aStore at h
  split at h
  · rename_i x0 k v i off e1
    split at h
    · rename_i bx hk
      obtain ⟨⟨hver, hfz, hi, hok, hlen, hle⟩, h⟩ := h
      have hav := hf.one (x := a) (by simp [ho, Op.operands]) ha
      have hxv := hf.one (x := x) (by simp [ho, Op.operands]) hx
      rw [e1] at hav
      generalize hra : ρ a = va at hav
      cases hav with
      | ptr _ _ _ _ b cap esz hμ =>
        obtain ⟨B, hB, hz, hh⟩ := hw.box k bx hk
        have hB' := hB
        rw [hver, hμ] at hB
        cases hB
        obtain ⟨a1, a2, a3, cur, a4, a5, a6, a7, a8⟩ := hh
        obtain ⟨c1, c2⟩ := hxv.cells (AV.ok_iff.1 hok)
        simp only at a5 a7 a8 hz
        rw [getD_get hi] at hle h
        have hel := a8.1 _ (List.getElem_mem hi)
        have hvl : (ρ x).cells.toList.length = n := by rw [c1.1, hlen]
        have hstep := mul_step (z := esz) (Nat.lt_of_lt_of_le hi a7)
        have hfit : i * esz + off + 0 + (ρ x).cells.toList.length ≤ cur.size := by rw [hvl, a5]; rw [hel.1] at hle; omega
        have hone : ∀ v ∈ (ρ x).cells.toList, v.oneCell' = true := fun v hv => by
          obtain ⟨j, hj⟩ := List.getElem?_of_mem hv
          have hjl : j < (ix.ev fr).cells.length := by rw [← c1.1]; exact (List.getElem?_eq_some_iff.1 hj).1
          exact (c1.2 j v _ hj (List.getElem?_eq_getElem hjl)).oneCell (c2 _ (List.getElem_mem hjl))
        have hr := run_storeCells_at P b (i * esz + off) bx.ty (ρ x).cells.toList 0 cur w a4 hfit hone
        generalize hcur' : (cur.toList.take (i * esz + off + 0) ++ (ρ x).cells.toList ++ cur.toList.drop (i * esz + off + 0 + (ρ x).cells.toList.length)).toArray = cur' at hr
        have hget : ∀ q : Nat, cur'[q]? = if i * esz + off ≤ q ∧ q < i * esz + off + n then (ρ x).cells.toList[q - (i * esz + off)]? else cur[q]? := fun q => by
          rw [← hcur']
          have := splice_get cur.toList (i * esz + off) (ρ x).cells.toList q (by simpa using hfit)
          rw [hvl] at this
          simpa [hvl] using this
        have hsz' : cur'.size = cur.size := by
          rw [← hcur']; simp at hfit ⊢; omega
        have hek : bx.es[i].ok = true := by
          by_cases hc : bx.es[i].isAgg = true
          · simp [AV.ok, hc]
          · have : bx.es[i].cells = [bx.es[i]] := by cases hq : bx.es[i] <;> first | rfl | (rw [hq] at hc; simp [AV.isAgg] at hc)
            have h1 := hel.2 bx.es[i] (by rw [this]; simp)
            simp [AV.ok, h1]
        obtain ⟨d1, d2⟩ := setc_cells (off := off) hek c2 (by rw [hlen]; exact hle)
        have hlies : Lies S w μ cur' esz (bx.es.set i (bx.es[i].setc off (ix.ev fr).cells)) := by
          refine ⟨fun e he => ?_, fun i' j e y p q => ?_⟩
          · rcases List.mem_or_eq_of_mem_set he with he | he
            · exact a8.1 e he
            · subst he
              rw [d1, lay_len _ _ _ (by rw [hlen]; exact hle)]
              exact ⟨hel.1, lay_one hel.2 c2⟩
          · rw [hget]
            by_cases hii : i' = i
            · subst hii
              rw [List.getElem?_set_self hi] at p
              cases p
              rw [d1, lay_get _ _ _ _ (by rw [hlen]; exact hle), hlen] at q
              by_cases hj : off ≤ j ∧ j < off + n
              · rw [if_pos (by omega)]
                rw [if_pos hj] at q
                have hjl : j - off < (ρ x).cells.toList.length := by omega
                refine ⟨_, ?_, c1.2 (j - off) _ y (List.getElem?_eq_getElem hjl) q⟩
                rw [show i' * esz + j - (i' * esz + off) = j - off by omega]
                exact List.getElem?_eq_getElem hjl
              · rw [if_neg (by omega)]
                rw [if_neg hj] at q
                exact a8.2 i' j _ y (List.getElem?_eq_getElem hi) q
            · rw [List.getElem?_set_ne (Ne.symm hii)] at p
              have hj : j < esz := by
                rw [← (a8.1 e (List.mem_of_getElem? p)).1]; exact (List.getElem?_eq_some_iff.1 q).1
              rw [if_neg]
              · exact a8.2 i' j e y p q
              · rw [hel.1] at hle
                rintro ⟨h1, h2⟩
                rcases Nat.lt_or_gt_of_ne hii with hlt | hlt
                · have := mul_step (z := esz) hlt; omega
                · have := mul_step (z := esz) hlt; omega
        have hW := hw.put (w' := w.setRow b cur') (μ' := μ) (k := k) (g := b) (bx := { bx with es := bx.es.set i (bx.es[i].setc off (ix.ev fr).cells) }) (B := ⟨some b, cap, esz⟩) (cur := cur') rfl rfl rfl (by simp [World.setRow])
          (fun b' hb' hne => setRow_other w b b' _ hne) (Mu.le.refl _) hw.fresh (by simp only; rw [hver]; exact hμ) rfl hz hfz (a3 hfz) (a1 hfz) (setRow_heap w b cur _ _ _ a4) (by simp only; rw [hsz']; exact a5) a6 (by simp; exact a7)
          (hlies.mono (fun _ h => h) (fun b' hb' => setRow_other w b b' _ (fun e => a3 hfz (e ▸ hb'))) (Mu.le.refl _))
          (fun j bj Bj hj hne hfj hBj => by
            intro e
            exact hw.apart j k bj bx Bj ⟨some b, cap, esz⟩ b hj hk hne hfj hfz hBj (by rw [hver]; exact hμ) e rfl)
        unfold Yield
        simp only [execOp, ho, hra, Instr.storeAt, Instr.sureAddr, Sem.run_bind, Sem.run_pure, Result.andThen_ok, storeVar, run_tySize hn]
        have hvl' : (ρ x).cells.size = n := by simpa using hvl
        simp only [hvl', ne_eq, not_true_eq_false, if_false, hr, Result.andThen_ok, Sem.run_pure]
        exact ⟨_, _, S, μ, h, VR.tup #[] [] rfl (fun i v x p => by simp at p), hW.1, fun _ h => h, hW.2, Mu.le.refl _⟩
    · exact h.elim
  · exact h.elim
end

end Go.Proofs.Ytlpapmofmdgllaa.Av

/-
  THE QUIET OPERATIONS: boxes, structs, slices that are made once for all; loads; places; calls. Conditions: none.
-/
import Derived.Test.YtlpapmofmdgllaaAvSnd3
set_option linter.unusedVariables false
set_option linter.unusedSimpArgs false
namespace Go.Proofs.Ytlpapmofmdgllaa.Av
open Go.RowKit

/-- a new block that may be read for good -/
theorem CellsAt.new {E : Env} {S : Nat → Prop} {w : World} {μ : Mu} {hp : Hp} (hw : WI E S w μ hp) {cs : Array Value} {xs : List AV} {e : TypeId} (h : VRs S w μ cs.toList xs) (h1 : ∀ x ∈ xs, x.one = true) :
    CellsAt (fun b => S b ∨ b = w.heap.size) (w.alloc (.cells cs e)) μ w.heap.size 0 xs := by
  refine ⟨h1, fun j x hx => ?_⟩
  have hj : j < cs.size := by have := (List.getElem?_eq_some_iff.1 hx).1; rw [← h.1] at this; simpa using this
  refine ⟨cs[j], ?_, ?_⟩
  · rw [cell_of_block (heap_alloc_new w _), Nat.zero_add]; simp [hj]
  · exact (h.2 j cs[j] x (by simp [hj]) hx).mono (fun b hb => .inl hb) (same_alloc hw _) (Mu.le.refl _)

theorem run_newVar {P : Program} {e : TypeId} {v : Value} (w : World) : (newVar e v).run P w = .ok ⟨w.heap.size, 0, none⟩ (w.alloc (.cells v.cells e)) := rfl

theorem VRs.pur {E : Env} {S : Nat → Prop} {w : World} {μ : Mu} {hp : Hp} (hw : WI E S w μ hp) {vs : List Value} {xs : List AV} (h : VRs S w μ vs xs) : VRs S w μ vs (xs.map (AV.pur1 hp)) :=
  ⟨by simpa using h.1, fun i v y p q => by
    simp only [List.getElem?_map, Option.map_eq_some_iff] at q
    obtain ⟨x, hx, rfl⟩ := q
    exact (h.2 i v x p hx).pur1 hw⟩

theorem vset_get (v : List Value) : ∀ (off : Nat) (cs : Array Value) (i : Nat), off + v.length ≤ cs.size →
    ((v.zipIdx.foldl (fun cs (c, j) => cs.setIfInBounds (off + j) c) cs).size = cs.size) ∧
    (v.zipIdx.foldl (fun cs (c, j) => cs.setIfInBounds (off + j) c) cs)[i]? = if off ≤ i ∧ i < off + v.length then v[i - off]? else cs[i]? := by
  suffices h : ∀ (k off : Nat) (cs : Array Value) (i : Nat), off + k + v.length ≤ cs.size →
      (((v.zipIdx k).foldl (fun cs (c, j) => cs.setIfInBounds (off + j) c) cs).size = cs.size) ∧
      ((v.zipIdx k).foldl (fun cs (c, j) => cs.setIfInBounds (off + j) c) cs)[i]? = if off + k ≤ i ∧ i < off + k + v.length then v[i - (off + k)]? else cs[i]? from
    fun off cs i hl => h 0 off cs i hl
  induction v with
  | nil => intro k off cs i hl; simp; omega
  | cons c v ih =>
    intro k off cs i hl
    simp only [List.length_cons] at hl
    simp only [List.zipIdx_cons, List.foldl_cons]
    have := ih (k + 1) off (cs.setIfInBounds (off + k) c) i (by simp; omega)
    refine ⟨by rw [this.1]; simp, ?_⟩
    rw [this.2]
    by_cases h1 : i = off + k
    · subst h1
      rw [if_neg (by omega), if_pos (by simp)]
      simp [show off + k < cs.size by omega]
    · by_cases h2 : off + (k + 1) ≤ i ∧ i < off + (k + 1) + v.length
      · rw [if_pos h2, if_pos (by simp; omega)]
        rw [show i - (off + k) = (i - (off + (k + 1))) + 1 by omega]
        simp
      · rw [if_neg h2, if_neg (by simp; omega)]
        simp [Array.getElem?_setIfInBounds_ne (Ne.symm h1)]

theorem lay_get (cs : List AV) (off : Nat) (xs : List AV) (i : Nat) (hl : off + xs.length ≤ cs.length) : (lay cs off xs)[i]? = if off ≤ i ∧ i < off + xs.length then xs[i - off]? else cs[i]? := by
  unfold lay
  have h1 : (cs.take off).length = off := by simp; omega
  rw [List.append_assoc, List.getElem?_append, h1]
  by_cases h2 : i < off
  · rw [if_pos h2, if_neg (by omega), List.getElem?_take, if_pos h2]
  · rw [if_neg h2, List.getElem?_append]
    by_cases h3 : i - off < xs.length
    · rw [if_pos h3, if_pos (by omega)]
    · rw [if_neg h3, if_neg (by omega)]
      simp only [List.getElem?_drop]
      congr 1; omega
theorem lay_len (cs : List AV) (off : Nat) (xs : List AV) (hl : off + xs.length ≤ cs.length) : (lay cs off xs).length = cs.length := by
  unfold lay; simp; omega
theorem lay_one {cs : List AV} {off : Nat} {xs : List AV} (h : ∀ x ∈ cs, x.one = true) (h' : ∀ x ∈ xs, x.one = true) : ∀ x ∈ lay cs off xs, x.one = true := by
  intro x hx
  unfold lay at hx
  rcases List.mem_append.1 hx with hx | hx
  · rcases List.mem_append.1 hx with hx | hx
    · exact h x (List.mem_of_mem_take hx)
    · exact h' x hx
  · exact h x (List.mem_of_mem_drop hx)
theorem VRs.lay {S : Nat → Prop} {w : World} {μ : Mu} {cs : Array Value} {xs : List AV} {v : List Value} {ys : List AV} (h : VRs S w μ cs.toList xs) (h' : VRs S w μ v ys) {off : Nat} (hl : off + ys.length ≤ xs.length) :
    VRs S w μ (v.zipIdx.foldl (fun cs (c, j) => cs.setIfInBounds (off + j) c) cs).toList (lay xs off ys) := by
  have hsz : cs.size = xs.length := by simpa using h.1
  have hb : off + v.length ≤ cs.size := by rw [hsz, h'.1]; exact hl
  refine ⟨by rw [lay_len _ _ _ hl, Array.length_toList, (vset_get v off cs 0 hb).1, hsz], fun i u y p q => ?_⟩
  rw [Array.getElem?_toList, (vset_get v off cs i hb).2] at p
  rw [lay_get _ _ _ _ hl, ← h'.1] at q
  split at p
  · rename_i hc; rw [if_pos hc] at q; exact h'.2 _ u y p q
  · rename_i hc; rw [if_neg hc] at q; exact h.2 i u y (by simpa using p) q

section
variable {P : Program} {E : Env} {hp : Hp} {fr : Nat → AV}

theorem q_boxP {o : Oper} {e : TypeId} {x : Operand} {ix : IArg} {K : AV → Prop} (ho : o.op = .box e x) (hx : lowArg x = some ix) (h : (ix.ev fr).ok = true ∧ K (.obj ((ix.ev fr).pur hp).cells)) : QOk P E fr hp o K := by
  refine ⟨_, h.2, fun S w μ ρ hw hf _ _ => ?_⟩
  have hv := hf.one (x := x) (by simp [ho, Op.operands]) hx
  refine Yield.val (v := .pointer (some ⟨w.heap.size, 0, none⟩)) (w' := w.alloc (.cells (ρ x).cells e)) (by simp [execOp, ho, Instr.box, run_newVar]) ?_
  obtain ⟨h1, h2⟩ := (hv.pur hw).cells (AV.ok_iff.1 (pur_ok h.1))
  exact ⟨_, (CellsAt.new hw h1 h2).vr (.inr rfl), hw.alloc _, fun b hb => .inl hb, same_alloc hw _⟩

theorem tyZero_ok {e : TypeId} {z : AV} (h : tyZero P e = some z) : ∃ zv, (∀ w, (zeroValue e).run P w = .ok zv w) ∧ (∀ S w μ, VR S w μ zv z) ∧ z.ok = true := by
  unfold tyZero at h
  cases hi : P.info? e with
  | none => rw [hi] at h; cases h
  | some i =>
    rw [hi] at h
    cases hz : i.zero with
    | none => simp [hz] at h
    | some zv =>
      simp only [Option.bind_some, hz] at h
      exact ⟨zv, fun w => by simp [zeroValue, typeInfo, hi, hz], fun S w μ => (lowVal_ok h).1, (lowVal_ok (S := fun _ => True) (w := default) (μ := mu0) h).2⟩

theorem q_allocP {o : Oper} {e : TypeId} {z : AV} {K : AV → Prop} (ho : o.op = .alloc e) (hz : tyZero P e = some z) (h : z.ok = true ∧ K (.obj (z.pur hp).cells)) : QOk P E fr hp o K := by
  obtain ⟨zv, hr, hv, hk⟩ := tyZero_ok hz
  refine ⟨_, h.2, fun S w μ ρ hw hf _ _ => ?_⟩
  refine Yield.val (v := .pointer (some ⟨w.heap.size, 0, none⟩)) (w' := w.alloc (.cells zv.cells e)) (by simp [execOp, ho, Instr.alloc, hr, run_newVar]) ?_
  obtain ⟨h1, h2⟩ := ((hv S w μ).pur hw).cells (AV.ok_iff.1 (pur_ok hk))
  exact ⟨_, (CellsAt.new hw h1 h2).vr (.inr rfl), hw.alloc _, fun b hb => .inl hb, same_alloc hw _⟩

theorem run_placesL {l : List Field} (w : World) (h : ∀ f ∈ l, (tySize P f.type).isSome) : (l.mapM (fun f : Field => (do pure (f.offset, ← sizeOf f.type) : Sem (Nat × Nat)))).run P w = .ok (l.map fun f => (f.offset, (tySize P f.type).getD 0)) w := by
  induction l with
  | nil => rfl
  | cons f l ih =>
    obtain ⟨n, hn⟩ := Option.isSome_iff_exists.1 (h f (by simp))
    rw [List.mapM_cons]
    simp only [Sem.run_bind, run_tySize hn, Result.andThen_ok, Sem.run_pure, ih (fun g hg => h g (by simp [hg])), List.map_cons, hn, Option.getD_some]
theorem run_places {fs : Array Field} (w : World) (h : ∀ f ∈ fs.toList, (tySize P f.type).isSome) : (fs.mapM (fun f : Field => (do pure (f.offset, ← sizeOf f.type) : Sem (Nat × Nat)))).run P w = .ok (fs.map fun f => (f.offset, (tySize P f.type).getD 0)) w := by
  obtain ⟨l⟩ := fs
  rw [List.mapM_toArray]
  have := run_placesL (P := P) w h
  rw [map_eq_pure_bind]
  simp only [Sem.run_bind, this, Result.andThen_ok, Sem.run_pure, List.map_toArray]

theorem fill_build {fs : Array Field} {places : Nat → Option (Nat × Nat)} (hpl : ∀ i f n, fs[i]? = some f → tySize P f.type = some n → places i = some (f.offset, n)) :
    ∀ {ps : List (Nat × Operand)} {is : List (Nat × Nat × IArg)} {xs : List AV} {K : List AV → Prop}, lowBuild P fs ps = some is → aBuild fr xs is K →
    ∃ ys, K ys ∧ ∀ S w μ ρ (cs : Array Value), Fits S w μ fr ρ (ps.map (·.2)) → VRs S w μ cs.toList xs → (∀ x ∈ xs, x.one = true) →
      ∃ cs', Instr.fill places cs (ps.map fun p => (p.1, ρ p.2)) = some cs' ∧ VRs S w μ cs'.toList ys ∧ ∀ x ∈ ys, x.one = true
  | [], is, xs, K, hl, h => by
    cases hl
    exact ⟨xs, h, fun S w μ ρ cs _ hv h1 => ⟨cs, rfl, hv, h1⟩⟩
  | (i, x) :: ps, is, xs, K, hl, h => by
    unfold lowBuild at hl
    split at hl
    · rename_i f y r h1 h2 h3
      cases hn : tySize P f.type with
      | none => rw [hn] at hl; cases hl
      | some n =>
        rw [hn] at hl
        cases hl
        unfold aBuild at h
        obtain ⟨⟨hok, hlen, hoff⟩, h⟩ := h
        obtain ⟨ys, hK, hh⟩ := fill_build hpl h3 h
        refine ⟨ys, hK, fun S w μ ρ cs hf hv hone => ?_⟩
        have hx := hf x (by simp) y h2
        obtain ⟨c1, c2⟩ := hx.cells (AV.ok_iff.1 hok)
        have hsz : (ρ x).cells.size = n := by have := c1.1; rw [hlen] at this; simpa using this
        have hcs : cs.size = xs.length := by simpa using hv.1
        have hstep := VRs.lay hv c1 (off := f.offset) (by rw [hlen]; exact hoff)
        obtain ⟨cs', d1, d2, d3⟩ := hh S w μ ρ _ (fun u hu => hf u (by simp at hu ⊢; right; exact hu)) hstep (lay_one hone c2)
        refine ⟨cs', ?_, d2, d3⟩
        simp only [List.map_cons, Instr.fill, hpl i f n h1 hn, hsz, hcs]
        rw [if_neg (by simp; omega)]
        have e : Array.foldl (fun (cs : Array Value) (x : Value × Nat) => match x with | (c, j) => cs.setIfInBounds (f.offset + j) c) cs (ρ x).cells.zipIdx =
            List.foldl (fun (cs : Array Value) (x : Value × Nat) => match x with | (c, j) => cs.setIfInBounds (f.offset + j) c) cs (ρ x).cells.toList.zipIdx := by
          rw [← Array.foldl_toList, Array.toList_zipIdx]
        rw [e]
        exact d1
    · cases hl

theorem q_build {o : Oper} {t : TypeId} {fs : Array Field} {ps : Array (Nat × Operand)} {z : AV} {is : List (Nat × Nat × IArg)} {K : AV → Prop} (ho : o.op = .build t ps) (ht : P.underlying t = some (.struct fs)) (hz : tyZero P t = some z) (hza : z.isAgg = true)
    (hl : lowBuild P fs ps.toList = some is) (hall : ∀ f ∈ fs.toList, (tySize P f.type).isSome) (h : aBuild fr z.cells is fun cs => K (.agg cs)) : QOk P E fr hp o K := by
  obtain ⟨zv, hr, hv, hk⟩ := tyZero_ok hz
  obtain ⟨ys, hK, hh⟩ := fill_build (places := fun i => (fs.map fun f => (f.offset, (tySize P f.type).getD 0))[i]?) (fun i f n h1 h2 => by simp [h1, h2]) hl h
  refine ⟨_, hK, fun S w μ ρ hw hf _ _ => ?_⟩
  obtain ⟨c1, c2⟩ := (hv S w μ).cells (AV.ok_iff.1 hk)
  obtain ⟨cs', d1, d2, d3⟩ := hh S w μ ρ zv.cells (fun u hu => hf u (by
    simp only [ho, Op.operands]
    simpa using hu)) c1 c2
  refine Yield.val (v := .agg cs') (w' := w) ?_ (QPost.here hw (.agg cs' ys (by simpa using d2.1) d3 (fun i v x a b => d2.2 i v x (by simpa using a) b)))
  have e : (ps.map fun (p : Nat × Operand) => (p.1, ρ p.2)).toList = ps.toList.map fun p => (p.1, ρ p.2) := by simp
  simp only [execOp, ho, Instr.build, Sem.run_bind, hr, Result.andThen_ok, run_underlying ht, run_places w hall, e, d1]
  rfl

theorem Lies.set {S : Nat → Prop} {w : World} {μ : Mu} {cur : Array Value} {esz : Nat} {es : List AV} (h : Lies S w μ cur esz es) (hsz : cur.size = es.length * esz) {v : Value} {x : AV} (hv : VR S w μ v x) (hok : x.ok = true) (hx : x.cells.length = esz) {i : Nat} (hi : i < es.length) :
    Lies S w μ (v.cells.toList.zipIdx.foldl (fun cs (c, j) => cs.setIfInBounds (i * esz + j) c) cur) esz (es.set i x) ∧ (v.cells.toList.zipIdx.foldl (fun cs (c, j) => cs.setIfInBounds (i * esz + j) c) cur).size = cur.size := by
  obtain ⟨c1, c2⟩ := hv.cells (AV.ok_iff.1 hok)
  have hl : v.cells.toList.length = esz := by rw [c1.1, hx]
  have hle : i * esz + esz ≤ es.length * esz := by
    have := Nat.mul_le_mul_right esz (show i + 1 ≤ es.length from hi)
    rw [Nat.add_mul, Nat.one_mul] at this
    exact this
  have hb : i * esz + v.cells.toList.length ≤ cur.size := by rw [hl, hsz]; exact hle
  refine ⟨⟨fun e he => ?_, fun i' j e y p q => ?_⟩, (vset_get _ _ _ 0 hb).1⟩
  · rcases List.mem_or_eq_of_mem_set he with he | he
    · exact h.1 e he
    · subst he; exact ⟨hx, c2⟩
  · rw [(vset_get _ _ _ _ hb).2, hl]
    have hj : j < esz := by
      have h2 : e.cells.length = esz := by
        rcases List.mem_or_eq_of_mem_set (List.mem_of_getElem? p) with he | he
        · exact (h.1 e he).1
        · subst he; exact hx
      rw [← h2]; exact (List.getElem?_eq_some_iff.1 q).1
    by_cases hii : i' = i
    · subst hii
      rw [List.getElem?_set_self hi] at p
      cases p
      rw [if_pos (by omega)]
      have hjl : j < v.cells.toList.length := by omega
      refine ⟨v.cells.toList[j], ?_, c1.2 j _ y (List.getElem?_eq_getElem hjl) q⟩
      rw [show i' * esz + j - i' * esz = j by omega]
      exact List.getElem?_eq_getElem hjl
    · rw [List.getElem?_set_ne (Ne.symm hii)] at p
      rw [if_neg]
      · exact h.2 i' j e y p q
      · rintro ⟨h1, h2⟩
        rcases Nat.lt_or_gt_of_ne hii with hlt | hlt
        · have := Nat.mul_le_mul_right esz (show i' + 1 ≤ i from hlt); rw [Nat.add_mul, Nat.one_mul] at this; omega
        · have := Nat.mul_le_mul_right esz (show i + 1 ≤ i' from hlt); rw [Nat.add_mul, Nat.one_mul] at this; omega

theorem fill_elems {esz : Nat} : ∀ {ps : List (Nat × Operand)} {is : List (Nat × IArg)} {es : List AV} {K : List AV → Prop}, lowElems ps = some is → aElems fr esz es is K →
    ∃ fs, K fs ∧ fs.length = es.length ∧ ∀ S w μ ρ (cur : Array Value), Fits S w μ fr ρ (ps.map (·.2)) → Lies S w μ cur esz es → cur.size = es.length * esz →
      ∃ cur', Instr.fill (fun i => some (i * esz, esz)) cur (ps.map fun p => (p.1, ρ p.2)) = some cur' ∧ Lies S w μ cur' esz fs ∧ cur'.size = fs.length * esz
  | [], is, es, K, hl, h => by
    cases hl
    exact ⟨es, h, rfl, fun S w μ ρ cur _ hv h1 => ⟨cur, rfl, hv, h1⟩⟩
  | (i, x) :: ps, is, es, K, hl, h => by
    unfold lowElems at hl
    split at hl
    · rename_i y r h2 h3
      cases hl
      unfold aElems at h
      obtain ⟨⟨hok, hlen, hi⟩, h⟩ := h
      obtain ⟨gs, hK, hgl, hh⟩ := fill_elems h3 h
      refine ⟨gs, hK, by rw [hgl]; simp, fun S w μ ρ cur hf hv hsz => ?_⟩
      have hx := hf x (by simp) y h2
      have hcl : (ρ x).cells.size = esz := by have := (hx.cells (AV.ok_iff.1 hok)).1.1; rw [hlen] at this; simpa using this
      obtain ⟨s1, s2⟩ := Lies.set hv hsz hx hok hlen hi
      obtain ⟨cur', d1, d2, d3⟩ := hh S w μ ρ _ (fun u hu => hf u (by simp at hu ⊢; right; exact hu)) s1 (by rw [s2, hsz]; simp)
      refine ⟨cur', ?_, d2, d3⟩
      have hle : i * esz + esz ≤ es.length * esz := by
        have := Nat.mul_le_mul_right esz (show i + 1 ≤ es.length from hi)
        rw [Nat.add_mul, Nat.one_mul] at this
        exact this
      simp only [List.map_cons, Instr.fill, hcl]
      rw [if_neg (by simp; omega)]
      have e : Array.foldl (fun (cs : Array Value) (x : Value × Nat) => match x with | (c, j) => cs.setIfInBounds (i * esz + j) c) cur (ρ x).cells.zipIdx =
          List.foldl (fun (cs : Array Value) (x : Value × Nat) => match x with | (c, j) => cs.setIfInBounds (i * esz + j) c) cur (ρ x).cells.toList.zipIdx := by
        rw [← Array.foldl_toList, Array.toList_zipIdx]
      rw [e]
      exact d1
    · cases hl

theorem Lies.zeros {S : Nat → Prop} {w : World} {μ : Mu} {zv : Value} {z : AV} (hv : VR S w μ zv z) (hok : z.ok = true) (m : Nat) :
    Lies S w μ ((Array.range (m * z.cells.length)).map fun i => zv.cells[i % zv.cells.size]!) z.cells.length (List.replicate m z) := by
  obtain ⟨c1, c2⟩ := hv.cells (AV.ok_iff.1 hok)
  have hsz : zv.cells.size = z.cells.length := by simpa using c1.1
  refine ⟨fun e he => by rw [List.eq_of_mem_replicate he]; exact ⟨rfl, c2⟩, fun i j e x p q => ?_⟩
  have he := List.eq_of_mem_replicate (List.mem_of_getElem? p)
  subst he
  have hi : i < m := by have := (List.getElem?_eq_some_iff.1 p).1; simpa using this
  have hj := (List.getElem?_eq_some_iff.1 q).1
  have hlt : i * e.cells.length + j < m * e.cells.length := by
    have := Nat.mul_le_mul_right e.cells.length (show i + 1 ≤ m from hi)
    rw [Nat.add_mul, Nat.one_mul] at this; omega
  have hmod : (i * e.cells.length + j) % e.cells.length = j := by
    rw [Nat.mul_comm, Nat.mul_add_mod]; exact Nat.mod_eq_of_lt hj
  refine ⟨zv.cells[j]!, ?_, ?_⟩
  · simp only [Array.getElem?_map, Array.getElem?_range, if_pos hlt, Option.map_some, hsz, hmod]
  · have hj' : j < zv.cells.size := by omega
    refine c1.2 j _ x ?_ q
    simp [hj', getElem!_pos]

theorem run_buildSlice {t e : TypeId} {m : Nat} {z : AV} {zv : Value} {ps : Array (Nat × Value)} {cur' : Array Value} (he : tyElem P t = some e) (hs : tySize P e = some z.cells.length) (hz : ∀ w, (zeroValue e).run P w = .ok zv w) (hzs : zv.cells.size = z.cells.length)
    (h24 : m * z.cells.length ≤ 2 ^ 24) (hf : Instr.fill (fun i => some (i * z.cells.length, z.cells.length)) ((Array.range (m * z.cells.length)).map fun i => zv.cells[i % zv.cells.size]!) ps.toList = some cur') (w : World) :
    (Instr.buildSlice t m ps).run P w = .ok (.slice (some ⟨w.heap.size, 0, none⟩) m m) (w.alloc (.cells cur' e)) := by
  have hu : P.underlying t = some (.slice e) := by
    unfold tyElem at he; split at he
    · rename_i h; cases he; exact h
    · cases he
  unfold Instr.buildSlice
  simp only [Sem.run_bind, run_underlying hu, Result.andThen_ok, run_tySize hs]
  rw [if_neg (by omega)]
  by_cases h0 : m * z.cells.length = 0
  · simp only [h0, if_true, Sem.run_bind, Sem.run_pure, Result.andThen_ok]
    rw [h0] at hf
    have e0 : (Array.range 0).map (fun i => zv.cells[i % zv.cells.size]!) = #[] := Array.eq_empty_of_size_eq_zero (by simp)
    rw [e0] at hf
    have e1 : ((Array.range 0).map fun x => (#[] : Array Value)[x % (#[] : Array Value).size]!) = #[] := Array.eq_empty_of_size_eq_zero (by simp)
    rw [e1, hf]
    rfl
  · simp only [h0, if_false, Sem.run_bind, Sem.run_pure, Result.andThen_ok, hz]
    rw [hf]
    rfl

theorem VR.slOf {S : Nat → Prop} {w : World} {μ : Mu} {cur : Array Value} {esz : Nat} {es : List AV} {b : Nat} {e : TypeId} {fz : Nat × Nat} {cap : Nat} (h : Lies S w μ cur esz es) (hb : w.heap[b]? = some (.cells cur e fz)) (hS : S b) (hl : es.length ≤ cap) (hm : cap ≤ maxLen) :
    VR S w μ (.slice (some ⟨b, 0, none⟩) es.length cap) (.sl es) := by
  refine .sl b 0 cap esz (fun i j => (cur[i * esz + j]?).getD undef) es hS hl hm h.1 (fun i j hi hj => ?_) (fun i j e x p q => ?_)
  · rw [cell_of_block hb, Nat.zero_add]
    obtain ⟨u, c1, _⟩ := h.2 i j es[i] _ (List.getElem?_eq_getElem hi) (List.getElem?_eq_getElem (by rw [(h.1 _ (List.getElem_mem hi)).1]; exact hj))
    rw [c1]; rfl
  · obtain ⟨u, c1, c2⟩ := h.2 i j e x p q
    simp only [c1]; exact c2
theorem Lies.mono {S S' : Nat → Prop} {w w' : World} {μ μ' : Mu} {cur : Array Value} {esz : Nat} {es : List AV} (h : Lies S w μ cur esz es) (hS : ∀ b, S b → S' b) (hw : Same S w w') (hμ : Mu.le μ μ') : Lies S' w' μ' cur esz es :=
  ⟨h.1, fun i j e x p q => let ⟨u, c1, c2⟩ := h.2 i j e x p q; ⟨u, c1, c2.mono hS hw hμ⟩⟩
theorem Lies.pur {S : Nat → Prop} {w : World} {μ : Mu} (hw : WI E S w μ hp) {cur : Array Value} {esz : Nat} {es : List AV} (h : Lies S w μ cur esz es) (hok : ∀ e ∈ es, e.ok = true) : Lies S w μ cur esz (es.map (AV.pur hp)) := by
  refine ⟨fun f hf => ?_, fun i j f x p q => ?_⟩
  · obtain ⟨e, he, rfl⟩ := List.mem_map.1 hf
    rw [pur_cells (hok e he)]
    refine ⟨by simpa using (h.1 e he).1, fun x hx => ?_⟩
    obtain ⟨y, hy, rfl⟩ := List.mem_map.1 hx
    exact pur1_one ((h.1 e he).2 y hy)
  · simp only [List.getElem?_map, Option.map_eq_some_iff] at p
    obtain ⟨e, he, rfl⟩ := p
    rw [pur_cells (hok e (List.mem_of_getElem? he))] at q
    simp only [List.getElem?_map, Option.map_eq_some_iff] at q
    obtain ⟨y, hy, rfl⟩ := q
    obtain ⟨u, c1, c2⟩ := h.2 i j e y he hy
    exact ⟨u, c1, c2.pur1 hw⟩
theorem aElems_ok {esz : Nat} : ∀ {is : List (Nat × IArg)} {es : List AV} {K : List AV → Prop}, (∀ e ∈ es, e.ok = true) → aElems fr esz es is K → aElems fr esz es is fun fs => (∀ e ∈ fs, e.ok = true) ∧ K fs
  | [], es, K, h0, h => ⟨h0, h⟩
  | (i, x) :: r, es, K, h0, h => ⟨h.1, aElems_ok (fun e he => by
      rcases List.mem_or_eq_of_mem_set he with he | he
      · exact h0 e he
      · exact he ▸ h.1.1) h.2⟩

theorem q_slP {o : Oper} {t e : TypeId} {m : Nat} {ps : Array (Nat × Operand)} {z : AV} {is : List (Nat × IArg)} {K : AV → Prop} (ho : o.op = .buildSlice t m ps) (he : tyElem P t = some e) (hs : tySize P e = some z.cells.length) (hz : tyZero P e = some z)
    (hl : lowElems ps.toList = some is) (h24 : m * z.cells.length ≤ 2 ^ 24) (hpos : 0 < z.cells.length) (h : aElems fr z.cells.length (List.replicate m z) is fun es => K (.sl (es.map (AV.pur hp)))) : QOk P E fr hp o K := by
  obtain ⟨zv, hr, hv, hk⟩ := tyZero_ok hz
  obtain ⟨fs, ⟨hoks, hK⟩, hfl, hh⟩ := fill_elems hl (aElems_ok (fun e he => by rw [List.eq_of_mem_replicate he]; exact hk) h)
  refine ⟨_, hK, fun S w μ ρ hw hf _ _ => ?_⟩
  have hzs : zv.cells.size = z.cells.length := by simpa using ((hv S w μ).cells (AV.ok_iff.1 hk)).1.1
  obtain ⟨cur', d1, d2, d3⟩ := hh S w μ ρ _ (fun u hu => hf u (by
    simp only [ho, Op.operands]
    simpa using hu)) (Lies.zeros (hv S w μ) hk m) (by simp)
  have e' : (ps.map fun (p : Nat × Operand) => (p.1, ρ p.2)).toList = ps.toList.map fun p => (p.1, ρ p.2) := by simp
  refine Yield.val (v := .slice (some ⟨w.heap.size, 0, none⟩) m m) (w' := w.alloc (.cells cur' e)) ?_ ?_
  · have := run_buildSlice (ps := ps.map fun (p : Nat × Operand) => (p.1, ρ p.2)) he hs hr hzs h24 (by rw [e']; exact d1) w
    simp only [execOp, ho, Sem.run_bind, this, Result.andThen_ok]
    rfl
  · have hlen : fs.length = m := by simpa using hfl
    have hml : m ≤ maxLen := by
      have : m * 1 ≤ m * z.cells.length := Nat.mul_le_mul_left m hpos
      unfold maxLen; omega
    refine ⟨fun b => S b ∨ b = w.heap.size, ?_, hw.alloc _, fun b hb => .inl hb, same_alloc hw _⟩
    have h1 := ((d2.pur hw hoks).mono (S' := fun b => S b ∨ b = w.heap.size) (fun b hb => .inl hb) (same_alloc hw (.cells cur' e)) (Mu.le.refl μ))
    have := VR.slOf h1 (heap_alloc_new w _) (.inr rfl) (cap := m) (by simp [hlen]) hml
    simpa [hlen] using this

end

end Go.Proofs.Ytlpapmofmdgllaa.Av

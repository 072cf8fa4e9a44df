/-
 THE LIBRARY's CONTRACTS AT THIS PROGRAM, as the kit's tools lay-shelf and lay-plain wrote them for it. Conditions: each theorem's own.
-/
import Derived.Shelf.Sort.Plain
import Derived.Shelf.Slices.In.SortNone
import Derived.Test.YteeiaaogmjbcjaaGreatProg
import Derived.Test.YteeiaaogmjbcjaaGreatURowH
import Derived.Lib.SlicesCompact
namespace Go.Proofs.YteeiaaogmjbcjaaGreat
open Go.Shelf Go.Proofs
def Sl : Go.Shelf.Ren := ⟨fun | 189 => 50 | 125 => 82 | 257 => 81 | 128 => 109 | 129 => 110 | 294 => 100 | 295 => 101 | 296 => 102 | 297 => 103 | 298 => 104 | 299 => 105 | 216 => 106 | 300 => 107 | 301 => 108 | 328 => 122 | 329 => 123 | 330 => 124 | 331 => 125 | 332 => 126 | 215 => 127 | 343 => 147 | n => n, fun | 28 => 34 | 3 => 3 | 46 => 143 | 0 => 0 | 51 => 165 | 53 => 167 | 4 => 4 | 183 => 157 | 182 => 156 | 131 => 162 | 5 => 5 | 9 => 9 | 218 => 188 | 222 => 192 | 228 => 217 | 229 => 218 | n => n, fun | n => n⟩
theorem Wx : Go.Proofs.Lays.n189 Tryz.prog Sl := {
 mixed := by kernel_rfl
 f125 := Tryz.func82.trans (congrArg some (by kernel_rfl))
 f128 := Tryz.func109.trans (congrArg some (by kernel_rfl))
 f129 := Tryz.func110.trans (congrArg some (by kernel_rfl))
 f189 := Tryz.func50.trans (congrArg some (by kernel_rfl))
 f215 := Tryz.func127.trans (congrArg some (by kernel_rfl))
 f216 := Tryz.func106.trans (congrArg some (by kernel_rfl))
 f257 := Tryz.func81.trans (congrArg some (by kernel_rfl))
 f294 := Tryz.func100.trans (congrArg some (by kernel_rfl))
 f295 := Tryz.func101.trans (congrArg some (by kernel_rfl))
 f296 := Tryz.func102.trans (congrArg some (by kernel_rfl))
 f297 := Tryz.func103.trans (congrArg some (by kernel_rfl))
 f298 := Tryz.func104.trans (congrArg some (by kernel_rfl))
 f299 := Tryz.func105.trans (congrArg some (by kernel_rfl))
 f300 := Tryz.func107.trans (congrArg some (by kernel_rfl))
 f301 := Tryz.func108.trans (congrArg some (by kernel_rfl))
 f328 := Tryz.func122.trans (congrArg some (by kernel_rfl))
 f329 := Tryz.func123.trans (congrArg some (by kernel_rfl))
 f330 := Tryz.func124.trans (congrArg some (by kernel_rfl))
 f331 := Tryz.func125.trans (congrArg some (by kernel_rfl))
 f332 := Tryz.func126.trans (congrArg some (by kernel_rfl))
 f343 := Tryz.func147.trans (congrArg some (by kernel_rfl))
 t0 := Tryz.underlying0
 a0 := Tryz.isAgg0
 z0 := Tryz.sizeOf0
 v0 := Tryz.zeroValue0
 t3 := Tryz.underlying3
 a3 := Tryz.isAgg3
 z3 := Tryz.sizeOf3
 v3 := Tryz.zeroValue3
 t4 := Tryz.underlying4
 a4 := Tryz.isAgg4
 z4 := Tryz.sizeOf4
 v4 := Tryz.zeroValue4
 t5 := Tryz.underlying5
 a5 := Tryz.isAgg5
 z5 := Tryz.sizeOf5
 v5 := Tryz.zeroValue5
 t9 := Tryz.underlying9
 a9 := Tryz.isAgg9
 z9 := Tryz.sizeOf9
 v9 := Tryz.zeroValue9
 t28 := Tryz.underlying34
 a28 := Tryz.isAgg34
 z28 := Tryz.sizeOf34
 v28 := Tryz.zeroValue34
 t46 := Tryz.underlying143
 a46 := Tryz.isAgg143
 z46 := Tryz.sizeOf143
 v46 := Tryz.zeroValue143
 t51 := Tryz.underlying165
 a51 := Tryz.isAgg165
 z51 := Tryz.sizeOf165
 v51 := Tryz.zeroValue165
 t53 := Tryz.underlying167
 a53 := Tryz.isAgg167
 z53 := Tryz.sizeOf167
 v53 := Tryz.zeroValue167
 t131 := Tryz.underlying162
 a131 := Tryz.isAgg162
 z131 := Tryz.sizeOf162
 v131 := Tryz.zeroValue162
 t182 := Tryz.underlying156
 a182 := Tryz.isAgg156
 z182 := Tryz.sizeOf156
 v182 := Tryz.zeroValue156
 t183 := Tryz.underlying157
 a183 := Tryz.isAgg157
 z183 := Tryz.sizeOf157
 v183 := Tryz.zeroValue157
 t218 := Tryz.underlying188
 a218 := Tryz.isAgg188
 z218 := Tryz.sizeOf188
 v218 := Tryz.zeroValue188
 t222 := Tryz.underlying192
 a222 := Tryz.isAgg192
 z222 := Tryz.sizeOf192
 v222 := Tryz.zeroValue192
 t228 := Tryz.underlying217
 a228 := Tryz.isAgg217
 z228 := Tryz.sizeOf217
 v228 := Tryz.zeroValue217
 t229 := Tryz.underlying218
 a229 := Tryz.isAgg218
 z229 := Tryz.sizeOf218
 v229 := Tryz.zeroValue218 }
open Go.Sort Go.RowKit in
theorem slices_Sort_int (blk off cap : Nat) (zs : List Int) (w : World) (hH : Holds (Value.int .i64) w blk off zs.toArray) (hblk : blk < w.heap.size) (hsz : zs.length < 4611686018427387904) :
  Calls Tryz.prog 50 #[.slice (some ⟨blk, off, none⟩) zs.length cap] w fun e w' =>
   e = .returned (.tuple #[]) ∧ ∃ n os, w' = grow (putRow (Value.int .i64) (Sort.ahead w n) blk off (zs.mergeSort fun x y => decide (x ≤ y)).toArray) os := Any.slices_Sort_int Wx blk off cap zs w hH hblk hsz
open Go.RowKit Go.Sort in
theorem slices_Sort_int_none (p : Option Addr) (cap : Nat) (w : World) :
  Calls Tryz.prog 50 #[.slice p 0 cap] w fun e w' => e = .returned (.tuple #[]) ∧ w' = w := Any.slices_Sort_int_none Wx p cap w
end Go.Proofs.YteeiaaogmjbcjaaGreat
set_option linter.unusedVariables false
set_option linter.unusedSimpArgs false
namespace Go.Proofs.YteeiaaogmjbcjaaGreat
open Go.RowKit Go.Proofs.YteeiaaogmjbcjaaGreat.Av Go.Proofs.YteeiaaogmjbcjaaGreat.Ml
open Go.Proofs.YteeiaaogmjbcjaaGreat.Av.AVal (av)
open Go.Sort (putRow putCells Holds grow mapBlock onCells)

def EH (l : List Int) : List Int := l.mergeSort fun x y => decide (x ≤ y)
theorem Ow (l : List Int) : (EH l).length = l.length := by simp [EH]
def YC (k v : Nat) (l : List Int) (r : AV) (hp' : Hp) : Prop := r = .tup [] ∧ hp' = [(k, ⟨v, false, 3, 1, (EH l).map av⟩)]
theorem NG {P : Go.Program} {f : FuncId} {args args' : List AV} {hp hp' : Hp} {Post Post' : AV → Hp → Prop} (h : AH P f args hp Post) (ha : args = args') (hh : hp = hp') (hp2 : ∀ r h, Post r h → Post' r h) : AH P f args' hp' Post' := by
 subst ha hh
 exact ⟨h.1, fun S w μ vs hw hv => (h.2 S w μ vs hw hv).mono fun e w' ⟨v, r, hq, S', μ', a, b, c⟩ => ⟨v, r, hq, S', μ', a, hp2 _ _ b, c⟩⟩
theorem Vn (k v : Nat) (l : List Int) (hl : l.length ≤ 1099511627776) : AH Tryz.prog 50 [.row k v l.length] [(k, ⟨v, false, 3, 1, l.map av⟩)] (YC k v l) := by
 refine NG (YT encI (k := k) (v := v) (ty := 3) (l := l) (l' := EH l) (by kernel_rfl) (by simp [EH]) (fun h x hx => h x (by simpa [EH] using hx)) ?_ ?_) rfl rfl ?_
 ·intro blk cap w hne hH hb hc hm
  refine (slices_Sort_int blk 0 cap l w hH hb (by omega)).mono ?_
  rintro e w' ⟨rfl, n, os, rfl⟩
  exact ⟨rfl, n, os, rfl⟩
 ·intro a cap w _
  refine (slices_Sort_int_none a cap w).mono ?_
  rintro e w' ⟨rfl, rfl⟩
  exact ⟨rfl, 0, #[], by simp⟩
 ·rintro r h ⟨rfl, rfl⟩
  exact ⟨rfl, rfl⟩
end Go.Proofs.YteeiaaogmjbcjaaGreat
set_option linter.unusedVariables false
set_option linter.unusedSimpArgs false
namespace Go.Proofs.YteeiaaogmjbcjaaGreat
namespace Srt

structure JS {α : Type} (lt : α → α → Bool) : Prop where
 irr : ∀ a, lt a a = false
 trans : ∀ a b c, lt a b = true → lt b c = true → lt a c = true
 tot : ∀ a b, a ≠ b → lt a b = true ∨ lt b a = true

variable {α : Type} {lt : α → α → Bool}
def Up (lt : α → α → Bool) (l : List α) : Prop := l.Pairwise fun a b => lt a b = true
theorem Oq (h : JS lt) : ∀ {l m : List α}, Up lt l → Up lt m → (∀ x, x ∈ l ↔ x ∈ m) → l = m
 | [], [], _, _, _ => rfl
 | [], y :: m, _, _, e => absurd ((e y).2 (by simp)) (by simp)
 | x :: l, [], _, _, e => absurd ((e x).1 (by simp)) (by simp)
 | x :: l, y :: m, hl, hm, e => by
  have hl' := List.pairwise_cons.1 hl
  have hm' := List.pairwise_cons.1 hm
  have hxy : x = y := by
   rcases List.mem_cons.1 ((e x).1 (by simp)) with h1 | h1
   ·exact h1
   ·rcases List.mem_cons.1 ((e y).2 (by simp)) with h2 | h2
    ·exact h2.symm
    ·have a := hm'.1 x h1
     have b := hl'.1 y h2
     have := h.trans _ _ _ a b
     rw [h.irr] at this; cases this
  subst hxy
  congr 1
  refine Oq h hl'.2 hm'.2 fun z => ⟨fun hz => ?_, fun hz => ?_⟩
  ·rcases List.mem_cons.1 ((e z).1 (List.mem_cons_of_mem _ hz)) with h1 | h1
   ·subst h1; have := hl'.1 z hz; rw [h.irr] at this; cases this
   ·exact h1
  ·rcases List.mem_cons.1 ((e z).2 (List.mem_cons_of_mem _ hz)) with h1 | h1
   ·subst h1; have := hm'.1 z hz; rw [h.irr] at this; cases this
   ·exact h1

def ins (lt : α → α → Bool) (s : α) : List α → List α
 | [] => []
 | x :: r => if lt s x = true then s :: x :: r else x :: ins lt s r
def put [DecidableEq α] (lt : α → α → Bool) (l : List α) (s : α) : List α := if l.any (fun x => decide (x = s)) = true then l else if l.any (lt s) = true then ins lt s l else l ++ [s]
theorem Qx (s y : α) : ∀ {a}, a.any (lt s) = true → (y ∈ ins lt s a ↔ y = s ∨ y ∈ a)
 | [], h => by simp at h
 | x :: r, h => by
  simp only [ins]
  by_cases hx : lt s x = true
  ·rw [if_pos hx]; simp
  ·rw [if_neg hx]
   simp only [List.any_cons, hx, Bool.false_or] at h
   simp only [List.mem_cons, Qx s y h]
   constructor
   ·rintro (h | h | h) <;> simp [h]
   ·rintro (h | h | h) <;> simp [h]
theorem AaV [DecidableEq α] (s y : α) (l : List α) : y ∈ put lt l s ↔ y = s ∨ y ∈ l := by
 unfold put
 split
 ·rename_i h
  simp only [List.any_eq_true, decide_eq_true_eq] at h
  obtain ⟨x, hx, rfl⟩ := h
  constructor
  ·exact .inr
  ·rintro (rfl | h)
   ·exact hx
   ·exact h
 ·split
  ·rename_i h; exact Qx s y h
  ·simp [or_comm]
theorem ZO (h : JS lt) (s : α) : ∀ {a}, a.any (lt s) = true → s ∉ a → Up lt a → Up lt (ins lt s a)
 | [], h, _, _ => by simp at h
 | x :: r, ha, hs, hu => by
  have hu' := List.pairwise_cons.1 hu
  simp only [ins]
  by_cases hx : lt s x = true
  ·rw [if_pos hx]
   refine List.pairwise_cons.2 ⟨fun y hy => ?_, hu⟩
   rcases List.mem_cons.1 hy with rfl | hy
   ·exact hx
   ·exact h.trans _ _ _ hx (hu'.1 y hy)
  ·rw [if_neg hx]
   simp only [List.any_cons, hx, Bool.false_or] at ha
   refine List.pairwise_cons.2 ⟨fun y hy => ?_, ZO h s ha (fun e => hs (List.mem_cons_of_mem _ e)) hu'.2⟩
   rcases (Qx s y ha).1 hy with rfl | hy
   ·rcases h.tot x y (fun e => hs (by rw [e]; simp)) with h1 | h1
    ·exact h1
    ·exact absurd h1 hx
   ·exact hu'.1 y hy
theorem AbW [DecidableEq α] (h : JS lt) (s : α) {l : List α} (hu : Up lt l) : Up lt (put lt l s) := by
 unfold put
 split
 ·exact hu
 ·rename_i hn
  have hs : s ∉ l := fun e => hn (by simp only [List.any_eq_true, decide_eq_true_eq]; exact ⟨s, e, rfl⟩)
  split
  ·rename_i ha; exact ZO h s ha hs hu
  ·rename_i ha
   refine List.pairwise_append.2 ⟨hu, List.pairwise_singleton _ _, fun x hx y hy => ?_⟩
   simp at hy; subst hy
   rcases h.tot x y (fun e => hs (by rw [← e]; exact hx)) with h1 | h1
   ·exact h1
   ·exact absurd (by simp only [List.any_eq_true]; exact ⟨x, hx, h1⟩) ha
theorem QH [DecidableEq α] (h : JS lt) : ∀ (m l : List α), Up lt l → Up lt (m.foldl (put lt) l)
 | [], l, hu => hu
 | s :: m, l, hu => QH h m _ (AbW h s hu)
theorem SP [DecidableEq α] (m : List α) : ∀ (l : List α) (y : α), y ∈ m.foldl (put lt) l ↔ y ∈ m ∨ y ∈ l := by
 induction m with
 | nil => intro l y; simp
 | cons s m ih =>
  intro l y
  rw [List.foldl_cons, ih, AaV]
  simp only [List.mem_cons]
  constructor
  ·rintro (h | h | h) <;> simp [h]
  ·rintro ((h | h) | h) <;> simp [h]

theorem U5 [Inhabited α] [DecidableEq α] (h : JS lt) {l : List α} (hl : l.Pairwise fun a b => a = b ∨ lt a b = true) : Up lt (Lib.compact l) ∧ ∀ x, x ∈ Lib.compact l ↔ x ∈ l := by
 have Aw : ∀ i, (h : i < l.length) → l.toArray[i]! = l[i] := fun i h => by simp [h]
 have hp : ∀ i j, (hij : i < j) → (hj : j < l.length) → l[i]'(by omega) = l[j] ∨ lt (l[i]'(by omega)) l[j] = true := fun i j hij hj => List.pairwise_iff_getElem.1 hl i j (by omega) hj hij
 have step : ∀ m, m ≤ l.length → Up lt (Lib.compactUpTo l.toArray m) ∧ (∀ x, x ∈ Lib.compactUpTo l.toArray m ↔ ∃ i, ∃ hi : i < l.length, i < m ∧ l[i] = x) := by
  intro m
  induction m with
  | zero => intro _; exact ⟨by simp [Lib.compactUpTo, Up], fun x => by simp [Lib.compactUpTo]⟩
  | succ m ih =>
   intro hm
   obtain ⟨i1, i2⟩ := ih (by omega)
   have hml : m < l.length := by omega
   rw [Lib.compactUpTo_succ, Aw m hml]
   by_cases hk : Lib.keeps l.toArray m = true
   ·rw [if_pos hk]
    refine ⟨List.pairwise_append.2 ⟨i1, List.pairwise_singleton _ _, fun x hx y hy => ?_⟩, fun x => ?_⟩
    ·simp at hy; subst hy
     obtain ⟨i, hi, him, rfl⟩ := (i2 x).1 hx
     simp only [Lib.keeps, decide_eq_true_eq] at hk
     rcases hk with hk | hk
     ·omega
     ·rw [Aw m hml, Aw (m - 1) (by omega)] at hk
      have h1 : lt (l[m - 1]'(by omega)) l[m] = true := by
       rcases hp (m - 1) m (by omega) hml with e | e
       ·exact absurd e.symm hk
       ·exact e
      rcases Nat.lt_or_ge i (m - 1) with hlt | hge
      ·rcases hp i (m - 1) hlt (by omega) with e | e
       ·rw [e]; exact h1
       ·exact h.trans _ _ _ e h1
      ·obtain rfl : i = m - 1 := by omega
       exact h1
    ·rw [List.mem_append, i2 x]
     simp only [List.mem_singleton]
     constructor
     ·rintro (⟨i, hi, him, e⟩ | e)
      ·exact ⟨i, hi, by omega, e⟩
      ·exact ⟨m, hml, by omega, e.symm⟩
     ·rintro ⟨i, hi, him, e⟩
      rcases Nat.lt_or_ge i m with hlt | hge
      ·exact .inl ⟨i, hi, hlt, e⟩
      ·obtain rfl : i = m := by omega
       exact .inr e.symm
   ·rw [if_neg hk, List.append_nil]
    refine ⟨i1, fun x => ?_⟩
    rw [i2 x]
    simp only [Lib.keeps, decide_eq_true_eq, not_or, Decidable.not_not] at hk
    obtain ⟨hk0, hk⟩ := hk
    rw [Aw m hml, Aw (m - 1) (by omega)] at hk
    constructor
    ·rintro ⟨i, hi, him, e⟩; exact ⟨i, hi, by omega, e⟩
    ·rintro ⟨i, hi, him, e⟩
     rcases Nat.lt_or_ge i m with hlt | hge
     ·exact ⟨i, hi, hlt, e⟩
     ·have hi' : i = m := by omega
      subst hi'
      exact ⟨i - 1, by omega, by omega, by rw [← hk]; exact e⟩
 obtain ⟨s1, s2⟩ := step l.length (Nat.le_refl _)
 refine ⟨s1, fun x => ?_⟩
 unfold Lib.compact
 rw [s2 x, List.mem_iff_getElem]
 constructor
 ·rintro ⟨i, hi, _, e⟩; exact ⟨i, hi, e⟩
 ·rintro ⟨i, hi, e⟩; exact ⟨i, hi, hi, e⟩
theorem YU [Inhabited α] [DecidableEq α] (h : JS lt) (le : α → α → Bool) (hle : ∀ a b, le a b = true ↔ a = b ∨ lt a b = true) (l : List α) : Lib.compact (l.mergeSort le) = l.foldl (put lt) [] := by
 have hs : (l.mergeSort le).Pairwise fun a b => le a b = true := by
  refine List.pairwise_mergeSort (fun a b c h1 h2 => ?_) (fun a b => ?_) l
  ·rw [hle] at h1 h2 ⊢
   rcases h1 with rfl | h1
   ·exact h2
   ·rcases h2 with rfl | h2
    ·exact .inr h1
    ·exact .inr (h.trans _ _ _ h1 h2)
  ·rw [Bool.or_eq_true, hle, hle]
   by_cases e : a = b
   ·exact .inl (.inl e)
   ·rcases h.tot a b e with h1 | h1
    ·exact .inl (.inr h1)
    ·exact .inr (.inr h1)
 obtain ⟨c1, c2⟩ := U5 h (l := l.mergeSort le) (hs.imp fun {a b} hab => (hle a b).1 hab)
 refine Oq h c1 (QH h l [] List.Pairwise.nil) fun x => ?_
 rw [c2 x, List.mem_mergeSort, SP]
 simp
end Srt
end Go.Proofs.YteeiaaogmjbcjaaGreat

/-
 A CALL OF THE LIBRARY THAT TURNS A ROW IN PLACE (Sort, Compact), as a contract over own rows. Conditions: the library's contract, in the words of 'Holds' and 'putRow'.
-/
import Derived.Test.YteeiaaogmjbcjaaGreatUJ06
import Derived.Sort.Grow
import Derived.Sort.EncStr
set_option linter.unusedVariables false
set_option linter.unusedSimpArgs false
namespace Go.Proofs.YteeiaaogmjbcjaaGreat
open Go.RowKit Go.Proofs.YteeiaaogmjbcjaaGreat.Av Go.Proofs.YteeiaaogmjbcjaaGreat.Ml
open Go.Proofs.YteeiaaogmjbcjaaGreat.Av.AVal (av)
open Go.Sort (putRow putCells Holds grow mapBlock onCells)

structure La (α : Type) where
 enc : α → Value
 ax : α → AV
 Oc : α → Prop
 one : ∀ x, (ax x).one = true
 fwd : ∀ {S : Nat → Prop} {w : World} {μ : Mu} {v : Value} {x : α}, VR S w μ v (ax x) → v = enc x ∧ Oc x
 bwd : ∀ {S : Nat → Prop} {w : World} {μ : Mu} {x : α}, Oc x → VR S w μ (enc x) (ax x)
def encI : La Int := ⟨Value.int .i64, fun n => .int .i64 n, fun n => IntKind.i64.min ≤ n ∧ n ≤ IntKind.i64.max, fun _ => rfl, fun {S w μ v x} h => by cases h with | int _ _ a b => exact ⟨rfl, a, b⟩, fun {S w μ x} h => .int _ _ h.1 h.2⟩

theorem JE {x : AV} (h : x.one = true) : x.cells = [x] := by cases x <;> first | rfl | (simp [AV.one] at h)
theorem ZV {α : Type} {enc : α → Value} [Inhabited α] {w : World} {g q : Nat} {os : Array Obj} {cur : Array Value} {e : TypeId} {fr : Nat × Nat} (d : Array α) (hb : w.heap[g]? = some (.cells cur e fr)) :
  (grow (putRow enc (Sort.ahead w q) g 0 d) os).heap[g]? = some (.cells (putCells enc 0 d cur) e fr) := by
 have hg : g < w.heap.size := (Array.getElem?_eq_some_iff.1 hb).1
 simp only [grow]
 rw [Array.getElem?_append_left (by simpa [putRow, mapBlock, Sort.ahead] using hg)]
 simp [putRow, mapBlock, Sort.ahead, Array.getElem?_modify, hb, onCells]
theorem UX {α : Type} {enc : α → Value} [Inhabited α] {w : World} {g q : Nat} {os : Array Obj} {cur : Array Value} {e : TypeId} (d : Array α) (h : BR w g cur e) : BR (grow (putRow enc (Sort.ahead w q) g 0 d) os) g (putCells enc 0 d cur) e :=
 let ⟨fz, h1, h2⟩ := h
 ⟨fz, ZV d h1, by simpa [putCells] using h2⟩
theorem Nf {α : Type} {enc : α → Value} [Inhabited α] {w : World} {g q b : Nat} {os : Array Obj} (d : Array α) (hb : b < w.heap.size) (hne : b ≠ g) :
  (grow (putRow enc (Sort.ahead w q) g 0 d) os).heap[b]? = w.heap[b]? := by
 simp only [grow]
 rw [Array.getElem?_append_left (by simpa [putRow, mapBlock, Sort.ahead] using hb)]
 simp [putRow, mapBlock, Sort.ahead, Array.getElem?_modify, Ne.symm hne]
theorem size_put {α : Type} {enc : α → Value} [Inhabited α] {w : World} {g q : Nat} {os : Array Obj} (d : Array α) : w.heap.size ≤ (grow (putRow enc (Sort.ahead w q) g 0 d) os).heap.size := by
 simp [grow, putRow, mapBlock, Sort.ahead]

theorem row_holds {α : Type} [Inhabited α] (O : La α) {E : Env} {S : Nat → Prop} {w : World} {μ : Mu} {hp : Hp} (hw : WI E S w μ hp) {k v blk cap : Nat} {ty : TypeId} {l : List α} (hk : Aw hp k = some ⟨v, false, ty, 1, l.map O.ax⟩) (hB : μ k v = some ⟨some blk, cap, 1⟩) :
  Holds O.enc w blk 0 l.toArray ∧ (∀ x ∈ l, O.Oc x) ∧ blk < w.heap.size ∧ l.length ≤ cap ∧ cap ≤ maxLen ∧ ¬ S blk ∧ ∃ cur, BR w blk cur ty ∧ cur.size = cap := by
 obtain ⟨B, hB', hz, hh⟩ := hw.box k _ hk
 simp only at hB'
 rw [hB] at hB'; cases hB'
 obtain ⟨a1, a2, a3, cur, a4, a5, a6, a7, a8⟩ := hh
 simp only [List.length_map, Nat.mul_one] at a5 a7
 have hv : ∀ j x, l[j]? = some x → ∃ u, cur[j]? = some u ∧ VR S w μ u (O.ax x) := fun j x hx => by
  obtain ⟨u, h1, h2⟩ := a8.2 j 0 (O.ax x) (O.ax x) (by rw [List.getElem?_map, hx]; rfl) (by rw [JE (O.one x)]; rfl)
  exact ⟨u, by simpa using h1, h2⟩
 refine ⟨fun j hj => ?_, fun x hx => ?_, a4.lt, a7, a6, a3 rfl, cur, a4, a5⟩
 ·have hj' : j < l.length := by simpa using hj
  obtain ⟨u, h1, h2⟩ := hv j l[j] (by simp [hj'])
  have he := (O.fwd h2).1
  refine ⟨?_, by rw [Nat.zero_add]; exact a4.AbC (Array.getElem?_eq_some_iff.1 h1).1⟩
  rw [Nat.zero_add, a4.cell j, h1, he]; simp [hj']
 ·obtain ⟨j, hj, rfl⟩ := List.mem_iff_getElem.1 hx
  obtain ⟨u, h1, h2⟩ := hv j l[j] (by simp [hj])
  exact (O.fwd h2).2

theorem YL {α : Type} [Inhabited α] (O : La α) {S : Nat → Prop} {w : World} {μ : Mu} {k v blk cap q : Nat} {ty : TypeId} {l l' : List α} {os : Array Obj} (hB : μ k v = some ⟨some blk, cap, 1⟩)
  (hw : WI ⟨w, S, E1 μ [(k, ⟨v, false, ty, 1, l.map O.ax⟩)], μ⟩ S w μ [(k, ⟨v, false, ty, 1, l.map O.ax⟩)]) (hl : l'.length = l.length) (hg : ∀ x ∈ l', O.Oc x) :
  WI ⟨w, S, E1 μ [(k, ⟨v, false, ty, 1, l.map O.ax⟩)], μ⟩ S (grow (putRow O.enc (Sort.ahead w q) blk 0 l'.toArray) os) μ [(k, ⟨v, false, ty, 1, l'.map O.ax⟩)] := by
 obtain ⟨h1, h2, h3, h4, h5, h6, cur, h7, h8⟩ := row_holds O (l := l) (ty := ty) hw (by simp only [Aw, if_true]) hB
 have hown : E1 μ [(k, (⟨v, false, ty, 1, l.map O.ax⟩ : Box))] blk := ⟨k, ⟨v, false, ty, 1, l.map O.ax⟩, ⟨some blk, cap, 1⟩, by simp only [Aw, if_true], rfl, hB, rfl⟩
 have hsz : w.heap.size ≤ (grow (putRow O.enc (Sort.ahead w q) blk 0 l'.toArray) os).heap.size := size_put _
 refine ⟨⟨rfl, rfl, rfl, hsz, fun b hb hn => Nf _ hb (fun e => hn (e ▸ hown))⟩, fun b hb => Nat.lt_of_lt_of_le (hw.lt b hb) hsz, fun _ h => h, fun _ h => .inl h, hw.fresh, fun j bx hj => ?_, ?_, Mu.le.refl _⟩
 ·simp only [Aw] at hj
  split at hj
  ·rename_i hkj
   cases hj
   subst hkj
   refine ⟨_, hB, rfl, fun _ => .inr hown, fun h => (by cases h), fun _ => h6, _, UX _ h7, by simp [putCells, h8], h5, by simpa [hl] using h4, ?_, ?_⟩
   ·intro e he
    obtain ⟨x, _, rfl⟩ := List.mem_map.1 he
    rw [JE (O.one x)]
    exact ⟨rfl, fun y hy => by simp at hy; subst hy; exact O.one x⟩
   ·intro i j e x hi hj
    simp only [List.getElem?_map, Option.map_eq_some_iff] at hi
    obtain ⟨y, hy, rfl⟩ := hi
    rw [JE (O.one y)] at hj
    obtain ⟨rfl, rfl⟩ : j = 0 ∧ x = O.ax y := by
     cases j with
     | zero => simpa using hj.symm
     | succ j => simp at hj
    have hi' : i < l'.length := (List.getElem?_eq_some_iff.1 hy).1
    have hc : i < cur.size := by omega
    refine ⟨O.enc y, ?_, O.bwd (hg y (List.mem_of_getElem? hy))⟩
    simp only [putCells, Nat.mul_one, Nat.add_zero, Array.getElem?_mapIdx, Array.getElem?_eq_getElem hc, Option.map_some, Nat.zero_le, true_and, Nat.zero_add, Nat.sub_zero]
    rw [if_pos (by simpa using hi')]
    simp only [Option.some.injEq]
    congr 1
    have := (List.getElem?_eq_some_iff.1 hy).2
    simp [hi', this]
  ·cases hj
 ·intro j j' bx bx' B B' b hj hj' hne
  simp only [Aw] at hj hj'
  split at hj
  ·split at hj'
   ·omega
   ·cases hj'
  ·cases hj

def TX {α : Type} (O : La α) (k v : Nat) (ty : TypeId) (l' : List α) (r0 : AV) (r : AV) (hp' : Hp) : Prop := r = r0 ∧ hp' = [(k, ⟨v, false, ty, 1, l'.map O.ax⟩)]
theorem YT {α : Type} [Inhabited α] (O : La α) {P : Go.Program} {f : FuncId} (hcl : Cg P f = true) {k v : Nat} {ty : TypeId} {l l' : List α} (hl : l'.length = l.length) (hg : (∀ x ∈ l, O.Oc x) → ∀ x ∈ l', O.Oc x)
  (hc : ∀ (blk cap : Nat) (w : World), l ≠ [] → Holds O.enc w blk 0 l.toArray → blk < w.heap.size → l.length ≤ cap → cap ≤ maxLen → Calls P f #[.slice (some ⟨blk, 0, none⟩) l.length cap] w fun e w' => e = .returned (.tuple #[]) ∧ ∃ q os, w' = grow (putRow O.enc (Sort.ahead w q) blk 0 l'.toArray) os)
  (h0 : ∀ (a : Option Addr) (cap : Nat) (w : World), l = [] → Calls P f #[.slice a 0 cap] w fun e w' => e = .returned (.tuple #[]) ∧ ∃ q os, w' = grow (Sort.ahead w q) os) :
  AH P f [.row k v l.length] [(k, ⟨v, false, ty, 1, l.map O.ax⟩)] (TX O k v ty l' (.tup [])) := by
 refine ⟨hcl, fun S w μ vs hw hv => ?_⟩
 obtain ⟨hvl, hvv⟩ := hv
 obtain ⟨v0, rfl⟩ : ∃ v0, vs = [v0] := by
  rcases vs with _ | ⟨a, _ | ⟨b, r⟩⟩
  ·simp at hvl
  ·exact ⟨a, rfl⟩
  ·simp at hvl
 have h1 := hvv 0 v0 (.row k v l.length) rfl rfl
 have hgood : l = [] ∨ (∃ blk cap, μ k v = some ⟨some blk, cap, 1⟩ ∧ v0 = .slice (some ⟨blk, 0, none⟩) l.length cap) := by
  obtain ⟨B, hB, hz, hh⟩ := hw.box k ⟨v, false, ty, 1, l.map O.ax⟩ (by simp only [Aw, if_true])
  obtain ⟨bl, cap, es⟩ := B
  simp only at hB hz hh
  subst hz
  cases bl with
  | none => left; simpa using hh
  | some blk =>
   right
   refine ⟨blk, cap, hB, ?_⟩
   generalize l.length = L at h1
   cases h1 with
   | row _ _ _ b cap' esz' h2 _ _ => rw [hB] at h2; cases h2; rfl
   | Gr _ _ cap' esz' h2 => rw [hB] at h2; cases h2
 rcases hgood with rfl | ⟨blk, cap, hB, rfl⟩
 ·obtain rfl : l' = [] := List.length_eq_zero_iff.1 (by simpa using hl)
  have hsl : ∃ a cap, v0 = .slice a 0 cap := by
   rw [List.length_nil] at h1
   cases h1 with
   | row _ _ _ b cap' esz' h2 _ _ => exact ⟨_, _, rfl⟩
   | Gr _ _ cap' esz' h2 => exact ⟨_, _, rfl⟩
  obtain ⟨a, cap, rfl⟩ := hsl
  refine (h0 a cap w rfl).mono ?_
  rintro e w' ⟨rfl, q, os, rfl⟩
  refine ⟨_, .tup [], _, S, μ, rfl, ⟨rfl, rfl⟩, .tup _ _ rfl (fun i v x p => by simp at p), ?_⟩
  exact hw.step rfl rfl rfl (by simp [grow, Sort.ahead]) (fun b hb => by simp only [grow, Sort.ahead]; rw [Array.getElem?_append_left hb]) (fun _ h => h) (fun _ h => .inl h)
 ·by_cases hne : l = []
  ·subst hne
   obtain rfl : l' = [] := List.length_eq_zero_iff.1 (by simpa using hl)
   refine (h0 (some ⟨blk, 0, none⟩) cap w rfl).mono ?_
   rintro e w' ⟨rfl, q, os, rfl⟩
   refine ⟨_, .tup [], _, S, μ, rfl, ⟨rfl, rfl⟩, .tup _ _ rfl (fun i v x p => by simp at p), ?_⟩
   exact hw.step rfl rfl rfl (by simp [grow, Sort.ahead]) (fun b hb => by simp only [grow, Sort.ahead]; rw [Array.getElem?_append_left hb]) (fun _ h => h) (fun _ h => .inl h)
  ·obtain ⟨k1, k2, k3, k4, k5, k6, cur, k7, k8⟩ := row_holds O (l := l) (ty := ty) hw (by simp only [Aw, if_true]) hB
   refine (hc blk cap w hne k1 k3 k4 k5).mono ?_
   rintro e w' ⟨rfl, q, os, rfl⟩
   exact ⟨_, .tup [], _, S, μ, rfl, ⟨rfl, rfl⟩, .tup _ _ rfl (fun i v x p => by simp at p), YL O hB hw hl (hg k2)⟩

theorem AaH {α : Type} [Inhabited α] (O : La α) {P : Go.Program} {f : FuncId} (hcl : Cg P f = true) {k v n' : Nat} {ty : TypeId} {l l' : List α} (hl : l'.length = l.length) (hn : n' ≤ l.length) (hg : (∀ x ∈ l, O.Oc x) → ∀ x ∈ l', O.Oc x)
  (hc : ∀ (blk cap : Nat) (w : World), l ≠ [] → Holds O.enc w blk 0 l.toArray → blk < w.heap.size → l.length ≤ cap → cap ≤ maxLen → Calls P f #[.slice (some ⟨blk, 0, none⟩) l.length cap] w fun e w' => e = .returned (.slice (some ⟨blk, 0, none⟩) n' cap) ∧ ∃ q os, w' = grow (putRow O.enc (Sort.ahead w q) blk 0 l'.toArray) os)
  (h0 : ∀ (a : Option Addr) (cap : Nat) (w : World), l = [] → Calls P f #[.slice a 0 cap] w fun e w' => e = .returned (.slice a 0 cap) ∧ ∃ q os, w' = grow (Sort.ahead w q) os) :
  AH P f [.row k v l.length] [(k, ⟨v, false, ty, 1, l.map O.ax⟩)] (TX O k v ty l' (.row k v n')) := by
 refine ⟨hcl, fun S w μ vs hw hv => ?_⟩
 obtain ⟨hvl, hvv⟩ := hv
 obtain ⟨v0, rfl⟩ : ∃ v0, vs = [v0] := by
  rcases vs with _ | ⟨a, _ | ⟨b, r⟩⟩
  ·simp at hvl
  ·exact ⟨a, rfl⟩
  ·simp at hvl
 have h1 := hvv 0 v0 (.row k v l.length) rfl rfl
 by_cases hne : l = []
 ·subst hne
  obtain rfl : l' = [] := List.length_eq_zero_iff.1 (by simpa using hl)
  obtain rfl : n' = 0 := by simpa using hn
  rw [List.length_nil] at h1
  have hsl : ∃ a cap, v0 = .slice a 0 cap := by
   cases h1 with
   | row _ _ _ b cap' esz' h2 _ _ => exact ⟨_, _, rfl⟩
   | Gr _ _ cap' esz' h2 => exact ⟨_, _, rfl⟩
  obtain ⟨a, cap, rfl⟩ := hsl
  refine (h0 a cap w rfl).mono ?_
  rintro e w' ⟨rfl, q, os, rfl⟩
  have hS : Av.BD S w (grow (Sort.ahead w q) os) := fun b hb => by
   simp only [grow, Sort.ahead]; rw [Array.getElem?_append_left (hw.lt b hb)]
  refine ⟨_, .row k v 0, _, S, μ, rfl, ⟨rfl, rfl⟩, h1.mono (fun _ h => h) hS (Mu.le.refl _), ?_⟩
  exact hw.step rfl rfl rfl (by simp [grow, Sort.ahead]) (fun b hb => by simp only [grow, Sort.ahead]; rw [Array.getElem?_append_left hb]) (fun _ h => h) (fun _ h => .inl h)
 ·have hgood : ∃ blk cap, μ k v = some ⟨some blk, cap, 1⟩ ∧ v0 = .slice (some ⟨blk, 0, none⟩) l.length cap := by
   obtain ⟨B, hB, hz, hh⟩ := hw.box k ⟨v, false, ty, 1, l.map O.ax⟩ (by simp only [Aw, if_true])
   obtain ⟨bl, cap, es⟩ := B
   simp only at hB hz hh
   subst hz
   cases bl with
   | none => exact absurd (by simpa using hh) hne
   | some blk =>
    refine ⟨blk, cap, hB, ?_⟩
    generalize l.length = L at h1
    cases h1 with
    | row _ _ _ b cap' esz' h2 _ _ => rw [hB] at h2; cases h2; rfl
    | Gr _ _ cap' esz' h2 => rw [hB] at h2; cases h2
  obtain ⟨blk, cap, hB, rfl⟩ := hgood
  obtain ⟨k1, k2, k3, k4, k5, k6, cur, k7, k8⟩ := row_holds O (l := l) (ty := ty) hw (by simp only [Aw, if_true]) hB
  refine (hc blk cap w hne k1 k3 k4 k5).mono ?_
  rintro e w' ⟨rfl, q, os, rfl⟩
  exact ⟨_, .row k v n', _, S, μ, rfl, ⟨rfl, rfl⟩, .row k v n' blk cap 1 hB (by omega) k5, YL O hB hw hl (hg k2)⟩
end Go.Proofs.YteeiaaogmjbcjaaGreat

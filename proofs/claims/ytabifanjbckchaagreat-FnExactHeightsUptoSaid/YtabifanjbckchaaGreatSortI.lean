/-
  Sort OF INTS, as a contract over own rows. Conditions: none.
-/
import Derived.Test.YtabifanjbckchaaGreatRowH
import Derived.Test.YtabifanjbckchaaGreatShelfSI
set_option linter.unusedVariables false
set_option linter.unusedSimpArgs false
namespace Go.Proofs.YtabifanjbckchaaGreat
open Go.RowKit Go.Proofs.YtabifanjbckchaaGreat.Av Go.Proofs.YtabifanjbckchaaGreat.Ml
open Go.Proofs.YtabifanjbckchaaGreat.Av.AVal (av)
open Go.Sort (putRow putCells Holds grow mapBlock onCells)

def sortI (l : List Int) : List Int := l.mergeSort fun x y => decide (x ≤ y)
theorem sortI_len (l : List Int) : (sortI l).length = l.length := by simp [sortI]
def SortIPost (k v : Nat) (l : List Int) (r : AV) (hp' : Hp) : Prop := r = .tup [] ∧ hp' = [(k, ⟨v, false, 3, 1, (sortI l).map av⟩)]
theorem encI_map (l : List Int) : l.map encI.ax = l.map av := rfl
theorem callsH_asI {P : Go.Program} {f : FuncId} {args args' : List AV} {hp hp' : Hp} {Post Post' : AV → Hp → Prop} (h : CallsH P f args hp Post) (ha : args = args') (hh : hp = hp') (hp2 : ∀ r h, Post r h → Post' r h) : CallsH P f args' hp' Post' := by
  subst ha hh
  exact ⟨h.1, fun S w μ vs hw hv => (h.2 S w μ vs hw hv).mono fun e w' ⟨v, r, hq, S', μ', a, b, c⟩ => ⟨v, r, hq, S', μ', a, hp2 _ _ b, c⟩⟩
theorem SortInt_ok (k v : Nat) (l : List Int) (hl : l.length ≤ 1099511627776) : CallsH Tryz.prog 43 [.row k v l.length] [(k, ⟨v, false, 3, 1, l.map av⟩)] (SortIPost k v l) := by
  refine callsH_asI (turn_tup encI (k := k) (v := v) (ty := 3) (l := l) (l' := sortI l) (by kernel_rfl) (by simp [sortI]) (fun h x hx => h x (by simpa [sortI] using hx)) ?_ ?_) rfl rfl ?_
  · intro blk cap w hne hH hb hc hm
    refine (slices_Sort_int blk 0 cap l w hH hb (by omega)).mono ?_
    rintro e w' ⟨rfl, n, os, rfl⟩
    exact ⟨rfl, n, os, rfl⟩
  · intro a cap w _
    refine (slices_Sort_int_none a cap w).mono ?_
    rintro e w' ⟨rfl, rfl⟩
    exact ⟨rfl, 0, #[], by simp⟩
  · rintro r h ⟨rfl, rfl⟩
    exact ⟨rfl, rfl⟩
end Go.Proofs.YtabifanjbckchaaGreat

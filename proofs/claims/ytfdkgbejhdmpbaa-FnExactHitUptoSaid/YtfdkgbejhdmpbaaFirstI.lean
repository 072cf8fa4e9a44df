/-
  FirstHit OF THE PROGRAM, by its abstract text. Conditions: none.
-/
import Derived.Test.YtfdkgbejhdmpbaaHitI
import Derived.Test.YtfdkgbejhdmpbaaSPat
set_option linter.unusedVariables false
set_option linter.unusedSimpArgs false
set_option maxRecDepth 100000
namespace Go.Proofs.Ytfdkgbejhdmpbaa
open Go.RowKit Go.Proofs.Ytfdkgbejhdmpbaa.Av Go.Proofs.Ytfdkgbejhdmpbaa.Ml
open Go.Proofs.Ytfdkgbejhdmpbaa.Av.AVal (av)

theorem pat_bulk {l : List Pat} (hl : Bulk.bulk l ≤ 1048576) {q : Pat} (hq : q ∈ l) : Bulk.bulk q.nodes ≤ 1048576 := by
  have h1 := bulk_mem hq
  have h2 : Bulk.bulk q = Bulk.bulk q.nodes + 1 := rfl
  omega
theorem implFirstHit_ok (l : List Pat) (d : List DNode) (hl : Bulk.bulk l ≤ 1048576) (hd : Bulk.bulk d ≤ 1048576) : CallsF Try.prog 10 [.sl (l.map av), .agg [.sl (d.map av)]] (.int .i64 (indexOf l fun q => hitB q.nodes d)) := by
  have hn := bulk_length l
  have C := IndexFunc_Pat_ok l 26 [.obj [.sl (d.map av)]] (fun q => hitB q.nodes d) (by omega) (by simp; exact AvPure.obj (by simp; exact lav_clean d)) (fun hp => rfl) (fun q hq => firstHit1_ok q d (pat_bulk hl hq) hd)
  refine fun_impl_FirstHit rfl (by simp; exact ⟨lav_clean l, AvPure.agg (by simp; exact lav_clean d)⟩) (AvPure.int _ _) ?_
  simp +contextual -dsimp (maxSteps := 2000000) only [↓SD, SU, SB, Nat.reduceAdd, Nat.reduceBEq, Nat.reduceEqDiff, Nat.reduceLeDiff, Nat.reduceLT, Nat.reduceSub, ↓reduceIte, zA, zI, zN, reduceCtorEq, Int.reduceToNat, zE, Int.reduceEq, Int.reduceLT, Int.reduceLE, Int.reduceNeg, Int.reduceAdd, Int.reduceSub, ir_impl_FirstHit, rs_impl_FirstHit]
  refine aCallK_of _ C ?_
  simp +contextual -dsimp (maxSteps := 2000000) only [↓SD, SU, SB, Nat.reduceAdd, Nat.reduceBEq, Nat.reduceEqDiff, Nat.reduceLeDiff, Nat.reduceLT, Nat.reduceSub, ↓reduceIte, zA, zI, zN, reduceCtorEq, Int.reduceToNat, zE, Int.reduceEq, Int.reduceLT, Int.reduceLE, Int.reduceNeg, Int.reduceAdd, Int.reduceSub]
end Go.Proofs.Ytfdkgbejhdmpbaa

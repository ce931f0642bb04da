/-
  Products that are checked. Conditions: lengths are small.
-/
import Derived.Test.YtpeaeminjbjlnaaDoorMatFn6
namespace Go.Proofs.YtpeaeminjbjlnaaDoor
open Go.RowKit
set_option linter.unusedVariables false

set_option maxRecDepth 100000 in
set_option maxHeartbeats 1000000 in
theorem mulMatrices_yes (p : Nat) [NeZero p] (ca cb : Int) (u v : Value) (A L : List (List Int)) (w : World) (ht : Tab w) (hu : MatV w u A) (hv : MatV w v L) (hA : matB p ca A = true) (hL : matB p cb L = true) (hc : ca = L.length) :
    Calls Tryd.prog 29 #[.int .i64 p, mxV ca u, mxV cb v] w fun e w' => ∃ o, e = .returned (.tuple #[mxV cb o, .bool true]) ∧ MatV w' o (timesL p A L cb.toNat) ∧ w.grownBy w' none := by
  obtain ⟨hfld, hp2, n1, rfl, hn1, hm1, hA'⟩ := matB_parts hA
  obtain ⟨_, _, n, rfl, hn, hm, hL'⟩ := matB_parts hL
  have hc' : n1 = L.length := by omega
  subst hc'
  rw [Int.toNat_natCast]
  have HI1 := Lib.hid fun w1 (hg : w.grownBy w1 none) => isMatrix_any p (L.length : Int) u A w1 (ht.grown hg) (hu.carry hg) (by omega) (fun row hrow => by rw [(hA' row hrow).1]; omega)
  have HI2 := Lib.hid fun w1 (hg : w.grownBy w1 none) => isMatrix_any p (n : Int) v L w1 (ht.grown hg) (hv.carry hg) (by omega) (fun row hrow => by rw [(hL' row hrow).1]; omega)
  rw [hA] at HI1
  rw [hL] at HI2
  have HT := Lib.hid fun w1 (hg : w.grownBy w1 none) => times_any p (L.length : Int) n u v A L w1 (lt_p hfld) hp2 (hu.carry hg) (hv.carry hg) hA' hL' (by omega) (by omega) (by omega)
  obtain ⟨ua, uc, rfl⟩ := hu.shape
  obtain ⟨va, vc, rfl⟩ := hv.shape
  clear hu hv hA hL hA' hL' ht hc hfld
  unfold mxV at *
  go_enter Tryd.func29, Tryd.ntmps29
  go_wp2_with (first
      | (go_at_call 117
         with_reducible refine (HI1.out _ ?_).mono ?_
         · exact ((grownBy_alloc _ _ none).trans (grownBy_alloc _ _ none)).trans (grownBy_alloc _ _ none)
         rintro e w1 ⟨rfl, hg1⟩
         obtain ⟨b1, b2, b3, b4⟩ := blk3 w _ _ _ hg1
         have HW1 := Lib.hid (grown_of_below (Below.grown ((((Below.refl _ w).alloc (Nat.le_refl _) _).alloc (by simp) _).alloc (by simp; omega) _) hg1 (by simp; omega) (by simp)))
         have c10 := cell_blk b1 0
         have c11 := cell_blk b1 1
         have c20 := cell_blk b2 0
         have c21 := cell_blk b2 1
         simp only [List.getElem?_toArray, List.getElem?_cons_zero, List.getElem?_cons_succ] at c10 c11 c20 c21
         have B1 := Lib.hid b1; have B2 := Lib.hid b2; have B3 := Lib.hid b3; have B4 := Lib.hid b4
         clear hg1 b1 b2 b3 b4)
      | (go_at_call 117
         with_reducible refine (HI2.out _ HW1.out).mono ?_
         rintro e w2 ⟨rfl, hg2⟩
         have b1 := (hg2.block _ (lt_of_blk B1.out) (by simp)).trans B1.out
         have b2 := (hg2.block _ (lt_of_blk B2.out) (by simp)).trans B2.out
         have b3 := (hg2.block _ (lt_of_blk B3.out) (by simp)).trans B3.out
         have HW2 := Lib.hid (HW1.out.trans hg2)
         have d10 := cell_blk b1 0
         have d11 := cell_blk b1 1
         have d20 := cell_blk b2 0
         have d21 := cell_blk b2 1
         simp only [List.getElem?_toArray, List.getElem?_cons_zero, List.getElem?_cons_succ] at d10 d11 d20 d21
         have E3 := Lib.hid b3
         have hsz2 := Lib.hid (lt_of_blk b3)
         clear hg2 b1 b2 b3)
      | (go_at_call 123
         with_reducible refine (HT.out _ HW2.out).mono ?_
         rintro e w3 ⟨o, ovs, rfl, ho, hg3⟩
         have b3 := (hg3.block _ (lt_of_blk E3.out) (by simp)).trans E3.out
         have HW3 := Lib.hid (HW2.out.trans hg3)
         obtain ⟨oa, oc, hoe, _, _⟩ := own_form ho
         subst hoe
         have HO := Lib.hid ho
         have e30 := cell_blk b3 0
         have e31 := cell_blk b3 1
         have f30 := free_blk b3 0
         have f31 := free_blk b3 1
         simp only [List.getElem?_toArray, List.getElem?_cons_zero, List.getElem?_cons_succ] at e30 e31
         clear hg3 ho b3))
  refine bodyPost_ret_by (v := .tuple #[.agg #[.int .i64 n, .slice oa (timesL p A L n).length oc], .bool true]) ?_ rfl ?_
  · simp [results, go_sem, *]
  · have o5 := one_set (w := w3) (w.heap.size + 1 + 1) (.int .i64 n) (.slice oa (timesL p A L n).length oc)
    refine ⟨_, rfl, (HO.out.only o5 fun q hq hq' => by have h1 := (HO.out.lt hq).1; have h2 := hsz2.out; omega).read, ?_⟩
    exact grown_of_below ((Below.grown (Below.refl _ w) HW3.out (Nat.le_refl _) (by simp)).trans (o5.below HW3.out.size fun q hq => by omega))

end Go.Proofs.YtpeaeminjbjlnaaDoor

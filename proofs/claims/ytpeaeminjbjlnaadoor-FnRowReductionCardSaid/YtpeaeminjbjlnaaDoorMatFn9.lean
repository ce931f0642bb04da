/-
  Inverses. Conditions: lengths are small; the rank is whole.
-/
import Derived.Test.YtpeaeminjbjlnaaDoorMatFn8
namespace Go.Proofs.YtpeaeminjbjlnaaDoor
open Go.RowKit
set_option linter.unusedVariables false

theorem blk2 (w : World) (o1 o2 : Obj) {w' : World} (h : ((w.alloc o1).alloc o2).grownBy w' none) :
    w'.heap[w.heap.size]? = some o1 ∧ w'.heap[w.heap.size + 1]? = some o2 ∧ w.heap.size + 1 + 1 ≤ w'.heap.size := by
  have s1 : (w.alloc o1).heap.size = w.heap.size + 1 := by simp
  have s2 : ((w.alloc o1).alloc o2).heap.size = w.heap.size + 1 + 1 := by simp
  have e1 := alloc_heap_new w o1
  have e2 := alloc_heap_new (w.alloc o1) o2
  have f1 := alloc_heap_old (w.alloc o1) o2 w.heap.size (by omega)
  rw [s1] at e2
  refine ⟨?_, ?_, by rw [← s2]; exact h.size⟩
  · rw [h.block _ (by omega) (by simp), f1, e1]
  · rw [h.block _ (by omega) (by simp), e2]

set_option maxRecDepth 100000 in
set_option maxHeartbeats 1000000 in
theorem inverseOf_yes (p n : Nat) [NeZero p] (u : Value) (L : List (List Int)) (w : World) (ht : Tab w) (hv : MatV w u L) (hb : matB p n L = true) (hsq : L.length = n) (hrank : (redTo p L (idL n) n).r = n) :
    Calls Tryd.prog 30 #[.int .i64 p, mxV n u] w fun e w' => ∃ o, e = .returned (.tuple #[mxV n o, .bool true]) ∧ MatV w' o (redTo p L (idL n) n).T ∧ w.grownBy w' none := by
  obtain ⟨hfld, hp2, n', hn', hn, hm, hL⟩ := matB_parts hb
  have : n' = n := by omega
  subst this
  have hsh := hv.shape
  have HIS := Lib.hid fun w1 (hg : w.grownBy w1 none) => isMatrix_any p n' u L w1 (ht.grown hg) (hv.carry hg) (by omega) (fun row hrow => by rw [(hL row hrow).1]; omega)
  rw [hb] at HIS
  have HSQ := Lib.hid fun w1 (hg : w.grownBy w1 none) => isSquare_any n' u L w1 (hv.carry hg) (by omega)
  rw [show decide ((L.length : Int) = n') = true from decide_eq_true (by omega)] at HSQ
  have HCL := Lib.hid fun w1 (hg : w.grownBy w1 none) => clones_any u L w1 (hv.carry hg) (by omega) (fun row hrow => by rw [(hL row hrow).1]; omega)
  unfold mxV at *
  rw [hsq] at hsh
  obtain ⟨ua, uc, rfl⟩ := hsh
  have HLEN := Lib.hid hsq
  clear hv ht hb hsq hn'
  go_enter Tryd.func30, Tryd.ntmps30
  go_wp2_with (first
    | (go_at_call 117
       with_reducible refine (HIS.out _ ?_).mono ?_
       · exact (grownBy_alloc _ _ none).trans (grownBy_alloc _ _ none)
       rintro e w1 ⟨rfl, hg1⟩
       obtain ⟨b1, b2, b3⟩ := blk2 w _ _ hg1
       have HW1 := Lib.hid (((grownBy_alloc w _ none).trans (grownBy_alloc _ _ none)).trans hg1)
       have c0 := cell_blk b1 0
       have c1 := cell_blk b1 1
       simp only [List.getElem?_toArray, List.getElem?_cons_zero, List.getElem?_cons_succ] at c0 c1
       have B1 := Lib.hid b1; have B2 := Lib.hid b2; have B3 := Lib.hid b3
       clear hg1 b1 b2 b3)
    | (go_at_call 124
       with_reducible refine (HSQ.out _ HW1.out).mono ?_
       rintro e w2 ⟨rfl, hg2⟩
       have b1 := (hg2.block _ (lt_of_blk B1.out) (by simp)).trans B1.out
       have b2 := (hg2.block _ (lt_of_blk B2.out) (by simp)).trans B2.out
       have HW2 := Lib.hid (HW1.out.trans hg2)
       have d0 := cell_blk b1 0
       have d1 := cell_blk b1 1
       simp only [List.getElem?_toArray, List.getElem?_cons_zero, List.getElem?_cons_succ] at d0 d1
       have D1 := Lib.hid b1; have D2 := Lib.hid b2
       clear hg2 b1 b2))
  have HWD := Lib.hid (show w.grownBy w2.drew none from ⟨HW2.out.os, HW2.out.tape, HW2.out.output, HW2.out.size, HW2.out.block⟩)
  have hb2 := lt_of_blk D2.out
  generalize hbe : w.heap.size = b at *
  have HBE := Lib.hid hbe
  clear hbe
  go_region_held3 (fun w' => w'.cell? ⟨b, 1, none⟩ = some (.slice ua n' uc) ∧ w'.cell? ⟨b, 0, none⟩ = some (.int .i64 n')) (first | exact ⟨d1, d0⟩ | exact ⟨e1, e0⟩ | exact ⟨f1, f0⟩)
    (first
      | (go_at_call 118
         refine (HCL.out _ HWD.out).mono ?_
         rintro e w3 ⟨v, vs, rfl, hown, hg⟩
         have b1 := (hg.block b (by show b < w2.heap.size; omega) (by simp)).trans D1.out
         have e0 := cell_blk b1 0
         have e1 := cell_blk b1 1
         simp only [List.getElem?_toArray, List.getElem?_cons_zero, List.getElem?_cons_succ] at e0 e1
         have HO := Lib.hid hown; have HG := Lib.hid hg; have E1 := Lib.hid b1
         clear hown hg b1)
      | (go_at_call 119
         refine (identityRows_any n' _ (by omega)).mono ?_
         rintro e w4 ⟨v2, vs2, rfl, hown2, hg2⟩
         have b1 := (hg2.block b (lt_of_blk E1.out) (by simp)).trans E1.out
         have f0 := cell_blk b1 0
         have f1 := cell_blk b1 1
         simp only [List.getElem?_toArray, List.getElem?_cons_zero, List.getElem?_cons_succ] at f0 f1
         have HO2 := Lib.hid hown2; have HG2 := Lib.hid hg2; have F1 := Lib.hid b1
         clear hown2 hg2 b1))
  obtain ⟨va, vc, hve, hvi, hcap⟩ := own_form HO.out
  obtain ⟨va2, vc2, hve2, hvi2, hcap2⟩ := own_form HO2.out
  rw [HLEN.out] at hve
  rw [idL_len] at hve2
  subst hve hve2
  have HTW := Lib.hid (two_ids HO.out HG.out HO2.out HG2.out)
  have HFIT := Lib.hid (show Fit p n' n' n' L (idL n') from ⟨HLEN.out, idL_len _, hL, idL_ok (lt_p hfld)⟩)
  have hbel4 : Below w2.heap.size w2 w4 := Below.grown (Below.grown (show Below w2.heap.size w2 w2.drew from ⟨rfl, rfl, rfl, Nat.le_refl _, fun _ _ => rfl⟩) HG.out (Nat.le_refl _) (by simp)) HG2.out HG.out.size (by simp)
  have HB4 := Lib.hid hbel4
  have HB4D := Lib.hid (show Below w2.heap.size w2 w4.drew from ⟨hbel4.os, hbel4.tape, hbel4.output, hbel4.size, hbel4.block⟩)
  have HTWD := Lib.hid (show Two w2.drew.heap.size w4.drew _ _ _ _ L (idL n') from ⟨HTW.out.mR.only (Only.drew (fun _ => False) w4) (fun _ _ h => h), HTW.out.mT.only (Only.drew (fun _ => False) w4) (fun _ _ h => h), HTW.out.ap⟩)
  have HRK := Lib.hid hrank
  clear e1 e0 d1 d0 c0 c1 hbel4 hvi hvi2 hcap hcap2 hrank
  go_wp2_with fail
  go_region_held3 (fun w' => w'.cell? ⟨b, 0, none⟩ = some (.int .i64 n')) (first | exact f0 | exact g0)
    (first
      | (go_at_call 120
         refine (reduction_any p _ _ _ _ L _ n' n' n' _ _ hfld HTWD.out HFIT.out (by omega) (by omega) (by omega) hp2).mono ?_
         rintro e w5 ⟨rfl, vs', us', t, on⟩
         rw [HRK.out]
         have HB5 := Lib.hid (HB4D.out.trans (on.below HB4D.out.size fun k hk => HTWD.out.base hk))
         have g0 : w5.cell? ⟨b, 0, none⟩ = some (.int .i64 n') := cell_blk ((HB5.out.block b (by omega)).trans D1.out) 0
         have HT5 := Lib.hid t
         clear t on))
  have b2 := (HB5.out.block (b + 1) hb2).trans D2.out
  have B5 := Lib.hid b2
  have k0 := cell_blk b2 0
  have k1 := cell_blk b2 1
  have x0 := free_blk b2 0
  have x1 := free_blk b2 1
  simp only [List.getElem?_toArray, List.getElem?_cons_zero, List.getElem?_cons_succ] at k0 k1
  clear b2 f0 f1
  go_wp2
  refine bodyPost_ret_by (v := .tuple #[.agg #[.int .i64 n', .slice va2 n' vc2], .bool true]) ?_ rfl ?_
  · simp [results, go_sem, *]
  · have o5 := one_set (w := w5) (b + 1) (.int .i64 n') (.slice va2 n' vc2)
    refine ⟨_, rfl, (HT5.out.mT.only o5 fun q hq hq' => by have h1 := (HT5.out.mT.lt hq).1; have h2 : w2.drew.heap.size = w2.heap.size := rfl; omega).read, ?_⟩
    exact grown_of_below (((Below.grown (Below.refl _ w) HW2.out (Nat.le_refl _) (by simp)).trans (HB5.out.mono HW2.out.size)).trans (o5.below (Nat.le_trans HW2.out.size HB5.out.size) fun q hq => by rw [HBE.out]; omega))

end Go.Proofs.YtpeaeminjbjlnaaDoor

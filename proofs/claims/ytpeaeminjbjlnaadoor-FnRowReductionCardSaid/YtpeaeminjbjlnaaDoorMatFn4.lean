/-
  Ranks, kernels, identities, and what is no matrix. Conditions: lengths are small.
-/
import Derived.Test.YtpeaeminjbjlnaaDoorMatFn3
namespace Go.Proofs.YtpeaeminjbjlnaaDoor
open Go.RowKit
set_option linter.unusedVariables false

set_option maxRecDepth 100000 in
set_option maxHeartbeats 1000000 in
theorem rowReduce_no (p : Int) (cols : Int) (u : Value) (L : List (List Int)) (w : World) (ht : Tab w) (hv : MatV w u L) (hl : L.length ≤ 1000000) (hll : ∀ row ∈ L, row.length ≤ 1000000) (hb : matB p cols L = false) :
    Calls Tryd.prog 26 #[.int .i64 p, mxV cols u] w fun e w' => e = .returned (.tuple #[mxV 0 nilS, mxV 0 nilS, .bool false]) ∧ w.grownBy w' none := by
  have hsh := hv.shape
  have HIS := Lib.hid fun w1 (hg : w.grownBy w1 none) => isMatrix_any p cols u L w1 (ht.grown hg) (hv.carry hg) hl hll
  rw [hb] at HIS
  unfold mxV at *
  unfold nilS
  obtain ⟨ua, uc, rfl⟩ := hsh
  clear hv ht hb hll
  go_enter Tryd.func26, Tryd.ntmps26
  go_wp2_with (first
    | (go_at_call 117
       with_reducible refine (HIS.out _ ?_).mono ?_
       · exact ((grownBy_alloc _ _ none).trans (grownBy_alloc _ _ none)).trans (grownBy_alloc _ _ none)
       rintro e w1 ⟨rfl, hg1⟩
       have hbl := blk3 w _ _ _ hg1
       have HW1 := Lib.hid (grown_of_below (Below.grown ((((Below.refl _ w).alloc (Nat.le_refl _) _).alloc (by simp) _).alloc (by simp; omega) _) hg1 (by simp; omega) (by simp)))
       have c20 := cell_blk hbl.2.1 0
       have c21 := cell_blk hbl.2.1 1
       have c30 := cell_blk hbl.2.2.1 0
       have c31 := cell_blk hbl.2.2.1 1
       have f20 := free_blk hbl.2.1 0
       have f21 := free_blk hbl.2.1 1
       have f30 := free_blk hbl.2.2.1 0
       have f31 := free_blk hbl.2.2.1 1
       simp only [List.getElem?_toArray, List.getElem?_cons_zero, List.getElem?_cons_succ] at c20 c21 c30 c31
       clear hg1 hbl))
  refine bodyPost_ret_by (v := .tuple #[.agg #[.int .i64 0, .slice none 0 0], .agg #[.int .i64 0, .slice none 0 0], .bool false]) ?_ rfl ?_
  · simp [results, go_sem, *]
  · refine ⟨rfl, grown_of_below ?_⟩
    have h1 := Below.grown (Below.refl _ w) HW1.out (Nat.le_refl _) (by simp)
    exact h1.trans ((two_set _ _ _ _ _ _).below h1.size fun k hk => by omega)

theorem box1 (w : World) (cs : Array Value) (t : TypeId) {w' : World} (h : (w.alloc (.cells cs t)).grownBy w' none) : w'.heap[w.heap.size]? = some (.cells cs t (0, 0)) ∧ w.grownBy w' none :=
  ⟨(h.block _ (by simp) (by simp)).trans (alloc_heap_new w _), grown_of_below (Below.grown ((Below.refl _ w).alloc (Nat.le_refl _) _) h (by simp) (by simp))⟩

set_option maxRecDepth 100000 in
set_option maxHeartbeats 1000000 in
theorem rankOf_any (p : Nat) [NeZero p] (cols : Int) (u : Value) (L : List (List Int)) (w : World) (ht : Tab w) (hv : MatV w u L) (hl : L.length ≤ 1000000) (hll : ∀ row ∈ L, row.length ≤ 1000000) (hb : matB p cols L = true) :
    Calls Tryd.prog 32 #[.int .i64 p, mxV cols u] w fun e w' => e = .returned (.tuple #[.int .i64 (rankL p cols.toNat L), .bool true]) ∧ w.grownBy w' none := by
  obtain ⟨hfld, hp2, n, rfl, hn, hm, hL⟩ := matB_parts hb
  rw [Int.toNat_natCast]
  have hsh := hv.shape
  have HIS := Lib.hid fun w1 (hg : w.grownBy w1 none) => isMatrix_any p n u L w1 (ht.grown hg) (hv.carry hg) hl hll
  rw [hb] at HIS
  have HRD := Lib.hid fun w1 (hg : w.grownBy w1 none) => reduced_any p u L n w1 hfld hp2 (hv.carry hg) hL (by omega) (by omega)
  have hrl := reducedL_len hfld hL
  rw [hrl] at HRD
  unfold mxV at *
  obtain ⟨ua, uc, rfl⟩ := hsh
  clear hv ht hb hll
  go_enter Tryd.func32, Tryd.ntmps32
  go_wp2_with (first
    | (go_at_call 117
       with_reducible refine (HIS.out _ ?_).mono ?_
       · exact grownBy_alloc _ _ none
       rintro e w1 ⟨rfl, hg1⟩
       obtain ⟨hbl, hgw⟩ := box1 w _ _ hg1
       have HW1 := Lib.hid hgw
       have c0 := cell_blk hbl 0
       have c1 := cell_blk hbl 1
       simp only [List.getElem?_toArray, List.getElem?_cons_zero, List.getElem?_cons_succ] at c0 c1
       clear hg1 hbl hgw)
    | (go_at_call 126
       with_reducible refine (HRD.out _ HW1.out).mono ?_
       rintro e w2 ⟨v2, c2, rfl, hm2, hg2⟩
       have HW2 := Lib.hid (HW1.out.trans hg2)
       clear hm2 hg2))
  go_ret2
  exact ⟨rfl, HW2.out⟩

set_option maxRecDepth 100000 in
set_option maxHeartbeats 1000000 in
theorem kernelOf_any (p : Nat) [NeZero p] (cols : Int) (u : Value) (L : List (List Int)) (w : World) (ht : Tab w) (hv : MatV w u L) (hl : L.length ≤ 1000000) (hll : ∀ row ∈ L, row.length ≤ 1000000) (hb : matB p cols L = true) :
    Calls Tryd.prog 33 #[.int .i64 p, mxV cols u] w fun e w' => ∃ v c, e = .returned (.tuple #[.slice v (kernelL p cols.toNat L).length c, .bool true]) ∧ MatV w' (.slice v (kernelL p cols.toNat L).length c) (kernelL p cols.toNat L) ∧ w.grownBy w' none := by
  obtain ⟨hfld, hp2, n, rfl, hn, hm, hL⟩ := matB_parts hb
  rw [Int.toNat_natCast]
  have hsh := hv.shape
  have HIS := Lib.hid fun w1 (hg : w.grownBy w1 none) => isMatrix_any p n u L w1 (ht.grown hg) (hv.carry hg) hl hll
  rw [hb] at HIS
  have HRD := Lib.hid fun w1 (hg : w.grownBy w1 none) => kernel_any p u L n w1 hfld hp2 (hv.carry hg) hL (by omega) (by omega)
  generalize kernelL p n L = K at *
  generalize K.length = kl at *
  unfold mxV at *
  obtain ⟨ua, uc, rfl⟩ := hsh
  clear hv ht hb hll
  go_enter Tryd.func33, Tryd.ntmps33
  go_wp2_with (first
    | (go_at_call 117
       with_reducible refine (HIS.out _ ?_).mono ?_
       · exact grownBy_alloc _ _ none
       rintro e w1 ⟨rfl, hg1⟩
       obtain ⟨hbl, hgw⟩ := box1 w _ _ hg1
       have HW1 := Lib.hid hgw
       have c0 := cell_blk hbl 0
       have c1 := cell_blk hbl 1
       simp only [List.getElem?_toArray, List.getElem?_cons_zero, List.getElem?_cons_succ] at c0 c1
       clear hg1 hbl hgw)
    | (go_at_call 127
       with_reducible refine (HRD.out _ HW1.out).mono ?_
       rintro e w2 ⟨v2, c2, rfl, hm2, hg2⟩
       have HW2 := Lib.hid (HW1.out.trans hg2)
       have HM2 := Lib.hid hm2
       clear hm2 hg2))
  go_ret2
  exact ⟨v2, c2, rfl, HM2.out, HW2.out⟩

end Go.Proofs.YtpeaeminjbjlnaaDoor

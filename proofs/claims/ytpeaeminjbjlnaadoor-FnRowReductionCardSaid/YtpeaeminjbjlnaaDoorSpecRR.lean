/-
  The specification's row reduction. Conditions: the numbers are small.
-/
import Derived.Test.YtpeaeminjbjlnaaDoorSpecM6
namespace Go.Proofs.YtpeaeminjbjlnaaDoor
open Go.RowKit
set_option linter.unusedVariables false

set_option maxRecDepth 100000 in
set_option maxHeartbeats 1000000 in
theorem sRowReduce_no (p : Int) (cols : Int) (u : Value) (L : List (List Int)) (w : World) (hv : MatV w u L) (hl : L.length ≤ 1000000) (hll : ∀ row ∈ L, row.length ≤ 1000000) (hp0 : -1000 ≤ p) (hp1 : p ≤ 1000) (hb : matB p cols L = false) :
    Calls Tryd.prog 27 #[.int .i64 p, mxV cols u] w fun e w' => e = .returned (.tuple #[mxV 0 nilS, mxV 0 nilS, .bool false]) ∧ w.grownBy w' none := by
  have hsh := hv.shape
  have HIS := Lib.hid fun w1 (hg : w.grownBy w1 none) => mxGood_any p cols u L w1 (hv.carry hg) hl hll hp0 hp1
  rw [hb] at HIS
  unfold mxV at *
  unfold nilS
  obtain ⟨ua, uc, rfl⟩ := hsh
  clear hv hb hll
  go_enter Tryd.func27, Tryd.ntmps27
  go_wp2_with (first
    | (go_at_call 121
       with_reducible refine (HIS.out _ ?_).mono ?_
       · exact ((grownBy_alloc _ _ none).trans (grownBy_alloc _ _ none)).trans (grownBy_alloc _ _ none)
       rintro e w1 ⟨rfl, hg1⟩
       have hbl := blk3 w _ _ _ hg1
       have HW1 := Lib.hid (grown_of_below (Below.grown ((((Below.refl _ w).alloc (Nat.le_refl _) _).alloc (by simp) _).alloc (by simp; omega) _) hg1 (by simp; omega) (by simp)))
       have c20 := cell_blk hbl.2.1 0
       have c21 := cell_blk hbl.2.1 1
       have c30 := cell_blk hbl.2.2.1 0
       have c31 := cell_blk hbl.2.2.1 1
       have f20 := free_blk hbl.2.1 0
       have f21 := free_blk hbl.2.1 1
       have f30 := free_blk hbl.2.2.1 0
       have f31 := free_blk hbl.2.2.1 1
       simp only [List.getElem?_toArray, List.getElem?_cons_zero, List.getElem?_cons_succ] at c20 c21 c30 c31
       clear hg1 hbl))
  refine bodyPost_ret_by (v := .tuple #[.agg #[.int .i64 0, .slice none 0 0], .agg #[.int .i64 0, .slice none 0 0], .bool false]) ?_ rfl ?_
  · simp [results, go_sem, *]
  · refine ⟨rfl, grown_of_below ?_⟩
    have h1 := Below.grown (Below.refl _ w) HW1.out (Nat.le_refl _) (by simp)
    exact h1.trans ((two_set _ _ _ _ _ _).below h1.size fun k hk => by omega)

set_option maxRecDepth 100000 in
set_option maxHeartbeats 2000000 in
theorem sRowReduce_yes (p n : Nat) [NeZero p] (u : Value) (L : List (List Int)) (w : World) (hv : MatV w u L) (hb : matB p n L = true) :
    Calls Tryd.prog 27 #[.int .i64 p, mxV n u] w fun e w' => ∃ o1 o2, e = .returned (.tuple #[mxV n o1, mxV L.length o2, .bool true]) ∧ MatV w' o1 (redTo p L (idL L.length) n).R ∧ MatV w' o2 (redTo p L (idL L.length) n).T ∧ w.grownBy w' none := by
  obtain ⟨hfld, hp2, n', hn', hn, hm, hL⟩ := matB_parts hb
  have : n' = n := by omega
  subst this
  have hsh := hv.shape
  have HIS := Lib.hid fun w1 (hg : w.grownBy w1 none) => mxGood_any p n' u L w1 (hv.carry hg) (by omega) (fun row hrow => by rw [(hL row hrow).1]; omega) (by omega) (by omega)
  rw [hb] at HIS
  have HRED := Lib.hid fun w1 (hg : w.grownBy w1 none) => mxReduce_any p n' u L w1 hfld hp2 (hv.carry hg) hL (by omega) (by omega)
  have hfit := (at_round hfld (show Fit p L.length n' L.length L (idL L.length) from ⟨rfl, idL_len _, hL, idL_ok (lt_p hfld)⟩) (Nat.le_refl n')).1
  have HLR := Lib.hid hfit.lR; have HLT := Lib.hid hfit.lT
  clear hfit
  unfold mxV at *
  obtain ⟨ua, uc, rfl⟩ := hsh
  clear hv hb hL hfld
  generalize L.length = m at *
  generalize hR : (redTo p L (idL m) n').R = R at *
  generalize hT : (redTo p L (idL m) n').T = T at *
  generalize (redTo p L (idL m) n').r = rr at *
  clear hR hT
  go_enter Tryd.func27, Tryd.ntmps27
  go_wp2_with (first
    | (go_at_call 121
       with_reducible refine (HIS.out _ ?_).mono ?_
       · exact ((grownBy_alloc _ _ none).trans (grownBy_alloc _ _ none)).trans (grownBy_alloc _ _ none)
       rintro e w1 ⟨rfl, hg1⟩
       have hbl := blk3 w _ _ _ hg1
       have hw1 := grown_of_below (Below.grown ((((Below.refl _ w).alloc (Nat.le_refl _) _).alloc (by simp) _).alloc (by simp; omega) _) hg1 (by simp; omega) (by simp))
       have HW1 := Lib.hid hw1
       have c10 := cell_blk hbl.1 0
       have c11 := cell_blk hbl.1 1
       simp only [List.getElem?_toArray, List.getElem?_cons_zero, List.getElem?_cons_succ] at c10 c11
       have HBL := Lib.hid hbl
       clear hg1 hbl hw1)
    | (go_at_call 122
       with_reducible refine (HRED.out _ HW1.out).mono ?_
       rintro e w2 ⟨o1, o2, det, rfl, hdet, ⟨vs, us, t⟩, hg2⟩
       obtain ⟨va, vc, hve, hvi, hcap⟩ := own_form t.mR
       obtain ⟨va2, vc2, hve2, hvi2, hcap2⟩ := own_form t.mT
       rw [HLR.out] at hve
       rw [HLT.out] at hve2
       subst hve hve2
       have q2 := (hg2.block _ (lt_of_blk HBL.out.2.1) (by simp)).trans HBL.out.2.1
       have q3 := (hg2.block _ (lt_of_blk HBL.out.2.2.1) (by simp)).trans HBL.out.2.2.1
       have b2 := box_facts q2
       have b3 := box_facts q3
       have HT2 := Lib.hid t; have HG2 := Lib.hid hg2
       clear t hg2 q2 q3 hvi hcap hvi2 hcap2 hdet))
  have hs12 : w.heap.size + 1 + 1 < w2.heap.size := Nat.lt_of_lt_of_le (by have := HBL.out.2.2.2; omega) HG2.out.size
  have z1 := res1 w2 (Bx (.int .i64 n') (.slice va m vc)) (Bx (.int .i64 m) (.slice va2 m vc2))
  have x1 := box_facts z1.1
  have x2 := box_facts z1.2.1
  have y1 := (b2.2.2 (Bx (.int .i64 n') (.slice va m vc)) (Bx (.int .i64 m) (.slice va2 m vc2)))
  have y2 := (b3.2.2 (Bx (.int .i64 n') (.slice va m vc)) (Bx (.int .i64 m) (.slice va2 m vc2)))
  have x1 := x1.1
  have x2 := x2.1
  have HZ1 := Lib.hid z1
  clear z1 b2 b3 c10 c11
  generalize hw3 : (w2.alloc (Obj.cells #[.int .i64 n', .slice va m vc] 39)).alloc (Obj.cells #[.int .i64 m, .slice va2 m vc2] 39) = w3 at *
  clear hw3
  generalize hse : w2.heap.size = s2 at *
  have HSE := Lib.hid hse
  clear hse
  generalize hbe : w.heap.size = b at *
  have HBE := Lib.hid hbe
  clear hbe
  have q1 : s2 ≠ b + 1 := by omega
  have q2 : s2 ≠ b + 1 + 1 := by omega
  have q3 : s2 + 1 ≠ b + 1 := by omega
  have q4 : s2 + 1 ≠ b + 1 + 1 := by omega
  have q5 : s2 ≠ b := by omega
  go_region
  go_wp2_with fail
  refine bodyPost_ret_by (v := .tuple #[.agg #[.int .i64 n', .slice va m vc], .agg #[.int .i64 m, .slice va2 m vc2], .bool true]) ?_ rfl ?_
  · simp [results, go_sem, *]
  · have o5 := (two_set (w := w3) (b + 1) (b + 1 + 1) (.int .i64 n') (.slice va m vc) (.int .i64 m) (.slice va2 m vc2)).trans (Only.drew _ _)
    have o3 : Only (fun k => k = s2 ∨ k = s2 + 1) w2 w3 := HZ1.out.2.2
    have hs1 := HBL.out.2.2.2
    have mr := (HT2.out.mR.only o3 fun k hk hk' => by have := (HT2.out.mR.lt hk).2; have := HSE.out; rcases hk' with h | h <;> omega).only o5 fun k hk hk' => by have := (HT2.out.mR.lt hk).1; rcases hk' with h | h <;> omega
    have mt := (HT2.out.mT.only o3 fun k hk hk' => by have := (HT2.out.mT.lt hk).2; have := HSE.out; rcases hk' with h | h <;> omega).only o5 fun k hk hk' => by have := (HT2.out.mT.lt hk).1; rcases hk' with h | h <;> omega
    refine ⟨_, _, rfl, mr.read, mt.read, ?_⟩
    have g2 := HW1.out.trans HG2.out
    have hb1 := Below.grown (Below.refl _ w) g2 (Nat.le_refl _) (by simp)
    have hb2 := o3.below (B := w.heap.size) g2.size (fun q hq => by have := g2.size; have := HSE.out; rcases hq with h | h <;> omega)
    have hb3 := o5.below (B := w.heap.size) (Nat.le_trans g2.size o3.size) (fun q hq => by have := HBE.out; rcases hq with h | h <;> omega)
    exact grown_of_below ((hb1.trans hb2).trans hb3)

end Go.Proofs.YtpeaeminjbjlnaaDoor

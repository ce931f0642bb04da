/-
  The reduction of a matrix. Conditions: lengths are small.
-/
import Derived.Test.YtpeaeminjbjlnaaDoorMatFn2
import Derived.Deep.RegionHeld3
namespace Go.Proofs.YtpeaeminjbjlnaaDoor
open Go.RowKit
set_option linter.unusedVariables false

theorem matB_parts {p : Nat} {cols : Int} {L : List (List Int)} (h : matB p cols L = true) : fldN p = true ∧ p ≤ 1000 ∧ ∃ n : Nat, cols = n ∧ n ≤ 24 ∧ L.length ≤ 24 ∧ RowsOk p n L := by
  unfold matB at h
  simp only [Bool.and_eq_true, decide_eq_true_eq] at h
  obtain ⟨h1, ⟨h2, h3⟩, h4, h5⟩ := h
  obtain ⟨n, rfl⟩ := Int.eq_ofNat_of_zero_le h2
  have h6 : fldN p = true := by rw [← fldB_nat]; exact h1
  exact ⟨h6, by have := (of_decide_eq_true h6).2.1; omega, n, rfl, by omega, h4, rowsB_ok.1 h5⟩

/-- three blocks laid one after another stay as long as only later ones are written -/
theorem blk3 (w : World) (o1 o2 o3 : Obj) {w' : World} (h : (((w.alloc o1).alloc o2).alloc o3).grownBy w' none) :
    w'.heap[w.heap.size]? = some o1 ∧ w'.heap[w.heap.size + 1]? = some o2 ∧ w'.heap[w.heap.size + 1 + 1]? = some o3 ∧ w.heap.size + 1 + 1 + 1 ≤ w'.heap.size := by
  have s1 : (w.alloc o1).heap.size = w.heap.size + 1 := by simp
  have s2 : ((w.alloc o1).alloc o2).heap.size = w.heap.size + 1 + 1 := by simp
  have s3 : (((w.alloc o1).alloc o2).alloc o3).heap.size = w.heap.size + 1 + 1 + 1 := by simp
  have e1 := alloc_heap_new w o1
  have e2 := alloc_heap_new (w.alloc o1) o2
  have e3 := alloc_heap_new ((w.alloc o1).alloc o2) o3
  have f1 := alloc_heap_old (w.alloc o1) o2 w.heap.size (by omega)
  have f2 := alloc_heap_old ((w.alloc o1).alloc o2) o3 w.heap.size (by omega)
  have f3 := alloc_heap_old ((w.alloc o1).alloc o2) o3 (w.heap.size + 1) (by omega)
  rw [s1] at e2
  rw [s2] at e3
  refine ⟨?_, ?_, ?_, by rw [← s3]; exact h.size⟩
  · rw [h.block _ (by omega) (by simp), f2, f1, e1]
  · rw [h.block _ (by omega) (by simp), f3, e2]
  · rw [h.block _ (by omega) (by simp), e3]
theorem cell_blk {w : World} {b : Nat} {cs : Array Value} {t : TypeId} {fr : Nat × Nat} (h : w.heap[b]? = some (.cells cs t fr)) (j : Nat) : w.cell? ⟨b, j, none⟩ = cs[j]? := by
  simp [World.cell?, h]
theorem free_blk {w : World} {b : Nat} {cs : Array Value} {t : TypeId} (h : w.heap[b]? = some (.cells cs t (0, 0))) (j : Nat) : w.frozen? ⟨b, j, none⟩ = false := by
  simp [World.frozen?, h]

theorem two_set {w : World} (b c : Nat) (x y z t : Value) : Only (fun k => k = b ∨ k = c) w ((((w.setCell ⟨b, 0, none⟩ x).setCell ⟨b, 1, none⟩ y).setCell ⟨c, 0, none⟩ z).setCell ⟨c, 1, none⟩ t) :=
  ⟨rfl, rfl, rfl, by simp [World.setCell], fun k _ hn => by
    rw [Below.heap_setCell _ _ _ _ (fun h => hn (Or.inr h)), Below.heap_setCell _ _ _ _ (fun h => hn (Or.inr h)), Below.heap_setCell _ _ _ _ (fun h => hn (Or.inl h)), Below.heap_setCell _ _ _ _ (fun h => hn (Or.inl h))]⟩

set_option maxRecDepth 100000 in
set_option maxHeartbeats 1000000 in
theorem rowReduce_any (p : Nat) [NeZero p] (cols : Int) (u : Value) (L : List (List Int)) (w : World) (ht : Tab w) (hv : MatV w u L) (hl : L.length ≤ 1000000) (hll : ∀ row ∈ L, row.length ≤ 1000000) (hb : matB p cols L = true) :
    Calls Tryd.prog 26 #[.int .i64 p, mxV cols u] w fun e w' => ∃ v1 v2, e = .returned (.tuple #[mxV cols v1, mxV L.length v2, .bool true]) ∧ MatV w' v1 (redTo p L (idL L.length) cols.toNat).R ∧ MatV w' v2 (redTo p L (idL L.length) cols.toNat).T ∧ w.grownBy w' none := by
  obtain ⟨hfld, hp2, n, rfl, hn, hm, hL⟩ := matB_parts hb
  rw [Int.toNat_natCast]
  have hsh := hv.shape
  have HIS := Lib.hid fun w1 (hg : w.grownBy w1 none) => isMatrix_any p n u L w1 (ht.grown hg) (hv.carry hg) hl hll
  rw [hb] at HIS
  have HCL := Lib.hid fun w1 (hg : w.grownBy w1 none) => clones_any u L w1 (hv.carry hg) (by omega) (fun row hrow => by rw [(hL row hrow).1]; omega)
  unfold mxV at *
  obtain ⟨ua, uc, rfl⟩ := hsh
  clear hv ht hb hll
  go_enter Tryd.func26, Tryd.ntmps26
  go_wp2_with (first
    | (go_at_call 117
       with_reducible refine (HIS.out _ ?_).mono ?_
       · exact ((grownBy_alloc _ _ none).trans (grownBy_alloc _ _ none)).trans (grownBy_alloc _ _ none)
       rintro e w1 ⟨rfl, hg1⟩
       have HG1 := Lib.hid hg1
       clear hg1))
  have HBL := Lib.hid (blk3 w _ _ _ HG1.out)
  have HW1 := Lib.hid (grown_of_below (Below.grown ((((Below.refl _ w).alloc (Nat.le_refl _) _).alloc (by simp) _).alloc (by simp; omega) _) HG1.out (by simp; omega) (by simp)))
  have c1 : w1.cell? ⟨w.heap.size, 1, none⟩ = some (.slice ua L.length uc) := cell_blk HBL.out.1 1
  clear HG1
  have HWD := Lib.hid (show w.grownBy w1.drew none from ⟨HW1.out.os, HW1.out.tape, HW1.out.output, HW1.out.size, HW1.out.block⟩)
  generalize hbe : w.heap.size = b at *
  have HBE := Lib.hid hbe
  clear hbe
  go_region_held3 (fun w' => w'.cell? ⟨b, 1, none⟩ = some (.slice ua L.length uc)) (first | exact c1 | exact c2 | exact c3)
    (first
      | (go_at_call 118
         refine (HCL.out _ HWD.out).mono ?_
         rintro e w2 ⟨v, vs, rfl, hown, hg⟩
         have c2 : w2.cell? ⟨b, 1, none⟩ = some (.slice ua L.length uc) := (World.cell?_of_block (w := w1.drew) (a := ⟨b, 1, none⟩) (hg.block b (Nat.lt_of_lt_of_le (by omega) HBL.out.2.2.2) (by simp))).trans c1
         have HO := Lib.hid hown; have HG := Lib.hid hg
         clear hown hg)
      | (go_at_call 119
         refine (identityRows_any L.length _ (by omega)).mono ?_
         rintro e w3 ⟨v2, vs2, rfl, hown2, hg2⟩
         have c3 : w3.cell? ⟨b, 1, none⟩ = some (.slice ua L.length uc) := (World.cell?_of_block (w := w2) (a := ⟨b, 1, none⟩) (hg2.block b (Nat.lt_of_lt_of_le (Nat.lt_of_lt_of_le (by omega) HBL.out.2.2.2) HG.out.size) (by simp))).trans c2
         have HO2 := Lib.hid hown2; have HG2 := Lib.hid hg2
         clear hown2 hg2))
  obtain ⟨va, vc, hve, hvi, hcap⟩ := own_form HO.out
  obtain ⟨va2, vc2, hve2, hvi2, hcap2⟩ := own_form HO2.out
  rw [idL_len] at hve2
  subst hve hve2
  have HTW := Lib.hid (two_ids HO.out HG.out HO2.out HG2.out)
  have HFIT := Lib.hid (show Fit p L.length n L.length L (idL L.length) from ⟨rfl, idL_len _, hL, idL_ok (lt_p hfld)⟩)
  have hbel3 : Below w1.heap.size w1 w3 := Below.grown (Below.grown (show Below w1.heap.size w1 w1.drew from ⟨rfl, rfl, rfl, Nat.le_refl _, fun _ _ => rfl⟩) HG.out (Nat.le_refl _) (by simp)) HG2.out HG.out.size (by simp)
  have HB3 := Lib.hid hbel3
  have bl : ∀ w', Below w1.heap.size w1 w' → w'.heap[b]? = w1.heap[b]? ∧ w'.heap[b + 1]? = w1.heap[b + 1]? ∧ w'.heap[b + 1 + 1]? = w1.heap[b + 1 + 1]? := by
    intro w' h
    have := HBL.out.2.2.2
    exact ⟨h.block _ (by omega), h.block _ (by omega), h.block _ (by omega)⟩
  have BL := Lib.hid bl
  have c0 : w3.cell? ⟨b, 0, none⟩ = some (.int .i64 n) := cell_blk ((bl _ hbel3).1.trans HBL.out.1) 0
  clear c1 c2 c3 bl hbel3 hvi hvi2 hcap hcap2
  go_wp2_with (
    go_at_call 120
    refine (reduction_any p _ _ _ _ L _ L.length n L.length _ _ hfld HTW.out HFIT.out (by omega) (by omega) (by omega) hp2).mono ?_
    rintro e w4 ⟨rfl, vs', us', t, on⟩
    have HB4 := HB3.out.trans (on.below HB3.out.size fun k hk => HTW.out.base hk)
    have d1 := (BL.out _ HB4).1.trans HBL.out.1
    have d2 := (BL.out _ HB4).2.1.trans HBL.out.2.1
    have d3 := (BL.out _ HB4).2.2.trans HBL.out.2.2.1
    have HB4 := Lib.hid HB4
    have c0 := cell_blk d1 0
    have c20 := cell_blk d2 0
    have c21 := cell_blk d2 1
    have c30 := cell_blk d3 0
    have c31 := cell_blk d3 1
    have f20 := free_blk d2 0
    have f21 := free_blk d2 1
    have f30 := free_blk d3 0
    have f31 := free_blk d3 1
    have D2 := Lib.hid d2; have D3 := Lib.hid d3
    have HT4 := Lib.hid t
    simp only [List.getElem?_toArray, List.getElem?_cons_zero, List.getElem?_cons_succ] at c0 c20 c21 c30 c31
    clear t on d1 d2 d3)
  refine bodyPost_ret_by (v := .tuple #[.agg #[.int .i64 n, .slice va L.length vc], .agg #[.int .i64 L.length, .slice va2 L.length vc2], .bool true]) ?_ rfl ?_
  · simp [results, go_sem, *]
  · have o5 := two_set (w := w4) (b + 1) (b + 1 + 1) (.int .i64 n) (.slice va L.length vc) (.int .i64 L.length) (.slice va2 L.length vc2)
    have hsz := HBL.out.2.2.2
    have hne : ∀ k, w1.heap.size ≤ k → ¬ (k = b + 1 ∨ k = b + 1 + 1) := fun k hk => by omega
    refine ⟨_, _, rfl, (HT4.out.mR.only o5 fun k hk => hne k (HT4.out.mR.lt hk).1).read, (HT4.out.mT.only o5 fun k hk => hne k (HT4.out.mT.lt hk).1).read, ?_⟩
    refine grown_of_below ?_
    have h1 := (Below.grown (Below.refl _ w) HW1.out (Nat.le_refl _) (by simp)).trans (HB4.out.mono HW1.out.size)
    exact h1.trans (o5.below h1.size fun k hk => by rw [HBE.out]; omega)

end Go.Proofs.YtpeaeminjbjlnaaDoor

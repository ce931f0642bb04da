/-
  The reduction of a matrix. Conditions: lengths are small.
-/
import Derived.Test.YtpeaeminjbjlnaaDoorMs06
import Derived.Deep.RegionHeld3
import Derived.Deep.AppendLies
import Derived.Deep.RegionLaw
namespace Go.Proofs.YtpeaeminjbjlnaaDoor
open Go.RowKit
set_option linter.unusedVariables false

theorem matB_parts {p : Nat} {cols : Int} {L : List (List Int)} (h : matB p cols L = true) : fldN p = true ∧ p ≤ 1000 ∧ ∃ n : Nat, cols = n ∧ n ≤ 24 ∧ L.length ≤ 24 ∧ RowsOk p n L := by
  unfold matB at h
  simp only [Bool.and_eq_true, decide_eq_true_eq] at h
  obtain ⟨h1, ⟨h2, h3⟩, h4, h5⟩ := h
  obtain ⟨n, rfl⟩ := Int.eq_ofNat_of_zero_le h2
  have h6 : fldN p = true := by rw [← fldB_nat]; exact h1
  exact ⟨h6, by have := (of_decide_eq_true h6).2.1; omega, n, rfl, by omega, h4, rowsB_ok.1 h5⟩

/-- three blocks laid one after another stay as long as only later ones are written -/
theorem blk3 (w : World) (o1 o2 o3 : Obj) {w' : World} (h : (((w.alloc o1).alloc o2).alloc o3).grownBy w' none) :
    w'.heap[w.heap.size]? = some o1 ∧ w'.heap[w.heap.size + 1]? = some o2 ∧ w'.heap[w.heap.size + 1 + 1]? = some o3 ∧ w.heap.size + 1 + 1 + 1 ≤ w'.heap.size := by
  have s1 : (w.alloc o1).heap.size = w.heap.size + 1 := by simp
  have s2 : ((w.alloc o1).alloc o2).heap.size = w.heap.size + 1 + 1 := by simp
  have s3 : (((w.alloc o1).alloc o2).alloc o3).heap.size = w.heap.size + 1 + 1 + 1 := by simp
  have e1 := alloc_heap_new w o1
  have e2 := alloc_heap_new (w.alloc o1) o2
  have e3 := alloc_heap_new ((w.alloc o1).alloc o2) o3
  have f1 := alloc_heap_old (w.alloc o1) o2 w.heap.size (by omega)
  have f2 := alloc_heap_old ((w.alloc o1).alloc o2) o3 w.heap.size (by omega)
  have f3 := alloc_heap_old ((w.alloc o1).alloc o2) o3 (w.heap.size + 1) (by omega)
  rw [s1] at e2
  rw [s2] at e3
  refine ⟨?_, ?_, ?_, by rw [← s3]; exact h.size⟩
  · rw [h.block _ (by omega) (by simp), f2, f1, e1]
  · rw [h.block _ (by omega) (by simp), f3, e2]
  · rw [h.block _ (by omega) (by simp), e3]
theorem cell_blk {w : World} {b : Nat} {cs : Array Value} {t : TypeId} {fr : Nat × Nat} (h : w.heap[b]? = some (.cells cs t fr)) (j : Nat) : w.cell? ⟨b, j, none⟩ = cs[j]? := by
  simp [World.cell?, h]
theorem free_blk {w : World} {b : Nat} {cs : Array Value} {t : TypeId} (h : w.heap[b]? = some (.cells cs t (0, 0))) (j : Nat) : w.frozen? ⟨b, j, none⟩ = false := by
  simp [World.frozen?, h]

theorem two_set {w : World} (b c : Nat) (x y z t : Value) : Only (fun k => k = b ∨ k = c) w ((((w.setCell ⟨b, 0, none⟩ x).setCell ⟨b, 1, none⟩ y).setCell ⟨c, 0, none⟩ z).setCell ⟨c, 1, none⟩ t) :=
  ⟨rfl, rfl, rfl, by simp [World.setCell], fun k _ hn => by
    rw [Below.heap_setCell _ _ _ _ (fun h => hn (Or.inr h)), Below.heap_setCell _ _ _ _ (fun h => hn (Or.inr h)), Below.heap_setCell _ _ _ _ (fun h => hn (Or.inl h)), Below.heap_setCell _ _ _ _ (fun h => hn (Or.inl h))]⟩

set_option maxRecDepth 100000 in
set_option maxHeartbeats 1000000 in
theorem rowReduce_any (p : Nat) [NeZero p] (cols : Int) (u : Value) (L : List (List Int)) (w : World) (ht : Tab w) (hv : MatV w u L) (hl : L.length ≤ 1000000) (hll : ∀ row ∈ L, row.length ≤ 1000000) (hb : matB p cols L = true) :
    Calls Tryd.prog 26 #[.int .i64 p, mxV cols u] w fun e w' => ∃ v1 v2, e = .returned (.tuple #[mxV cols v1, mxV L.length v2, .bool true]) ∧ MatV w' v1 (redTo p L (idL L.length) cols.toNat).R ∧ MatV w' v2 (redTo p L (idL L.length) cols.toNat).T ∧ w.grownBy w' none := by
  obtain ⟨hfld, hp2, n, rfl, hn, hm, hL⟩ := matB_parts hb
  rw [Int.toNat_natCast]
  have hsh := hv.shape
  have HIS := Lib.hid fun w1 (hg : w.grownBy w1 none) => isMatrix_any p n u L w1 (ht.grown hg) (hv.carry hg) hl hll
  rw [hb] at HIS
  have HCL := Lib.hid fun w1 (hg : w.grownBy w1 none) => clones_any u L w1 (hv.carry hg) (by omega) (fun row hrow => by rw [(hL row hrow).1]; omega)
  unfold mxV at *
  obtain ⟨ua, uc, rfl⟩ := hsh
  clear hv ht hb hll
  go_enter Tryd.func26, Tryd.ntmps26
  go_wp2_with (first
    | (go_at_call 117
       with_reducible refine (HIS.out _ ?_).mono ?_
       · exact ((grownBy_alloc _ _ none).trans (grownBy_alloc _ _ none)).trans (grownBy_alloc _ _ none)
       rintro e w1 ⟨rfl, hg1⟩
       have HG1 := Lib.hid hg1
       clear hg1))
  have HBL := Lib.hid (blk3 w _ _ _ HG1.out)
  have HW1 := Lib.hid (grown_of_below (Below.grown ((((Below.refl _ w).alloc (Nat.le_refl _) _).alloc (by simp) _).alloc (by simp; omega) _) HG1.out (by simp; omega) (by simp)))
  have c1 : w1.cell? ⟨w.heap.size, 1, none⟩ = some (.slice ua L.length uc) := cell_blk HBL.out.1 1
  clear HG1
  have HWD := Lib.hid (show w.grownBy w1.drew none from ⟨HW1.out.os, HW1.out.tape, HW1.out.output, HW1.out.size, HW1.out.block⟩)
  generalize hbe : w.heap.size = b at *
  have HBE := Lib.hid hbe
  clear hbe
  go_region_held3 (fun w' => w'.cell? ⟨b, 1, none⟩ = some (.slice ua L.length uc)) (first | exact c1 | exact c2 | exact c3)
    (first
      | (go_at_call 118
         refine (HCL.out _ HWD.out).mono ?_
         rintro e w2 ⟨v, vs, rfl, hown, hg⟩
         have c2 : w2.cell? ⟨b, 1, none⟩ = some (.slice ua L.length uc) := (World.cell?_of_block (w := w1.drew) (a := ⟨b, 1, none⟩) (hg.block b (Nat.lt_of_lt_of_le (by omega) HBL.out.2.2.2) (by simp))).trans c1
         have HO := Lib.hid hown; have HG := Lib.hid hg
         clear hown hg)
      | (go_at_call 119
         refine (identityRows_any L.length _ (by omega)).mono ?_
         rintro e w3 ⟨v2, vs2, rfl, hown2, hg2⟩
         have c3 : w3.cell? ⟨b, 1, none⟩ = some (.slice ua L.length uc) := (World.cell?_of_block (w := w2) (a := ⟨b, 1, none⟩) (hg2.block b (Nat.lt_of_lt_of_le (Nat.lt_of_lt_of_le (by omega) HBL.out.2.2.2) HG.out.size) (by simp))).trans c2
         have HO2 := Lib.hid hown2; have HG2 := Lib.hid hg2
         clear hown2 hg2))
  obtain ⟨va, vc, hve, hvi, hcap⟩ := own_form HO.out
  obtain ⟨va2, vc2, hve2, hvi2, hcap2⟩ := own_form HO2.out
  rw [idL_len] at hve2
  subst hve hve2
  have HTW := Lib.hid (two_ids HO.out HG.out HO2.out HG2.out)
  have HFIT := Lib.hid (show Fit p L.length n L.length L (idL L.length) from ⟨rfl, idL_len _, hL, idL_ok (lt_p hfld)⟩)
  have hbel3 : Below w1.heap.size w1 w3 := Below.grown (Below.grown (show Below w1.heap.size w1 w1.drew from ⟨rfl, rfl, rfl, Nat.le_refl _, fun _ _ => rfl⟩) HG.out (Nat.le_refl _) (by simp)) HG2.out HG.out.size (by simp)
  have HB3 := Lib.hid hbel3
  have bl : ∀ w', Below w1.heap.size w1 w' → w'.heap[b]? = w1.heap[b]? ∧ w'.heap[b + 1]? = w1.heap[b + 1]? ∧ w'.heap[b + 1 + 1]? = w1.heap[b + 1 + 1]? := by
    intro w' h
    have := HBL.out.2.2.2
    exact ⟨h.block _ (by omega), h.block _ (by omega), h.block _ (by omega)⟩
  have BL := Lib.hid bl
  have c0 : w3.cell? ⟨b, 0, none⟩ = some (.int .i64 n) := cell_blk ((bl _ hbel3).1.trans HBL.out.1) 0
  clear c1 c2 c3 bl hbel3 hvi hvi2 hcap hcap2
  go_wp2_with (
    go_at_call 120
    refine (reduction_any p _ _ _ _ L _ L.length n L.length _ _ hfld HTW.out HFIT.out (by omega) (by omega) (by omega) hp2).mono ?_
    rintro e w4 ⟨rfl, vs', us', t, on⟩
    have HB4 := HB3.out.trans (on.below HB3.out.size fun k hk => HTW.out.base hk)
    have d1 := (BL.out _ HB4).1.trans HBL.out.1
    have d2 := (BL.out _ HB4).2.1.trans HBL.out.2.1
    have d3 := (BL.out _ HB4).2.2.trans HBL.out.2.2.1
    have HB4 := Lib.hid HB4
    have c0 := cell_blk d1 0
    have c20 := cell_blk d2 0
    have c21 := cell_blk d2 1
    have c30 := cell_blk d3 0
    have c31 := cell_blk d3 1
    have f20 := free_blk d2 0
    have f21 := free_blk d2 1
    have f30 := free_blk d3 0
    have f31 := free_blk d3 1
    have D2 := Lib.hid d2; have D3 := Lib.hid d3
    have HT4 := Lib.hid t
    simp only [List.getElem?_toArray, List.getElem?_cons_zero, List.getElem?_cons_succ] at c0 c20 c21 c30 c31
    clear t on d1 d2 d3)
  refine bodyPost_ret_by (v := .tuple #[.agg #[.int .i64 n, .slice va L.length vc], .agg #[.int .i64 L.length, .slice va2 L.length vc2], .bool true]) ?_ rfl ?_
  · simp [results, go_sem, *]
  · have o5 := two_set (w := w4) (b + 1) (b + 1 + 1) (.int .i64 n) (.slice va L.length vc) (.int .i64 L.length) (.slice va2 L.length vc2)
    have hsz := HBL.out.2.2.2
    have hne : ∀ k, w1.heap.size ≤ k → ¬ (k = b + 1 ∨ k = b + 1 + 1) := fun k hk => by omega
    refine ⟨_, _, rfl, (HT4.out.mR.only o5 fun k hk => hne k (HT4.out.mR.lt hk).1).read, (HT4.out.mT.only o5 fun k hk => hne k (HT4.out.mT.lt hk).1).read, ?_⟩
    refine grown_of_below ?_
    have h1 := (Below.grown (Below.refl _ w) HW1.out (Nat.le_refl _) (by simp)).trans (HB4.out.mono HW1.out.size)
    exact h1.trans (o5.below h1.size fun k hk => by rw [HBE.out]; omega)

end Go.Proofs.YtpeaeminjbjlnaaDoor

/-
  Ranks, kernels, identities, and what is no matrix. Conditions: lengths are small.
-/
namespace Go.Proofs.YtpeaeminjbjlnaaDoor
open Go.RowKit
set_option linter.unusedVariables false

set_option maxRecDepth 100000 in
set_option maxHeartbeats 1000000 in
theorem rowReduce_no (p : Int) (cols : Int) (u : Value) (L : List (List Int)) (w : World) (ht : Tab w) (hv : MatV w u L) (hl : L.length ≤ 1000000) (hll : ∀ row ∈ L, row.length ≤ 1000000) (hb : matB p cols L = false) :
    Calls Tryd.prog 26 #[.int .i64 p, mxV cols u] w fun e w' => e = .returned (.tuple #[mxV 0 nilS, mxV 0 nilS, .bool false]) ∧ w.grownBy w' none := by
  have hsh := hv.shape
  have HIS := Lib.hid fun w1 (hg : w.grownBy w1 none) => isMatrix_any p cols u L w1 (ht.grown hg) (hv.carry hg) hl hll
  rw [hb] at HIS
  unfold mxV at *
  unfold nilS
  obtain ⟨ua, uc, rfl⟩ := hsh
  clear hv ht hb hll
  go_enter Tryd.func26, Tryd.ntmps26
  go_wp2_with (first
    | (go_at_call 117
       with_reducible refine (HIS.out _ ?_).mono ?_
       · exact ((grownBy_alloc _ _ none).trans (grownBy_alloc _ _ none)).trans (grownBy_alloc _ _ none)
       rintro e w1 ⟨rfl, hg1⟩
       have hbl := blk3 w _ _ _ hg1
       have HW1 := Lib.hid (grown_of_below (Below.grown ((((Below.refl _ w).alloc (Nat.le_refl _) _).alloc (by simp) _).alloc (by simp; omega) _) hg1 (by simp; omega) (by simp)))
       have c20 := cell_blk hbl.2.1 0
       have c21 := cell_blk hbl.2.1 1
       have c30 := cell_blk hbl.2.2.1 0
       have c31 := cell_blk hbl.2.2.1 1
       have f20 := free_blk hbl.2.1 0
       have f21 := free_blk hbl.2.1 1
       have f30 := free_blk hbl.2.2.1 0
       have f31 := free_blk hbl.2.2.1 1
       simp only [List.getElem?_toArray, List.getElem?_cons_zero, List.getElem?_cons_succ] at c20 c21 c30 c31
       clear hg1 hbl))
  refine bodyPost_ret_by (v := .tuple #[.agg #[.int .i64 0, .slice none 0 0], .agg #[.int .i64 0, .slice none 0 0], .bool false]) ?_ rfl ?_
  · simp [results, go_sem, *]
  · refine ⟨rfl, grown_of_below ?_⟩
    have h1 := Below.grown (Below.refl _ w) HW1.out (Nat.le_refl _) (by simp)
    exact h1.trans ((two_set _ _ _ _ _ _).below h1.size fun k hk => by omega)

theorem box1 (w : World) (cs : Array Value) (t : TypeId) {w' : World} (h : (w.alloc (.cells cs t)).grownBy w' none) : w'.heap[w.heap.size]? = some (.cells cs t (0, 0)) ∧ w.grownBy w' none :=
  ⟨(h.block _ (by simp) (by simp)).trans (alloc_heap_new w _), grown_of_below (Below.grown ((Below.refl _ w).alloc (Nat.le_refl _) _) h (by simp) (by simp))⟩

set_option maxRecDepth 100000 in
set_option maxHeartbeats 1000000 in
theorem rankOf_any (p : Nat) [NeZero p] (cols : Int) (u : Value) (L : List (List Int)) (w : World) (ht : Tab w) (hv : MatV w u L) (hl : L.length ≤ 1000000) (hll : ∀ row ∈ L, row.length ≤ 1000000) (hb : matB p cols L = true) :
    Calls Tryd.prog 32 #[.int .i64 p, mxV cols u] w fun e w' => e = .returned (.tuple #[.int .i64 (rankL p cols.toNat L), .bool true]) ∧ w.grownBy w' none := by
  obtain ⟨hfld, hp2, n, rfl, hn, hm, hL⟩ := matB_parts hb
  rw [Int.toNat_natCast]
  have hsh := hv.shape
  have HIS := Lib.hid fun w1 (hg : w.grownBy w1 none) => isMatrix_any p n u L w1 (ht.grown hg) (hv.carry hg) hl hll
  rw [hb] at HIS
  have HRD := Lib.hid fun w1 (hg : w.grownBy w1 none) => reduced_any p u L n w1 hfld hp2 (hv.carry hg) hL (by omega) (by omega)
  have hrl := reducedL_len hfld hL
  rw [hrl] at HRD
  unfold mxV at *
  obtain ⟨ua, uc, rfl⟩ := hsh
  clear hv ht hb hll
  go_enter Tryd.func32, Tryd.ntmps32
  go_wp2_with (first
    | (go_at_call 117
       with_reducible refine (HIS.out _ ?_).mono ?_
       · exact grownBy_alloc _ _ none
       rintro e w1 ⟨rfl, hg1⟩
       obtain ⟨hbl, hgw⟩ := box1 w _ _ hg1
       have HW1 := Lib.hid hgw
       have c0 := cell_blk hbl 0
       have c1 := cell_blk hbl 1
       simp only [List.getElem?_toArray, List.getElem?_cons_zero, List.getElem?_cons_succ] at c0 c1
       clear hg1 hbl hgw)
    | (go_at_call 126
       with_reducible refine (HRD.out _ HW1.out).mono ?_
       rintro e w2 ⟨v2, c2, rfl, hm2, hg2⟩
       have HW2 := Lib.hid (HW1.out.trans hg2)
       clear hm2 hg2))
  go_ret2
  exact ⟨rfl, HW2.out⟩

set_option maxRecDepth 100000 in
set_option maxHeartbeats 1000000 in
theorem kernelOf_any (p : Nat) [NeZero p] (cols : Int) (u : Value) (L : List (List Int)) (w : World) (ht : Tab w) (hv : MatV w u L) (hl : L.length ≤ 1000000) (hll : ∀ row ∈ L, row.length ≤ 1000000) (hb : matB p cols L = true) :
    Calls Tryd.prog 33 #[.int .i64 p, mxV cols u] w fun e w' => ∃ v c, e = .returned (.tuple #[.slice v (kernelL p cols.toNat L).length c, .bool true]) ∧ MatV w' (.slice v (kernelL p cols.toNat L).length c) (kernelL p cols.toNat L) ∧ w.grownBy w' none := by
  obtain ⟨hfld, hp2, n, rfl, hn, hm, hL⟩ := matB_parts hb
  rw [Int.toNat_natCast]
  have hsh := hv.shape
  have HIS := Lib.hid fun w1 (hg : w.grownBy w1 none) => isMatrix_any p n u L w1 (ht.grown hg) (hv.carry hg) hl hll
  rw [hb] at HIS
  have HRD := Lib.hid fun w1 (hg : w.grownBy w1 none) => kernel_any p u L n w1 hfld hp2 (hv.carry hg) hL (by omega) (by omega)
  generalize kernelL p n L = K at *
  generalize K.length = kl at *
  unfold mxV at *
  obtain ⟨ua, uc, rfl⟩ := hsh
  clear hv ht hb hll
  go_enter Tryd.func33, Tryd.ntmps33
  go_wp2_with (first
    | (go_at_call 117
       with_reducible refine (HIS.out _ ?_).mono ?_
       · exact grownBy_alloc _ _ none
       rintro e w1 ⟨rfl, hg1⟩
       obtain ⟨hbl, hgw⟩ := box1 w _ _ hg1
       have HW1 := Lib.hid hgw
       have c0 := cell_blk hbl 0
       have c1 := cell_blk hbl 1
       simp only [List.getElem?_toArray, List.getElem?_cons_zero, List.getElem?_cons_succ] at c0 c1
       clear hg1 hbl hgw)
    | (go_at_call 127
       with_reducible refine (HRD.out _ HW1.out).mono ?_
       rintro e w2 ⟨v2, c2, rfl, hm2, hg2⟩
       have HW2 := Lib.hid (HW1.out.trans hg2)
       have HM2 := Lib.hid hm2
       clear hm2 hg2))
  go_ret2
  exact ⟨v2, c2, rfl, HM2.out, HW2.out⟩

end Go.Proofs.YtpeaeminjbjlnaaDoor

/-
  Identities, combinations, products, inverses. Conditions: lengths are small.
-/
namespace Go.Proofs.YtpeaeminjbjlnaaDoor
open Go.RowKit
set_option linter.unusedVariables false

def combTo (p : Int) (x : List Int) (L : List (List Int)) (n : Nat) : Nat → List Int
  | 0 => List.replicate n 0
  | k + 1 => addT p (combTo p x L n k) (x.getD k 0) (L.getD k [])
theorem combTo_ok {p n : Nat} [NeZero p] {x : List Int} {L : List (List Int)} (hp : 1 < p) (hL : RowsOk p n L) : ∀ k, k ≤ L.length → VecOk p n (combTo p x L n k) := by
  intro k
  induction k with
  | zero =>
    intro _
    refine ⟨by simp [combTo], fun z hz => ?_⟩
    have := List.eq_of_mem_replicate hz
    omega
  | succ k ih =>
    intro hk
    exact addT_ok _ (ih (by omega)).1 (hL _ (getD_mem (show k < L.length by omega))).1

set_option maxRecDepth 100000 in
set_option maxHeartbeats 1000000 in
theorem combine_any (p : Nat) [NeZero p] (u v : Value) (x : List Int) (L : List (List Int)) (n : Nat) (w : World) (hp : 1 < p) (hp2 : p ≤ 1000) (hu : IntsV w u x) (hv : MatV w v L) (hxl : x.length = L.length) (hx : ∀ z ∈ x, 0 ≤ z ∧ z < p) (hL : RowsOk p n L) (hm : L.length ≤ 1000) (hn : n ≤ 1000) :
    Calls Tryd.prog 170 #[.int .i64 p, u, v, .int .i64 n] w fun e w' => ∃ o, e = .returned o ∧ OwnInts w.heap.size w' o (combTo p x L n L.length) ∧ w.grownBy w' none := by
  have HU := Lib.hid hu; have HV := Lib.hid hv; have HX := Lib.hid hx; have HL := Lib.hid hL
  have HOK := Lib.hid (combTo_ok (x := x) hp hL)
  obtain ⟨ua, uc, rfl, hui⟩ := hu
  obtain ⟨va, vc, rfl⟩ := hv.shape
  clear hv hx hL hui
  have HXL := Lib.hid hxl
  rw [hxl]
  clear hxl
  generalize hlen : L.length = m at *
  have HLEN := Lib.hid hlen
  clear hlen
  go_enter Tryd.func170, Tryd.ntmps170
  go_wp2_with (
    go_at_call 243
    refine (zeros_any n w (by omega)).mono ?_
    rintro e w1 ⟨o, rfl, ho, hg⟩
    obtain ⟨oa, oc, hoe⟩ := own_shape ho
    rw [List.length_replicate] at hoe
    subst hoe
    have HO1 := Lib.hid ho; have HG1 := Lib.hid hg
    clear ho hg)
  go_loopw [16] (fun i wr => ∃ k : Nat, k ≤ m ∧ i = .int .i64 k ∧ OwnInts w.heap.size wr (.slice oa n oc) (combTo p x L n k) ∧ Below w.heap.size w wr) (fun i _ => m - (intOf i).toNat)
  case atStart => exact ⟨0, by omega, rfl, HO1.out, Below.grown (Below.refl _ w) HG1.out (Nat.le_refl _) (by simp)⟩
  case round =>
    obtain ⟨k, hk, rfl, ho, hb⟩ := hrel
    have HO := Lib.hid ho; have HB := Lib.hid hb
    clear ho hb
    by_cases hlt : k < m
    · have hkl : k < L.length := by rw [HLEN.out]; exact hlt
      obtain ⟨d, r, c, rfl, hs, hd, hcell, hrow⟩ := HV.out.row hkl
      have hcell2 := (HB.out.cell (p := ⟨d.block, d.off + k, none⟩) hd).trans hcell
      clear hcell
      obtain ⟨db, dof, _⟩ := d
      simp only at hs hcell2
      subst hs
      have hkx : k < x.length := by rw [HXL.out]; exact hlt
      obtain ⟨xd, rfl, hs, hxd, hxc⟩ := HU.out.at hkx
      have hxc := (HB.out.cell (p := ⟨xd.block, xd.off + k, none⟩) hxd).trans hxc
      obtain ⟨xb, xof, _⟩ := xd
      simp only at hs hxc
      subst hs
      have hrok := HL.out _ (List.getElem_mem hkl)
      rw [hrok.1] at hcell2 hrow
      have hxz := HX.out _ (List.getElem_mem hkx)
      have hnext : combTo p x L n (k + 1) = addT p (combTo p x L n k) x[k] L[k] := by
        show addT p (combTo p x L n k) (x.getD k 0) (L.getD k []) = _
        rw [getD_lt hkx, getD_row hkl]
      have HN := Lib.hid hnext
      have hcok := HOK.out k hk
      have A := Lib.hid (addTimes_any p x[k] _ _ _ _ w.heap.size wr HO.out (hrow.carry (grown_of_below HB.out)) (fun hne q h1 h2 => by
        have h3 := (HO.out.lt q h1).1
        obtain ⟨d', hd', _, hlt', _⟩ : ∃ d' : Addr, r = some d' ∧ d'.spot = none ∧ d'.block < w.heap.size ∧ True := by
          obtain ⟨a', c', he, hi⟩ := hrow
          cases he
          have hne' : L[k] ≠ [] := by
            intro h
            exact hne (List.eq_nil_of_length_eq_zero (hcok.1.trans (by rw [h]; rfl)))
          obtain ⟨d', h4, h5, h6, _⟩ := hi hne'
          exact ⟨d', h4, h5, h6, trivial⟩
        subst hd'
        simp only [Value.blk', Option.some.injEq] at h2
        omega) (by rw [hcok.1, hrok.1]) (by rw [hcok.1]; omega) (by omega) (by omega) (by omega) (by omega) (fun z hz => by have := hcok.2 z hz; omega) (fun z hz => by have := hrok.2 z hz; omega))
      clear hnext hcok hrow hrok
      generalize x[k] = xk at *
      go_wp2_with (
        go_at_call 244
        with_reducible refine A.out.mono ?_
        rintro e w2 ⟨rfl, h1, h2⟩
        have H1 := Lib.hid h1; have H2 := Lib.hid h2
        clear h1 h2)
      go_roundw
      case rel => exact ⟨k + 1, by omega, by go_num, by rw [HN.out]; exact H1.out, HB.out.trans (H2.out.below HB.out.size fun q hq => (HO.out.lt q hq).1)⟩
      case measure => simp [intOf]; omega
    · have hkm : k = m := by omega
      subst hkm
      go_wp2
      go_ret
      exact ⟨_, rfl, HO.out, grown_of_below HB.out⟩

end Go.Proofs.YtpeaeminjbjlnaaDoor

/-
  Products of matrices. Conditions: lengths are small.
-/
namespace Go.Proofs.YtpeaeminjbjlnaaDoor
open Go.RowKit
set_option linter.unusedVariables false

/-- 'out = append(out, row)' as an operation of a region. -/
theorem step_app_row {ops : Array Oper} {o : Oper} {a : Act} {K : Act → World → Prop} {Q : Exit → Act → World → Prop} {E : Prop} (hgd : o.guard = none) (s x : Operand)
    (ho : o.op = .call { callee := .builtin .append, args := #[s, x], argTypes := #[37, 37] })
    {B : Nat} {w : World} {v u : Value} {vs : List Value} {L : List (List Int)} {zs : List Int} (hs : a.eval s = v) (hx : a.eval x = .slice (some ⟨w.heap.size, 0, none⟩) 1 1)
    (hown : OwnM B w v vs L) (hu : OwnInts B w u zs) (hua : ∀ i, Apart (vs.getD i nilS) u) (hB : B ≤ w.heap.size) (hl : L.length ≤ 1000000)
    (h : ∀ g cap w', OwnM B w' (.slice (some ⟨g, 0, none⟩) (L.length + 1) cap) (vs ++ [u]) (L ++ [zs]) → Only (Hits v) w w' → K (a.put o.dst (.slice (some ⟨g, 0, none⟩) (L.length + 1) cap)) w') :
    if Region.wanted o (yielded ops a.tmps) = true then Oper.wp Tryd.prog o a (w.alloc (.cells #[u] 24)) K Q else E := by
  obtain ⟨i0, hi, hz0, hz1, hz2⟩ := info_parts info_ints
  have hlen := hown.len
  have hgr := grownBy_alloc w (.cells #[u] 24) none
  have hown1 := hown.carry hgr
  have hu1 : OwnInts B (w.alloc (.cells #[u] 24)) u zs := hu.alloc _
  refine step_append_lies _ hgd s x 37 ho B 24 i0 (.slice none 0 0) 1 24 Tryd.underlying37 hi hz0 hz1 hz2 rfl (by decide) v vs.length vs hs hown1.out
    ⟨w.heap.size, 0, none⟩ 1 1 [u] hx rfl ?_ ?_ (by decide) (by unfold maxLen; omega) (by omega) (by simp; omega) _ rfl ?_
  · intro j u' hj
    match j, hj with
    | 0, hj =>
      simp at hj
      subst hj
      simp only [Addr.add, if_true, World.cell?]
      rw [alloc_heap_new]
      rfl
    | j + 1, hj => simp at hj
  · intro u' hu'
    simp at hu'
    subst hu'
    exact ints_one hu
  · intro g cap w1 hown' hgrow _ _
    have hon : Only (Hits v) (w.alloc (.cells #[u] 24)) w1 := Only.of_grown hgrow fun k hk => hk
    rw [hlen] at hown' ⊢
    refine h g cap w1 (OwnM.join hlen (fun i => (hown1.row i).only hon fun k hk hk' => ?_) hown.ap (hu1.only hon fun k hk hk' => ?_) hua (by simpa [hlen] using hown')) ?_
    · exact apart_types hown1.out (hown1.row i) (by decide) k hk' hk
    · exact apart_types hown1.out hu1 (by decide) k hk' hk
    · exact (Only.of_grown (S := Hits v) hgr (by simp)).trans hon

/-- the variables of times, laid one after another -/
theorem times_start (w : World) (c1 c2 : Array Value) (n : Int) :
    let w0 := ((((w.alloc (.cells c1 39)).alloc (.cells c2 39)).alloc (.cells #[.int .i64 0, .slice none 0 0] 39)).alloc (.cells #[] 24)).alloc (.cells #[.int .i64 n, .slice (some ⟨w.heap.size + 1 + 1 + 1, 0, none⟩) 0 0] 39)
    w0.heap[w.heap.size]? = some (.cells c1 39 (0, 0)) ∧ w0.heap[w.heap.size + 1]? = some (.cells c2 39 (0, 0)) ∧ w0.heap[w.heap.size + 1 + 1]? = some (.cells #[.int .i64 0, .slice none 0 0] 39 (0, 0)) ∧
    w0.heap[w.heap.size + 1 + 1 + 1 + 1]? = some (.cells #[.int .i64 n, .slice (some ⟨w.heap.size + 1 + 1 + 1, 0, none⟩) 0 0] 39 (0, 0)) ∧
    OwnM (w.heap.size + 1 + 1 + 1) w0 (.slice (some ⟨w.heap.size + 1 + 1 + 1, 0, none⟩) 0 0) [] [] ∧ w.grownBy w0 none ∧ w0.heap.size = w.heap.size + 1 + 1 + 1 + 1 + 1 := by
  have hb := blk3 w (.cells c1 39) (.cells c2 39) (.cells #[.int .i64 0, .slice none 0 0] 39) (grownBy_refl _ none)
  have hg : w.grownBy (((w.alloc (.cells c1 39)).alloc (.cells c2 39)).alloc (.cells #[.int .i64 0, .slice none 0 0] 39)) none :=
    ((grownBy_alloc _ _ none).trans (grownBy_alloc _ _ none)).trans (grownBy_alloc _ _ none)
  have hs : (((w.alloc (.cells c1 39)).alloc (.cells c2 39)).alloc (.cells #[.int .i64 0, .slice none 0 0] 39)).heap.size = w.heap.size + 1 + 1 + 1 := by simp
  intro w0
  have hw0 : w0 = ((((w.alloc (.cells c1 39)).alloc (.cells c2 39)).alloc (.cells #[.int .i64 0, .slice none 0 0] 39)).alloc (.cells #[] 24)).alloc (.cells #[.int .i64 n, .slice (some ⟨w.heap.size + 1 + 1 + 1, 0, none⟩) 0 0] 39) := rfl
  clear_value w0
  generalize ((w.alloc (.cells c1 39)).alloc (.cells c2 39)).alloc (.cells #[.int .i64 0, .slice none 0 0] 39) = w3 at *
  subst hw0
  have hm := World.ownsRow_made (e := 24) (base := w.heap.size + 1 + 1 + 1) (size := 1) w3 #[] 0 (by omega) (by unfold maxLen; omega) rfl
  rw [hs] at hm
  have ho := (OwnM.start hm).carry (grownBy_alloc _ (.cells #[.int .i64 n, .slice (some ⟨w.heap.size + 1 + 1 + 1, 0, none⟩) 0 0] 39) none)
  have s4 : (w3.alloc (.cells #[] 24)).heap.size = w.heap.size + 1 + 1 + 1 + 1 := by rw [← hs]; simp
  have e4 := alloc_heap_new (w3.alloc (.cells #[] 24)) (.cells #[.int .i64 n, .slice (some ⟨w.heap.size + 1 + 1 + 1, 0, none⟩) 0 0] 39)
  rw [s4] at e4
  have g5 := World.grownBy.trans (grownBy_alloc w3 (.cells #[] 24) none) (grownBy_alloc (w3.alloc (.cells #[] 24)) (.cells #[.int .i64 n, .slice (some ⟨w.heap.size + 1 + 1 + 1, 0, none⟩) 0 0] 39) none)
  refine ⟨(g5.block _ (by omega) (by simp)).trans hb.1, (g5.block _ (by omega) (by simp)).trans hb.2.1, (g5.block _ (by omega) (by simp)).trans hb.2.2.1, e4, ho, hg.trans g5, ?_⟩
  rw [← s4]
  simp

theorem one_set {w : World} (b : Nat) (x y : Value) : Only (fun k => k = b) w ((w.setCell ⟨b, 0, none⟩ x).setCell ⟨b, 1, none⟩ y) :=
  ⟨rfl, rfl, rfl, by simp [World.setCell], fun k _ hn => by
    rw [Below.heap_setCell _ _ _ _ hn, Below.heap_setCell _ _ _ _ hn]⟩
theorem lt_of_blk {w : World} {b : Nat} {o : Obj} (h : w.heap[b]? = some o) : b < w.heap.size := by
  rcases Nat.lt_or_ge b w.heap.size with h' | h'
  · exact h'
  · rw [Array.getElem?_eq_none h'] at h; cases h
theorem cell_alloc {w : World} {a : Addr} {u : Value} (h : w.cell? a = some u) (o : Obj) : (w.alloc o).cell? a = some u :=
  (World.cell?_of_block (w := w) (alloc_heap_old w o a.block (World.block_lt_of_cell? w a h))).trans h
theorem alloc3 {w : World} {a b c : Addr} {x y z : Value} {o : Obj} (h : w.cell? a = some x ∧ w.cell? b = some y ∧ w.cell? c = some z) : (w.alloc o).cell? a = some x ∧ (w.alloc o).cell? b = some y ∧ (w.alloc o).cell? c = some z :=
  ⟨cell_alloc h.1 o, cell_alloc h.2.1 o, cell_alloc h.2.2 o⟩
theorem times_keep1 {B b : Nat} {cs : Array Value} {w2 w3 : World} {v : Value} {vs : List Value} {T : List (List Int)} (e2 : w2.heap[b]? = some (.cells cs 39 (0, 0)))
    (ho : OwnM B w2 v vs T) (hon : Only (Hits v) w2 w3) : w3.heap[b]? = some (.cells cs 39 (0, 0)) := by
  refine (hon.block b (lt_of_blk e2) fun hh => ?_).trans e2
  obtain ⟨cur, hc⟩ := own_block ho.out hh
  rw [e2] at hc
  simp at hc
theorem foot_ne {B b : Nat} {w : World} {cs : Array Value} {v : Value} {vs : List Value} {T : List (List Int)} (h : w.heap[b]? = some (.cells cs 39 (0, 0))) (ho : OwnM B w v vs T) : ¬ Foot v vs b := by
  rintro (hh | ⟨x, hx, hh⟩)
  · obtain ⟨cur, hc⟩ := own_block ho.out hh
    rw [h] at hc
    simp at hc
  · obtain ⟨i, hi, rfl⟩ := List.getElem_of_mem hx
    have hr := ho.row i
    rw [List.getD_eq_getElem?_getD, List.getElem?_eq_getElem hi] at hr
    obtain ⟨cur, hc⟩ := own_block hr hh
    rw [h] at hc
    simp at hc
theorem set_only (w : World) (a : Addr) (x : Value) : Only (fun k => k = a.block) w (w.setCell a x) :=
  ⟨rfl, rfl, rfl, by simp [World.setCell], fun k _ hn => Below.heap_setCell _ _ _ _ hn⟩
theorem times_fin {B b : Nat} {w3 : World} {n : Int} {old x : Value} {vs : List Value} {T : List (List Int)} (h : w3.heap[b]? = some (.cells #[.int .i64 n, old] 39 (0, 0))) (ho : OwnM B w3 x vs T) :
    (w3.setCell ⟨b, 1, none⟩ x).heap[b]? = some (.cells #[.int .i64 n, x] 39 (0, 0)) ∧ OwnM B (w3.setCell ⟨b, 1, none⟩ x) x vs T := by
  refine ⟨?_, ho.only (set_only w3 ⟨b, 1, none⟩ x) fun k hk hk' => ?_⟩
  · simp only [World.setCell]
    rw [Array.getElem?_modify, if_pos rfl, h]
    rfl
  · simp only at hk'
    subst hk'
    exact foot_ne h ho hk
theorem times_below {b3 b4 : Nat} {w0 wr w2 w3 : World} {v x : Value} {vs : List Value} {T : List (List Int)} (hb : Below b3 w0 wr) (hs : b3 ≤ wr.drew.heap.size) (hg : wr.drew.grownBy w2 none) (ho : OwnM b3 w2 v vs T) (hon : Only (Hits v) w2 w3) (h4 : b3 ≤ b4) :
    Below b3 w0 (w3.setCell ⟨b4, 1, none⟩ x) :=
  (((hb.drew.grown hg hs (by simp)).trans (Only.below' ho hon (Nat.le_trans hs hg.size))).trans ((set_only w3 ⟨b4, 1, none⟩ x).below (Nat.le_trans (Nat.le_trans hs hg.size) hon.size) fun k hk => by simp only at hk; omega))
/-- the variable that holds the rows stays as it is, whatever is appended to the rows -/
theorem times_keep {B b k : Nat} {n : Int} {wr w2 w3 : World} {oa : Option Addr} {oc : Nat} {vs : List Value} {T : List (List Int)} (h4 : wr.heap[b]? = some (.cells #[.int .i64 n, .slice oa k oc] 39 (0, 0)))
    (hg : wr.drew.grownBy w2 none) (ho : OwnM B w2 (.slice oa k oc) vs T) (hon : Only (Hits (.slice oa k oc)) w2 w3) : w3.heap[b]? = some (.cells #[.int .i64 n, .slice oa k oc] 39 (0, 0)) := by
  have hlt : b < wr.heap.size := by
    rcases Nat.lt_or_ge b wr.heap.size with h | h
    · exact h
    · rw [Array.getElem?_eq_none h] at h4; cases h4
  have e2 : w2.heap[b]? = some (.cells #[.int .i64 n, .slice oa k oc] 39 (0, 0)) := (hg.block b hlt (by simp)).trans h4
  refine (hon.block b (Nat.lt_of_lt_of_le hlt hg.size) fun hh => ?_).trans e2
  obtain ⟨cur, hc⟩ := own_block ho.out hh
  rw [e2] at hc
  simp at hc
def timesL (p : Int) (A L : List (List Int)) (n : Nat) : List (List Int) := A.map fun row => combTo p row L n L.length

set_option maxRecDepth 100000 in
set_option maxHeartbeats 1000000 in
theorem times_any (p : Nat) [NeZero p] (ca : Int) (n : Nat) (u v : Value) (A L : List (List Int)) (w : World) (hp : 1 < p) (hp2 : p ≤ 1000) (hu : MatV w u A) (hv : MatV w v L) (hA : RowsOk p L.length A) (hL : RowsOk p n L) (ha : A.length ≤ 1000) (hm : L.length ≤ 1000) (hn : n ≤ 1000) :
    Calls Tryd.prog 123 #[.int .i64 p, mxV ca u, mxV n v] w fun e w' => ∃ o vs, e = .returned (mxV n o) ∧ OwnM w.heap.size w' o vs (timesL p A L n) ∧ w.grownBy w' none := by
  obtain ⟨ua, uc, rfl⟩ := hu.shape
  obtain ⟨va, vc, rfl⟩ := hv.shape
  have HU := Lib.hid hu; have HV := Lib.hid hv; have HA := Lib.hid hA; have HL := Lib.hid hL
  have HCB := Lib.hid fun (row : List Int) (r : Value) (w1 : World) (hg : w.grownBy w1 none) (hr : IntsV w r row) (hok : VecOk p L.length row) => combine_any p r _ row L n w1 hp hp2 (hr.carry hg) (hv.carry hg) hok.1 hok.2 hL hm hn
  clear hu hv hA hL
  unfold mxV at *
  generalize hla : A.length = la at *
  have HLA := Lib.hid hla
  clear hla
  go_enter Tryd.func123, Tryd.ntmps123
  go_wp2_with fail
  have hw0 := times_start w #[.int .i64 ca, .slice ua la uc] #[.int .i64 n, .slice va L.length vc] (n : Int)
  generalize ((((w.alloc (.cells #[.int .i64 ca, .slice ua la uc] 39)).alloc (.cells #[.int .i64 n, .slice va L.length vc] 39)).alloc (.cells #[.int .i64 0, .slice none 0 0] 39)).alloc (.cells #[] 24)).alloc
    (.cells #[.int .i64 n, .slice (some ⟨w.heap.size + 1 + 1 + 1, 0, none⟩) 0 0] 39) = w0 at *
  obtain ⟨g0, g1, g2, g4, gow, ggr, gsz⟩ := hw0
  have G0 := Lib.hid g0; have G1 := Lib.hid g1; have G2 := Lib.hid g2; have G4 := Lib.hid g4; have GO := Lib.hid gow; have GG := Lib.hid ggr; have GS := Lib.hid gsz
  clear g0 g1 g2 g4 gow ggr gsz
  generalize hbe : w.heap.size = b at *
  have HBE := Lib.hid hbe
  clear hbe
  go_loopw [17] (fun i wr => ∃ (k : Nat) (oa : Option Addr) (oc : Nat) (vs : List Value), k ≤ la ∧ i = .int .i64 k ∧ wr.heap[b + 1 + 1 + 1 + 1]? = some (.cells #[.int .i64 n, .slice oa k oc] 39 (0, 0)) ∧
      OwnM (b + 1 + 1 + 1) wr (.slice oa k oc) vs ((timesL p A L n).take k) ∧ Below (b + 1 + 1 + 1) w0 wr) (fun i _ => la - (intOf i).toNat)
  case atStart => exact ⟨0, _, _, [], by omega, rfl, G4.out, GO.out, Below.refl _ _⟩
  case round =>
    obtain ⟨k, oa, oc, vs, hk, rfl, h4, hown, hbel⟩ := hrel
    have H4 := Lib.hid h4; have HO := Lib.hid hown; have HB := Lib.hid hbel
    have hszr := hbel.size
    have d0 := (hbel.block b (by omega)).trans G0.out
    have d1 := (hbel.block (b + 1) (by omega)).trans G1.out
    have hgr : w.grownBy wr none := grown_of_below ((Below.grown (Below.refl _ w) GG.out (Nat.le_refl _) (by simp)).trans (hbel.mono (by rw [HBE.out]; omega)))
    have HGR := Lib.hid hgr
    clear hown hbel
    by_cases hlt : k < la
    · have hka : k < A.length := by rw [HLA.out]; exact hlt
      obtain ⟨d, r, c, hae, hs, hd, hcell, hrow⟩ := HU.out.row hka
      have hrok := HA.out _ (List.getElem_mem hka)
      have hcell2 := (World.cell?_of_block (w := w) (a := ⟨d.block, d.off + k, none⟩) (hgr.block d.block hd (by simp))).trans hcell
      subst hae
      obtain ⟨db, dof, _⟩ := d
      simp only at hs hcell2
      subst hs
      have hnext : (timesL p A L n).take (k + 1) = (timesL p A L n).take k ++ [combTo p A[k] L n L.length] := by
        have : k < (timesL p A L n).length := by unfold timesL; rw [List.length_map]; exact hka
        rw [← take_push this]
        simp [timesL]
      have HN := Lib.hid hnext
      have hlk : ((timesL p A L n).take k).length = k := by rw [List.length_take]; unfold timesL; rw [List.length_map, HLA.out]; omega
      have HLK := Lib.hid hlk
      rw [hrok.1] at hcell2 hrow
      have HC := Lib.hid fun w' (h : w.grownBy w' none) => HCB.out A[k] _ w' h hrow hrok
      have c41 := cell_blk h4 1
      have c11 := cell_blk d1 1
      have c10 := cell_blk d1 0
      simp only [List.getElem?_toArray, List.getElem?_cons_zero, List.getElem?_cons_succ] at c41 c11 c10
      have hgd : w.grownBy wr.drew none := ⟨hgr.os, hgr.tape, hgr.output, hgr.size, hgr.block⟩
      have HGD := Lib.hid hgd
      have D1 := Lib.hid d1
      have hszr2 : b + 1 + 1 + 1 ≤ wr.drew.heap.size := by have := GS.out; show _ ≤ wr.heap.size; omega
      clear hnext hlk hrow hrok hcell hgd hgr d0 d1 h4
      generalize A[k] = row at *
      go_wp2_with fail
      go_region_law
        (first
        | (go_simp
           go_at_call 170
           refine (HC.out _ HGD.out).mono ?_
           rintro e w2 ⟨o, rfl, ho, hg⟩
           obtain ⟨oa2, oc2, hoe⟩ := own_shape ho
           subst hoe
           have A1 := Lib.hid (after_row (HO.out.only (Only.drew (fun _ => False) wr) (fun _ _ h => h)) hszr2 (ho) hg)
           have HG2 := Lib.hid hg
           have q4 := (hg.block (b + 1 + 1 + 1 + 1) (lt_of_blk (w := wr.drew) H4.out) (by simp)).trans H4.out
           have q1 := (hg.block (b + 1) (lt_of_blk (w := wr.drew) D1.out) (by simp)).trans D1.out
           have Q1 := Lib.hid q1
           have q41 := cell_blk q4 1
           have q11 := cell_blk q1 1
           have q10 := cell_blk q1 0
           simp only [List.getElem?_toArray, List.getElem?_cons_zero, List.getElem?_cons_succ] at q41 q11 q10
           have z41 := fun o => cell_alloc q41 o
           clear ho hg q1 q4)
        | (refine step_app_row rfl _ _ rfl rfl rfl A1.out.1 A1.out.2.1 A1.out.2.2.1 A1.out.2.2.2 (by rw [HLK.out]; omega) ?_
           intro g3 vc3 w3 hown' hon'
           rw [HLK.out] at hown' ⊢
           have HO3 := Lib.hid hown'; have HN3 := Lib.hid hon'
           have h43 := times_keep H4.out HG2.out A1.out.1 hon'
           have H43 := Lib.hid h43
           have h13 := times_keep1 Q1.out A1.out.1 hon'
           have c43 := cell_blk h43 1
           have f43 := free_blk h43 1
           have r11 := cell_blk h13 1
           have r10 := cell_blk h13 0
           simp only [List.getElem?_toArray, List.getElem?_cons_zero, List.getElem?_cons_succ] at c43 r11 r10
           clear hown' hon' h43 h13))
      all_goals
        have FIN := Lib.hid (times_fin (x := .slice (some ⟨g3, 0, none⟩) (k + 1) vc3) H43.out HO3.out)
        have FB := Lib.hid (times_below HB.out hszr2 HG2.out A1.out.1 HN3.out (b4 := b + 1 + 1 + 1 + 1) (x := .slice (some ⟨g3, 0, none⟩) (k + 1) vc3) (by omega))
        clear c43 f43 r11 r10 q41 q11 q10 z41
        go_wp2
        go_roundw
        case rel => exact ⟨k + 1, _, _, _, by omega, by go_num, FIN.out.1, by rw [HN.out]; exact FIN.out.2, FB.out⟩
        case measure => simp [intOf]; omega
    · have hkm : k = la := by omega
      subst hkm
      have hall : (timesL p A L n).take k = timesL p A L n := List.take_of_length_le (by unfold timesL; rw [List.length_map, HLA.out]; exact Nat.le_refl _)
      have HALL := Lib.hid hall
      have e2 := (HB.out.block (b + 1 + 1) (by have := GS.out; omega)).trans G2.out
      have c40 := cell_blk h4 0
      have c41 := cell_blk h4 1
      have c20 := cell_blk e2 0
      have c21 := cell_blk e2 1
      have f20 := free_blk e2 0
      have f21 := free_blk e2 1
      simp only [List.getElem?_toArray, List.getElem?_cons_zero, List.getElem?_cons_succ] at c40 c41 c20 c21
      clear d0 d1 h4 hgr hall e2
      go_wp2
      refine bodyPost_ret_by (v := .agg #[.int .i64 n, .slice oa k oc]) ?_ rfl ?_
      · simp [results, go_sem, *]
      · have o5 := one_set (w := wr) (b + 1 + 1) (.int .i64 n) (.slice oa k oc)
        refine ⟨_, vs, rfl, ?_, ?_⟩
        · have := HO.out
          rw [HALL.out] at this
          exact (this.only o5 fun q hq hq' => by have := (HO.out.lt (by exact hq)).1; omega).base (by rw [HBE.out]; omega)
        · exact grown_of_below ((Below.grown (Below.refl _ w) HGR.out (Nat.le_refl _) (by simp)).trans (o5.below HGR.out.size fun q hq => by rw [HBE.out]; omega))

end Go.Proofs.YtpeaeminjbjlnaaDoor

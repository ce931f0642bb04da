/-
  Products that are checked. Conditions: lengths are small.
-/
import Derived.Test.YtpeaeminjbjlnaaDoorMs07
namespace Go.Proofs.YtpeaeminjbjlnaaDoor
open Go.RowKit
set_option linter.unusedVariables false

set_option maxRecDepth 100000 in
set_option maxHeartbeats 1000000 in
theorem mulMatrices_yes (p : Nat) [NeZero p] (ca cb : Int) (u v : Value) (A L : List (List Int)) (w : World) (ht : Tab w) (hu : MatV w u A) (hv : MatV w v L) (hA : matB p ca A = true) (hL : matB p cb L = true) (hc : ca = L.length) :
    Calls Tryd.prog 29 #[.int .i64 p, mxV ca u, mxV cb v] w fun e w' => ∃ o, e = .returned (.tuple #[mxV cb o, .bool true]) ∧ MatV w' o (timesL p A L cb.toNat) ∧ w.grownBy w' none := by
  obtain ⟨hfld, hp2, n1, rfl, hn1, hm1, hA'⟩ := matB_parts hA
  obtain ⟨_, _, n, rfl, hn, hm, hL'⟩ := matB_parts hL
  have hc' : n1 = L.length := by omega
  subst hc'
  rw [Int.toNat_natCast]
  have HI1 := Lib.hid fun w1 (hg : w.grownBy w1 none) => isMatrix_any p (L.length : Int) u A w1 (ht.grown hg) (hu.carry hg) (by omega) (fun row hrow => by rw [(hA' row hrow).1]; omega)
  have HI2 := Lib.hid fun w1 (hg : w.grownBy w1 none) => isMatrix_any p (n : Int) v L w1 (ht.grown hg) (hv.carry hg) (by omega) (fun row hrow => by rw [(hL' row hrow).1]; omega)
  rw [hA] at HI1
  rw [hL] at HI2
  have HT := Lib.hid fun w1 (hg : w.grownBy w1 none) => times_any p (L.length : Int) n u v A L w1 (lt_p hfld) hp2 (hu.carry hg) (hv.carry hg) hA' hL' (by omega) (by omega) (by omega)
  obtain ⟨ua, uc, rfl⟩ := hu.shape
  obtain ⟨va, vc, rfl⟩ := hv.shape
  clear hu hv hA hL hA' hL' ht hc hfld
  unfold mxV at *
  go_enter Tryd.func29, Tryd.ntmps29
  go_wp2_with (first
      | (go_at_call 117
         with_reducible refine (HI1.out _ ?_).mono ?_
         · exact ((grownBy_alloc _ _ none).trans (grownBy_alloc _ _ none)).trans (grownBy_alloc _ _ none)
         rintro e w1 ⟨rfl, hg1⟩
         obtain ⟨b1, b2, b3, b4⟩ := blk3 w _ _ _ hg1
         have HW1 := Lib.hid (grown_of_below (Below.grown ((((Below.refl _ w).alloc (Nat.le_refl _) _).alloc (by simp) _).alloc (by simp; omega) _) hg1 (by simp; omega) (by simp)))
         have c10 := cell_blk b1 0
         have c11 := cell_blk b1 1
         have c20 := cell_blk b2 0
         have c21 := cell_blk b2 1
         simp only [List.getElem?_toArray, List.getElem?_cons_zero, List.getElem?_cons_succ] at c10 c11 c20 c21
         have B1 := Lib.hid b1; have B2 := Lib.hid b2; have B3 := Lib.hid b3; have B4 := Lib.hid b4
         clear hg1 b1 b2 b3 b4)
      | (go_at_call 117
         with_reducible refine (HI2.out _ HW1.out).mono ?_
         rintro e w2 ⟨rfl, hg2⟩
         have b1 := (hg2.block _ (lt_of_blk B1.out) (by simp)).trans B1.out
         have b2 := (hg2.block _ (lt_of_blk B2.out) (by simp)).trans B2.out
         have b3 := (hg2.block _ (lt_of_blk B3.out) (by simp)).trans B3.out
         have HW2 := Lib.hid (HW1.out.trans hg2)
         have d10 := cell_blk b1 0
         have d11 := cell_blk b1 1
         have d20 := cell_blk b2 0
         have d21 := cell_blk b2 1
         simp only [List.getElem?_toArray, List.getElem?_cons_zero, List.getElem?_cons_succ] at d10 d11 d20 d21
         have E3 := Lib.hid b3
         have hsz2 := Lib.hid (lt_of_blk b3)
         clear hg2 b1 b2 b3)
      | (go_at_call 123
         with_reducible refine (HT.out _ HW2.out).mono ?_
         rintro e w3 ⟨o, ovs, rfl, ho, hg3⟩
         have b3 := (hg3.block _ (lt_of_blk E3.out) (by simp)).trans E3.out
         have HW3 := Lib.hid (HW2.out.trans hg3)
         obtain ⟨oa, oc, hoe, _, _⟩ := own_form ho
         subst hoe
         have HO := Lib.hid ho
         have e30 := cell_blk b3 0
         have e31 := cell_blk b3 1
         have f30 := free_blk b3 0
         have f31 := free_blk b3 1
         simp only [List.getElem?_toArray, List.getElem?_cons_zero, List.getElem?_cons_succ] at e30 e31
         clear hg3 ho b3))
  refine bodyPost_ret_by (v := .tuple #[.agg #[.int .i64 n, .slice oa (timesL p A L n).length oc], .bool true]) ?_ rfl ?_
  · simp [results, go_sem, *]
  · have o5 := one_set (w := w3) (w.heap.size + 1 + 1) (.int .i64 n) (.slice oa (timesL p A L n).length oc)
    refine ⟨_, rfl, (HO.out.only o5 fun q hq hq' => by have h1 := (HO.out.lt hq).1; have h2 := hsz2.out; omega).read, ?_⟩
    exact grown_of_below ((Below.grown (Below.refl _ w) HW3.out (Nat.le_refl _) (by simp)).trans (o5.below HW3.out.size fun q hq => by omega))

end Go.Proofs.YtpeaeminjbjlnaaDoor

/-
  Identities, squares, inverses. Conditions: lengths are small.
-/
namespace Go.Proofs.YtpeaeminjbjlnaaDoor
open Go.RowKit
set_option linter.unusedVariables false

theorem isSquare_any (cols : Int) (v : Value) (L : List (List Int)) (w : World) (hv : MatV w v L) (hl : L.length ≤ 1000000) :
    Calls Tryd.prog 124 #[mxV cols v] w fun e w' => e = .returned (.bool (decide ((L.length : Int) = cols))) ∧ w.grownBy w' none := by
  unfold mxV
  obtain ⟨a, c, rfl⟩ := hv.shape
  clear hv
  by_cases h : (L.length : Int) = cols
  · have hd : decide ((L.length : Int) = cols) = true := decide_eq_true h
    have hb : ((L.length : Int) == cols) = true := by rw [beq_iff_eq]; exact h
    have HD := Lib.hid hd
    clear hd h
    generalize L.length = l at *
    go_enter Tryd.func124, Tryd.ntmps124
    go_wp2
    go_ret
    exact ⟨by rw [HD.out]; rfl, grownBy_alloc _ _ _⟩
  · have hd : decide ((L.length : Int) = cols) = false := decide_eq_false h
    have hb : ((L.length : Int) == cols) = false := by rw [beq_eq_false_iff_ne]; exact h
    have HD := Lib.hid hd
    clear hd h
    generalize L.length = l at *
    go_enter Tryd.func124, Tryd.ntmps124
    go_wp2
    go_ret
    exact ⟨by rw [HD.out]; rfl, grownBy_alloc _ _ _⟩

set_option maxRecDepth 100000 in
theorem identity_any (n : Nat) (w : World) (hn : n ≤ 24) :
    Calls Tryd.prog 31 #[.int .i64 n] w fun e w' => ∃ o, e = .returned (.tuple #[mxV n o, .bool true]) ∧ MatV w' o (idL n) ∧ w.grownBy w' none := by
  unfold mxV
  have hd : decide ((0 : Int) ≤ n ∧ (n : Int) ≤ 24) = true := decide_eq_true (by omega)
  have HD := Lib.hid hd
  clear hd
  go_enter Tryd.func31, Tryd.ntmps31
  go_wp2_with (first
    | (go_at_call 125; refine (within_any _ _ _ _).mono ?_; rintro e w' ⟨he, rfl⟩; rw [HD.out] at he; subst he)
    | (go_at_call 119
       refine (identityRows_any n _ (by omega)).mono ?_
       rintro e w1 ⟨o, vs, rfl, ho, hg⟩
       obtain ⟨oa, oc, hoe, _, _⟩ := own_form ho
       rw [idL_len] at hoe
       subst hoe
       obtain ⟨hbl, hgw⟩ := box1 w _ _ hg
       have HO := Lib.hid ho; have HG := Lib.hid hgw
       have HS := Lib.hid (show w.heap.size + 1 ≤ (w.alloc (.cells #[.int .i64 0, .slice none 0 0] 39)).heap.size by simp)
       have c0 := cell_blk hbl 0
       have c1 := cell_blk hbl 1
       have f0 := free_blk hbl 0
       have f1 := free_blk hbl 1
       simp only [List.getElem?_toArray, List.getElem?_cons_zero, List.getElem?_cons_succ] at c0 c1
       clear ho hg hbl hgw))
  refine bodyPost_ret_by (v := .tuple #[.agg #[.int .i64 n, .slice oa n oc], .bool true]) ?_ rfl ?_
  · simp [results, go_sem, *]
  · have o5 := one_set (w := w1) w.heap.size (.int .i64 n) (.slice oa n oc)
    refine ⟨_, rfl, (HO.out.only o5 fun q hq hq' => by have h1 := (HO.out.lt hq).1; have h2 := HS.out; omega).read, ?_⟩
    exact grown_of_below ((Below.grown (Below.refl _ w) HG.out (Nat.le_refl _) (by simp)).trans (o5.below HG.out.size fun q hq => by omega))

end Go.Proofs.YtpeaeminjbjlnaaDoor

/-
  Inverses. Conditions: lengths are small; the rank is whole.
-/
namespace Go.Proofs.YtpeaeminjbjlnaaDoor
open Go.RowKit
set_option linter.unusedVariables false

theorem blk2 (w : World) (o1 o2 : Obj) {w' : World} (h : ((w.alloc o1).alloc o2).grownBy w' none) :
    w'.heap[w.heap.size]? = some o1 ∧ w'.heap[w.heap.size + 1]? = some o2 ∧ w.heap.size + 1 + 1 ≤ w'.heap.size := by
  have s1 : (w.alloc o1).heap.size = w.heap.size + 1 := by simp
  have s2 : ((w.alloc o1).alloc o2).heap.size = w.heap.size + 1 + 1 := by simp
  have e1 := alloc_heap_new w o1
  have e2 := alloc_heap_new (w.alloc o1) o2
  have f1 := alloc_heap_old (w.alloc o1) o2 w.heap.size (by omega)
  rw [s1] at e2
  refine ⟨?_, ?_, by rw [← s2]; exact h.size⟩
  · rw [h.block _ (by omega) (by simp), f1, e1]
  · rw [h.block _ (by omega) (by simp), e2]

set_option maxRecDepth 100000 in
set_option maxHeartbeats 1000000 in
theorem inverseOf_yes (p n : Nat) [NeZero p] (u : Value) (L : List (List Int)) (w : World) (ht : Tab w) (hv : MatV w u L) (hb : matB p n L = true) (hsq : L.length = n) (hrank : (redTo p L (idL n) n).r = n) :
    Calls Tryd.prog 30 #[.int .i64 p, mxV n u] w fun e w' => ∃ o, e = .returned (.tuple #[mxV n o, .bool true]) ∧ MatV w' o (redTo p L (idL n) n).T ∧ w.grownBy w' none := by
  obtain ⟨hfld, hp2, n', hn', hn, hm, hL⟩ := matB_parts hb
  have : n' = n := by omega
  subst this
  have hsh := hv.shape
  have HIS := Lib.hid fun w1 (hg : w.grownBy w1 none) => isMatrix_any p n' u L w1 (ht.grown hg) (hv.carry hg) (by omega) (fun row hrow => by rw [(hL row hrow).1]; omega)
  rw [hb] at HIS
  have HSQ := Lib.hid fun w1 (hg : w.grownBy w1 none) => isSquare_any n' u L w1 (hv.carry hg) (by omega)
  rw [show decide ((L.length : Int) = n') = true from decide_eq_true (by omega)] at HSQ
  have HCL := Lib.hid fun w1 (hg : w.grownBy w1 none) => clones_any u L w1 (hv.carry hg) (by omega) (fun row hrow => by rw [(hL row hrow).1]; omega)
  unfold mxV at *
  rw [hsq] at hsh
  obtain ⟨ua, uc, rfl⟩ := hsh
  have HLEN := Lib.hid hsq
  clear hv ht hb hsq hn'
  go_enter Tryd.func30, Tryd.ntmps30
  go_wp2_with (first
    | (go_at_call 117
       with_reducible refine (HIS.out _ ?_).mono ?_
       · exact (grownBy_alloc _ _ none).trans (grownBy_alloc _ _ none)
       rintro e w1 ⟨rfl, hg1⟩
       obtain ⟨b1, b2, b3⟩ := blk2 w _ _ hg1
       have HW1 := Lib.hid (((grownBy_alloc w _ none).trans (grownBy_alloc _ _ none)).trans hg1)
       have c0 := cell_blk b1 0
       have c1 := cell_blk b1 1
       simp only [List.getElem?_toArray, List.getElem?_cons_zero, List.getElem?_cons_succ] at c0 c1
       have B1 := Lib.hid b1; have B2 := Lib.hid b2; have B3 := Lib.hid b3
       clear hg1 b1 b2 b3)
    | (go_at_call 124
       with_reducible refine (HSQ.out _ HW1.out).mono ?_
       rintro e w2 ⟨rfl, hg2⟩
       have b1 := (hg2.block _ (lt_of_blk B1.out) (by simp)).trans B1.out
       have b2 := (hg2.block _ (lt_of_blk B2.out) (by simp)).trans B2.out
       have HW2 := Lib.hid (HW1.out.trans hg2)
       have d0 := cell_blk b1 0
       have d1 := cell_blk b1 1
       simp only [List.getElem?_toArray, List.getElem?_cons_zero, List.getElem?_cons_succ] at d0 d1
       have D1 := Lib.hid b1; have D2 := Lib.hid b2
       clear hg2 b1 b2))
  have HWD := Lib.hid (show w.grownBy w2.drew none from ⟨HW2.out.os, HW2.out.tape, HW2.out.output, HW2.out.size, HW2.out.block⟩)
  have hb2 := lt_of_blk D2.out
  generalize hbe : w.heap.size = b at *
  have HBE := Lib.hid hbe
  clear hbe
  go_region_held3 (fun w' => w'.cell? ⟨b, 1, none⟩ = some (.slice ua n' uc) ∧ w'.cell? ⟨b, 0, none⟩ = some (.int .i64 n')) (first | exact ⟨d1, d0⟩ | exact ⟨e1, e0⟩ | exact ⟨f1, f0⟩)
    (first
      | (go_at_call 118
         refine (HCL.out _ HWD.out).mono ?_
         rintro e w3 ⟨v, vs, rfl, hown, hg⟩
         have b1 := (hg.block b (by show b < w2.heap.size; omega) (by simp)).trans D1.out
         have e0 := cell_blk b1 0
         have e1 := cell_blk b1 1
         simp only [List.getElem?_toArray, List.getElem?_cons_zero, List.getElem?_cons_succ] at e0 e1
         have HO := Lib.hid hown; have HG := Lib.hid hg; have E1 := Lib.hid b1
         clear hown hg b1)
      | (go_at_call 119
         refine (identityRows_any n' _ (by omega)).mono ?_
         rintro e w4 ⟨v2, vs2, rfl, hown2, hg2⟩
         have b1 := (hg2.block b (lt_of_blk E1.out) (by simp)).trans E1.out
         have f0 := cell_blk b1 0
         have f1 := cell_blk b1 1
         simp only [List.getElem?_toArray, List.getElem?_cons_zero, List.getElem?_cons_succ] at f0 f1
         have HO2 := Lib.hid hown2; have HG2 := Lib.hid hg2; have F1 := Lib.hid b1
         clear hown2 hg2 b1))
  obtain ⟨va, vc, hve, hvi, hcap⟩ := own_form HO.out
  obtain ⟨va2, vc2, hve2, hvi2, hcap2⟩ := own_form HO2.out
  rw [HLEN.out] at hve
  rw [idL_len] at hve2
  subst hve hve2
  have HTW := Lib.hid (two_ids HO.out HG.out HO2.out HG2.out)
  have HFIT := Lib.hid (show Fit p n' n' n' L (idL n') from ⟨HLEN.out, idL_len _, hL, idL_ok (lt_p hfld)⟩)
  have hbel4 : Below w2.heap.size w2 w4 := Below.grown (Below.grown (show Below w2.heap.size w2 w2.drew from ⟨rfl, rfl, rfl, Nat.le_refl _, fun _ _ => rfl⟩) HG.out (Nat.le_refl _) (by simp)) HG2.out HG.out.size (by simp)
  have HB4 := Lib.hid hbel4
  have HB4D := Lib.hid (show Below w2.heap.size w2 w4.drew from ⟨hbel4.os, hbel4.tape, hbel4.output, hbel4.size, hbel4.block⟩)
  have HTWD := Lib.hid (show Two w2.drew.heap.size w4.drew _ _ _ _ L (idL n') from ⟨HTW.out.mR.only (Only.drew (fun _ => False) w4) (fun _ _ h => h), HTW.out.mT.only (Only.drew (fun _ => False) w4) (fun _ _ h => h), HTW.out.ap⟩)
  have HRK := Lib.hid hrank
  clear e1 e0 d1 d0 c0 c1 hbel4 hvi hvi2 hcap hcap2 hrank
  go_wp2_with fail
  go_region_held3 (fun w' => w'.cell? ⟨b, 0, none⟩ = some (.int .i64 n')) (first | exact f0 | exact g0)
    (first
      | (go_at_call 120
         refine (reduction_any p _ _ _ _ L _ n' n' n' _ _ hfld HTWD.out HFIT.out (by omega) (by omega) (by omega) hp2).mono ?_
         rintro e w5 ⟨rfl, vs', us', t, on⟩
         rw [HRK.out]
         have HB5 := Lib.hid (HB4D.out.trans (on.below HB4D.out.size fun k hk => HTWD.out.base hk))
         have g0 : w5.cell? ⟨b, 0, none⟩ = some (.int .i64 n') := cell_blk ((HB5.out.block b (by omega)).trans D1.out) 0
         have HT5 := Lib.hid t
         clear t on))
  have b2 := (HB5.out.block (b + 1) hb2).trans D2.out
  have B5 := Lib.hid b2
  have k0 := cell_blk b2 0
  have k1 := cell_blk b2 1
  have x0 := free_blk b2 0
  have x1 := free_blk b2 1
  simp only [List.getElem?_toArray, List.getElem?_cons_zero, List.getElem?_cons_succ] at k0 k1
  clear b2 f0 f1
  go_wp2
  refine bodyPost_ret_by (v := .tuple #[.agg #[.int .i64 n', .slice va2 n' vc2], .bool true]) ?_ rfl ?_
  · simp [results, go_sem, *]
  · have o5 := one_set (w := w5) (b + 1) (.int .i64 n') (.slice va2 n' vc2)
    refine ⟨_, rfl, (HT5.out.mT.only o5 fun q hq hq' => by have h1 := (HT5.out.mT.lt hq).1; have h2 : w2.drew.heap.size = w2.heap.size := rfl; omega).read, ?_⟩
    exact grown_of_below (((Below.grown (Below.refl _ w) HW2.out (Nat.le_refl _) (by simp)).trans (HB5.out.mono HW2.out.size)).trans (o5.below (Nat.le_trans HW2.out.size HB5.out.size) fun q hq => by rw [HBE.out]; omega))

end Go.Proofs.YtpeaeminjbjlnaaDoor

/-
  Comparisons of lists: what is answered, and that nothing but draws happens. Conditions: lengths are small.
-/
namespace Go.Proofs.YtpeaeminjbjlnaaDoor
open Go.RowKit
set_option linter.unusedVariables false

/-- sameInts: nothing but draws. -/
theorem sameInts_q (v1 v2 : Value) (x y : List Int) (w : World) (h1 : IntsV w v1 x) (h2 : IntsV w v2 y) (l1 : x.length ≤ 1000000000) (l2 : y.length ≤ 1000000000) :
    Calls Tryd.prog 17 #[v1, v2] w fun e w' => e = .returned (.bool (x == y)) ∧ ∃ q, w' = w.drewN q := by
  obtain ⟨a1, c1, rfl, r1⟩ := h1
  obtain ⟨a2, c2, rfl, r2⟩ := h2
  have R1 := Lib.hid r1; have R2 := Lib.hid r2
  clear r1 r2
  by_cases hl : x.length = y.length
  · generalize hlx : x.length = l at *
    have HLX := Lib.hid hlx; have HLY := Lib.hid hl
    rw [← HLY.out]
    clear hlx hl
    go_enter Tryd.func17, Tryd.ntmps17
    go_wp2
    go_loopw [13] (fun i wr => ∃ k : Nat, k ≤ l ∧ i = .int .i64 k ∧ (∀ j (h : j < x.length) (h' : j < y.length), j < k → x[j] = y[j]) ∧ ∃ q, wr = w.drewN q) (fun i _ => l - (intOf i).toNat)
    case atStart => exact ⟨0, by omega, rfl, fun _ _ _ h => absurd h (by omega), 0, rfl⟩
    case round =>
      obtain ⟨k, hk, rfl, ho, q0, rfl⟩ := hrel
      have HO := Lib.hid ho
      clear ho
      by_cases hlt : k < l
      · have hkx : k < x.length := by rw [HLX.out]; exact hlt
        have hky : k < y.length := by rw [← HLY.out]; exact hlt
        obtain ⟨d1, ha1, hs1, hd1, hi1⟩ := R1.out (by intro h; rw [h] at hkx; simp at hkx)
        obtain ⟨d2, ha2, hs2, hd2, hi2⟩ := R2.out (by intro h; rw [h] at hky; simp at hky)
        subst ha1 ha2
        obtain ⟨b1, o1, _⟩ := d1
        obtain ⟨b2, o2, _⟩ := d2
        simp only at hs1 hs2 hd1 hd2
        subst hs1 hs2
        have hc1 := hi1 k hkx
        have hc2 := hi2 k hky
        generalize hzx : x[k] = zx at hc1
        generalize hzy : y[k] = zy at hc2
        have HZX := Lib.hid hzx; have HZY := Lib.hid hzy
        clear hzx hzy hi1 hi2 hd1 hd2
        by_cases he : zx = zy
        · subst he
          go_wp2
          go_quiet (fail)
          go_wp2
          go_roundw
          case rel => exact ⟨k + 1, by omega, by go_num, fun j h h' hj => by
            by_cases hjk : j = k
            · subst hjk; rw [HZX.out, HZY.out]
            · exact HO.out j h h' (by omega), ⟨_, rfl⟩⟩
          case measure => simp [intOf]; omega
        · have hb : (zx != zy) = true := by rw [bne_iff_ne]; exact he
          have hfin : (x == y) = false := by
            rw [beq_eq_false_iff_ne]
            intro h
            subst h
            exact he (HZX.out.symm.trans HZY.out)
          have HF := Lib.hid hfin
          clear hfin he
          go_wp2
          go_quiet (fail)
          go_wp2
          go_ret
          exact ⟨by rw [HF.out]; rfl, _, World.drewN_drewN _ _ _⟩
      · have hfin : (x == y) = true := by
          rw [beq_iff_eq]
          refine List.ext_getElem (by rw [HLX.out, HLY.out]) fun j h h' => HO.out j h h' (by have := HLX.out; omega)
        have HF := Lib.hid hfin
        clear hfin
        go_wp2
        go_ret
        exact ⟨by rw [HF.out]; rfl, _, rfl⟩
  · have hfin : (x == y) = false := by
      rw [beq_eq_false_iff_ne]
      intro h
      exact hl (by rw [h])
    have hb : ((x.length : Int) != y.length) = true := by rw [bne_iff_ne]; omega
    have HF := Lib.hid hfin
    clear hfin hl
    go_enter Tryd.func17, Tryd.ntmps17
    go_wp2
    go_ret
    exact ⟨by rw [HF.out]; rfl, 0, rfl⟩

theorem grown_drewN (w : World) (q : Nat) : w.grownBy (w.drewN q) none := ⟨rfl, rfl, rfl, Nat.le_refl _, fun _ _ _ => rfl⟩
theorem quiet_more {P : Program} {f : FuncId} {args : Array Value} {w : World} {a n : Nat} {v : Value}
    (h : ∀ W : World, w.grownBy W none → Calls P f args W fun e w' => e = .returned v ∧ ∃ m, w' = W.drewN m) :
    Calls P f args (w.drewN (a + n)) fun e w'' => e = .returned v ∧ ∃ m, w'' = w.drewN (a + m) :=
  (h _ (grown_drewN _ _)).mono fun _ _ ⟨he, m, hm⟩ => ⟨he, n + m, by rw [hm, World.drewN_drewN, Nat.add_assoc]⟩

theorem sameLists_q (v1 v2 : Value) (X Y : List (List Int)) (w : World) (h1 : MatV w v1 X) (h2 : MatV w v2 Y) (l1 : X.length ≤ 1000000) (l2 : Y.length ≤ 1000000) (m1 : ∀ row ∈ X, row.length ≤ 1000000) (m2 : ∀ row ∈ Y, row.length ≤ 1000000) :
    Calls Tryd.prog 53 #[v1, v2] w fun e w' => e = .returned (.bool (X == Y)) ∧ ∃ q, w' = w.drewN q := by
  obtain ⟨a1, c1, rfl⟩ := h1.shape
  obtain ⟨a2, c2, rfl⟩ := h2.shape
  have R1 := Lib.hid h1; have R2 := Lib.hid h2; have M1 := Lib.hid m1; have M2 := Lib.hid m2
  clear h1 h2 m1 m2
  by_cases hl : X.length = Y.length
  · rw [← hl]
    generalize hlx : X.length = l at *
    have HLX := Lib.hid hlx; have HLY := Lib.hid hl
    clear hlx hl
    go_enter Tryd.func53, Tryd.ntmps53
    go_wp2
    go_loopw [13] (fun i wr => ∃ k : Nat, k ≤ l ∧ i = .int .i64 k ∧ (∀ j (h : j < X.length) (h' : j < Y.length), j < k → X[j] = Y[j]) ∧ ∃ q, wr = w.drewN q) (fun i _ => l - (intOf i).toNat)
    case atStart => exact ⟨0, by omega, rfl, fun _ _ _ h => absurd h (by omega), 0, rfl⟩
    case round =>
      obtain ⟨k, hk, rfl, ho, q0, rfl⟩ := hrel
      have HO := Lib.hid ho
      clear ho
      by_cases hlt : k < l
      · have hkx : k < X.length := by rw [HLX.out]; exact hlt
        have hky : k < Y.length := by rw [← HLY.out]; exact hlt
        obtain ⟨d1, r1, rc1, ha1, hs1, hd1, hc1, hr1⟩ := R1.out.row hkx
        obtain ⟨d2, r2, rc2, ha2, hs2, hd2, hc2, hr2⟩ := R2.out.row hky
        subst ha1 ha2
        obtain ⟨b1, o1, _⟩ := d1
        obtain ⟨b2, o2, _⟩ := d2
        simp only at hs1 hs2 hd1 hd2 hc1 hc2
        subst hs1 hs2
        have A := Lib.hid fun W (h : w.grownBy W none) => sameInts_q _ _ X[k] Y[k] W (hr1.carry h) (hr2.carry h) (by have := M1.out _ (List.getElem_mem hkx); omega) (by have := M2.out _ (List.getElem_mem hky); omega)
        clear hr1 hr2 hd1 hd2
        generalize X[k].length = n1 at *
        generalize Y[k].length = n2 at *
        cases he : (X[k] == Y[k])
        · rw [he] at A
          have hfin : (X == Y) = false := by
            rw [beq_eq_false_iff_ne]
            intro h
            subst h
            simp at he
          have HF := Lib.hid hfin
          clear hfin he
          go_wp2
          go_quiet ((go_at_call 17; exact quiet_more A.out))
          go_wp2
          go_ret
          exact ⟨by rw [HF.out]; rfl, _, World.drewN_drewN _ _ _⟩
        · rw [he] at A
          have HE := Lib.hid (eq_of_beq he)
          clear he
          go_wp2
          go_quiet ((go_at_call 17; exact quiet_more A.out))
          go_wp2
          go_roundw
          case rel => exact ⟨k + 1, by omega, by go_num, fun j h h' hj => by
            by_cases hjk : j = k
            · subst hjk; exact HE.out
            · exact HO.out j h h' (by omega), _, rfl⟩
          case measure => simp [intOf]; omega
      · have hfin : (X == Y) = true := by
          rw [beq_iff_eq]
          refine List.ext_getElem (by rw [HLX.out, HLY.out]) fun j h h' => HO.out j h h' (by have := HLX.out; omega)
        have HF := Lib.hid hfin
        clear hfin
        go_wp2
        go_ret
        exact ⟨by rw [HF.out]; rfl, _, rfl⟩
  · have hfin : (X == Y) = false := by
      rw [beq_eq_false_iff_ne]
      intro h
      exact hl (by rw [h])
    have hb : ((X.length : Int) != Y.length) = true := by rw [bne_iff_ne]; omega
    have HF := Lib.hid hfin
    clear hfin hl
    go_enter Tryd.func53, Tryd.ntmps53
    go_wp2
    go_ret
    exact ⟨by rw [HF.out]; rfl, 0, rfl⟩

end Go.Proofs.YtpeaeminjbjlnaaDoor

/-
  The specification's field functions and its matrix check. Conditions: the numbers are small.
-/
namespace Go.Proofs.YtpeaeminjbjlnaaDoor
open Go.RowKit
set_option linter.unusedVariables false

theorem pSame_any (ca cb : Int) (u v : Value) (A L : List (List Int)) (w : World) (hu : MatV w u A) (hv : MatV w v L) (l1 : A.length ≤ 1000000) (l2 : L.length ≤ 1000000) (m1 : ∀ row ∈ A, row.length ≤ 1000000) (m2 : ∀ row ∈ L, row.length ≤ 1000000) :
    Calls Tryd.prog 28 #[mxV ca u, mxV cb v] w fun e w' => e = .returned (.bool (ca == cb && A == L)) ∧ w.grownBy w' none := by
  have HS := Lib.hid fun w1 (hg : w.grownBy w1 none) => sameLists_q u v A L w1 (hu.carry hg) (hv.carry hg) l1 l2 m1 m2
  obtain ⟨ua, uc, rfl⟩ := hu.shape
  obtain ⟨va, vc, rfl⟩ := hv.shape
  clear hu hv m1 m2
  unfold mxV
  generalize A.length = la at *
  generalize L.length = ll at *
  have HG := Lib.hid fun o1 o2 => (grownBy_alloc w o1 none).trans (grownBy_alloc _ o2 none)
  by_cases h : ca = cb
  · have hb : (ca == cb) = true := beq_iff_eq.2 h
    have HB := Lib.hid hb
    generalize hx : (A == L) = x at *
    have HX := Lib.hid hx
    clear hx
    go_enter Tryd.func28, Tryd.ntmps28
    go_wp2_with (go_at_call 53; with_reducible refine (HS.out _ (HG.out _ _)).mono ?_; rintro e w' ⟨rfl, q, rfl⟩)
    go_ret
    exact ⟨by rw [HB.out]; rfl, (HG.out _ _).trans (grown_drewN _ _)⟩
  · have hb : (ca == cb) = false := beq_eq_false_iff_ne.2 h
    have HB := Lib.hid hb
    go_enter Tryd.func28, Tryd.ntmps28
    go_wp2
    go_ret
    exact ⟨by rw [HB.out]; rfl, HG.out _ _⟩

theorem fdMulS_any (p a b : Int) (w : World) (hp : 1 ≤ p) (hp2 : p ≤ 1000) (ha : 0 ≤ a) (ha2 : a ≤ 1000) (hb : 0 ≤ b) (hb2 : b ≤ 1000) : Calls Tryd.prog 199 #[.int .i64 p, .int .i64 a, .int .i64 b] w fun e w' => e = .returned (.int .i64 (a * b % p)) ∧ w = w' := by
  have h := mul_bd ha ha2 hb hb2
  have h1 := Int.emod_nonneg (a * b) (show p ≠ 0 by omega)
  have h2 := Int.emod_lt_of_pos (a * b) (show 0 < p by omega)
  go_enter Tryd.func199, Tryd.ntmps199
  go_wp2
  go_ret
  exact ⟨rfl, rfl⟩
theorem fdSubS_any (p a b : Int) (w : World) (hp : 1 ≤ p) (hp2 : p ≤ 1000) (ha : 0 ≤ a) (ha2 : a ≤ 1000) (hb : 0 ≤ b) (hb2 : b ≤ p) : Calls Tryd.prog 245 #[.int .i64 p, .int .i64 a, .int .i64 b] w fun e w' => e = .returned (.int .i64 ((a + p - b) % p)) ∧ w = w' := by
  have h1 := Int.emod_nonneg (a + p - b) (show p ≠ 0 by omega)
  have h2 := Int.emod_lt_of_pos (a + p - b) (show 0 < p by omega)
  have h3 : 0 ≤ a + p - b := by omega
  go_enter Tryd.func245, Tryd.ntmps245
  go_wp2
  go_ret
  exact ⟨rfl, rfl⟩

theorem fdNegS_any (p a : Int) (w : World) (hp : 1 ≤ p) (hp2 : p ≤ 1000) (ha : 0 ≤ a) (ha2 : a ≤ p) : Calls Tryd.prog 237 #[.int .i64 p, .int .i64 a] w fun e w' => ∃ r, e = .returned (.int .i64 r) ∧ 0 ≤ r ∧ r < p ∧ w = w' := by
  have h1 := Int.emod_nonneg (p - a) (show p ≠ 0 by omega)
  have h2 := Int.emod_lt_of_pos (p - a) (show 0 < p by omega)
  have H := Lib.hid (And.intro h1 h2)
  obtain ⟨d, hd⟩ : ∃ d, d = p - a := ⟨_, rfl⟩
  clear h1 h2
  go_enter Tryd.func237, Tryd.ntmps237
  go_wp2
  go_ret
  refine ⟨_, rfl, ?_, ?_, rfl⟩
  · have := H.out.1; simpa using this
  · have := H.out.2; simpa using this

theorem inv_unique {p : Nat} [NeZero p] {a x : Int} (hf : fldN p = true) (ha : 0 < a) (ha2 : a < p) (hx : 0 ≤ x) (hx2 : x < p) (h : a * x % p = 1) : x = invI p a := by
  have h1 := toF_inv hf ha ha2
  have hp := lt_p hf
  have h2 : toF p a * toF p x = 1 := by
    rw [← toF_mul, ← toF_one, toF_eq, h, Int.emod_eq_of_lt (by omega) (by omega)]
  have h3 : toF p x = toF p (invI p a) := by
    have : toF p x = toF p x * (toF p a * toF p (invI p a)) := by rw [h1]; grind
    rw [this]
    grind
  have hb : 0 ≤ invI p a ∧ invI p a < p := by
    unfold invI
    exact ⟨Int.emod_nonneg _ (by omega), Int.emod_lt_of_pos _ (by omega)⟩
  exact toF_inj hx hx2 hb.1 hb.2 h3
theorem inv_ok {p : Nat} [NeZero p] {a : Int} (hf : fldN p = true) (ha : 0 < a) (ha2 : a < p) : a * invI p a % p = 1 ∧ 1 ≤ invI p a ∧ invI p a < p := by
  have h1 := toF_inv hf ha ha2
  have hp := lt_p hf
  rw [← toF_mul, ← toF_one, toF_eq, Int.emod_eq_of_lt (show (0 : Int) ≤ 1 by omega) (by omega)] at h1
  have hb : 0 ≤ invI p a ∧ invI p a < p := by
    unfold invI
    exact ⟨Int.emod_nonneg _ (by omega), Int.emod_lt_of_pos _ (by omega)⟩
  refine ⟨h1, ?_, hb.2⟩
  rcases Int.lt_or_le (invI p a) 1 with h | h
  · have : invI p a = 0 := by omega
    rw [this] at h1
    simp at h1
  · exact h

theorem fdInvS_any (p : Nat) [NeZero p] (a : Int) (w : World) (hf : fldN p = true) (hp2 : p ≤ 1000) (ha : 0 < a) (ha2 : a < p) : Calls Tryd.prog 198 #[.int .i64 p, .int .i64 a] w fun e w' => e = .returned (.int .i64 (invI p a)) ∧ w = w' := by
  have hp := lt_p hf
  have HU := Lib.hid fun x h1 h2 h3 => inv_unique (x := x) hf ha ha2 h1 h2 h3
  have HOK := Lib.hid (inv_ok hf ha ha2)
  clear hf
  go_enter Tryd.func198, Tryd.ntmps198
  go_wp2
  go_loop [5] (fun i => ∃ k : Nat, 1 ≤ k ∧ k ≤ p ∧ i = .int .i64 k ∧ ∀ j : Nat, 1 ≤ j → j < k → a * j % p ≠ 1) (fun i => p - (intOf i).toNat)
  case atStart => exact ⟨1, by omega, by omega, rfl, fun j h1 h2 => absurd h1 (by omega)⟩
  case round =>
    obtain ⟨k, hk1, hk, rfl, ho⟩ := hrel
    have HO := Lib.hid ho
    clear ho
    by_cases hlt : k < p
    · have b1 := mul_bd (x := a) (y := k) (X := 1000) (Y := 1000) (by omega) (by omega) (by omega) (by omega)
      have b2 := Int.emod_nonneg (a * k) (show (p : Int) ≠ 0 by omega)
      have b3 := Int.emod_lt_of_pos (a * k) (show (0 : Int) < p by omega)
      by_cases h1 : a * k % p = 1
      · have hb : (a * k % p == 1) = true := beq_iff_eq.2 h1
        have HE := Lib.hid (HU.out k (by omega) (by omega) h1)
        clear h1
        go_wp2
        go_ret
        exact ⟨by rw [← HE.out]; rfl, rfl⟩
      · have hb : (a * k % p == 1) = false := beq_eq_false_iff_ne.2 h1
        have HE := Lib.hid h1
        clear h1
        go_wp2
        go_round
        case rel => exact ⟨k + 1, by omega, by omega, by go_num, fun j h2 h3 => by
          by_cases hj : j = k
          · subst hj; exact HE.out
          · exact HO.out j h2 (by omega)⟩
        case measure => simp [intOf]; omega
    · exfalso
      obtain ⟨h1, h2, h3⟩ := HOK.out
      refine HO.out (invI p a).toNat (by omega) (by omega) ?_
      rw [Int.toNat_of_nonneg (by omega)]
      exact h1

end Go.Proofs.YtpeaeminjbjlnaaDoor

/-
  The specification's row functions. Conditions: the numbers are small.
-/
namespace Go.Proofs.YtpeaeminjbjlnaaDoor
open Go.RowKit
set_option linter.unusedVariables false

theorem l1All_any (lo hi : Int) (v : Value) (zs : List Int) (w : World) (hv : IntsV w v zs) (hl : zs.length ≤ 1000000) :
    Calls Tryd.prog 278 #[v, .int .i64 lo, .int .i64 hi] w fun e w' => e = .returned (.bool (zs.all fun n => decide (lo ≤ n ∧ n ≤ hi))) ∧ w = w' := by
  have HV := Lib.hid hv
  obtain ⟨a, c, rfl, hx⟩ := hv
  clear hx
  generalize hlen : zs.length = l at *
  have HL := Lib.hid hlen
  clear hlen
  generalize hbb : (zs.all fun n => decide (lo ≤ n ∧ n ≤ hi)) = bb
  have HBB := Lib.hid hbb
  clear hbb
  go_enter Tryd.func278, Tryd.ntmps278
  go_wp2
  go_loop [11] (fun i => ∃ k : Nat, k ≤ l ∧ i = .int .i64 k ∧ ∀ j (h : j < zs.length), j < k → decide (lo ≤ zs[j] ∧ zs[j] ≤ hi) = true) (fun i => l - (intOf i).toNat)
  case atStart => exact ⟨0, by omega, rfl, fun _ _ h => absurd h (by omega)⟩
  case round =>
    obtain ⟨k, hk, rfl, ho⟩ := hrel
    have HO := Lib.hid ho
    clear ho
    by_cases hlt : k < l
    · have hkl : k < zs.length := by rw [HL.out]; exact hlt
      obtain ⟨d, rfl, hs, hd, hc⟩ := HV.out.at hkl
      obtain ⟨db, dof, _⟩ := d
      simp only at hs hc
      subst hs
      generalize hz : zs[k] = z at *
      have HZ := Lib.hid hz
      clear hz hd
      have A := Lib.hid (l1In_any z lo hi w)
      cases he : decide (lo ≤ z ∧ z ≤ hi)
      · rw [he] at A
        have hfin : (zs.all fun n => decide (lo ≤ n ∧ n ≤ hi)) = false := by
          refine List.all_eq_false.2 ⟨zs[k], List.getElem_mem _, ?_⟩
          rw [HZ.out, he]
          simp
        have HF := Lib.hid hfin
        clear hfin he
        go_wp2_with (go_at_call 137; with_reducible refine A.out.mono ?_; rintro e w' ⟨rfl, rfl⟩)
        go_ret
        exact ⟨by rw [← HBB.out, HF.out]; rfl, rfl⟩
      · rw [he] at A
        have HE := Lib.hid he
        clear he
        go_wp2_with (go_at_call 137; with_reducible refine A.out.mono ?_; rintro e w' ⟨rfl, rfl⟩)
        go_round
        case rel => exact ⟨k + 1, by omega, by go_num, fun j h hj => by
          by_cases hjk : j = k
          · subst hjk; rw [HZ.out]; exact HE.out
          · exact HO.out j h (by omega)⟩
        case measure => simp [intOf]; omega
    · have hfin : (zs.all fun n => decide (lo ≤ n ∧ n ≤ hi)) = true := by
        refine List.all_eq_true.2 fun x hx => ?_
        obtain ⟨j, hj, rfl⟩ := List.getElem_of_mem hx
        exact HO.out j hj (by have := HL.out; omega)
      have HF := Lib.hid hfin
      clear hfin
      go_wp2
      go_ret
      exact ⟨by rw [← HBB.out, HF.out]; rfl, rfl⟩
theorem fdIn_any (p : Int) (v : Value) (zs : List Int) (w : World) (hv : IntsV w v zs) (hl : zs.length ≤ 1000000) (hp : -1000000 ≤ p) (hp2 : p ≤ 1000000) :
    Calls Tryd.prog 192 #[.int .i64 p, v] w fun e w' => e = .returned (.bool (zs.all (elB p))) ∧ w = w' := by
  have A := l1All_any 0 (p - 1) v zs w hv hl
  have e : (fun n : Int => decide (0 ≤ n ∧ n ≤ p - 1)) = elB p := by
    funext n
    unfold elB
    exact decide_eq_decide.2 (by omega)
  rw [e] at A
  have A := Lib.hid A
  obtain ⟨a, c, rfl, _⟩ := hv
  clear e
  go_enter Tryd.func192, Tryd.ntmps192
  go_wp2_with (go_at_call 278; with_reducible refine A.out.mono ?_; rintro e w' ⟨rfl, rfl⟩)
  go_ret
  exact ⟨rfl, rfl⟩

end Go.Proofs.YtpeaeminjbjlnaaDoor

/-
  The specification's matrix check. Conditions: the numbers are small.
-/
namespace Go.Proofs.YtpeaeminjbjlnaaDoor
open Go.RowKit
set_option linter.unusedVariables false

set_option maxRecDepth 100000 in
set_option maxHeartbeats 1000000 in
theorem mxGood_any (p cols : Int) (v : Value) (L : List (List Int)) (w : World) (hv : MatV w v L) (hl : L.length ≤ 1000000) (hll : ∀ row ∈ L, row.length ≤ 1000000) (hp0 : -1000 ≤ p) (hp1 : p ≤ 1000) :
    Calls Tryd.prog 121 #[.int .i64 p, mxV cols v] w fun e w' => e = .returned (.bool (matB p cols L)) ∧ w.grownBy w' none := by
  have HV := Lib.hid hv; have HLL := Lib.hid hll
  obtain ⟨a, c, rfl⟩ := hv.shape
  clear hv hll
  have HA := Lib.hid fun w => fdGood_any p w hp0 hp1
  have HI := Lib.hid fun w => l1In_any cols 0 24 w
  unfold mxV
  generalize hbb : matB p cols L = bb
  have HBB := Lib.hid hbb
  clear hbb
  generalize hlen : L.length = l at *
  have HL := Lib.hid hlen
  clear hlen
  have HG := Lib.hid fun o => grownBy_alloc w o none
  cases h1 : fldB p
  · rw [h1] at HA
    have hm : matB p cols L = false := by unfold matB; rw [h1]; rfl
    have HM := Lib.hid hm
    clear hm h1
    go_enter Tryd.func121, Tryd.ntmps121
    go_wp2_with (go_at_call 206; with_reducible refine (HA.out _).mono ?_; rintro e w' ⟨rfl, rfl⟩)
    go_ret
    exact ⟨by rw [← HBB.out, HM.out]; rfl, HG.out _⟩
  · rw [h1] at HA
    cases h2 : decide (0 ≤ cols ∧ cols ≤ 24)
    · rw [h2] at HI
      have hm : matB p cols L = false := by unfold matB; rw [h1, h2]; rfl
      have HM := Lib.hid hm
      clear hm h1 h2
      go_enter Tryd.func121, Tryd.ntmps121
      go_wp2_with (first
        | (go_at_call 206; with_reducible refine (HA.out _).mono ?_; rintro e w' ⟨rfl, rfl⟩)
        | (go_at_call 137; with_reducible refine (HI.out _).mono ?_; rintro e w' ⟨rfl, rfl⟩))
      go_ret
      exact ⟨by rw [← HBB.out, HM.out]; rfl, HG.out _⟩
    · rw [h2] at HI
      by_cases h3 : l ≤ 24
      · have hm : matB p cols L = rowsB p cols L := by unfold matB; rw [h1, h2, HL.out, decide_eq_true h3]; rfl
        have HM := Lib.hid hm
        clear hm h1 h2
        go_enter Tryd.func121, Tryd.ntmps121
        go_wp2_with (first
          | (go_at_call 206; with_reducible refine (HA.out _).mono ?_; rintro e w' ⟨rfl, rfl⟩)
          | (go_at_call 137; with_reducible refine (HI.out _).mono ?_; rintro e w' ⟨rfl, rfl⟩))
        have hgr := HG.out (.cells #[.int .i64 cols, .slice a l c] 39)
        have c0 : (w.alloc (.cells #[.int .i64 cols, .slice a l c] 39)).cell? ⟨w.heap.size, 0, none⟩ = some (.int .i64 cols) := box_cell _ _ _ _
        generalize w.alloc (.cells #[.int .i64 cols, .slice a l c] 39) = w1 at *
        have HGR := Lib.hid hgr
        have HV1 := Lib.hid (HV.out.carry hgr)
        clear hgr
        generalize w.heap.size = b at *
        go_loop [25] (fun i => ∃ k : Nat, k ≤ l ∧ i = .int .i64 k ∧ ∀ j (h : j < L.length), j < k → vecB p cols L[j] = true) (fun i => l - (intOf i).toNat)
        case atStart => exact ⟨0, by omega, rfl, fun _ _ h => absurd h (by omega)⟩
        case round =>
          obtain ⟨k, hk, rfl, ho⟩ := hrel
          have HO := Lib.hid ho
          clear ho
          by_cases hlt : k < l
          · have hkl : k < L.length := by rw [HL.out]; exact hlt
            obtain ⟨d, r, rc, rfl, hs, hd, hcell, hrow⟩ := HV1.out.row hkl
            have hlr := HLL.out L[k] (List.getElem_mem _)
            obtain ⟨db, dof, _⟩ := d
            simp only at hs hcell
            subst hs
            have hbad : vecB p cols L[k] = false → rowsB p cols L = false := by
              intro h
              unfold rowsB
              exact List.all_eq_false.2 ⟨L[k], List.getElem_mem _, by rw [h]; simp⟩
            have HBAD := Lib.hid hbad
            have HF := Lib.hid (fdIn_any p _ L[k] w1 hrow hlr (by omega) (by omega))
            have hvb : vecB p cols L[k] = (decide ((L[k].length : Int) = cols) && L[k].all (elB p)) := rfl
            have HVB := Lib.hid hvb
            clear hbad hvb hd hrow hlr
            generalize hrl : L[k].length = rl at *
            clear hrl
            by_cases hq : (rl : Int) = cols
            · have hb1 : ((rl : Int) != cols) = false := by rw [bne_eq_false_iff_eq]; exact hq
              cases he : L[k].all (elB p)
              · rw [he] at HF
                have hfin := HBAD.out (by rw [HVB.out, he, Bool.and_false])
                have HFIN := Lib.hid hfin
                clear hfin he
                go_wp2_with (go_at_call 192; with_reducible refine HF.out.mono ?_; rintro e w' ⟨rfl, rfl⟩)
                go_ret
                exact ⟨by rw [← HBB.out, HM.out, HFIN.out]; rfl, HGR.out⟩
              · rw [he] at HF
                have hv1 : vecB p cols L[k] = true := by rw [HVB.out, he, decide_eq_true hq]; rfl
                have HV2 := Lib.hid hv1
                clear hv1 he
                go_wp2_with (go_at_call 192; with_reducible refine HF.out.mono ?_; rintro e w' ⟨rfl, rfl⟩)
                go_round
                case rel => exact ⟨k + 1, by omega, by go_num, fun j h hj => by
                  by_cases hjk : j = k
                  · subst hjk; exact HV2.out
                  · exact HO.out j h (by omega)⟩
                case measure => simp [intOf]; omega
            · have hb1 : ((rl : Int) != cols) = true := by rw [bne_iff_ne]; exact hq
              have hfin := HBAD.out (by rw [HVB.out, decide_eq_false hq, Bool.false_and])
              have HFIN := Lib.hid hfin
              clear hfin hq
              go_wp2
              go_ret
              exact ⟨by rw [← HBB.out, HM.out, HFIN.out]; rfl, HGR.out⟩
          · have hfin : rowsB p cols L = true := by
              unfold rowsB
              refine List.all_eq_true.2 fun x hx => ?_
              obtain ⟨j, hj, rfl⟩ := List.getElem_of_mem hx
              exact HO.out j hj (by have := HL.out; omega)
            have HFIN := Lib.hid hfin
            clear hfin
            go_wp2
            go_ret
            exact ⟨by rw [← HBB.out, HM.out, HFIN.out]; rfl, HGR.out⟩
      · have hm : matB p cols L = false := by unfold matB; rw [h1, h2, HL.out, decide_eq_false h3]; rfl
        have HM := Lib.hid hm
        clear hm h1 h2
        have hgt : (24 : Int) < l := by omega
        go_enter Tryd.func121, Tryd.ntmps121
        go_wp2_with (first
          | (go_at_call 206; with_reducible refine (HA.out _).mono ?_; rintro e w' ⟨rfl, rfl⟩)
          | (go_at_call 137; with_reducible refine (HI.out _).mono ?_; rintro e w' ⟨rfl, rfl⟩))
        go_ret
        exact ⟨by rw [← HBB.out, HM.out]; rfl, HG.out _⟩

end Go.Proofs.YtpeaeminjbjlnaaDoor

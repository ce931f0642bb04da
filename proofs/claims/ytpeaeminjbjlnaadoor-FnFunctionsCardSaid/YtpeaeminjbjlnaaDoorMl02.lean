/-
  Relations that are checked. Conditions: small sizes.
-/
import Derived.Test.YtpeaeminjbjlnaaDoorMl01
import Derived.Test.YtpeaeminjbjlnaaDoorMv10
namespace Go.Proofs.YtpeaeminjbjlnaaDoor
open Go.RowKit
set_option linter.unusedVariables false

def fitsB (l r : Int) : Bool := decide (0 ≤ l ∧ l ≤ 24) && (decide (0 ≤ r ∧ r ≤ 24) && decide (l + r ≤ 24))
def relB (p l r : Int) (L : List (List Int)) : Bool := fldB p && (fitsB l r && redB p (l + r) L)
theorem fits_any (l r : Int) (w : World) : Calls Tryd.prog 157 #[.int .i64 l, .int .i64 r] w fun e w' => e = .returned (.bool (fitsB l r)) ∧ w = w' := by
  have HW := Lib.hid fun n w' => within_any n 0 24 w'
  by_cases h1 : 0 ≤ l ∧ l ≤ 24 <;> by_cases h2 : 0 ≤ r ∧ r ≤ 24
  · have HF := Lib.hid (show fitsB l r = decide (l + r ≤ 24) by unfold fitsB; rw [decide_eq_true h1, decide_eq_true h2]; rfl)
    have HA := HW.out l; have HB := HW.out r
    rw [decide_eq_true h1] at HA
    rw [decide_eq_true h2] at HB
    have HA := Lib.hid HA; have HB := Lib.hid HB
    have b1 := h1.1; have b2 := h1.2; have b3 := h2.1; have b4 := h2.2
    clear h1 h2 HW
    by_cases h3 : l + r ≤ 24
    all_goals
      go_enter Tryd.func157, Tryd.ntmps157
      go_wp2_with (first
        | (go_at_call 125; with_reducible refine (HA.out _).mono ?_; rintro e w' ⟨rfl, rfl⟩)
        | (go_at_call 125; with_reducible refine (HB.out _).mono ?_; rintro e w' ⟨rfl, rfl⟩))
      go_ret
      exact ⟨by rw [HF.out]; simp [h3], rfl⟩
  all_goals
    have HF := Lib.hid (show fitsB l r = false by unfold fitsB; simp [h1, h2])
    have HA := HW.out l; have HB := HW.out r
    simp only [h1, h2, decide_false] at HA HB
    have HA := Lib.hid HA; have HB := Lib.hid HB
    clear h1 h2 HW
    go_enter Tryd.func157, Tryd.ntmps157
    go_wp2_with (first
      | (go_at_call 125; with_reducible refine (HA.out _).mono ?_; rintro e w' ⟨rfl, rfl⟩)
      | (go_at_call 125; with_reducible refine (HB.out _).mono ?_; rintro e w' ⟨rfl, rfl⟩))
    go_ret
    exact ⟨by rw [HF.out]; rfl, rfl⟩
theorem fitsB_iff {l r : Int} : fitsB l r = true ↔ 0 ≤ l ∧ 0 ≤ r ∧ l + r ≤ 24 := by
  unfold fitsB
  simp only [Bool.and_eq_true, decide_eq_true_eq]
  omega
theorem relB_parts {p l r : Int} {L : List (List Int)} (h : relB p l r L = true) : ∃ (q : Nat) (_ : NeZero q) (a b : Nat), p = q ∧ l = a ∧ r = b ∧ fldN q = true ∧ q ≤ 97 ∧ a + b ≤ 24 ∧ L.length ≤ a + b ∧ IsRed q (a + b) L ∧ RowsOk q (a + b) L := by
  unfold relB at h
  simp only [Bool.and_eq_true] at h
  obtain ⟨h1, h2, h3⟩ := h
  rw [fitsB_iff] at h2
  obtain ⟨a, rfl⟩ := Int.eq_ofNat_of_zero_le h2.1
  obtain ⟨b, rfl⟩ := Int.eq_ofNat_of_zero_le h2.2.1
  have hs : spaceB p ((a + b : Nat) : Int) L = true := by
    unfold spaceB
    rw [h1, decide_eq_true (by omega), show (((a + b : Nat) : Int)) = (a : Int) + b by omega, h3]
    rfl
  obtain ⟨q, i, m, rfl, hm, h4, h5, h6, h7, h8, h9⟩ := spaceB_nat hs
  obtain rfl : a + b = m := by omega
  exact ⟨q, i, a, b, rfl, rfl, rfl, h4, h5, h6, h7, h8, h9⟩

set_option maxRecDepth 100000 in
theorem isRelation_any (p l r : Int) (v : Value) (L : List (List Int)) (w : World) (ht : Tab w) (hv : MatV w v L) (hl : L.length ≤ 1000000) (hll : ∀ row ∈ L, row.length ≤ 1000000) :
    Calls Tryd.prog 156 #[.int .i64 p, rlV l r v] w fun e w' => e = .returned (.bool (relB p l r L)) ∧ w.grownBy w' none := by
  unfold rlV
  have hgr := grownBy_alloc w (.cells #[.int .i64 l, .int .i64 r, v] 65) none
  have HT := Lib.hid (isField_any p _ (ht.alloc (.cells #[.int .i64 l, .int .i64 r, v] 65)))
  have HGR := Lib.hid hgr
  have HV := Lib.hid (hv.carry hgr)
  have HW := Lib.hid fun w' => fits_any l r w'
  clear hgr hv
  cases h1 : fldB p
  · have hfin : relB p l r L = false := by unfold relB; rw [h1]; rfl
    have HF := Lib.hid hfin
    rw [h1] at HT
    clear h1 hfin
    go_enter Tryd.func156, Tryd.ntmps156
    go_wp2_with (go_at_call 204; with_reducible refine HT.out.mono ?_; rintro e w' ⟨rfl, rfl⟩)
    go_ret
    exact ⟨by rw [HF.out]; rfl, HGR.out⟩
  · cases h2 : fitsB l r
    · have hfin : relB p l r L = false := by unfold relB; rw [h1, h2]; rfl
      have HF := Lib.hid hfin
      rw [h1] at HT
      rw [h2] at HW
      clear h1 hfin h2
      go_enter Tryd.func156, Tryd.ntmps156
      go_wp2_with (first
        | (go_at_call 204; with_reducible refine HT.out.mono ?_; rintro e w' ⟨rfl, rfl⟩)
        | (go_at_call 157; with_reducible refine (HW.out _).mono ?_; rintro e w' ⟨rfl, rfl⟩))
      go_ret
      exact ⟨by rw [HF.out]; rfl, HGR.out⟩
    · have hfin : relB p l r L = redB p (l + r) L := by unfold relB; rw [h1, h2]; rfl
      have HF := Lib.hid hfin
      obtain ⟨b1, b2⟩ := fldB_bd h1
      have b3 := fitsB_iff.1 h2
      have h1' := h1
      rw [h1] at HT
      rw [h2] at HW
      clear h1 hfin h2
      obtain ⟨q, rfl⟩ := Int.eq_ofNat_of_zero_le (show 0 ≤ p by omega)
      obtain ⟨a, rfl⟩ := Int.eq_ofNat_of_zero_le b3.1
      obtain ⟨b, rfl⟩ := Int.eq_ofNat_of_zero_le b3.2.1
      haveI : NeZero q := ⟨by omega⟩
      rw [fldB_nat] at h1'
      have hr := isReduced_any q (a + b) v L _ h1' (by omega) HV.out (by omega) hl hll
      rw [show (((a + b : Nat) : Int)) = (a : Int) + b by omega] at hr
      have HR := Lib.hid hr
      clear h1' hll hr
      have c1 := b3.1; have c2 := b3.2.1; have c3 := b3.2.2
      clear b3
      generalize redB q (a + b) L = rb at *
      go_enter Tryd.func156, Tryd.ntmps156
      go_wp2_with (first
        | (go_at_call 204; with_reducible refine HT.out.mono ?_; rintro e w' ⟨rfl, rfl⟩)
        | (go_at_call 157; with_reducible refine (HW.out _).mono ?_; rintro e w' ⟨rfl, rfl⟩)
        | (go_at_call 267
           go_loud (refine HR.out.mono ?_)
           rintro e w2 ⟨rfl, hg⟩
           have HG := Lib.hid hg
           clear hg))
      go_ret
      exact ⟨by rw [HF.out]; rfl, HGR.out.trans HG.out⟩

set_option maxRecDepth 100000 in
theorem rlGood_any (p l r : Int) (v : Value) (L : List (List Int)) (w : World) (hv : MatV w v L) (hl : L.length ≤ 1000000) (hll : ∀ row ∈ L, row.length ≤ 1000000) (hp0 : -1000 ≤ p) (hp1 : p ≤ 1000) :
    Calls Tryd.prog 159 #[.int .i64 p, rlV l r v] w fun e w' => e = .returned (.bool (relB p l r L)) ∧ w.grownBy w' none := by
  unfold rlV
  have hgr := grownBy_alloc w (.cells #[.int .i64 l, .int .i64 r, v] 65) none
  have HGR := Lib.hid hgr
  have HW := Lib.hid fun n lo hi w' => l1In_any n lo hi w'
  have HS := Lib.hid (spGood_any p (l + r) v L _ (hv.carry hgr) hl hll hp0 hp1)
  obtain ⟨va, vc, rfl⟩ := hv.shape
  unfold mxV at HS
  have hb := Lib.hid (bx3 (alloc_heap_new w (.cells #[.int .i64 l, .int .i64 r, .slice va L.length vc] 65)))
  clear hgr hv
  by_cases h1 : 0 ≤ l ∧ l ≤ 24
  · by_cases h2 : 0 ≤ r ∧ r ≤ 24 - l
    · have hfin : relB p l r L = spaceB p (l + r) L := by
        unfold relB spaceB
        rw [fitsB_iff.2 (by omega), decide_eq_true (by omega)]
      have HF := Lib.hid hfin
      have HA := HW.out l 0 24; have HB := HW.out r 0 (24 - l)
      rw [decide_eq_true h1] at HA
      rw [decide_eq_true h2] at HB
      have HA := Lib.hid HA; have HB := Lib.hid HB
      have c1 := h1.1; have c2 := h1.2; have c3 := h2.1; have c4 := h2.2
      obtain ⟨x0, x1, x2, _, _, _⟩ := hb.out
      clear h1 h2 hfin HW hll
      generalize spaceB p (l + r) L = sb at *
      generalize L.length = ll at *
      go_enter Tryd.func159, Tryd.ntmps159
      go_wp2_with (first
        | (go_at_call 137; with_reducible refine (HA.out _).mono ?_; rintro e w' ⟨rfl, rfl⟩)
        | (go_at_call 137; with_reducible refine (HB.out _).mono ?_; rintro e w' ⟨rfl, rfl⟩)
        | (go_at_call 176
           go_loud (refine HS.out.mono ?_)
           rintro e w2 ⟨rfl, hg⟩
           have HG := Lib.hid hg
           clear hg))
      go_ret
      exact ⟨by rw [HF.out]; rfl, HGR.out.trans HG.out⟩
    · have hfin : relB p l r L = false := by
        unfold relB
        rw [show fitsB l r = false from by
          rw [Bool.eq_false_iff]; intro h; rw [fitsB_iff] at h; omega]
        simp
      have HF := Lib.hid hfin
      have HA := HW.out l 0 24; have HB := HW.out r 0 (24 - l)
      rw [decide_eq_true h1] at HA
      rw [decide_eq_false h2] at HB
      have HA := Lib.hid HA; have HB := Lib.hid HB
      have c1 := h1.1; have c2 := h1.2
      clear h1 h2 hfin HW hll
      go_enter Tryd.func159, Tryd.ntmps159
      go_wp2_with (first
        | (go_at_call 137; with_reducible refine (HA.out _).mono ?_; rintro e w' ⟨rfl, rfl⟩)
        | (go_at_call 137; with_reducible refine (HB.out _).mono ?_; rintro e w' ⟨rfl, rfl⟩))
      go_ret
      exact ⟨by rw [HF.out]; rfl, HGR.out⟩
  · have hfin : relB p l r L = false := by
      unfold relB
      rw [show fitsB l r = false from by
        rw [Bool.eq_false_iff]; intro h; rw [fitsB_iff] at h; omega]
      simp
    have HF := Lib.hid hfin
    have HA := HW.out l 0 24
    rw [decide_eq_false h1] at HA
    have HA := Lib.hid HA
    clear h1 hfin HW hll
    go_enter Tryd.func159, Tryd.ntmps159
    go_wp2_with (go_at_call 137; with_reducible refine (HA.out _).mono ?_; rintro e w' ⟨rfl, rfl⟩)
    go_ret
    exact ⟨by rw [HF.out]; rfl, HGR.out⟩
end Go.Proofs.YtpeaeminjbjlnaaDoor

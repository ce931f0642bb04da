/-
  The specification's answers on spans, vectors and coordinates. Conditions: the sizes are small.
-/
import Derived.Test.YtpeaeminjbjlnaaDoorMs17
namespace Go.Proofs.YtpeaeminjbjlnaaDoor
open Go.RowKit
set_option linter.unusedVariables false

theorem coordsL_bd {p : Int} {m : List (List Int)} {x : List Int} {n : Nat} (hx : VecOk p n x) (hld : ∀ i, i < m.length → leadL (m.getD i []) < n) : ∀ z ∈ coordsL m x, 0 ≤ z ∧ z < p := by
  intro z hz
  obtain ⟨i, hi, rfl⟩ := List.getElem_of_mem hz
  have hi' : i < m.length := by simpa [coordsL] using hi
  rw [← getD_lt hi, coordsL_at hi', getD_lt (by rw [hx.1]; exact hld i hi')]
  exact hx.2 _ (List.getElem_mem _)

set_option maxRecDepth 100000 in
theorem spHas_any (p n : Nat) [NeZero p] (u v : Value) (m : List (List Int)) (x : List Int) (w : World) (hf : fldN p = true) (hp2 : p ≤ 1000) (hu : MatV w u m) (hv : IntsV w v x) (hr : IsRed p n m) (hx : VecOk p n x) (hm : m.length ≤ 1000) (hn : n ≤ 1000) :
    Calls Tryd.prog 200 #[.int .i64 p, u, v] w fun e w' => e = .returned (.bool (hasB p n m x)) ∧ w.grownBy w' none := by
  have hxl := hx.1
  subst hxl
  have hld := fun i (hi : i < m.length) => lead_lt hf hr hi
  have HC := Lib.hid (spCoords_any x.length u v m x w hu hv hm hn hx.1 (fun row hrow => (hr.1 row hrow).1) hld)
  have HSM := Lib.hid fun w' o (hg : w.grownBy w' none) (ho : IntsV w' o (coordsL m x)) => spSum_any p x.length u o m (coordsL m x) w' (lt_p hf) hp2 (hu.carry hg) ho hr.1 (by simp [coordsL]) (coordsL_bd hx hld) hm hn
  have HSA := Lib.hid fun w' o (hg : w.grownBy w' none) (ho : IntsV w' o (combTo p (coordsL m x) m x.length m.length)) => l1Same_q o v _ x w' ho (hv.carry hg) (by rw [(combTo_ok (lt_p hf) hr.1 _ (Nat.le_refl _)).1]; omega) (by rw [hx.1]; omega)
  have HH := Lib.hid (show (combTo p (coordsL m x) m x.length m.length == x) = hasB p x.length m x from rfl)
  rw [HH.out] at HSA
  have hcl := (combTo_ok (x := coordsL m x) (lt_p hf) hr.1 _ (Nat.le_refl _)).1
  have HCL := Lib.hid hcl
  have HCC := Lib.hid (show (coordsL m x).length = m.length by simp [coordsL])
  obtain ⟨ua, uc, rfl⟩ := hu.shape
  obtain ⟨va, vc, rfl, hvx⟩ := hv
  clear hu hvx hr hx hld hcl
  generalize hasB p x.length m x = hb at *
  generalize combTo p (coordsL m x) m x.length m.length = cs at *
  generalize x.length = n at *
  generalize coordsL m x = co at *
  generalize m.length = l at *
  go_enter Tryd.func200, Tryd.ntmps200
  go_wp2_with (first
    | (go_at_call 201
       with_reducible refine HC.out.mono ?_
       rintro e w1 ⟨o, rfl, ho, hg⟩
       obtain ⟨oa, oc, rfl⟩ := own_shape ho
       have HO := Lib.hid ho.read; have HG := Lib.hid hg
       clear ho hg)
    | (go_at_call 271
       with_reducible refine (HSM.out _ _ HG.out HO.out).mono ?_
       rintro e w2 ⟨o2, rfl, ho, hg⟩
       obtain ⟨oa2, oc2, rfl⟩ := own_shape ho
       have HO2 := Lib.hid ho.read; have HG2 := Lib.hid (HG.out.trans hg)
       clear ho hg)
    | (go_at_call 280
       with_reducible refine (HSA.out _ _ HG2.out HO2.out).mono ?_
       rintro e w3 ⟨rfl, q3, rfl⟩))
  go_ret
  exact ⟨rfl, HG2.out.trans (grown_drewN _ _)⟩

section
variable (p n : Int) (u v : Value) (L : List (List Int)) (x : List Int) (w : World) (hu : MatV w u L) (hv : IntsV w v x) (hl : L.length ≤ 1000000) (hll : ∀ row ∈ L, row.length ≤ 1000000) (hxl : x.length ≤ 1000000) (hp0 : -1000 ≤ p) (hp1 : p ≤ 1000)
include hu hv hl hll hxl hp0 hp1
set_option maxRecDepth 100000 in
theorem spVector_any : Calls Tryd.prog 197 #[.int .i64 p, mxV n u, v] w fun e w' => e = .returned (.bool (vectorB p n L x)) ∧ w.grownBy w' none := by
  have HS := Lib.hid fun w' (hg : w.grownBy w' none) => spGood_any p n u L w' (hu.carry hg) hl hll hp0 hp1
  have HX := Lib.hid fun w' (hg : w.grownBy w' none) => fdIn_any p v x w' (hv.carry hg) hxl (by omega) (by omega)
  unfold mxV at *
  obtain ⟨a, c, rfl⟩ := hu.shape
  obtain ⟨xa, xc, rfl, hvx⟩ := hv
  have e0 := Lib.hid (alloc_heap_new w (.cells #[.int .i64 n, .slice a L.length c] 74))
  clear hu hvx hll
  cases h1 : spaceB p n L <;> cases h2 : x.all (elB p) <;> by_cases h3 : (x.length : Int) = n
  all_goals
    rw [h1] at HS
    rw [h2] at HX
    have HF := Lib.hid (show vectorB p n L x = (spaceB p n L && (decide ((x.length : Int) = n) && x.all (elB p))) from rfl)
    rw [h1, h2] at HF
    first
      | (have hd3 : decide ((x.length : Int) = n) = true := decide_eq_true h3
         have hb3 : ((x.length : Int) == n) = true := by rw [beq_iff_eq]; exact h3
         rw [hd3] at HF
         clear hd3)
      | (have hd3 : decide ((x.length : Int) = n) = false := decide_eq_false h3
         have hb3 : ((x.length : Int) == n) = false := by rw [beq_eq_false_iff_ne]; exact h3
         rw [hd3] at HF
         clear hd3)
    clear h1 h2 h3
    generalize L.length = l at *
    generalize x.length = xl at *
    go_enter Tryd.func197, Tryd.ntmps197
    go_wp2_with (first
      | (go_at_call 176
         with_reducible refine (HS.out _ (grownBy_alloc _ _ none)).mono ?_
         rintro e w1 ⟨rfl, hg⟩
         obtain ⟨c0, c1, f0, f1⟩ := bx (bx_on e0.out hg)
         have HG := Lib.hid ((grownBy_alloc w _ none).trans hg)
         clear hg)
      | (go_at_call 192; with_reducible refine (HX.out _ HG.out).mono ?_; rintro e w' ⟨rfl, rfl⟩))
    go_ret
    exact ⟨by rw [HF.out]; rfl, HG.out⟩

set_option maxRecDepth 100000 in
theorem sHasVector_no (hno : vectorB p n L x = false) : Calls Tryd.prog 74 #[.int .i64 p, mxV n u, v] w fun e w' => e = .returned (.tuple #[.bool false, .bool false]) ∧ w.grownBy w' none := by
  have HS := fun w' (hg : w.grownBy w' none) => spVector_any p n u v L x w' (hu.carry hg) (hv.carry hg) hl hll hxl hp0 hp1
  rw [hno] at HS
  have HS := Lib.hid HS
  unfold mxV at *
  obtain ⟨a, c, rfl⟩ := hu.shape
  obtain ⟨xa, xc, rfl, hvx⟩ := hv
  clear hu hvx hll hno
  generalize L.length = l at *
  generalize x.length = xl at *
  go_enter Tryd.func74, Tryd.ntmps74
  go_wp2_with (go_at_call 197
               with_reducible refine (HS.out _ (grownBy_alloc _ _ none)).mono ?_
               rintro e w1 ⟨rfl, hg⟩
               have HG := Lib.hid ((grownBy_alloc w _ none).trans hg)
               clear hg)
  go_ret2
  exact ⟨rfl, HG.out⟩
set_option maxRecDepth 100000 in
theorem sHasVector_yes (hb : vectorB p n L x = true) : Calls Tryd.prog 74 #[.int .i64 p, mxV n u, v] w fun e w' => e = .returned (.tuple #[.bool (hasB p n.toNat L x), .bool true]) ∧ w.grownBy w' none := by
  have HS := fun w' (hg : w.grownBy w' none) => spVector_any p n u v L x w' (hu.carry hg) (hv.carry hg) hl hll hxl hp0 hp1
  rw [hb] at HS
  have HS := Lib.hid HS
  obtain ⟨q, i, m, rfl, rfl, h1, h2, h3, h4, h5, h6, h7⟩ := vectorB_nat hb
  rw [Int.toNat_natCast]
  have HC := Lib.hid fun w' (hg : w.grownBy w' none) => spHas_any q m u v L x w' h1 (by omega) (hu.carry hg) (hv.carry hg) h5 h7 (by omega) (by omega)
  unfold mxV at *
  obtain ⟨a, c, rfl⟩ := hu.shape
  obtain ⟨xa, xc, rfl, hvx⟩ := hv
  have e0 := Lib.hid (alloc_heap_new w (.cells #[.int .i64 m, .slice a L.length c] 74))
  clear hu hvx hll hb h1 h5 h6 h7
  generalize hasB q m L x = hb at *
  generalize L.length = l at *
  generalize x.length = xl at *
  go_enter Tryd.func74, Tryd.ntmps74
  go_wp2_with (first
    | (go_at_call 197
       with_reducible refine (HS.out _ (grownBy_alloc _ _ none)).mono ?_
       rintro e w1 ⟨rfl, hg⟩
       obtain ⟨c0, c1, f0, f1⟩ := bx (bx_on e0.out hg)
       have HG := Lib.hid ((grownBy_alloc w _ none).trans hg)
       clear hg)
    | (go_at_call 200
       with_reducible refine (HC.out _ HG.out).mono ?_
       rintro e w2 ⟨rfl, hg⟩
       have HG2 := Lib.hid (HG.out.trans hg)
       clear hg))
  go_ret2
  exact ⟨rfl, HG2.out⟩
end
end Go.Proofs.YtpeaeminjbjlnaaDoor

/-
  The specification's coordinates and spans, checked. Conditions: the sizes are small.
-/
namespace Go.Proofs.YtpeaeminjbjlnaaDoor
open Go.RowKit
set_option linter.unusedVariables false

section
variable (p n : Int) (u v : Value) (L : List (List Int)) (x : List Int) (w : World) (hu : MatV w u L) (hv : IntsV w v x) (hl : L.length ≤ 1000000) (hll : ∀ row ∈ L, row.length ≤ 1000000) (hxl : x.length ≤ 1000000) (hp0 : -1000 ≤ p) (hp1 : p ≤ 1000)
include hu hv hl hll hxl hp0 hp1
set_option maxRecDepth 100000 in
theorem sCoordinatesOf_no (hno : vectorB p n L x = false) : Calls Tryd.prog 76 #[.int .i64 p, mxV n u, v] w fun e w' => e = .returned (.tuple #[nilS, .bool false]) ∧ w.grownBy w' none := by
  have HS := fun w' (hg : w.grownBy w' none) => spVector_any p n u v L x w' (hu.carry hg) (hv.carry hg) hl hll hxl hp0 hp1
  rw [hno] at HS
  have HS := Lib.hid HS
  unfold mxV at *
  unfold nilS
  obtain ⟨a, c, rfl⟩ := hu.shape
  obtain ⟨xa, xc, rfl, hvx⟩ := hv
  clear hu hvx hll hno
  generalize L.length = l at *
  generalize x.length = xl at *
  go_enter Tryd.func76, Tryd.ntmps76
  go_wp2_with (go_at_call 197
               with_reducible refine (HS.out _ (grownBy_alloc _ _ none)).mono ?_
               rintro e w1 ⟨rfl, hg⟩
               have HG := Lib.hid ((grownBy_alloc w _ none).trans hg)
               clear hg)
  go_ret2
  exact ⟨rfl, HG.out⟩
set_option maxRecDepth 100000 in
theorem sCoordinatesOf_yes (hb : vectorB p n L x = true) : Calls Tryd.prog 76 #[.int .i64 p, mxV n u, v] w fun e w' => ∃ o, e = .returned (.tuple #[o, .bool (hasB p n.toNat L x)]) ∧ OwnInts w.heap.size w' o (if hasB p n.toNat L x then coordsL L x else []) ∧ w.grownBy w' none := by
  have HS := fun w' (hg : w.grownBy w' none) => spVector_any p n u v L x w' (hu.carry hg) (hv.carry hg) hl hll hxl hp0 hp1
  rw [hb] at HS
  have HS := Lib.hid HS
  obtain ⟨q, i, m, rfl, rfl, h1, h2, h3, h4, h5, h6, h7⟩ := vectorB_nat hb
  rw [Int.toNat_natCast]
  have HC := Lib.hid fun w' (hg : w.grownBy w' none) => spHas_any q m u v L x w' h1 (by omega) (hu.carry hg) (hv.carry hg) h5 h7 (by omega) (by omega)
  have HD := Lib.hid fun w' (hg : w.grownBy w' none) => spCoords_any m u v L x w' (hu.carry hg) (hv.carry hg) (by omega) (by omega) h7.1 (fun row hrow => (h6 row hrow).1) (fun i hi => lead_lt h1 h5 hi)
  unfold mxV at *
  obtain ⟨a, c, rfl⟩ := hu.shape
  obtain ⟨xa, xc, rfl, hvx⟩ := hv
  have e0 := Lib.hid (alloc_heap_new w (.cells #[.int .i64 m, .slice a L.length c] 74))
  clear hu hvx hll hb h1 h5 h6 h7
  generalize coordsL L x = co at *
  generalize L.length = l at *
  generalize x.length = xl at *
  cases hbb : hasB q m L x
  all_goals
    rw [hbb] at HC
    clear hbb
    go_enter Tryd.func76, Tryd.ntmps76
    go_wp2_with (first
      | (go_at_call 197
         with_reducible refine (HS.out _ (grownBy_alloc _ _ none)).mono ?_
         rintro e w1 ⟨rfl, hg⟩
         obtain ⟨c0, c1, f0, f1⟩ := bx (bx_on e0.out hg)
         have E1 := Lib.hid (bx_on e0.out hg)
         have HG := Lib.hid ((grownBy_alloc w _ none).trans hg)
         clear hg)
      | (go_at_call 200
         with_reducible refine (HC.out _ HG.out).mono ?_
         rintro e w2 ⟨rfl, hg⟩
         obtain ⟨d0, d1, g0, g1⟩ := bx (bx_on E1.out hg)
         have HG2 := Lib.hid (HG.out.trans hg)
         clear hg)
      | (go_at_call 201
         with_reducible refine (HD.out _ HG2.out).mono ?_
         rintro e w3 ⟨o, rfl, ho, hg⟩
         have HG3 := Lib.hid (HG2.out.trans hg); have HO := Lib.hid ho
         clear ho hg))
    go_ret2
    first
      | exact ⟨nilS, rfl, OwnInts.nil _ _, HG2.out⟩
      | exact ⟨o, rfl, HO.out.base HG2.out.size, HG3.out⟩
end

set_option maxRecDepth 100000 in
theorem sSpanOf_no (p n : Int) (v : Value) (L : List (List Int)) (w : World) (hv : MatV w v L) (hl : L.length ≤ 1000000) (hll : ∀ row ∈ L, row.length ≤ 1000000) (hp0 : -1000 ≤ p) (hp1 : p ≤ 1000) (hno : spanB p n L = false) :
    Calls Tryd.prog 80 #[.int .i64 p, .int .i64 n, v] w fun e w' => e = .returned (.tuple #[mxV 0 nilS, .bool false]) ∧ w.grownBy w' none := by
  have hgr := grownBy_alloc w (.cells #[.int .i64 0, .slice none 0 0] 74) none
  have HT := Lib.hid fun w' => fdGood_any p w' hp0 hp1
  have HA := Lib.hid (spRows_any p n v L _ (hv.carry hgr) hl hll hp0 hp1)
  have HW := Lib.hid fun w' => l1In_any n 0 24 w'
  have HG := Lib.hid hgr
  unfold spanB at hno
  unfold mxV nilS
  obtain ⟨a, c, rfl⟩ := hv.shape
  clear hv hll hgr
  cases h1 : fldB p <;> cases h2 : decide (0 ≤ n ∧ n ≤ 24) <;> cases h4 : rowsB p n L <;> by_cases h3 : L.length ≤ 48
  all_goals
    rw [h1] at HT
    rw [h2] at HW
    rw [h4] at HA
    first
      | (exfalso; rw [h1, h2, h4, decide_eq_true h3] at hno; exact absurd hno (by decide))
      | (clear h1 h2 h4 hno
         generalize L.length = l at *
         try (have h3i : (48 : Int) < (l : Int) := by omega)
         go_enter Tryd.func80, Tryd.ntmps80
         go_wp2_with (first
           | (go_at_call 206; with_reducible refine (HT.out _).mono ?_; rintro e w' ⟨rfl, rfl⟩)
           | (go_at_call 137; with_reducible refine (HW.out _).mono ?_; rintro e w' ⟨rfl, rfl⟩)
           | (go_at_call 207; with_reducible refine HA.out.mono ?_; rintro e w' ⟨rfl, rfl⟩))
         refine bodyPost_ret_by (v := .tuple #[.agg #[.int .i64 0, .slice none 0 0], .bool false]) ?_ rfl ⟨rfl, HG.out⟩
         simp [results, go_sem, *])
set_option maxRecDepth 100000 in
theorem sSpanOf_yes (p n : Int) (v : Value) (L : List (List Int)) (w : World) (hv : MatV w v L) (hb : spanB p n L = true) :
    Calls Tryd.prog 80 #[.int .i64 p, .int .i64 n, v] w fun e w' => ∃ o, e = .returned (.tuple #[mxV n o, .bool true]) ∧ Pre w.heap.size w' o (reducedL p n.toNat L) ∧ w.grownBy w' none := by
  unfold spanB at hb
  simp only [Bool.and_eq_true, decide_eq_true_eq] at hb
  obtain ⟨h1, ⟨h2, h2'⟩, h3, h4⟩ := hb
  obtain ⟨b1, b2⟩ := fldB_bd h1
  obtain ⟨q, rfl⟩ := Int.eq_ofNat_of_zero_le (show 0 ≤ p by omega)
  obtain ⟨m, rfl⟩ := Int.eq_ofNat_of_zero_le h2
  haveI : NeZero q := ⟨by omega⟩
  rw [Int.toNat_natCast]
  have hok := rowsB_ok.1 h4
  have hgr := grownBy_alloc w (.cells #[.int .i64 0, .slice none 0 0] 74) none
  have hs : (w.alloc (.cells #[.int .i64 0, .slice none 0 0] 74)).heap.size = w.heap.size + 1 := by simp
  have HT := fun w' => fdGood_any q w' (by omega) (by omega)
  have HA := spRows_any q m v L _ (hv.carry hgr) (by omega) (fun row hrow => by rw [(hok row hrow).1]; omega) (by omega) (by omega)
  rw [h1] at HT
  rw [h4] at HA
  have HT := Lib.hid HT; have HA := Lib.hid HA
  have HW := l1In_any m 0 24
  rw [decide_eq_true (show (0 : Int) ≤ m ∧ (m : Int) ≤ 24 by omega)] at HW
  have HW := Lib.hid HW
  rw [fldB_nat] at h1
  have HR := Lib.hid (spReduce_any q m v L _ h1 (by omega) (hv.carry hgr) hok (by omega) (by omega))
  have HS := Lib.hid hs
  unfold mxV at *
  obtain ⟨a, c, rfl⟩ := hv.shape
  clear hv hgr hs h4 hok h1 b1
  have hl3 : ¬ (48 : Int) < (L.length : Int) := by omega
  generalize reducedL q m L = red at *
  generalize L.length = l at *
  go_enter Tryd.func80, Tryd.ntmps80
  go_wp2_with (first
    | (go_at_call 206; with_reducible refine (HT.out _).mono ?_; rintro e w' ⟨rfl, rfl⟩)
    | (go_at_call 137; with_reducible refine (HW.out _).mono ?_; rintro e w' ⟨rfl, rfl⟩)
    | (go_at_call 207; with_reducible refine HA.out.mono ?_; rintro e w' ⟨rfl, rfl⟩)
    | (go_at_call 168
       with_reducible refine HR.out.mono ?_
       rintro e w1 ⟨ra, rc, rfl, hp, hg⟩
       obtain ⟨hbl, hgw⟩ := box1 w _ _ hg
       have HP := Lib.hid hp; have HG := Lib.hid hgw
       have HZ := Lib.hid hg.size
       obtain ⟨c0, c1, f0, f1⟩ := bx hbl
       clear hp hg hbl hgw))
  refine bodyPost_ret_by (v := .tuple #[.agg #[.int .i64 m, .slice ra red.length rc], .bool true]) ?_ rfl ?_
  · simp [results, go_sem, *]
  · have hp := HP.out
    have hz := HZ.out
    rw [HS.out] at hp hz
    exact ⟨_, rfl, (hp.only (one_set (w := w1) w.heap.size (.int .i64 m) (.slice ra red.length rc)) (fun k hk => by have : k = w.heap.size := hk; omega)).base (by omega), box_end _ _ HG.out (by omega)⟩
end Go.Proofs.YtpeaeminjbjlnaaDoor

/-
  The specification's null rows. Conditions: the sizes are small.
-/
namespace Go.Proofs.YtpeaeminjbjlnaaDoor
open Go.RowKit
set_option linter.unusedVariables false

theorem fdNegE_any (p a : Int) (w : World) (hp : 1 ≤ p) (hp2 : p ≤ 1000) (ha : 0 ≤ a) (ha2 : a ≤ p) : Calls Tryd.prog 237 #[.int .i64 p, .int .i64 a] w fun e w' => e = .returned (.int .i64 ((p - a) % p)) ∧ w = w' := by
  have h1 := Int.emod_nonneg (p - a) (show p ≠ 0 by omega)
  have h2 := Int.emod_lt_of_pos (p - a) (show 0 < p by omega)
  go_enter Tryd.func237, Tryd.ntmps237
  go_wp2
  go_ret
  exact ⟨rfl, rfl⟩
def nullPart (p : Int) (n : Nat) (m : List (List Int)) (j : Nat) : List (List Int) := ((List.range j).filter fun t => !isLead m t).map fun t => nullTo p n m t m.length
theorem nullPart_lead {p : Int} {n : Nat} {m : List (List Int)} {j : Nat} (h : isLead m j = true) : nullPart p n m (j + 1) = nullPart p n m j := by
  unfold nullPart
  rw [List.range_succ, List.filter_append, List.map_append]
  simp [h]
theorem nullPart_free {p : Int} {n : Nat} {m : List (List Int)} {j : Nat} (h : isLead m j = false) : nullPart p n m (j + 1) = nullPart p n m j ++ [nullTo p n m j m.length] := by
  unfold nullPart
  rw [List.range_succ, List.filter_append, List.map_append]
  simp [h]
theorem nullPart_len (p : Int) (n : Nat) (m : List (List Int)) (j : Nat) : (nullPart p n m j).length ≤ j := by
  unfold nullPart
  rw [List.length_map]
  exact Nat.le_trans (List.length_filter_le _ _) (by simp)
theorem isLead_yes {m : List (List Int)} {j i : Nat} (hi : i < m.length) (h : leadL (m.getD i []) = j) : isLead m j = true := by
  unfold isLead
  rw [List.any_eq_true]
  refine ⟨m.getD i [], getD_mem hi, ?_⟩
  rw [h]; exact beq_self_eq_true _
theorem isLead_no {m : List (List Int)} {j : Nat} (h : ∀ i, i < m.length → leadL (m.getD i []) ≠ j) : isLead m j = false := by
  unfold isLead
  rw [List.any_eq_false]
  intro r hr
  obtain ⟨i, hi, rfl⟩ := List.getElem_of_mem hr
  have := h i hi
  rw [List.getD_eq_getElem?_getD, List.getElem?_eq_getElem hi] at this
  simpa using this

set_option maxRecDepth 100000 in
set_option maxHeartbeats 4000000 in
theorem spNull_any (p : Nat) [NeZero p] (n : Nat) (u : Value) (L : List (List Int)) (w : World) (hf : fldN p = true) (hp2 : p ≤ 1000) (hv : MatV w u L) (hL : RowsOk p n L) (hm : L.length ≤ 1000) (hn : n ≤ 1000) :
    Calls Tryd.prog 177 #[.int .i64 p, .int .i64 n, u] w fun e w' => ∃ v c, e = .returned (.slice v (orthL p L n).length c) ∧ Pre w.heap.size w' (.slice v (orthL p L n).length c) (orthL p L n) ∧ w.grownBy w' none := by
  obtain ⟨i0, hi, hz0, hz1, hz2⟩ := info_parts info_int
  have HI := Lib.hid hi; have HZ0 := Lib.hid hz0; have HZ1 := Lib.hid hz1; have HZ2 := Lib.hid hz2
  have hp1 := lt_p hf
  have HR := Lib.hid (spReduce_any p n u L w hf hp2 hv hL hm hn)
  have hred := reducedL_red hf hL
  have hrl : (reducedL p n L).length ≤ 1000 := by rw [reducedL_len hf hL]; exact Nat.le_trans (rank_le hf hL) hm
  have heq := spNull_eq hf hL
  unfold spNullL at heq
  have hnp : nullRows p n (reducedL p n L) = nullPart p n (reducedL p n L) n := rfl
  rw [hnp] at heq
  have HNOK := Lib.hid (nullRows_ok (p := p) (n := n) (m := reducedL p n L) hp1)
  rw [hnp] at HNOK
  have HR2 := Lib.hid fun w' o (ho : MatV w' o (nullPart p n (reducedL p n L) n)) => spReduce_any p n o _ w' hf hp2 ho HNOK.out (Nat.le_trans (nullPart_len _ _ _ _) hn) hn
  rw [heq] at HR2
  have HLT := Lib.hid fun i (hi : i < (reducedL p n L).length) => lead_lt hf hred hi
  have HROW := Lib.hid hred.1
  have HNUL := Lib.hid fun j i => nullTo_ok (p := p) (n := n) (j := j) (m := reducedL p n L) hp1 i
  obtain ⟨ua, uc, rfl⟩ := hv.shape
  clear hv hL hred heq hnp hi hz0 hz1 hz2
  generalize orthL p L n = K at *
  generalize reducedL p n L = M at *
  generalize hml : M.length = r at *
  have HML := Lib.hid hml
  generalize L.length = l at *
  clear hml
  go_enter Tryd.func177, Tryd.ntmps177
  go_wp2_with (first
    | (go_at_call 168
       with_reducible refine HR.out.mono ?_
       rintro e w1 ⟨ma, mc, rfl, hp, hg⟩
       have HU := Lib.hid hp.read; have HG := Lib.hid hg
       clear hp hg)
    | (at_make; refine wpList_make_full _ rfl _ _ 24 rfl w1.heap.size 3 i0 (.int .i64 0) 1 Tryd.underlying24 HI.out HZ0.out HZ1.out _ _ _ _ n rfl rfl rfl rfl (by rw [HZ2.out]; omega) (by unfold maxLen; omega) (Nat.le_refl _) ?_; intro w2 hown' hgr'
       have H1 := Lib.hid hown'; have H2 := Lib.hid hgr'
       clear hown' hgr'))
  have ho := H1.out
  rw [madeCells_int] at ho
  have ho' : OwnInts w1.heap.size w2 (.slice (some ⟨w1.heap.size, 0, none⟩) n n) (List.replicate n 0) := by
    unfold OwnInts; rw [List.length_replicate]; exact ho
  have HS := Lib.hid ((Sep.start w1).newI H2.out ho')
  clear ho ho' H1 H2
  generalize w1.heap.size = g at *
  go_loopw [25] (fun i wr => ∃ (k : Nat) (zs : List Int), k ≤ n ∧ i = .int .i64 k ∧ zs.length = n ∧ (∀ t, t < k → zs.getD t 0 = -1) ∧ Sep wr [OI (.slice (some ⟨g, 0, none⟩) n n) zs, KeepA w1]) (fun i _ => n - (intOf i).toNat)
  case atStart => exact ⟨0, _, by omega, rfl, by simp, fun _ h => absurd h (by omega), HS.out⟩
  case round =>
    obtain ⟨k, zs, hk, rfl, hz1, hz2, hs⟩ := hrel
    have HZL := Lib.hid hz1; have HZN := Lib.hid hz2; have HS1 := Lib.hid hs
    clear hz1 hz2 hs
    by_cases hlt : k < n
    · have hc := HS1.out.hd.cell HZL.out.symm (show k < zs.length by rw [HZL.out]; exact hlt)
      have hfr := HS1.out.hd.free HZL.out.symm k
      have HP := Lib.hid (HS1.out.setI HZL.out.symm k (-1))
      generalize zs[k]'(by rw [HZL.out]; exact hlt) = old at hc
      go_wp2
      go_roundw
      case rel => exact ⟨k + 1, zs.set k (-1), by omega, by go_num, by rw [List.length_set]; exact HZL.out, fun t ht => by
        by_cases h : k = t
        · subst h; rw [getD_set_self (by rw [HZL.out]; exact hlt)]
        · rw [getD_set_ne h]; exact HZN.out t (by omega), HP.out⟩
      case measure => simp [intOf]; omega
    · go_wp2_with fail
      obtain ⟨w3, hw3⟩ : ∃ w3, w3 = wr := ⟨_, rfl⟩
      subst hw3
      go_loopw [34] (fun i wr => ∃ (k : Nat) (zs : List Int), k ≤ r ∧ i = .int .i64 k ∧ zs.length = n ∧ (∀ t, t < n → (∃ q, q < k ∧ leadL (M.getD q []) = t ∧ 0 ≤ zs.getD t 0) ∨ ((∀ q, q < k → leadL (M.getD q []) ≠ t) ∧ zs.getD t 0 = -1)) ∧ Sep wr [OI (.slice (some ⟨g, 0, none⟩) n n) zs, KeepA w1]) (fun i _ => r - (intOf i).toNat)
      case atStart => exact ⟨0, zs, by omega, rfl, HZL.out, fun t ht => Or.inr ⟨fun q hq => absurd hq (by omega), HZN.out t (by omega)⟩, HS1.out⟩
      case round =>
        obtain ⟨k, zs, hk, rfl, hz1, hz2, hs⟩ := hrel
        have HZL := Lib.hid hz1; have HZN := Lib.hid hz2; have HS1 := Lib.hid hs
        clear hz1 hz2 hs
        by_cases hlt : k < r
        · have hkm : k < M.length := by rw [HML.out]; exact hlt
          obtain ⟨b, o, cap, ml, ra, rc, he, hcell, hrow0⟩ := HU.out.rowK HS1.out.s2.hd hkm
          cases he
          have hro := HROW.out _ (getD_mem hkm)
          rw [hro.1] at hcell hrow0
          have hll := HLT.out k hlt
          have HLD := Lib.hid (spLead_any _ _ wr (hrow0.carry HS1.out.s2.hd) (by rw [hro.1]; omega))
          clear hrow0 hro hkm
          generalize hld : leadL (M.getD k []) = ld at *
          have HLDE := Lib.hid hld
          have hc := HS1.out.hd.cell HZL.out.symm (show ld < zs.length by rw [HZL.out]; exact hll)
          have hfr := HS1.out.hd.free HZL.out.symm ld
          have HP := Lib.hid (HS1.out.setI HZL.out.symm ld k)
          generalize zs[ld]'(by rw [HZL.out]; exact hll) = old at hc
          have l0 : ((ld : Nat) : Int) < (n : Int) := by omega
          clear hld
          go_wp2_with (go_at_call 276
                       with_reducible refine HLD.out.mono ?_
                       rintro e w' ⟨rfl, rfl⟩)
          go_roundw
          case rel => exact ⟨k + 1, zs.set ld k, by omega, by go_num, by rw [List.length_set]; exact HZL.out, fun t ht => by
            by_cases h : ld = t
            · subst h
              exact Or.inl ⟨k, by omega, HLDE.out, by rw [getD_set_self (by rw [HZL.out]; exact hll)]; omega⟩
            · rw [getD_set_ne h]
              rcases HZN.out t ht with ⟨q, h1, h2, h3⟩ | ⟨h1, h2⟩
              · exact Or.inl ⟨q, by omega, h2, h3⟩
              · refine Or.inr ⟨fun q hq => ?_, h2⟩
                by_cases hqk : q = k
                · rw [hqk, HLDE.out]; exact h
                · exact h1 q (by omega), HP.out⟩
          case measure => simp [intOf]; omega
        · have hkr : k = r := by omega
          subst hkr
          have hlead : ∀ t, t < n → (isLead M t = true ∧ 0 ≤ zs.getD t 0) ∨ (isLead M t = false ∧ zs.getD t 0 = -1) := by
            intro t ht
            rcases HZN.out t ht with ⟨q, h1, h2, h3⟩ | ⟨h1, h2⟩
            · exact Or.inl ⟨isLead_yes (by rw [HML.out]; exact h1) h2, h3⟩
            · exact Or.inr ⟨isLead_no fun i hi => h1 i (by have := HML.out; omega), h2⟩
          have HLEAD := Lib.hid hlead
          have HS2 := Lib.hid (HS1.out.nilM)
          clear hlead
          go_wp2_with fail
          clear hlt hk
          obtain ⟨w4, hw4⟩ : ∃ w4, w4 = wr := ⟨_, rfl⟩
          subst hw4
          go_loopw [12, 13] (fun out j wr => ∃ (t : Nat) (vs : List Value), t ≤ n ∧ j = .int .i64 t ∧ Sep wr [OM out vs (nullPart p n M t), OI (.slice (some ⟨g, 0, none⟩) n n) zs, KeepA w1]) (fun _ j _ => n - (intOf j).toNat)
          case atStart => exact ⟨0, [], by omega, rfl, HS2.out⟩
          case round =>
            obtain ⟨t, vs, ht, rfl, hs⟩ := hrel
            have HS3 := Lib.hid hs
            clear hs
            by_cases hlt : t < n
            · have hc := HS3.out.s2.hd.cell HZL.out.symm (show t < zs.length by rw [HZL.out]; exact hlt)
              rw [← getD_lt (by rw [HZL.out]; exact hlt)] at hc
              have t0 : (0 : Int) ≤ (t : Int) := by omega
              have t1 : (t : Int) < (n : Int) := by omega
              rcases HLEAD.out t hlt with ⟨h1, h2⟩ | ⟨h1, h2⟩
              · have HNP := Lib.hid (nullPart_lead (p := p) (n := n) h1)
                generalize zs.getD t 0 = z at *
                clear h1
                go_wp2
                go_roundw
                case rel => exact ⟨t + 1, vs, by omega, by go_num, by rw [HNP.out]; exact HS3.out⟩
                case measure => simp [intOf]; omega
              · have HNP := Lib.hid (nullPart_free (p := p) (n := n) h1)
                rw [h2] at hc
                have A5 := Lib.hid (Nat.le_trans (nullPart_len p n M t) (show t ≤ 1000000 by omega))
                clear h1 h2
                go_wp2_with (
                  at_make
                  refine wpList_make_full _ rfl _ _ 24 rfl wr.heap.size 3 i0 (.int .i64 0) 1 Tryd.underlying24 HI.out HZ0.out HZ1.out _ _ _ _ n rfl rfl rfl rfl (by rw [HZ2.out]; omega) (by unfold maxLen; omega) (Nat.le_refl _) ?_
                  intro w5 hown' hgr'
                  rw [madeCells_int] at hown'
                  have ho' : OwnInts wr.heap.size w5 (.slice (some ⟨wr.heap.size, 0, none⟩) n n) (List.replicate n 0) := by
                    unfold OwnInts; rw [List.length_replicate]; exact hown'
                  have hs5 := HS3.out.newI hgr' ho'
                  have hc5 := hs5.hd.cell (show n = (List.replicate n (0 : Int)).length by simp) (show t < (List.replicate n (0 : Int)).length by simpa using hlt)
                  have hf5 := hs5.hd.free (show n = (List.replicate n (0 : Int)).length by simp) t
                  have HP5 := Lib.hid (hs5.setI (show n = (List.replicate n (0 : Int)).length by simp) t 1)
                  clear hown' hgr' ho' hs5
                  generalize (List.replicate n (0 : Int))[t]'(by simpa using hlt) = old5 at hc5)
                generalize wr.heap.size = gv at *
                generalize w5.setCell ⟨gv, t, none⟩ (.int .i64 1) = w6 at *
                clear hc hc5 hf5
                obtain ⟨w7, hw7⟩ : ∃ w7, w7 = w6 := ⟨_, rfl⟩
                subst hw7
                go_loopw [62] (fun i wx => ∃ k2 : Nat, k2 ≤ k ∧ i = .int .i64 k2 ∧ Sep wx [OI (.slice (some ⟨gv, 0, none⟩) n n) (nullTo p n M t k2), OM u12 vs (nullPart p n M t), OI (.slice (some ⟨g, 0, none⟩) n n) zs, KeepA w1]) (fun i _ => k - (intOf i).toNat)
                case atStart => exact ⟨0, by omega, rfl, HP5.out⟩
                case round =>
                  obtain ⟨k2, hk2, rfl, hs⟩ := hrel
                  have HS6 := Lib.hid hs
                  clear hs
                  by_cases hlt2 : k2 < k
                  · have hkm : k2 < M.length := by rw [HML.out]; exact hlt2
                    obtain ⟨b, o, cap, ml, ra, rc, he, hcell, hrow0⟩ := HU.out.rowK HS6.out.s4.hd hkm
                    cases he
                    have hro := HROW.out _ (getD_mem hkm)
                    rw [hro.1] at hcell hrow0
                    have hll := HLT.out k2 hlt2
                    have HLD := Lib.hid fun wq (h : w1.grownBy wq none) => spLead_any _ _ wq (hrow0.carry h) (by rw [hro.1]; omega)
                    obtain ⟨d, rfl, hs1, hd1, hc1⟩ := (hrow0.carry HS6.out.s4.hd).at (show t < (M.getD k2 []).length by rw [hro.1]; exact hlt)
                    obtain ⟨db, dof, _⟩ := d
                    simp only at hs1 hc1
                    subst hs1
                    have hat : (M.getD k2 [])[t]'(by rw [hro.1]; exact hlt) = at2 M k2 t := by unfold at2; rw [getD_lt]
                    have hbd := hro.2 _ (List.getElem_mem (show t < (M.getD k2 []).length by rw [hro.1]; exact hlt))
                    rw [hat] at hc1 hbd
                    have hnx : nullTo p n M t (k2 + 1) = (nullTo p n M t k2).set (leadL (M.getD k2 [])) ((p - at2 M k2 t) % p) := rfl
                    have HNX := Lib.hid hnx
                    have hnl := (HNUL.out t k2).1
                    obtain ⟨old6, hv1⟩ : ∃ old6, wr.cell? ⟨gv, leadL (M.getD k2 []), none⟩ = some (.int .i64 old6) := ⟨_, HS6.out.hd.cell hnl.symm (show leadL (M.getD k2 []) < (nullTo p n M t k2).length by rw [hnl]; exact hll)⟩
                    have hv2 := HS6.out.hd.free hnl.symm (leadL (M.getD k2 []))
                    have HP6 := Lib.hid fun y => HS6.out.setI hnl.symm (leadL (M.getD k2 [])) y
                    clear hrow0 hro hkm hd1 hat hnx hnl
                    generalize at2 M k2 t = y at *
                    generalize leadL (M.getD k2 []) = ld at *
                    have HNEG := Lib.hid fun wq => fdNegE_any p y wq (by omega) (by omega) hbd.1 (by omega)
                    obtain ⟨nv, hnv⟩ : ∃ nv, nv = ((p : Int) - y) % p := ⟨_, rfl⟩
                    rw [← hnv] at HNEG HNX
                    clear hnv
                    have l0 : ((ld : Nat) : Int) < (n : Int) := by omega
                    have l1 : (0 : Int) ≤ ((ld : Nat) : Int) := by omega
                    have l2 : (0 : Int) ≤ (k2 : Int) := by omega
                    have l3 : (k2 : Int) < (k : Int) := by omega
                    go_wp2_with fail
                    refine wp_region_still_tail 13 (by kernel_rfl) (by kernel_rfl) ?_
                    simp only [List.take_succ_cons, List.take_zero, List.drop_succ_cons, List.drop_zero]
                    repeat still_step
                    still_call (calls_flip (HLD.out _ (HS6.out.dr.s4.hd)))
                    repeat still_step
                    still_call (calls_flip (HNEG.out _))
                    repeat still_step
                    refine wpStill_nil ?_
                    change wpList _ _ _ _ _ wr.drew
                    go_wp2
                    go_roundw
                    case rel => exact ⟨k2 + 1, by omega, by go_num, by rw [HNX.out]; exact (HP6.out _).dr⟩
                    case measure => simp [intOf]; omega
                  · have hkk : k2 = k := by omega
                    subst hkk
                    go_wp2_with (
                      at_builtin
                      refine app_rowS rfl _ _ rfl rfl rfl HS6.out A5.out ?_
                      intro g2 cap2 w8 hs8
                      have HS8 := Lib.hid hs8
                      clear hs8)
                    go_roundw
                    case rel => exact ⟨t + 1, _, by omega, by go_num, by rw [HNP.out, HML.out]; exact HS8.out⟩
                    case measure => simp [intOf]; omega
            · have htn : t = n := by omega
              subst htn
              have hM := HS3.out.hd.read
              obtain ⟨oa, oc, hoe⟩ := hM.shape
              subst hoe
              have HF := Lib.hid (HR2.out _ _ hM)
              have HK := Lib.hid HS3.out.s3.hd
              clear hM
              generalize (nullPart p t M t).length = nl at *
              go_wp2_with (go_at_call 168
                           with_reducible refine HF.out.mono ?_
                           rintro e w9 ⟨ra, rc, rfl, hp9, hg9⟩
                           have HP9 := Lib.hid hp9; have HG9 := Lib.hid hg9
                           clear hp9 hg9)
              go_ret
              exact ⟨ra, rc, rfl, HP9.out.base (Nat.le_trans HG.out.size HK.out.size), HG.out.trans (HK.out.trans HG9.out)⟩
end Go.Proofs.YtpeaeminjbjlnaaDoor

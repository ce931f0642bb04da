/-
  PruneCircuit in the program and in the reference. Conditions: at most 2,000,000 gates and outputs.
-/
import Derived.Test.YtkamcgonacmieaaDoorNd03
import Derived.Test.YtkamcgonacmieaaDoorNb01
import Derived.BigQuiet
import Derived.Test.YtkamcgonacmieaaDoorNb02
import Derived.Test.YtkamcgonacmieaaDoorNa04
namespace Go.Proofs.YtkamcgonacmieaaDoor
open Go.RowKit
set_option linter.unusedVariables false
set_option maxRecDepth 100000

noncomputable def pruOk (p : Int) (c : Circ) : Bool := circE p c && circE p (pruC c)
noncomputable def pruRes (p : Int) (c : Circ) : Circ := if pruOk p c = true then pruC c else circ0
set_option maxHeartbeats 4000000 in
theorem iPrune_any (p n : Int) (gv ov : Value) (gs : List Gt) (os : List Int) (w : World) (ht : Tab w) (hg : RdR gateE w gv gs) (ho : IntsV w ov os) (l1 : gs.length ≤ 2000000) (l2 : os.length ≤ 2000000) :
    Calls Tryd.prog 59 #[.int .i64 p, cirV n gv ov] w (CirRes (pruRes p ⟨n, gs, os⟩) (pruOk p ⟨n, gs, os⟩) w) := by
  have HIC := Lib.hid fun W (h : w.grownBy W none) => isCircuit_any p n gv ov gs os W (ht.grown h) (hg.carry h) (ho.carry h) l1 l2
  cases hc : circE p ⟨n, gs, os⟩
  · have hok : pruOk p ⟨n, gs, os⟩ = false := by unfold pruOk; rw [hc]; rfl
    have hr : pruRes p ⟨n, gs, os⟩ = circ0 := by unfold pruRes; rw [hok]; rfl
    rw [hr, hok]
    rw [hc] at HIC
    obtain ⟨ga, gc, rfl⟩ := hg.shape
    obtain ⟨oa, oc, rfl⟩ := ho.shape
    unfold cirV at *
    clear hc hok hr hg ho
    have hs0 := ((Sep.start w).box #[.int .i64 n, .slice ga gs.length gc, .slice oa os.length oc] 29).box #[.int .i64 0, .slice none 0 0, .slice none 0 0] 29
    have e1 : (w.alloc (.cells #[.int .i64 n, .slice ga gs.length gc, .slice oa os.length oc] 29)).heap.size = w.heap.size + 1 := by simp
    rw [e1] at hs0
    have HS0 := Lib.hid hs0
    have HK0 := Lib.hid (show w.grownBy _ none from hs0.tl.tl.hd)
    clear hs0 e1
    generalize gs.length = m at *
    generalize os.length = m2 at *
    go_enter Tryd.func59, Tryd.ntmps59
    go_wp2_with (
      go_at_call 57
      with_reducible refine (HIC.out _ HK0.out).mono ?_
      rintro e w4 ⟨rfl, hg4⟩
      have hs1 := HS0.out.grown hg4
      obtain ⟨r0, r1, r2, r3, r4, r5⟩ := bx3 hs1.hd
      have hs2 := ((hs1.setB 0 (.int .i64 0)).setB 1 (.slice none 0 0)).setB 2 (.slice none 0 0)
      obtain ⟨t0, t1, t2, _⟩ := bx3 hs2.hd
      have HKF := Lib.hid (show w.grownBy _ none from hs2.tl.tl.hd)
      clear hg4 hs1 hs2)
    refine bodyPost_ret_by (v := .tuple #[.agg #[.int .i64 0, .slice none 0 0, .slice none 0 0], .bool false]) ?_ rfl (CirRes.zero HKF.out)
    simp [results, go_sem, *]
  · obtain ⟨hgs, hos, h1, h2, h3⟩ := circE_facts hc
    simp only at hgs hos h1 h2 h3
    have hok : pruOk p ⟨n, gs, os⟩ = circE p (pruC ⟨n, gs, os⟩) := by unfold pruOk; rw [hc]; rfl
    have hres : pruRes p ⟨n, gs, os⟩ = if circE p (pruC ⟨n, gs, os⟩) = true then pruC ⟨n, gs, os⟩ else circ0 := by unfold pruRes; rw [hok]
    rw [hok, hres]
    rw [hc] at HIC
    have hpn : (pruC ⟨n, gs, os⟩).n = n := rfl
    have hul := (use_spec hgs.ops hos).1.1
    have hpl : (pruC ⟨n, gs, os⟩).gs.length = (markL (useL gs os)).length := by unfold pruC keepC; simp only [List.length_map]
    have hpo : (pruC ⟨n, gs, os⟩).os.length = os.length := by unfold pruC keepC; simp only [List.length_map]
    have hpm : (markL (useL gs os)).length ≤ 1000 := by
      have := markTo_len (useL gs os) (useL gs os).length
      unfold markL
      rw [hul] at this ⊢
      omega
    have HU := Lib.hid fun W (h : w.grownBy W none) => used_any n gv ov gs os W (hg.carry h) (ho.carry h) (by omega) (by omega) hgs.ops hos
    have HKE := Lib.hid fun W bv (h : w.grownBy W none) (hb : RdR boolE W bv (useL gs os)) => kept_any n gv ov bv gs os (useL gs os) W (hg.carry h) (ho.carry h) hb hul (by omega) (by omega) hgs.ops hos
    rw [show keepC ⟨n, gs, os⟩ (markL (useL gs os)) = pruC ⟨n, gs, os⟩ from rfl, ← hpl] at HKE
    rw [← hpl] at hpm
    generalize pruC ⟨n, gs, os⟩ = D at *
    obtain ⟨Dn, Dg, Do⟩ := D
    simp only at hpn hpl hpo hpm HKE
    subst hpn
    have HV := Lib.hid fun W gv ov (h : w.grownBy W none) (h1 : RdR gateE W gv Dg) (h2 : IntsV W ov Do) => validCircuit_any p Dn gv ov Dg Do W (ht.grown h) h1 h2 (by omega) (by omega)
    obtain ⟨ga, gc, rfl⟩ := hg.shape
    obtain ⟨oa, oc, rfl⟩ := ho.shape
    unfold cirV at *
    have HFIN := Lib.hid fun W a1 c1 a2 c2 (h : Sep W [OR gateE (.slice a1 Dg.length c1) Dg, OI (.slice a2 os.length c2) Do, KeepA w]) => (show CirRes ⟨Dn, Dg, Do⟩ true w (.returned (.tuple #[.agg #[.int .i64 Dn, .slice a1 Dg.length c1, .slice a2 os.length c2], .bool true])) W from ⟨a1, c1, a2, c2, (by rw [hpo]; rfl), (by rw [hpo]; exact h)⟩)
    clear hc hok hres hg ho hgs hos hpl hpo hul hpm
    generalize circE p ⟨Dn, Dg, Do⟩ = b at *
    have hs0 := ((Sep.start w).box #[.int .i64 Dn, .slice ga gs.length gc, .slice oa os.length oc] 29).box #[.int .i64 0, .slice none 0 0, .slice none 0 0] 29
    have e1 : (w.alloc (.cells #[.int .i64 Dn, .slice ga gs.length gc, .slice oa os.length oc] 29)).heap.size = w.heap.size + 1 := by simp
    rw [e1] at hs0
    have HS0 := Lib.hid hs0
    have HK0 := Lib.hid (show w.grownBy _ none from hs0.tl.tl.hd)
    clear hs0 e1
    generalize gs.length = m at *
    generalize os.length = m2 at *
    generalize Dg.length = dm at *
    cases b
    · simp only [nilS, Bool.false_eq_true, if_false] at HV
      go_enter Tryd.func59, Tryd.ntmps59
      go_upto_region 3 with (first
        | (skip
           go_at_call 57
           with_reducible refine (HIC.out _ HK0.out).mono ?_
           rintro e w4 ⟨rfl, hg4⟩
           have HS1 := Lib.hid (HS0.out.grown hg4)
           have HK1 := Lib.hid (grownBy_trans HK0.out hg4)
           obtain ⟨x0, x1, x2, _⟩ := bx3 HS1.out.tl.hd
           clear hg4)
        )
      have hs1d := HS1.out.dr
      have HS1d := Lib.hid hs1d
      have HK1d := Lib.hid (show w.grownBy _ none from hs1d.tl.tl.hd)
      obtain ⟨z0, z1, z2, _⟩ := bx3 hs1d.tl.hd
      clear hs1d
      go_region_law (first
        | (try go_simp
           go_at_call 131
           with_reducible refine (HU.out _ HK1d.out).mono ?_
           rintro e w5 ⟨ba, bc, rfl, hsg⟩
           have HB5 := Lib.hid (show RdR boolE w5 _ _ from OwnR.read hsg.hd)
           have HK5 := Lib.hid (grownBy_trans HK1d.out hsg.tl.hd)
           have HS5 := Lib.hid (HS1d.out.grown hsg.tl.hd)
           obtain ⟨y0, y1, y2, _⟩ := bx3 HS5.out.tl.hd
           clear hsg)
        | (try go_simp
           go_at_call 130
           with_reducible refine (HKE.out _ _ HK5.out HB5.out).mono ?_
           rintro e w6 ⟨a1, c1, a2, c2, rfl, hsg⟩
           obtain ⟨hR, hI, hk6⟩ := hsg.reads
           have HR := Lib.hid hR
           have HI := Lib.hid hI
           have HK6 := Lib.hid (grownBy_trans HK5.out hk6)
           have HS6 := Lib.hid (HS5.out.graft2 hsg OR_own OI_own)
           clear hR hI hk6 hsg)
        | (try go_simp
           go_at_call 76
           with_reducible refine (HV.out _ _ _ HK6.out HR.out HI.out).mono ?_
           rintro e w7 ⟨rfl, hg7⟩
           have hs1 := (HS6.out.grown hg7).s3
           obtain ⟨r0, r1, r2, r3, r4, r5⟩ := bx3 hs1.hd
           have hs2 := ((hs1.setB 0 (.int .i64 0)).setB 1 (.slice none 0 0)).setB 2 (.slice none 0 0)
           obtain ⟨t0, t1, t2, _⟩ := bx3 hs2.hd
           have HKF := Lib.hid (show w.grownBy _ none from hs2.tl.tl.tl.tl.hd)
           clear hg7 hs1 hs2))
      all_goals
        go_wp2_with fail
        refine bodyPost_ret_by (v := .tuple #[.agg #[.int .i64 0, .slice none 0 0, .slice none 0 0], .bool false]) ?_ rfl (CirRes.zero HKF.out)
        simp [results, go_sem, *]
    · simp only [if_true] at HV
      go_enter Tryd.func59, Tryd.ntmps59
      go_upto_region 3 with (first
        | (skip
           go_at_call 57
           with_reducible refine (HIC.out _ HK0.out).mono ?_
           rintro e w4 ⟨rfl, hg4⟩
           have HS1 := Lib.hid (HS0.out.grown hg4)
           have HK1 := Lib.hid (grownBy_trans HK0.out hg4)
           obtain ⟨x0, x1, x2, _⟩ := bx3 HS1.out.tl.hd
           clear hg4)
        )
      have hs1d := HS1.out.dr
      have HS1d := Lib.hid hs1d
      have HK1d := Lib.hid (show w.grownBy _ none from hs1d.tl.tl.hd)
      obtain ⟨z0, z1, z2, _⟩ := bx3 hs1d.tl.hd
      clear hs1d
      go_region_law (first
        | (try go_simp
           go_at_call 131
           with_reducible refine (HU.out _ HK1d.out).mono ?_
           rintro e w5 ⟨ba, bc, rfl, hsg⟩
           have HB5 := Lib.hid (show RdR boolE w5 _ _ from OwnR.read hsg.hd)
           have HK5 := Lib.hid (grownBy_trans HK1d.out hsg.tl.hd)
           have HS5 := Lib.hid (HS1d.out.grown hsg.tl.hd)
           obtain ⟨y0, y1, y2, _⟩ := bx3 HS5.out.tl.hd
           clear hsg)
        | (try go_simp
           go_at_call 130
           with_reducible refine (HKE.out _ _ HK5.out HB5.out).mono ?_
           rintro e w6 ⟨a1, c1, a2, c2, rfl, hsg⟩
           obtain ⟨hR, hI, hk6⟩ := hsg.reads
           have HR := Lib.hid hR
           have HI := Lib.hid hI
           have HK6 := Lib.hid (grownBy_trans HK5.out hk6)
           have HS6 := Lib.hid (HS5.out.graft2 hsg OR_own OI_own)
           clear hR hI hk6 hsg)
        | (try go_simp
           go_at_call 76
           with_reducible refine (HV.out _ _ _ HK6.out HR.out HI.out).mono ?_
           rintro e w7 ⟨rfl, hg7⟩
           have hs1 := (HS6.out.grown hg7).s3
           obtain ⟨r0, r1, r2, r3, r4, r5⟩ := bx3 hs1.hd
           have hs2 := ((hs1.setB 0 (.int .i64 Dn)).setB 1 (.slice a1 dm c1)).setB 2 (.slice a2 m2 c2)
           obtain ⟨t0, t1, t2, _⟩ := bx3 hs2.hd
           have HSF := Lib.hid (hs2.tl.under (fun h => h.drop2) (by simp +contextual))
           clear hg7 hs1 hs2))
      all_goals
        go_wp2_with fail
        refine bodyPost_ret_by (v := .tuple #[.agg #[.int .i64 Dn, .slice a1 dm c1, .slice a2 m2 c2], .bool true]) ?_ rfl (HFIN.out _ _ _ _ _ HSF.out)
        simp [results, go_sem, *]
set_option maxHeartbeats 4000000 in
theorem sPrune_any (p n : Int) (gv ov : Value) (gs : List Gt) (os : List Int) (w : World) (hg : RdR gateE w gv gs) (ho : IntsV w ov os) (l1 : gs.length ≤ 2000000) (l2 : os.length ≤ 2000000) :
    Calls Tryd.prog 51 #[.int .i64 p, cirV n gv ov] w (CirRes (pruRes p ⟨n, gs, os⟩) (pruOk p ⟨n, gs, os⟩) w) := by
  have HIC := Lib.hid fun W (h : w.grownBy W none) => crGood_any p n gv ov gs os W (hg.carry h) (ho.carry h) l1 l2
  cases hc : circE p ⟨n, gs, os⟩
  · have hok : pruOk p ⟨n, gs, os⟩ = false := by unfold pruOk; rw [hc]; rfl
    have hr : pruRes p ⟨n, gs, os⟩ = circ0 := by unfold pruRes; rw [hok]; rfl
    rw [hr, hok]
    rw [hc] at HIC
    obtain ⟨ga, gc, rfl⟩ := hg.shape
    obtain ⟨oa, oc, rfl⟩ := ho.shape
    unfold cirV at *
    clear hc hok hr hg ho
    have hs0 := ((Sep.start w).box #[.int .i64 n, .slice ga gs.length gc, .slice oa os.length oc] 29).box #[.int .i64 0, .slice none 0 0, .slice none 0 0] 29
    have e1 : (w.alloc (.cells #[.int .i64 n, .slice ga gs.length gc, .slice oa os.length oc] 29)).heap.size = w.heap.size + 1 := by simp
    rw [e1] at hs0
    have HS0 := Lib.hid hs0
    have HK0 := Lib.hid (show w.grownBy _ none from hs0.tl.tl.hd)
    clear hs0 e1
    generalize gs.length = m at *
    generalize os.length = m2 at *
    go_enter Tryd.func51, Tryd.ntmps51
    go_wp2_with (
      go_at_call 48
      with_reducible refine (HIC.out _ HK0.out).mono ?_
      rintro e w4 ⟨rfl, hg4⟩
      have hs1 := HS0.out.grown hg4
      obtain ⟨r0, r1, r2, r3, r4, r5⟩ := bx3 hs1.hd
      have hs2 := ((hs1.setB 0 (.int .i64 0)).setB 1 (.slice none 0 0)).setB 2 (.slice none 0 0)
      obtain ⟨t0, t1, t2, _⟩ := bx3 hs2.hd
      have HKF := Lib.hid (show w.grownBy _ none from hs2.tl.tl.hd)
      clear hg4 hs1 hs2)
    refine bodyPost_ret_by (v := .tuple #[.agg #[.int .i64 0, .slice none 0 0, .slice none 0 0], .bool false]) ?_ rfl (CirRes.zero HKF.out)
    simp [results, go_sem, *]
  · obtain ⟨hgs, hos, h1, h2, h3⟩ := circE_facts hc
    simp only at hgs hos h1 h2 h3
    have hok : pruOk p ⟨n, gs, os⟩ = circE p (pruC ⟨n, gs, os⟩) := by unfold pruOk; rw [hc]; rfl
    have hres : pruRes p ⟨n, gs, os⟩ = if circE p (pruC ⟨n, gs, os⟩) = true then pruC ⟨n, gs, os⟩ else circ0 := by unfold pruRes; rw [hok]
    rw [hok, hres]
    rw [hc] at HIC
    have hpn : (pruC ⟨n, gs, os⟩).n = n := rfl
    have hul := (use_spec hgs.ops hos).1.1
    have hpl : (pruC ⟨n, gs, os⟩).gs.length = (markL (useL gs os)).length := by unfold pruC keepC; simp only [List.length_map]
    have hpo : (pruC ⟨n, gs, os⟩).os.length = os.length := by unfold pruC keepC; simp only [List.length_map]
    have hpm : (markL (useL gs os)).length ≤ 1000 := by
      have := markTo_len (useL gs os) (useL gs os).length
      unfold markL
      rw [hul] at this ⊢
      omega
    have HKE := Lib.hid fun W (h : w.grownBy W none) => crPrune_any n gv ov gs os W (hg.carry h) (ho.carry h) (by omega) (by omega) hgs.ops hos
    rw [show keepC ⟨n, gs, os⟩ (markL (useL gs os)) = pruC ⟨n, gs, os⟩ from rfl, ← hpl] at HKE
    rw [← hpl] at hpm
    generalize pruC ⟨n, gs, os⟩ = D at *
    obtain ⟨Dn, Dg, Do⟩ := D
    simp only at hpn hpl hpo hpm HKE
    subst hpn
    have HV := Lib.hid fun W gv ov (h : w.grownBy W none) (h1 : RdR gateE W gv Dg) (h2 : IntsV W ov Do) => crIf_any p Dn gv ov Dg Do W h1 h2 (by omega) (by omega)
    obtain ⟨ga, gc, rfl⟩ := hg.shape
    obtain ⟨oa, oc, rfl⟩ := ho.shape
    unfold cirV at *
    have HFIN := Lib.hid fun W a1 c1 a2 c2 (h : Sep W [OR gateE (.slice a1 Dg.length c1) Dg, OI (.slice a2 os.length c2) Do, KeepA w]) => (show CirRes ⟨Dn, Dg, Do⟩ true w (.returned (.tuple #[.agg #[.int .i64 Dn, .slice a1 Dg.length c1, .slice a2 os.length c2], .bool true])) W from ⟨a1, c1, a2, c2, (by rw [hpo]; rfl), (by rw [hpo]; exact h)⟩)
    clear hc hok hres hg ho hgs hos hpl hpo hul hpm
    generalize circE p ⟨Dn, Dg, Do⟩ = b at *
    have hs0 := ((Sep.start w).box #[.int .i64 Dn, .slice ga gs.length gc, .slice oa os.length oc] 29).box #[.int .i64 0, .slice none 0 0, .slice none 0 0] 29
    have e1 : (w.alloc (.cells #[.int .i64 Dn, .slice ga gs.length gc, .slice oa os.length oc] 29)).heap.size = w.heap.size + 1 := by simp
    rw [e1] at hs0
    have HS0 := Lib.hid hs0
    have HK0 := Lib.hid (show w.grownBy _ none from hs0.tl.tl.hd)
    clear hs0 e1
    generalize gs.length = m at *
    generalize os.length = m2 at *
    generalize Dg.length = dm at *
    cases b
    · simp only [nilS, Bool.false_eq_true, if_false] at HV
      go_enter Tryd.func51, Tryd.ntmps51
      go_wp2_with (first
        | (skip
           go_at_call 48
           with_reducible refine (HIC.out _ HK0.out).mono ?_
           rintro e w4 ⟨rfl, hg4⟩
           have HS1 := Lib.hid (HS0.out.grown hg4)
           have HK1 := Lib.hid (grownBy_trans HK0.out hg4)
           obtain ⟨x0, x1, x2, _⟩ := bx3 HS1.out.tl.hd
           clear hg4)
        | (go_at_call 118
           with_reducible refine (HKE.out _ HK1.out).mono ?_
           rintro e w6 ⟨a1, c1, a2, c2, rfl, hsg⟩
           obtain ⟨hR, hI, hk6⟩ := hsg.reads
           have HR := Lib.hid hR
           have HI := Lib.hid hI
           have HK6 := Lib.hid (grownBy_trans HK1.out hk6)
           have HS6 := Lib.hid (HS1.out.graft2 hsg OR_own OI_own)
           clear hR hI hk6 hsg)
        | (go_at_call 72
           with_reducible refine (HV.out _ _ _ HK6.out HR.out HI.out).mono ?_
           rintro e w7 ⟨rfl, hg7⟩
           have hs1 := (HS6.out.grown hg7).s3
           obtain ⟨r0, r1, r2, r3, r4, r5⟩ := bx3 hs1.hd
           have hs2 := ((hs1.setB 0 (.int .i64 0)).setB 1 (.slice none 0 0)).setB 2 (.slice none 0 0)
           obtain ⟨t0, t1, t2, _⟩ := bx3 hs2.hd
           have HKF := Lib.hid (show w.grownBy _ none from hs2.tl.tl.tl.tl.hd)
           clear hg7 hs1 hs2))
      refine bodyPost_ret_by (v := .tuple #[.agg #[.int .i64 0, .slice none 0 0, .slice none 0 0], .bool false]) ?_ rfl (CirRes.zero HKF.out)
      simp [results, go_sem, *]
    · simp only [if_true] at HV
      go_enter Tryd.func51, Tryd.ntmps51
      go_wp2_with (first
        | (skip
           go_at_call 48
           with_reducible refine (HIC.out _ HK0.out).mono ?_
           rintro e w4 ⟨rfl, hg4⟩
           have HS1 := Lib.hid (HS0.out.grown hg4)
           have HK1 := Lib.hid (grownBy_trans HK0.out hg4)
           obtain ⟨x0, x1, x2, _⟩ := bx3 HS1.out.tl.hd
           clear hg4)
        | (go_at_call 118
           with_reducible refine (HKE.out _ HK1.out).mono ?_
           rintro e w6 ⟨a1, c1, a2, c2, rfl, hsg⟩
           obtain ⟨hR, hI, hk6⟩ := hsg.reads
           have HR := Lib.hid hR
           have HI := Lib.hid hI
           have HK6 := Lib.hid (grownBy_trans HK1.out hk6)
           have HS6 := Lib.hid (HS1.out.graft2 hsg OR_own OI_own)
           clear hR hI hk6 hsg)
        | (go_at_call 72
           with_reducible refine (HV.out _ _ _ HK6.out HR.out HI.out).mono ?_
           rintro e w7 ⟨rfl, hg7⟩
           have hs1 := (HS6.out.grown hg7).s3
           obtain ⟨r0, r1, r2, r3, r4, r5⟩ := bx3 hs1.hd
           have hs2 := ((hs1.setB 0 (.int .i64 Dn)).setB 1 (.slice a1 dm c1)).setB 2 (.slice a2 m2 c2)
           obtain ⟨t0, t1, t2, _⟩ := bx3 hs2.hd
           have HSF := Lib.hid (hs2.tl.under (fun h => h.drop2) (by simp +contextual))
           clear hg7 hs1 hs2))
      refine bodyPost_ret_by (v := .tuple #[.agg #[.int .i64 Dn, .slice a1 dm c1, .slice a2 m2 c2], .bool true]) ?_ rfl (HFIN.out _ _ _ _ _ HSF.out)
      simp [results, go_sem, *]
end Go.Proofs.YtkamcgonacmieaaDoor

/-
  Equality of circuits in the program and in the reference. Conditions: lengths are small.
-/
namespace Go.Proofs.YtkamcgonacmieaaDoor
open Go.RowKit
set_option linter.unusedVariables false
set_option maxRecDepth 100000

theorem gate_neq (k a b v k' a' b' v' : Int) (w : World) : (binOp .neq 130 (.agg #[.int .i64 k, .int .i64 a, .int .i64 b, .int .i64 v]) (.agg #[.int .i64 k', .int .i64 a', .int .i64 b', .int .i64 v'])).run Tryd.prog w = .ok (.bool (!(k == k' && a == a' && b == b' && v == v'))) w := by
  by_cases h1 : k = k' <;> by_cases h2 : a = a' <;> by_cases h3 : b = b' <;> by_cases h4 : v = v' <;> simp [go_sem, *]
instance : DecidableEq Circ := fun x y => decidable_of_iff (x.n = y.n ∧ x.gs = y.gs ∧ x.os = y.os) ⟨fun ⟨h1, h2, h3⟩ => by cases x; cases y; simp_all, fun h => by subst h; exact ⟨rfl, rfl, rfl⟩⟩
theorem gate_same (g : Gt) (w : World) : (binOp .neq 130 (gtV g) (gtV g)).run Tryd.prog w = .ok (.bool false) w := by
  unfold gtV
  rw [gate_neq]
  simp
theorem gate_other {g h : Gt} (hn : g ≠ h) (w : World) : (binOp .neq 130 (gtV g) (gtV h)).run Tryd.prog w = .ok (.bool true) w := by
  unfold gtV
  rw [gate_neq]
  have : (g.k == h.k && g.a == h.a && g.b == h.b && g.v == h.v) = false := by
    rw [Bool.eq_false_iff]
    intro e
    simp only [Bool.and_eq_true, beq_iff_eq] at e
    exact hn (Gt.ext' e.1.1.1 e.1.1.2 e.1.2 e.2)
  rw [this]
  rfl
theorem lists_same {α : Type} {x y : List α} {d : α} {l : Nat} (h1 : x.length = l) (h2 : y.length = l) (h : ∀ j, j < l → x.getD j d = y.getD j d) : x = y := by
  refine List.ext_getElem (by omega) fun j a b => ?_
  have := h j (by omega)
  rw [List.getD_eq_getElem?_getD, List.getElem?_eq_getElem a, List.getD_eq_getElem?_getD, List.getElem?_eq_getElem b] at this
  exact this
/-- slices.Equal on gates -/
theorem slEqualG_any (v1 v2 : Value) (x y : List Gt) (w : World) (h1 : RdR gateE w v1 x) (h2 : RdR gateE w v2 y) (l1 : x.length ≤ 1000000) (l2 : y.length ≤ 1000000) :
    Calls Tryd.prog 139 #[v1, v2] w fun e w' => e = .returned (.bool (decide (x = y))) ∧ w.grownBy w' none := by
  obtain ⟨a1, c1, rfl⟩ := h1.shape
  obtain ⟨a2, c2, rfl⟩ := h2.shape
  have R1 := Lib.hid h1; have R2 := Lib.hid h2
  clear h1 h2
  by_cases hl : x.length = y.length
  · generalize hlx : x.length = l at *
    have HLX := Lib.hid hlx; have HLY := Lib.hid hl.symm
    rw [HLY.out] at R2 ⊢
    clear hlx hl
    go_enter Tryd.func139, Tryd.ntmps139
    go_wp2
    go_loopw [13] (fun i wr => ∃ k : Nat, k ≤ l ∧ i = .int .i64 k ∧ (∀ j, j < k → x.getD j g0 = y.getD j g0) ∧ w.grownBy wr none) (fun i _ => l - (intOf i).toNat)
    case atStart => exact ⟨0, by omega, rfl, fun _ h => absurd h (by omega), grownBy_refl _ _⟩
    case round =>
      obtain ⟨k, hk, rfl, ho, hg⟩ := hrel
      have HO := Lib.hid ho; have HG := Lib.hid hg
      clear ho hg
      by_cases hlt : k < l
      · have hkx : k < x.length := by rw [HLX.out]; exact hlt
        have hky : k < y.length := by rw [HLY.out]; exact hlt
        obtain ⟨b1, o1, rfl, _, p0, p1, p2, p3⟩ := gate_at rfl rfl (R1.out.carry HG.out) hkx
        obtain ⟨b2, o2, rfl, _, q0, q1, q2, q3⟩ := gate_at rfl rfl (R2.out.carry HG.out) hky
        by_cases he : x.getD k g0 = y.getD k g0
        · have HE := Lib.hid (show ∀ j, j = k → x.getD j g0 = y.getD j g0 from fun j e => by rw [e]; exact he)
          have hne := fun w => gate_same (x.getD k g0) w
          rw [← he] at q0 q1 q2 q3
          clear he hkx hky
          generalize x.getD k g0 = g at *
          obtain ⟨gk, ga, gb, gv⟩ := g
          unfold gtV at hne
          simp only at p0 p1 p2 p3 q0 q1 q2 q3 hne
          go_wp2
          go_quiet (fail)
          go_wp2
          go_roundw
          case rel => exact ⟨k + 1, by omega, by go_num, fun j hj => by
            by_cases hjk : j = k
            · exact HE.out j hjk
            · exact HO.out j (by omega), ⟨HG.out.os, HG.out.tape, HG.out.output, HG.out.size, HG.out.block⟩⟩
          case measure => simp [intOf]; omega
        · have hne := fun w => gate_other he w
          have hfin : decide (x = y) = false := decide_eq_false fun e => he (by rw [e])
          have HF := Lib.hid hfin
          clear hfin he hkx hky
          generalize x.getD k g0 = g at *
          generalize y.getD k g0 = h at *
          obtain ⟨gk, ga, gb, gv⟩ := g
          obtain ⟨hk1, ha, hb, hv⟩ := h
          unfold gtV at hne
          simp only at p0 p1 p2 p3 q0 q1 q2 q3 hne
          go_wp2
          go_quiet (fail)
          go_wp2
          go_ret
          exact ⟨by rw [HF.out]; rfl, ⟨HG.out.os, HG.out.tape, HG.out.output, HG.out.size, HG.out.block⟩⟩
      · have hfin : decide (x = y) = true := decide_eq_true (lists_same HLX.out HLY.out fun j hj => HO.out j (by omega))
        have HF := Lib.hid hfin
        clear hfin
        go_wp2
        go_ret
        exact ⟨by rw [HF.out]; rfl, HG.out⟩
  · have hfin : decide (x = y) = false := decide_eq_false fun e => hl (by rw [e])
    have HF := Lib.hid hfin
    have hli : ((x.length : Int) != (y.length : Int)) = true := by rw [bne_iff_ne]; omega
    clear hfin
    go_enter Tryd.func139, Tryd.ntmps139
    go_wp2
    go_ret
    exact ⟨by rw [HF.out]; rfl, grownBy_refl _ _⟩
/-- slices.Equal on integers -/
theorem slEqualI_any (v1 v2 : Value) (x y : List Int) (w : World) (h1 : IntsV w v1 x) (h2 : IntsV w v2 y) (l1 : x.length ≤ 1000000) (l2 : y.length ≤ 1000000) :
    Calls Tryd.prog 140 #[v1, v2] w fun e w' => e = .returned (.bool (decide (x = y))) ∧ w.grownBy w' none := by
  obtain ⟨a1, c1, rfl⟩ := h1.shape
  obtain ⟨a2, c2, rfl⟩ := h2.shape
  have R1 := Lib.hid h1; have R2 := Lib.hid h2
  clear h1 h2
  by_cases hl : x.length = y.length
  · generalize hlx : x.length = l at *
    have HLX := Lib.hid hlx; have HLY := Lib.hid hl.symm
    rw [HLY.out] at R2 ⊢
    clear hlx hl
    go_enter Tryd.func140, Tryd.ntmps140
    go_wp2
    go_loopw [13] (fun i wr => ∃ k : Nat, k ≤ l ∧ i = .int .i64 k ∧ (∀ j, j < k → x.getD j 0 = y.getD j 0) ∧ w.grownBy wr none) (fun i _ => l - (intOf i).toNat)
    case atStart => exact ⟨0, by omega, rfl, fun _ h => absurd h (by omega), grownBy_refl _ _⟩
    case round =>
      obtain ⟨k, hk, rfl, ho, hg⟩ := hrel
      have HO := Lib.hid ho; have HG := Lib.hid hg
      clear ho hg
      by_cases hlt : k < l
      · have hkx : k < x.length := by rw [HLX.out]; exact hlt
        have hky : k < y.length := by rw [HLY.out]; exact hlt
        obtain ⟨b1, o1, rfl⟩ := IntsV.addr R1.out (by omega)
        have p0 := (R1.out.carry HG.out).cellN hkx
        obtain ⟨b2, o2, rfl⟩ := IntsV.addr R2.out (by omega)
        have q0 := (R2.out.carry HG.out).cellN hky
        by_cases he : x.getD k 0 = y.getD k 0
        · have HE := Lib.hid (show ∀ j, j = k → x.getD j 0 = y.getD j 0 from fun j e => by rw [e]; exact he)
          rw [← he] at q0
          clear he hkx hky
          generalize x.getD k 0 = g at *
          go_wp2
          go_quiet (fail)
          go_wp2
          go_roundw
          case rel => exact ⟨k + 1, by omega, by go_num, fun j hj => by
            by_cases hjk : j = k
            · exact HE.out j hjk
            · exact HO.out j (by omega), ⟨HG.out.os, HG.out.tape, HG.out.output, HG.out.size, HG.out.block⟩⟩
          case measure => simp [intOf]; omega
        · have hne : (x.getD k 0 != y.getD k 0) = true := by rw [bne_iff_ne]; exact he
          have hfin : decide (x = y) = false := decide_eq_false fun e => he (by rw [e])
          have HF := Lib.hid hfin
          clear hfin he hkx hky
          generalize x.getD k 0 = g at *
          generalize y.getD k 0 = h at *
          go_wp2
          go_quiet (fail)
          go_wp2
          go_ret
          exact ⟨by rw [HF.out]; rfl, ⟨HG.out.os, HG.out.tape, HG.out.output, HG.out.size, HG.out.block⟩⟩
      · have hfin : decide (x = y) = true := decide_eq_true (lists_same HLX.out HLY.out fun j hj => HO.out j (by omega))
        have HF := Lib.hid hfin
        clear hfin
        go_wp2
        go_ret
        exact ⟨by rw [HF.out]; rfl, HG.out⟩
  · have hfin : decide (x = y) = false := decide_eq_false fun e => hl (by rw [e])
    have HF := Lib.hid hfin
    have hli : ((x.length : Int) != (y.length : Int)) = true := by rw [bne_iff_ne]; omega
    clear hfin
    go_enter Tryd.func140, Tryd.ntmps140
    go_wp2
    go_ret
    exact ⟨by rw [HF.out]; rfl, grownBy_refl _ _⟩
theorem equalCircuits_any (n n' : Int) (gv ov gv' ov' : Value) (gs gs' : List Gt) (os os' : List Int) (w : World) (hg : RdR gateE w gv gs) (ho : IntsV w ov os) (hg' : RdR gateE w gv' gs') (ho' : IntsV w ov' os') (l1 : gs.length ≤ 1000000) (l2 : os.length ≤ 1000000) (l3 : gs'.length ≤ 1000000) (l4 : os'.length ≤ 1000000) :
    Calls Tryd.prog 63 #[cirV n gv ov, cirV n' gv' ov'] w fun e w' => e = .returned (.bool (decide ((⟨n, gs, os⟩ : Circ) = ⟨n', gs', os'⟩))) ∧ w.grownBy w' none := by
  have HEG := Lib.hid fun W (h : w.grownBy W none) => slEqualG_any gv gv' gs gs' W (hg.carry h) (hg'.carry h) l1 l3
  have HEI := Lib.hid fun W (h : w.grownBy W none) => slEqualI_any ov ov' os os' W (ho.carry h) (ho'.carry h) l2 l4
  have hd : decide ((⟨n, gs, os⟩ : Circ) = ⟨n', gs', os'⟩) = ((n == n') && (decide (gs = gs') && decide (os = os'))) := by
    by_cases a : n = n' <;> by_cases b : gs = gs' <;> by_cases c : os = os' <;> simp [a, b, c]
  rw [hd]
  clear hd
  obtain ⟨ga, gc, rfl⟩ := hg.shape
  obtain ⟨oa, oc, rfl⟩ := ho.shape
  obtain ⟨ga', gc', rfl⟩ := hg'.shape
  obtain ⟨oa', oc', rfl⟩ := ho'.shape
  clear hg ho hg' ho'
  unfold cirV
  have hs0 := ((Sep.start w).box #[.int .i64 n, .slice ga gs.length gc, .slice oa os.length oc] 29).box #[.int .i64 n', .slice ga' gs'.length gc', .slice oa' os'.length oc'] 29
  have e1 : (w.alloc (.cells #[.int .i64 n, .slice ga gs.length gc, .slice oa os.length oc] 29)).heap.size = w.heap.size + 1 := by simp
  rw [e1] at hs0
  have HS0 := Lib.hid hs0
  have HK0 := Lib.hid (show w.grownBy _ none from hs0.tl.tl.hd)
  clear hs0 e1
  generalize gs.length = m at *
  generalize os.length = m2 at *
  generalize gs'.length = m' at *
  generalize os'.length = m2' at *
  generalize decide (gs = gs') = b1 at *
  generalize decide (os = os') = b2 at *
  cases h1 : (n == n')
  · have h2 : (n == n') = false := h1
    go_enter Tryd.func63, Tryd.ntmps63
    go_wp2_with fail
    go_ret
    exact ⟨rfl, HK0.out⟩
  · have h2 : (n == n') = true := h1
    cases b1
    · go_enter Tryd.func63, Tryd.ntmps63
      go_wp2_with (
        go_at_call 139
        with_reducible refine (HEG.out _ HK0.out).mono ?_
        rintro e w4 ⟨rfl, hg4⟩
        have HK4 := Lib.hid (grownBy_trans HK0.out hg4)
        clear hg4)
      go_ret
      exact ⟨rfl, HK4.out⟩
    · go_enter Tryd.func63, Tryd.ntmps63
      go_wp2_with (first
        | (go_at_call 139
           with_reducible refine (HEG.out _ HK0.out).mono ?_
           rintro e w4 ⟨rfl, hg4⟩
           have HK4 := Lib.hid (grownBy_trans HK0.out hg4)
           have hs4 := HS0.out.grown hg4
           obtain ⟨x0, x1, x2, _⟩ := bx3 hs4.hd
           obtain ⟨y0, y1, y2, _⟩ := bx3 hs4.tl.hd
           clear hg4 hs4)
        | (go_at_call 140
           with_reducible refine (HEI.out _ HK4.out).mono ?_
           rintro e w5 ⟨rfl, hg5⟩
           have HK5 := Lib.hid (grownBy_trans HK4.out hg5)
           clear hg5))
      go_ret
      exact ⟨by cases b2 <;> rfl, HK5.out⟩
end Go.Proofs.YtkamcgonacmieaaDoor

/-
  Equality of circuits in the reference. Conditions: lengths are small.
-/
namespace Go.Proofs.YtkamcgonacmieaaDoor
open Go.RowKit
set_option linter.unusedVariables false
set_option maxRecDepth 100000

set_option maxHeartbeats 2000000 in
theorem opEqual_any (n n' : Int) (gv ov gv' ov' : Value) (gs gs' : List Gt) (os os' : List Int) (w : World) (hg : RdR gateE w gv gs) (ho : IntsV w ov os) (hg' : RdR gateE w gv' gs') (ho' : IntsV w ov' os') (l1 : gs.length ≤ 1000000) (l2 : os.length ≤ 1000000) (l3 : gs'.length ≤ 1000000) (l4 : os'.length ≤ 1000000) :
    Calls Tryd.prog 54 #[cirV n gv ov, cirV n' gv' ov'] w fun e w' => e = .returned (.bool (decide ((⟨n, gs, os⟩ : Circ) = ⟨n', gs', os'⟩))) ∧ w.grownBy w' none := by
  have HEI := Lib.hid fun W (h : w.grownBy W none) => l1Same_any ov ov' os os' W (ho.carry h) (ho'.carry h) (by omega) (by omega)
  have hd : decide ((⟨n, gs, os⟩ : Circ) = ⟨n', gs', os'⟩) = ((n == n') && (decide (gs = gs') && decide (os = os'))) := by
    by_cases a : n = n' <;> by_cases b : gs = gs' <;> by_cases c : os = os' <;> simp [a, b, c]
  rw [hd]
  clear hd
  have R1 := Lib.hid hg; have R2 := Lib.hid hg'
  obtain ⟨ga, gc, rfl⟩ := hg.shape
  obtain ⟨oa, oc, rfl⟩ := ho.shape
  obtain ⟨ga', gc', rfl⟩ := hg'.shape
  obtain ⟨oa', oc', rfl⟩ := ho'.shape
  clear hg ho hg' ho'
  unfold cirV
  have hs0 := ((Sep.start w).box #[.int .i64 n, .slice ga gs.length gc, .slice oa os.length oc] 29).box #[.int .i64 n', .slice ga' gs'.length gc', .slice oa' os'.length oc'] 29
  have e1 : (w.alloc (.cells #[.int .i64 n, .slice ga gs.length gc, .slice oa os.length oc] 29)).heap.size = w.heap.size + 1 := by simp
  rw [e1] at hs0
  have HS0 := Lib.hid hs0
  have HK0 := Lib.hid (show w.grownBy _ none from hs0.tl.tl.hd)
  clear hs0 e1
  have HOL := Lib.hid (show os.length ≠ os'.length → decide (os = os') = false from fun h => decide_eq_false fun e => h (by rw [e]))
  generalize os.length = m2 at *
  generalize os'.length = m2' at *
  generalize decide (os = os') = b2 at *
  cases h1 : (n == n')
  · have h2 : (n != n') = true := by rw [bne, h1]; rfl
    clear h1
    generalize gs.length = m at *
    generalize gs'.length = m' at *
    go_enter Tryd.func54, Tryd.ntmps54
    go_wp2_with fail
    go_ret
    exact ⟨by rw [Bool.false_and]; rfl, HK0.out⟩
  · have h2 : (n != n') = false := by rw [bne, h1]; rfl
    clear h1
    by_cases hl : gs.length = gs'.length
    · generalize hm : gs.length = m at *
      generalize hm' : gs'.length = m' at *
      subst hl
      have HM1 := Lib.hid hm; have HM2 := Lib.hid hm'
      clear hm hm'
      cases b2
      · go_enter Tryd.func54, Tryd.ntmps54
        go_wp2_with (
          go_at_call 121
          go_loud (with_reducible refine (HEI.out _ HK0.out).mono ?_)
          rintro e w5 ⟨rfl, hg5⟩
          have HK5 := Lib.hid (grownBy_trans HK0.out hg5)
          clear hg5)
        go_ret
        exact ⟨by simp, HK5.out⟩
      · go_enter Tryd.func54, Tryd.ntmps54
        go_wp2_with (
          go_at_call 121
          go_loud (with_reducible refine (HEI.out _ HK0.out).mono ?_)
          rintro e w5 ⟨rfl, hg5⟩
          have hs5 := HS0.out.grown hg5
          have HS5 := Lib.hid hs5
          obtain ⟨x0, x1, x2, _⟩ := bx3 hs5.tl.hd
          clear hg5 hs5)
        go_loopw [5, 31] (fun _ i wr => ∃ k : Nat, k ≤ m ∧ i = .int .i64 k ∧ (∀ j, j < k → gs.getD j g0 = gs'.getD j g0) ∧ Sep wr [BxA (w.heap.size + 1) #[.int .i64 n', .slice ga' m gc', .slice oa' m2' oc'] 29, BxA w.heap.size #[.int .i64 n, .slice ga m gc, .slice oa m2 oc] 29, KeepA w]) (fun _ i _ => m - (intOf i).toNat)
        case atStart => exact ⟨0, by omega, rfl, fun _ h => absurd h (by omega), HS5.out⟩
        case round =>
          obtain ⟨k, hk, rfl, heq, hs⟩ := hrel
          have HO := Lib.hid heq; have HS := Lib.hid hs
          obtain ⟨y0, y1, y2, _⟩ := bx3 hs.hd
          obtain ⟨x0, x1, x2, _⟩ := bx3 hs.tl.hd
          clear heq hs
          by_cases hlt : k < m
          · have hkx : k < gs.length := by rw [HM1.out]; exact hlt
            have hky : k < gs'.length := by rw [HM2.out]; exact hlt
            obtain ⟨c1, o1, rfl, _, p0, p1, p2, p3⟩ := gate_at rfl rfl (R1.out.carry HS.out.tl.tl.hd) hkx
            obtain ⟨c2, o2, rfl, _, q0, q1, q2, q3⟩ := gate_at rfl rfl (R2.out.carry HS.out.tl.tl.hd) hky
            by_cases he : gs.getD k g0 = gs'.getD k g0
            · have HE := Lib.hid (show ∀ j, j = k → gs.getD j g0 = gs'.getD j g0 from fun j e => by rw [e]; exact he)
              have hne := fun w => gate_same (gs.getD k g0) w
              rw [← he] at q0 q1 q2 q3
              clear he hkx hky
              generalize gs.getD k g0 = g at *
              obtain ⟨gk, g1, g2, g3⟩ := g
              unfold gtV at hne
              simp only at p0 p1 p2 p3 q0 q1 q2 q3 hne
              go_wp2
              go_quiet (fail)
              go_wp2
              go_roundw
              case rel => exact ⟨k + 1, by omega, by go_num, fun j hj => by
                by_cases hjk : j = k
                · exact HE.out j hjk
                · exact HO.out j (by omega), HS.out.drN _⟩
              case measure => simp [intOf]; omega
            · have hne := fun w => gate_other he w
              have hfin : decide (gs = gs') = false := decide_eq_false fun e => he (by rw [e])
              have HF := Lib.hid hfin
              clear hfin he hkx hky
              generalize gs.getD k g0 = g at *
              generalize gs'.getD k g0 = h at *
              obtain ⟨gk, g1, g2, g3⟩ := g
              obtain ⟨hk1, ha, hb, hv⟩ := h
              unfold gtV at hne
              simp only at p0 p1 p2 p3 q0 q1 q2 q3 hne
              go_wp2
              go_quiet (fail)
              go_wp2
              go_ret
              exact ⟨by rw [HF.out]; rfl, (HS.out.drN _).tl.tl.hd⟩
          · have hfin : decide (gs = gs') = true := decide_eq_true (lists_same HM1.out HM2.out fun j hj => HO.out j (by omega))
            have HF := Lib.hid hfin
            clear hfin
            go_wp2
            go_ret
            exact ⟨by rw [HF.out]; rfl, HS.out.tl.tl.hd⟩
    · have hfin : decide (gs = gs') = false := decide_eq_false fun e => hl (by rw [e])
      have hli : ((gs.length : Int) != (gs'.length : Int)) = true := by rw [bne_iff_ne]; omega
      rw [hfin]
      clear hfin hl
      generalize gs.length = m at *
      generalize gs'.length = m' at *
      go_enter Tryd.func54, Tryd.ntmps54
      go_wp2_with fail
      go_ret
      exact ⟨rfl, HK0.out⟩
end Go.Proofs.YtkamcgonacmieaaDoor

/-
  What the passes ask of each other; a circuit in a variable; OptimizeCircuit in the program. Conditions: the table of small primes holds what its text lays; at most 2,000,000 gates and outputs.
-/
namespace Go.Proofs.YtkamcgonacmieaaDoor
open Go.RowKit
set_option linter.unusedVariables false
set_option maxRecDepth 100000

noncomputable def g1L (gs : List Gt) : List Gt := foldL (silL gs) gs
noncomputable def g2L (gs : List Gt) : List Gt := (g1L gs).map (withL (finL (g1L gs)))
noncomputable def o2L (gs : List Gt) (os : List Int) : List Int := os.map (finL (g1L gs))
noncomputable def g3L (gs : List Gt) : List Gt := (g2L gs).map (withL (ofL (finC (g2L gs))))
noncomputable def o3L (gs : List Gt) (os : List Int) : List Int := (o2L gs os).map (ofL (finC (g2L gs)))
theorem pre_is (n : Int) (gs : List Gt) (os : List Int) : preC ⟨n, gs, os⟩ = ⟨n, g3L gs, o3L gs os⟩ := rfl
theorem g1_len (gs : List Gt) : (g1L gs).length = gs.length := fold_len _ _
theorem g2_len (gs : List Gt) : (g2L gs).length = gs.length := by unfold g2L; rw [List.length_map, g1_len]
theorem g3_len (gs : List Gt) : (g3L gs).length = gs.length := by unfold g3L; rw [List.length_map, g2_len]
theorem o2_len (gs : List Gt) (os : List Int) : (o2L gs os).length = os.length := by unfold o2L; rw [List.length_map]
theorem o3_len (gs : List Gt) (os : List Int) : (o3L gs os).length = os.length := by unfold o3L; rw [List.length_map, o2_len]
theorem circE_kinds {p : Int} {c : Circ} (h : circE p c = true) : ∀ g ∈ c.gs, 1 ≤ g.k ∧ g.k ≤ 5 := by
  intro g hg
  unfold circE circB at h
  simp only [Bool.and_eq_true, List.all_eq_true] at h
  have := h.1.2 g hg
  unfold gateB at this
  simp only [Bool.and_eq_true] at this
  have h2 := this.2
  by_cases h1 : g.k = 1
  · omega
  · by_cases h3 : g.k = 2
    · omega
    · by_cases h4 : g.k = 3
      · omega
      · by_cases h5 : g.k = 4
        · omega
        · by_cases h6 : g.k = 5
          · omega
          · simp [h1, h3, h4, h5, h6] at h2
structure PassF (p n : Int) (gs : List Gt) (os : List Int) : Prop where
  hg : Gates gs
  ho : ∀ x ∈ os, 0 ≤ x ∧ x < gs.length
  l1 : 1 ≤ gs.length
  l2 : gs.length ≤ 40
  l3 : os.length ≤ 8
  kd : ∀ g ∈ gs, 1 ≤ g.k ∧ g.k ≤ 5
  hg1 : Gates (g1L gs)
  ho1 : ∀ x ∈ os, 0 ≤ x ∧ x < (g1L gs).length
  hg2 : Gates (g2L gs)
  ho2 : ∀ x ∈ o2L gs os, 0 ≤ x ∧ x < (g2L gs).length
  wf2 : ∀ g ∈ g2L gs, (Lit.int .i64 g.k).wf = true ∧ (Lit.int .i64 g.v).wf = true
theorem pass_facts {p n : Int} {gs : List Gt} {os : List Int} (h : circE p ⟨n, gs, os⟩ = true) : PassF p n gs os := by
  obtain ⟨hg, ho, l1, l2, l3⟩ := circE_facts h
  simp only at hg ho l1 l2 l3
  have hg1 := fold_gates hg (silL gs)
  refine ⟨hg, ho, l1, l2, l3, circE_kinds h, hg1, (by rw [g1_len]; exact ho), simp_gates hg1, fun x hx => ?_, fun g hg' => ?_⟩
  · unfold o2L at hx
    obtain ⟨y, hy, rfl⟩ := List.mem_map.1 hx
    rw [g2_len, ← g1_len]
    exact hg1.fin (ho y hy).1 (by have := (ho y hy).2; have := fold_len (silL gs) gs; omega)
  · unfold g2L at hg'
    obtain ⟨y, hy, rfl⟩ := List.mem_map.1 hg'
    obtain ⟨e1, e2⟩ := kind_with (finL (g1L gs)) y
    rw [e1, e2]
    rcases mem_fold (show y ∈ foldL (silL gs) gs from hy) with rfl | hy2
    · exact ⟨by decide, by decide⟩
    · exact circE_wf h y hy2
theorem pru_n (n : Int) (gs : List Gt) (os : List Int) : (pruC (preC ⟨n, gs, os⟩)).n = n := rfl
/-- The answer of OptimizeCircuit. -/
noncomputable def optOk (p : Int) (c : Circ) : Bool := circE p c && (optC p c).2
noncomputable def optRes (p : Int) (c : Circ) : Circ := if circE p c = true then (optC p c).1 else circ0
theorem opt_bad {p : Int} {c : Circ} (h : circE p c = true) (hk : pruOk p (preC c) = false) : optC p c = (circ0, false) := by
  rw [optC_step h, if_neg]
  unfold pruOk at hk
  rintro ⟨h1, h2⟩
  rw [h1, h2] at hk
  cases hk
theorem opt_ok {p : Int} {c : Circ} (h : circE p c = true) (hk : pruOk p (preC c) = true) : circE p (pruC (preC c)) = true ∧ optC p c = (if pruC (preC c) = c then (c, true) else optC p (pruC (preC c))) := by
  unfold pruOk at hk
  rw [Bool.and_eq_true] at hk
  exact ⟨hk.2, by rw [optC_step h, if_pos hk]⟩
/-! ### a circuit in a variable -/
def CirAt (w : World) (b : Nat) (c : Circ) : Prop := ∃ gv ov, w.heap[b]? = some (.cells #[.int .i64 c.n, gv, ov] 29 (0, 0)) ∧ RdR gateE w gv c.gs ∧ IntsV w ov c.os
theorem gates_one {w : World} {v : Value} {x y : List Gt} (h1 : RdR gateE w v x) (h2 : RdR gateE w v y) : x = y := by
  obtain ⟨a, c, rfl⟩ := h1.shape
  obtain ⟨a', c', e2⟩ := h2.shape
  have hl : x.length = y.length := by injection e2
  refine lists_same (d := g0) rfl hl.symm fun j hj => ?_
  obtain ⟨b1, o1, rfl, _, p0, p1, p2, p3⟩ := gate_at rfl rfl h1 hj
  obtain ⟨b2, o2, he, _, q0, q1, q2, q3⟩ := gate_at rfl rfl h2 (i := j) (by omega)
  injection he with he
  injection he with e3 e4
  subst e3 e4
  rw [p0] at q0
  rw [p1] at q1
  rw [p2] at q2
  rw [p3] at q3
  exact Gt.ext' (by simpa using q0) (by simpa using q1) (by simpa using q2) (by simpa using q3)
open Classical in
noncomputable def rdC (w : World) (b : Nat) : Circ := if h : ∃ c, CirAt w b c then Classical.choose h else circ0
theorem rdC_eq {w : World} {b : Nat} {c : Circ} (h : CirAt w b c) : rdC w b = c := by
  have he : ∃ c, CirAt w b c := ⟨c, h⟩
  unfold rdC
  rw [dif_pos he]
  obtain ⟨gv, ov, h1, h2, h3⟩ := Classical.choose_spec he
  obtain ⟨gv', ov', h1', h2', h3'⟩ := h
  rw [h1] at h1'
  injection h1' with h1'
  injection h1' with h1' _ _
  have e := congrArg Array.toList h1'
  simp only [List.cons.injEq, and_true] at e
  obtain ⟨e1, e2, e3⟩ := e
  subst e2 e3
  have e1' : (Classical.choose he).n = c.n := by injection e1
  have eg := gates_one h2 h2'
  have eo := ints_one h3 h3'
  generalize Classical.choose he = d at *
  cases d; cases c
  simp only at e1' eg eo
  rw [e1', eg, eo]
theorem CirAt.sep {w : World} {b : Nat} {n : Int} {gv ov : Value} {gs : List Gt} {os : List Int} {l : List Asrt} (h : Sep w (BxA b #[.int .i64 n, gv, ov] 29 :: OR gateE gv gs :: OI ov os :: l)) : CirAt w b ⟨n, gs, os⟩ :=
  ⟨gv, ov, h.hd, h.tl.hd.read, h.tl.tl.hd.read⟩
end Go.Proofs.YtkamcgonacmieaaDoor

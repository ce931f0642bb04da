/-
  The walk of FnExactOptimizeCircuit. Conditions: the table of small primes holds what its text lays; the slices' lengths are those of slices.
-/
import Derived.Test.YtkamcgonacmieaaDoorNd05
import Derived.Test.YtkamcgonacmieaaDoorNa05
namespace Go.Proofs.YtkamcgonacmieaaDoor
open Go.RowKit
set_option linter.unusedVariables false
set_option maxRecDepth 100000

set_option maxHeartbeats 16000000 in
theorem fnOptimize_any (p n : Int) (gv ov : Value) (gs : List Gt) (os : List Int) (w : World) (ht : Tab w) (hg : RdR argE w gv gs) (ho : IntsV w ov os) (k1 : gs.length ≤ 9223372036854775807) (k2 : os.length ≤ 9223372036854775807) :
    Calls Tryd.prog 3 #[.int .i64 p, .agg #[.int .i64 n, gv, ov]] w fun e w' => e = .returned (.bool true) ∧ w.grownBy w' none := by
  obtain ⟨ga, gc, rfl⟩ := hg.shape
  obtain ⟨oa, oc, rfl⟩ := ho.shape
  have hs0 := (Sep.start w).box #[.int .i64 n, .slice ga gs.length gc, .slice oa os.length oc] 25
  have HSZ := Lib.hid fun W => szCircuit_val n ga oa gs.length gc os.length oc 1048576 W (by decide) (by decide) k1 k2
  by_cases hr : szR 1048576 gs.length os.length < 0
  · generalize szR 1048576 gs.length os.length = r at *
    have HS0 := Lib.hid hs0
    clear hs0 hg ho ht
    go_enter Tryd.func3, Tryd.ntmps3
    go_wp2_with (
      go_at_call 9
      with_reducible refine (HSZ.out _).mono ?_
      rintro e w2 ⟨rfl, hg2⟩
      have HF := Lib.hid (HS0.out.grown hg2).tl.hd
      clear hg2)
    go_ret
    exact ⟨rfl, HF.out⟩
  · obtain ⟨l1, l2⟩ := szR_ok (Int.not_lt.1 hr)
    have HTC := Lib.hid fun W (h : w.grownBy W none) => toCircuit_any n _ _ gs os W (hg.carry h) (ho.carry h) (by omega) (by omega)
    have HSP := Lib.hid fun W gv ov (h : w.grownBy W none) (h1 : RdR gateE W gv gs) (h2 : IntsV W ov os) => sOptimize_any p n gv ov gs os W h1 h2 (by omega) (by omega)
    have HIM := Lib.hid fun W gv ov (h : w.grownBy W none) (h1 : RdR gateE W gv gs) (h2 : IntsV W ov os) => iOptimize_any p n gv ov gs os W (ht.grown h) h1 h2 (by omega) (by omega)
    obtain ⟨hR1, hR2⟩ := optRes_len p ⟨n, gs, os⟩ (by simpa using l1) (by simpa using l2)
    have HEX := Lib.hid fun W a1 c1 a2 c2 (h1 : RdR gateE W (.slice a1 gs.length c1) gs) (h2 : IntsV W (.slice a2 os.length c2) os) a3 c3 a4 c4 (h3 : RdR gateE W (.slice a3 gs.length c3) gs) (h4 : IntsV W (.slice a4 os.length c4) os) =>
      eqCircuit_same n (.slice a1 gs.length c1) (.slice a2 os.length c2) (.slice a3 gs.length c3) (.slice a4 os.length c4) gs os W h1 h3 h2 h4 (by omega) (by omega)
    generalize optRes p ⟨n, gs, os⟩ = R at *
    generalize optOk p ⟨n, gs, os⟩ = b at *
    have HER := Lib.hid fun W a1 c1 a2 c2 (h1 : RdR gateE W (.slice a1 R.gs.length c1) R.gs) (h2 : IntsV W (.slice a2 R.os.length c2) R.os) a3 c3 a4 c4 (h3 : RdR gateE W (.slice a3 R.gs.length c3) R.gs) (h4 : IntsV W (.slice a4 R.os.length c4) R.os) =>
      eqCircuit_same R.n (.slice a1 R.gs.length c1) (.slice a2 R.os.length c2) (.slice a3 R.gs.length c3) (.slice a4 R.os.length c4) R.gs R.os W h1 h3 h2 h4 (by omega) (by omega)
    have HMX := Lib.hid fun W l a1 c1 a2 c2 (h : Sep W (OR gateE (.slice a1 gs.length c1) gs :: OI (.slice a2 os.length c2) os :: l)) => markCircuit_any n a1 a2 gs.length c1 os.length c2 gs os 1 W l h rfl rfl (by omega) (by omega) (by decide) (by decide)
    have HMG := Lib.hid fun W l a1 c1 a2 c2 (h : Sep W (OR gateE (.slice a1 R.gs.length c1) R.gs :: OI (.slice a2 R.os.length c2) R.os :: l)) => markCircuit_any R.n a1 a2 R.gs.length c1 R.os.length c2 R.gs R.os 1 W l h rfl rfl (by omega) (by omega) (by decide) (by decide)
    have HHG := Lib.hid fun W a1 c1 a2 c2 (h1 : RdR gateE W (.slice a1 R.gs.length c1) (cntG 1 R.gs.length)) (h2 : IntsV W (.slice a2 R.os.length c2) (cntI (1 + 4 * R.gs.length) R.os.length)) => heldCircuit_any R.n a1 a2 R.gs.length c1 R.os.length c2 1 W h1 h2 (by omega) (by omega) (by decide) (by decide)
    unfold CirRes at HSP HIM
    have HS0 := Lib.hid hs0
    clear hs0 hg ho ht
    generalize szR 1048576 gs.length os.length = r at *
    generalize hm1 : gs.length = m1 at *
    generalize hm2 : os.length = m2 at *
    obtain ⟨Rn, Rg, Ro⟩ := R
    simp only at HSP HIM HER HMG HHG hR1 hR2
    generalize hr1 : Rg.length = r1 at *
    generalize hr2 : Ro.length = r2 at *
    obtain ⟨q1, hq1⟩ : ∃ q : Int, q = 1 + 4 * (m1 : Int) + m2 := ⟨_, rfl⟩
    obtain ⟨q2, hq2⟩ : ∃ q : Int, q = 1 + 4 * (r1 : Int) + r2 := ⟨_, rfl⟩
    rw [← hq1] at HMX
    rw [← hq2] at HMG HHG
    have hq10 : ¬ q1 < 0 := by omega
    have hq20 : ¬ q2 < 0 := by omega
    clear hm1 hm2 hr1 hr2 hq1 hq2
    unfold cirV at *
    go_enter Tryd.func3, Tryd.ntmps3
    go_upto_region 10 with (first
      | (go_at_call 9
         with_reducible refine (HSZ.out _).mono ?_
         rintro e w2 ⟨rfl, hg2⟩
         have HS2 := Lib.hid (HS0.out.grown hg2)
         have HK2 := Lib.hid (show w.grownBy w2 none from HS2.out.tl.hd)
         obtain ⟨a20, a21, a22, _⟩ := bx3 HS2.out.hd
         clear hg2)
      | (go_at_call 11
         with_reducible refine (HTC.out _ HK2.out).mono ?_
         rintro e w3 ⟨yg, yc, yo, yd, rfl, hs⟩
         have HS3 := Lib.hid (HS2.out.graft2 hs OR_own OI_own)
         have HK3 := Lib.hid (show w.grownBy w3 none from HS3.out.tl.tl.tl.hd)
         have HY1 := Lib.hid HS3.out.hd.read
         have HY2 := Lib.hid HS3.out.tl.hd.read
         clear hs)
      | (go_at_call 10
         with_reducible refine (HSP.out _ _ _ HK3.out HY1.out HY2.out).mono ?_
         rintro e w4 ⟨wg, wc, wo, wd, rfl, hs⟩
         have hs4 := (((HS3.out.graft2 hs OR_own OI_own).s3.tl).s3.tl).box #[.int .i64 Rn, .slice wg r1 wc, .slice wo r2 wd] 29
         have HS4 := Lib.hid hs4
         have HK4 := Lib.hid (show w.grownBy _ none from hs4.tl.tl.tl.tl.hd)
         obtain ⟨a40, a41, a42, _⟩ := bx3 hs4.tl.tl.tl.hd
         clear hs hs4)
      | (go_at_call 11
         with_reducible refine (HTC.out _ HK4.out).mono ?_
         rintro e w6 ⟨xg, xc, xo, xd, rfl, hs⟩
         have hs6 := (HS4.out.graft2 hs OR_own OI_own).box #[.int .i64 n, .slice (some ⟨xg, 0, none⟩) m1 xc, .slice (some ⟨xo, 0, none⟩) m2 xd] 29
         have HS6 := Lib.hid hs6
         have HK6 := Lib.hid (show w.grownBy _ none from hs6.tl.tl.tl.tl.tl.tl.tl.hd)
         have HX1 := Lib.hid hs6.tl.hd.read
         have HX2 := Lib.hid hs6.tl.tl.hd.read
         obtain ⟨a60, a61, a62, _⟩ := bx3 hs6.hd
         clear hs hs6)
      | (go_at_call 12
         with_reducible refine (HIM.out _ _ _ HK6.out HX1.out HX2.out).mono ?_
         rintro e w8 ⟨hg1, hc1, ho1, hd1, rfl, hs⟩
         have hs8 := (HS6.out.graft2 hs OR_own OI_own).box #[.int .i64 Rn, .slice hg1 r1 hc1, .slice ho1 r2 hd1] 29
         have HS8 := Lib.hid hs8
         have HG1 := Lib.hid hs8.tl.hd.read
         have HG2 := Lib.hid hs8.tl.tl.hd.read
         have HW1 := Lib.hid hs8.tl.tl.tl.tl.tl.tl.tl.hd.read
         have HW2 := Lib.hid hs8.tl.tl.tl.tl.tl.tl.tl.tl.hd.read
         obtain ⟨a80, a81, a82, _⟩ := bx3 hs8.hd
         obtain ⟨a83, a84, a85, _⟩ := bx3 hs8.tl.tl.tl.tl.tl.tl.hd
         clear hs hs8)
      | (go_at_call 13
         with_reducible refine (HER.out _ _ _ _ _ HG1.out HG2.out _ _ _ _ HW1.out HW2.out).mono ?_
         rintro e w10 ⟨rfl, hg10⟩
         have HS10 := Lib.hid (HS8.out.grown hg10)
         clear hg10))
    -- the parts at w10: box9 G g, G o, box8, X g, X o, box6, W g, W o, arg, keep
    generalize w4.heap.size = b6 at *
    generalize w6.heap.size = b8 at *
    generalize w8.heap.size = b9 at *
    go_cut [49] from 45 to 49 (fun t wx => t = .bool false ∧ Sep wx [BxA b9 #[.int .i64 Rn, .slice hg1 r1 hc1, .slice ho1 r2 hd1] 29, OR gateE (.slice hg1 r1 hc1) Rg, OI (.slice ho1 r2 hd1) Ro, BxA b8 #[.int .i64 n, .slice (some ⟨xg, 0, none⟩) m1 xc, .slice (some ⟨xo, 0, none⟩) m2 xd] 29, OR gateE (.slice (some ⟨xg, 0, none⟩) m1 xc) gs, OI (.slice (some ⟨xo, 0, none⟩) m2 xd) os, BxA b6 #[.int .i64 Rn, .slice wg r1 wc, .slice wo r2 wd] 29, OR gateE (.slice wg r1 wc) Rg, OI (.slice wo r2 wd) Ro, BxA w.heap.size #[.int .i64 n, .slice ga m1 gc, .slice oa m2 oc] 25, KeepA w])
    case first =>
      have hs11 := HS10.out.dr
      have HS11 := Lib.hid hs11
      have HK11 := Lib.hid (show w.grownBy _ none from hs11.tl.tl.tl.tl.tl.tl.tl.tl.tl.tl.hd)
      obtain ⟨c0, c1, c2, _⟩ := bx3 hs11.tl.tl.tl.hd
      obtain ⟨d0, d1, d2, _⟩ := bx3 hs11.tl.tl.tl.tl.tl.tl.tl.tl.tl.hd
      clear hs11
      go_region_law (first
        | (try go_simp
           go_at_call 11
           with_reducible refine (HTC.out _ HK11.out).mono ?_
           rintro e w12 ⟨zg, zc, zo, zd, rfl, hs⟩
           have HS12 := Lib.hid (HS11.out.graft2 hs OR_own OI_own)
           have HZ1 := Lib.hid HS12.out.hd.read
           have HZ2 := Lib.hid HS12.out.tl.hd.read
           have HX3 := Lib.hid HS12.out.tl.tl.tl.tl.tl.tl.hd.read
           have HX4 := Lib.hid HS12.out.tl.tl.tl.tl.tl.tl.tl.hd.read
           obtain ⟨e0, e1, e2, _⟩ := bx3 HS12.out.tl.tl.tl.tl.tl.hd
           obtain ⟨f0, f1, f2, _⟩ := bx3 HS12.out.tl.tl.tl.tl.tl.tl.tl.tl.tl.tl.tl.hd
           clear hs)
        | (try go_simp
           go_at_call 13
           with_reducible refine (HEX.out _ _ _ _ _ HX3.out HX4.out _ _ _ _ HZ1.out HZ2.out).mono ?_
           rintro e w13 ⟨rfl, hg13⟩
           have HS13 := Lib.hid (HS12.out.grown hg13).tl.tl
           clear hg13))
      all_goals
        go_wp2_with fail
        go_meet
        exact ⟨rfl, HS13.out⟩
    case rest =>
      obtain ⟨rfl, hs⟩ := hcut
      have HS14 := Lib.hid hs
      obtain ⟨a0, a1, a2, _⟩ := bx3 hs.tl.tl.tl.hd
      have HSM := Lib.hid hs.s5.s6.s2
      clear hs
      go_wp2_with (first
        | (go_at_call 14
           with_reducible refine (HMX.out _ _ _ _ _ _ HSM.out).mono ?_
           rintro e w15 ⟨rfl, hs⟩
           have hs15 := hs.tl.tl
           have HS15 := Lib.hid hs15
           have HG1 := Lib.hid hs15.tl.hd.read
           have HG2 := Lib.hid hs15.tl.tl.hd.read
           have HW1 := Lib.hid hs15.tl.tl.tl.tl.tl.hd.read
           have HW2 := Lib.hid hs15.tl.tl.tl.tl.tl.tl.hd.read
           obtain ⟨b0, b1, b2, _⟩ := bx3 hs15.hd
           obtain ⟨b3, b4, b5, _⟩ := bx3 hs15.tl.tl.tl.tl.hd
           clear hs hs15)
        | (go_at_call 13
           with_reducible refine (HER.out _ _ _ _ _ HG1.out HG2.out _ _ _ _ HW1.out HW2.out).mono ?_
           rintro e w16 ⟨rfl, hg16⟩
           have hs16 := HS15.out.grown hg16
           obtain ⟨c0, c1, c2, _⟩ := bx3 hs16.hd
           have HSN := Lib.hid hs16.s2.s3.s2
           clear hg16 hs16)
        | (go_at_call 14
           with_reducible refine (HMG.out _ _ _ _ _ _ HSN.out).mono ?_
           rintro e w17 ⟨rfl, hs⟩
           have HS17 := Lib.hid hs
           have HC1 := Lib.hid hs.hd.read
           have HC2 := Lib.hid hs.tl.hd.read
           obtain ⟨d0, d1, d2, _⟩ := bx3 hs.tl.tl.hd
           clear hs)
        | (go_at_call 15
           with_reducible refine (HHG.out _ _ _ _ _ HC1.out HC2.out).mono ?_
           rintro e w18 ⟨rfl, hg18⟩
           have hs18 := HS17.out.grown hg18
           have HS18 := Lib.hid hs18
           have HK18 := Lib.hid (show w.grownBy w18 none from hs18.tl.tl.tl.tl.tl.tl.tl.tl.hd)
           obtain ⟨e0, e1, e2, _⟩ := bx3 hs18.tl.tl.tl.tl.tl.tl.tl.hd
           clear hg18 hs18)
        | (go_at_call 11
           with_reducible refine (HTC.out _ HK18.out).mono ?_
           rintro e w19 ⟨vg, vc, vo, vd, rfl, hs⟩
           have HS19 := Lib.hid (HS18.out.graft2 hs OR_own OI_own)
           have HK19 := Lib.hid (show w.grownBy w19 none from HS19.out.tl.tl.tl.tl.tl.tl.tl.tl.tl.tl.hd)
           have HV1 := Lib.hid HS19.out.hd.read
           have HV2 := Lib.hid HS19.out.tl.hd.read
           clear hs)
        | (go_at_call 12
           with_reducible refine (HIM.out _ _ _ HK19.out HV1.out HV2.out).mono ?_
           rintro e w20 ⟨ig, ic, io, id', rfl, hs⟩
           have hs20 := (((HS19.out.graft2 hs OR_own OI_own).s3.tl).s3.tl).box #[.int .i64 Rn, .slice ig r1 ic, .slice io r2 id'] 29
           have HS20 := Lib.hid hs20
           have HI1 := Lib.hid hs20.tl.hd.read
           have HI2 := Lib.hid hs20.tl.tl.hd.read
           have HW3 := Lib.hid hs20.tl.tl.tl.tl.tl.tl.tl.tl.hd.read
           have HW4 := Lib.hid hs20.tl.tl.tl.tl.tl.tl.tl.tl.tl.hd.read
           obtain ⟨f0, f1, f2, _⟩ := bx3 hs20.hd
           obtain ⟨f3, f4, f5, _⟩ := bx3 hs20.tl.tl.tl.tl.tl.tl.tl.hd
           clear hs hs20)
        | (go_at_call 13
           with_reducible refine (HER.out _ _ _ _ _ HI1.out HI2.out _ _ _ _ HW3.out HW4.out).mono ?_
           rintro e w21 ⟨rfl, hg21⟩
           have hs21 := HS20.out.grown hg21
           have HS21 := Lib.hid hs21
           have HC3 := Lib.hid hs21.tl.tl.tl.hd.read
           have HC4 := Lib.hid hs21.tl.tl.tl.tl.hd.read
           obtain ⟨g0', g1', g2', _⟩ := bx3 hs21.tl.tl.tl.tl.tl.hd
           clear hg21 hs21)
        | (go_at_call 15
           with_reducible refine (HHG.out _ _ _ _ _ HC3.out HC4.out).mono ?_
           rintro e w22 ⟨rfl, hg22⟩
           have HKF := Lib.hid (show w.grownBy w22 none from (HS21.out.grown hg22).tl.tl.tl.tl.tl.tl.tl.tl.tl.tl.tl.hd)
           clear hg22))
      go_ret
      exact ⟨rfl, HKF.out⟩
end Go.Proofs.YtkamcgonacmieaaDoor

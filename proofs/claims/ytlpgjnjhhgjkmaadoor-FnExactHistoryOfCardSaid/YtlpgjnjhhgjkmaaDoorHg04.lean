/-
  The walk of FnExactHistoryOf. Conditions: the table of small primes holds what its text lays; the slices' lengths are those of slices.
-/
import Derived.Test.YtlpgjnjhhgjkmaaDoorHg03
namespace Go.Proofs.YtlpgjnjhhgjkmaaDoor
open Go.RowKit
set_option linter.unusedVariables false
set_option maxRecDepth 100000

theorem toSession_sh (s : Se) (pv e1 i1 o1 fv e2 i2 o2 : Value) (w : World) (hr : RdSe argGrE argEdE w s pv e1 i1 o1 fv e2 i2 o2) (hsm : SmS s) :
    Calls Tryd.prog 7 #[seV s.p s.k s.l pv s.now.n e1 i1 o1 fv s.goal.n e2 i2 o2] w fun e w' => ∃ (qa h1 h2 h3 ra u1 u2 u3 : Option Addr) (qc j1 j2 j3 rc v1 v2 v3 : Nat) (X : SeX), e = .returned (.agg #[.int .i64 s.p, .int .i64 s.k, .int .i64 s.l, .slice qa s.past.length qc, .int .i64 s.now.n, .slice h1 s.now.es.length j1, .slice h2 s.now.i.length j2, .slice h3 s.now.o.length j3, .slice ra s.fut.length rc, .int .i64 s.goal.n, .slice u1 s.goal.es.length v1, .slice u2 s.goal.i.length v2, .slice u3 s.goal.o.length v3]) ∧ sxV X = .agg #[.int .i64 s.p, .int .i64 s.k, .int .i64 s.l, .slice qa s.past.length qc, .int .i64 s.now.n, .slice h1 s.now.es.length j1, .slice h2 s.now.i.length j2, .slice h3 s.now.o.length j3, .slice ra s.fut.length rc, .int .i64 s.goal.n, .slice u1 s.goal.es.length v1, .slice u2 s.goal.i.length v2, .slice u3 s.goal.o.length v3] ∧ X.se = s ∧
      (∀ W, (OSe X).holds W → RdSe graphE edgeE W s (.slice qa s.past.length qc) (.slice h1 s.now.es.length j1) (.slice h2 s.now.i.length j2) (.slice h3 s.now.o.length j3) (.slice ra s.fut.length rc) (.slice u1 s.goal.es.length v1) (.slice u2 s.goal.i.length v2) (.slice u3 s.goal.o.length v3)) ∧ Sep w' [OSe X, KeepA w] := by
  refine (toSession_any s _ _ _ _ _ _ _ _ w hr hsm).mono ?_
  rintro e w' ⟨X, rfl, hX, hsg⟩
  subst hX
  have hr3 := OSe.read hsg.hd
  obtain ⟨qa, qc, hpv⟩ := hr3.past.shape
  obtain ⟨h1, j1, he1⟩ := hr3.es1.shape
  obtain ⟨h2, j2, he2⟩ := hr3.is1.shape
  obtain ⟨h3, j3, he3⟩ := hr3.os1.shape
  obtain ⟨ra, rc, hfv⟩ := hr3.fut.shape
  obtain ⟨u1, v1, he4⟩ := hr3.es2.shape
  obtain ⟨u2, v2, he5⟩ := hr3.is2.shape
  obtain ⟨u3, v3, he6⟩ := hr3.os2.shape
  have hv : sxV X = .agg ((#[.int .i64 X.se.p, .int .i64 X.se.k, .int .i64 X.se.l, .slice qa X.se.past.length qc, .int .i64 X.se.now.n, .slice h1 X.se.now.es.length j1, .slice h2 X.se.now.i.length j2, .slice h3 X.se.now.o.length j3, .slice ra X.se.fut.length rc, .int .i64 X.se.goal.n, .slice u1 X.se.goal.es.length v1, .slice u2 X.se.goal.i.length v2, .slice u3 X.se.goal.o.length v3] : Array Value)) := by
    unfold sxV seV
    rw [hpv, he1, he2, he3, hfv, he4, he5, he6]
    rfl
  refine ⟨qa, h1, h2, h3, ra, u1, u2, u3, qc, j1, j2, j3, rc, v1, v2, v3, X, by rw [hv], hv, rfl, fun W h => ?_, hsg⟩
  have := OSe.read h
  rw [hpv, he1, he2, he3, hfv, he4, he5, he6] at this
  exact this
theorem wGs_rev (gs : List Gr) : wGs gs.reverse = wGs gs := by
  induction gs with
  | nil => rfl
  | cons g gs ih => rw [List.reverse_cons, wGs_app, ih]; simp only [wGs]; omega
theorem hist_small {s : Se} (h : totS s ≤ 1048576) : (hist s).length ≤ 2000000 ∧ wGs (hist s) ≤ 4000000 ∧ (∀ g ∈ hist s, smW g) ∧ ∀ g ∈ hist s, Sm g := by
  have hs := SmS.of h
  unfold totS at h
  have t1 := wGs_tot s.past
  have t2 := wGs_tot s.fut
  have t3 : wG s.now ≤ 1 + 2 * totG s.now := by have := wEs_tot s.now.es; unfold wG totG; omega
  have hm : ∀ g ∈ hist s, totG g ≤ 1048576 := by
    intro g hg
    unfold hist at hg
    rcases List.mem_append.1 hg with hg | hg
    · rcases List.mem_append.1 hg with hg | hg
      · have := totGs_mem hg; omega
      · rw [List.mem_singleton.1 hg]; omega
    · have := totGs_mem (List.mem_reverse.1 hg); omega
  refine ⟨by unfold hist; simp; omega, ?_, fun g hg => SmW.of (hm g hg), fun g hg => Sm.of (hm g hg)⟩
  unfold hist
  rw [wGs_app, wGs_app, wGs_rev]
  simp only [wGs]
  omega
theorem HistR.sh {s : Se} {K : List Gr} (hK : (if sesB s = true then hist s else []) = K) {w : World} {e : Ending} {w' : World} (h : HistR s w e w') :
    ∃ a c ys, e = .returned (.tuple #[.slice a K.length c, .bool (sesB s)]) ∧ grs ys = K ∧ Sep w' [OG (.slice a K.length c) ys, KeepA w] := by
  obtain ⟨v, ys, rfl, hg, hs⟩ := h
  obtain ⟨a, c, rfl⟩ := OG.shape hs.hd
  rw [hK] at hg
  have hl : ys.length = K.length := by rw [← hg, grs_len]
  rw [hl] at hs ⊢
  exact ⟨a, c, ys, rfl, hg, hs⟩
set_option maxHeartbeats 16000000 in
theorem fnHistoryOf_any (s : Se) (pv e1 i1 o1 fv e2 i2 o2 : Value) (w : World) (ht : Tab w) (hr : RdSe argGrE argEdE w s pv e1 i1 o1 fv e2 i2 o2) (hok : okS s) :
    Calls Tryd.prog 4 #[seV s.p s.k s.l pv s.now.n e1 i1 o1 fv s.goal.n e2 i2 o2] w fun e w' => e = .returned (.bool true) ∧ w.grownBy w' none := by
  have HSZ := Lib.hid fun W (h : w.grownBy W none) => szSession_any s _ _ _ _ _ _ _ _ 1048576 W (hr.carry h) hok (by decide) (by decide)
  have HTB := Lib.hid fun W (h : w.grownBy W none) => ht.grown h
  obtain ⟨pa, pc, rfl⟩ := hr.past.shape
  obtain ⟨a1, a4, rfl⟩ := hr.es1.shape
  obtain ⟨a2, a5, rfl⟩ := hr.is1.shape
  obtain ⟨a3, a6, rfl⟩ := hr.os1.shape
  obtain ⟨fa, fc, rfl⟩ := hr.fut.shape
  obtain ⟨b1, b4, rfl⟩ := hr.es2.shape
  obtain ⟨b2, b5, rfl⟩ := hr.is2.shape
  obtain ⟨b3, b6, rfl⟩ := hr.os2.shape
  have HS0 := Lib.hid ((Sep.start w).box #[.int .i64 s.p, .int .i64 s.k, .int .i64 s.l, .slice pa s.past.length pc, .int .i64 s.now.n, .slice a1 s.now.es.length a4, .slice a2 s.now.i.length a5, .slice a3 s.now.o.length a6, .slice fa s.fut.length fc, .int .i64 s.goal.n, .slice b1 s.goal.es.length b4, .slice b2 s.goal.i.length b5, .slice b3 s.goal.o.length b6] 28)
  have HK0 := Lib.hid (show w.grownBy _ none from HS0.out.tl.hd)
  by_cases hsz : lft 1048576 (totS s) < 0
  · generalize lft 1048576 (totS s) = r at *
    unfold seV at *
    clear hr hok ht HTB
    generalize s.past.length = pn at *
    generalize s.now.es.length = n1 at *
    generalize s.now.i.length = n2 at *
    generalize s.now.o.length = n3 at *
    generalize s.fut.length = fn at *
    generalize s.goal.es.length = m1 at *
    generalize s.goal.i.length = m2 at *
    generalize s.goal.o.length = m3 at *
    go_enter Tryd.func4, Tryd.ntmps4
    go_wp2_with (
      go_at_call 5
      with_reducible refine (HSZ.out _ HK0.out).mono ?_
      rintro e w2 ⟨rfl, hg⟩
      have HK2 := Lib.hid (grownBy_trans HK0.out hg)
      clear hg)
    go_ret
    exact ⟨rfl, HK2.out⟩
  · have htot : totS s ≤ 1048576 := by unfold lft at hsz; by_cases h : (1048576 : Int) - totS s < 0 <;> simp [h] at hsz <;> omega
    have hsm : SmS s := SmS.of htot
    have HTS := Lib.hid fun W (h : w.grownBy W none) => toSession_sh s _ _ _ _ _ _ _ _ W (hr.carry h) hsm
    have HES := Lib.hid fun W qv c1 c2 c3 gv d1 d2 d3 qv' c1' c2' c3' gv' d1' d2' d3' (h : RdSe graphE edgeE W s qv c1 c2 c3 gv d1 d2 d3) (h' : RdSe graphE edgeE W s qv' c1' c2' c3' gv' d1' d2' d3') => eqSession_same s qv c1 c2 c3 gv d1 d2 d3 qv' c1' c2' c3' gv' d1' d2' d3' W h h' hsm
    have HMS := Lib.hid fun W l (x : SeX) (hx : x.se = s) (h : Sep W (OSe x :: l)) => markSession_any x W l h (by rw [hx]; exact htot)
    obtain ⟨K, hK⟩ : ∃ K, (if sesB s = true then hist s else []) = K := ⟨_, rfl⟩
    have HSP := Lib.hid fun W qv c1 c2 c3 gv d1 d2 d3 (h : RdSe graphE edgeE W s qv c1 c2 c3 gv d1 d2 d3) => (sHistory_any s qv c1 c2 c3 gv d1 d2 d3 W h hsm).mono fun _ _ h => HistR.sh hK h
    have HIM := Lib.hid fun W qv c1 c2 c3 gv d1 d2 d3 (hw : w.grownBy W none) (h : RdSe graphE edgeE W s qv c1 c2 c3 gv d1 d2 d3) => (iHistory_any s qv c1 c2 c3 gv d1 d2 d3 W (HTB.out _ hw) h hsm).mono fun _ _ h => HistR.sh hK h
    have hsmall : K.length ≤ 2000000 ∧ wGs K ≤ 4000000 ∧ (∀ g ∈ K, smW g) ∧ ∀ g ∈ K, Sm g := by
      have := hist_small htot
      rw [← hK]
      split
      · exact this
      · simp [wGs]
    have HEQ := Lib.hid fun W v v' (h : RdGs graphE edgeE W v K) (h' : RdGs graphE edgeE W v' K) => eqGraphS_same v v' K W h h' hsmall.1 hsmall.2.2.2
    have HMG := Lib.hid fun W l a c ys (hy : grs ys = K) (h : Sep W (OG (.slice a K.length c) ys :: l)) => markGraphS_any a K.length c ys 1 W l h (by rw [← hy, grs_len]) (by rw [hy]; exact hsmall.2.1) (by rw [hy]; exact hsmall.2.2.1) (by decide) (by decide)
    have HHG := Lib.hid fun W v (h : RdGs graphE edgeE W v (mkGl 1 K)) => heldGraphS_any v K 1 W h hsmall.2.1 hsmall.2.2.1 (by decide) (by decide)
    have HRG := Lib.hid fun W v ys (hy : grs ys = K) (h : (OG v ys).holds W) => show RdGs graphE edgeE W v K from by rw [← hy]; exact OG.read h
    have HRM := Lib.hid fun W v ys (hy : grs ys = K) (h : (OG v (mkYs 1 ys)).holds W) => show RdGs graphE edgeE W v (mkGl 1 K) from by rw [← hy, ← grs_mk]; exact OG.read h
    obtain ⟨m, hm⟩ : ∃ m : Int, m = 1 + (wGs K : Int) := ⟨_, rfl⟩
    rw [← hm] at HHG
    have HM0 := Lib.hid hm
    have hm0 : ¬ m < 0 := by omega
    have hmm : (m != m) = false := by simp
    generalize lft 1048576 (totS s) = r at *
    generalize sesB s = b at *
    unfold seV at *
    clear hr hok ht hsm HTB htot hsmall hm hK
    have hnb : (b != b) = false := by simp
    generalize K.length = n at *
    go_enter Tryd.func4, Tryd.ntmps4
    go_upto_region 10 with (first
      | (go_at_call 5
         with_reducible refine (HSZ.out _ HK0.out).mono ?_
         rintro e w2 ⟨rfl, hg⟩
         have hs2 := HS0.out.grown hg
         obtain ⟨x0, x1, x2, x3, x4, x5, x6, x7, x8, x9, xa, xb, xc⟩ := bq13 hs2.hd
         have HS2 := Lib.hid hs2
         have HK2 := Lib.hid (show w.grownBy w2 none from hs2.tl.hd)
         clear hg hs2)
      | (go_at_call 7
         with_reducible refine (HTS.out _ HK2.out).mono ?_
         rintro e w3 ⟨qaa, h1a, h2a, h3a, raa, u1a, u2a, u3a, qca, j1a, j2a, j3a, rca, v1a, v2a, v3a, XA, rfl, hsx, hxs, hrd, hsg⟩
         have hs3 := HS2.out.graft1 hsg OSe_own
         have HS3 := Lib.hid hs3
         have HSP3 := Lib.hid (HSP.out _ _ _ _ _ _ _ _ _ (hrd w3 hs3.hd))
         clear x0 x1 x2 x3 x4 x5 x6 x7 x8 x9 xa xb xc
         clear hsg hs3 hsx hxs hrd)
      | (go_at_call 10
         with_reducible refine HSP3.out.mono ?_
         rintro e w4 ⟨g0, c0, ys0, rfl, hy0, hsg⟩
         have HY0 := Lib.hid hy0
         have hs4 := (HS3.out.graft1 hsg OG_own).drop2
         obtain ⟨x0, x1, x2, x3, x4, x5, x6, x7, x8, x9, xa, xb, xc⟩ := bq13 hs4.tl.hd
         have HS4 := Lib.hid hs4
         have HK4 := Lib.hid (show w.grownBy w4 none from hs4.tl.tl.hd)
         clear hsg hs4 hy0)
      | (go_at_call 7
         with_reducible refine (HTS.out _ HK4.out).mono ?_
         rintro e w5 ⟨qab, h1b, h2b, h3b, rab, u1b, u2b, u3b, qcb, j1b, j2b, j3b, rcb, v1b, v2b, v3b, XB, rfl, hsx, hxs, hrd, hsg⟩
         have HSX := Lib.hid hsx; have HXS := Lib.hid hxs; have HRD := Lib.hid hrd
         have hs5 := (HS4.out.graft1 hsg OSe_own).box #[.int .i64 s.p, .int .i64 s.k, .int .i64 s.l, .slice qab s.past.length qcb, .int .i64 s.now.n, .slice h1b s.now.es.length j1b, .slice h2b s.now.i.length j2b, .slice h3b s.now.o.length j3b, .slice rab s.fut.length rcb, .int .i64 s.goal.n, .slice u1b s.goal.es.length v1b, .slice u2b s.goal.i.length v2b, .slice u3b s.goal.o.length v3b] 36
         clear x0 x1 x2 x3 x4 x5 x6 x7 x8 x9 xa xb xc
         obtain ⟨x0, x1, x2, x3, x4, x5, x6, x7, x8, x9, xa, xb, xc⟩ := bq13 hs5.tl.tl.tl.hd
         have HS5 := Lib.hid hs5
         have HIM5 := Lib.hid (HIM.out _ _ _ _ _ _ _ _ _ (show w.grownBy _ none from hs5.tl.tl.tl.tl.hd) (hrd _ hs5.tl.hd))
         clear hsg hs5 hsx hxs hrd)
      | (go_at_call 11
         with_reducible refine HIM5.out.mono ?_
         rintro e w6 ⟨g1, c1, ys1, rfl, hy1, hsg⟩
         have HY1 := Lib.hid hy1
         have hs6 := HS5.out.graft1 hsg OG_own
         clear x0 x1 x2 x3 x4 x5 x6 x7 x8 x9 xa xb xc
         obtain ⟨y0, y1, y2, y3, y4, y5, y6, y7, y8, y9, ya, yb, yc⟩ := bq13 hs6.tl.hd
         obtain ⟨x0, x1, x2, x3, x4, x5, x6, x7, x8, x9, xa, xb, xc⟩ := bq13 hs6.tl.tl.tl.tl.hd
         have HS6 := Lib.hid hs6
         have HEQ6 := Lib.hid (HEQ.out _ _ _ (HRG.out _ _ _ hy1 hs6.hd) (HRG.out _ _ _ HY0.out hs6.tl.tl.tl.hd))
         clear hsg hs6 hy1)
      | (go_at_call 12
         with_reducible refine HEQ6.out.mono ?_
         rintro e w7 ⟨rfl, hg⟩
         have hs7 := HS6.out.grown hg
         clear x0 x1 x2 x3 x4 x5 x6 x7 x8 x9 xa xb xc
         clear y0 y1 y2 y3 y4 y5 y6 y7 y8 y9 ya yb yc
         obtain ⟨y0, y1, y2, y3, y4, y5, y6, y7, y8, y9, ya, yb, yc⟩ := bq13 hs7.tl.hd
         obtain ⟨x0, x1, x2, x3, x4, x5, x6, x7, x8, x9, xa, xb, xc⟩ := bq13 hs7.tl.tl.tl.tl.hd
         have HS7 := Lib.hid hs7
         clear hg hs7))
    have HSD7 := Lib.hid HS7.out.dr
    have HKD7 := Lib.hid (show w.grownBy w7.drew none from HSD7.out.tl.tl.tl.tl.tl.hd)
    clear x0 x1 x2 x3 x4 x5 x6 x7 x8 x9 xa xb xc
    clear y0 y1 y2 y3 y4 y5 y6 y7 y8 y9 ya yb yc
    obtain ⟨x0, x1, x2, x3, x4, x5, x6, x7, x8, x9, xa, xb, xc⟩ := bq13 HSD7.out.tl.tl.tl.tl.hd
    obtain ⟨y0, y1, y2, y3, y4, y5, y6, y7, y8, y9, ya, yb, yc⟩ := bq13 HSD7.out.tl.hd
    go_region_law (first
      | ((try go_simp)
         go_at_call 7
         with_reducible refine (HTS.out _ HKD7.out).mono ?_
         rintro e w8 ⟨qac, h1c, h2c, h3c, rac, u1c, u2c, u3c, qcc, j1c, j2c, j3c, rcc, v1c, v2c, v3c, XC, rfl, hsx, hxs, hrd, hsg⟩
         have hs8 := HSD7.out.graft1 hsg OSe_own
         obtain ⟨z0, z1, z2, z3, z4, z5, z6, z7, z8, z9, za, zb, zc⟩ := bq13 hs8.tl.tl.hd
         have HE8 := Lib.hid (HES.out _ _ _ _ _ _ _ _ _ _ _ _ _ _ _ _ _ (HRD.out _ hs8.tl.tl.tl.hd) (hrd _ hs8.hd))
         have HS8 := Lib.hid hs8.tl
         clear hsg hs8 hsx hxs hrd)
      | ((try go_simp)
         go_at_call 9
         with_reducible refine HE8.out.mono ?_
         rintro e w9 ⟨rfl, hg⟩
         have hs9 := HS8.out.grown hg
         obtain ⟨t0, t1, t2, t3, t4, t5, t6, t7, t8, t9, ta, tb, tc⟩ := bq13 hs9.tl.hd
         have HS9 := Lib.hid hs9.s3
         have HMS9 := Lib.hid (HMS.out _ _ XB HXS.out hs9.s3)
         rw [HSX.out] at HMS9
         clear hg hs9))
    all_goals
      clear x0 x1 x2 x3 x4 x5 x6 x7 x8 x9 xa xb xc
      clear y0 y1 y2 y3 y4 y5 y6 y7 y8 y9 ya yb yc
      go_wp2_with (first
        | (go_at_call 13
           with_reducible refine HMS9.out.mono ?_
           rintro e w10 ⟨r10, rfl, hr10, hs10⟩
           have hr10' : ¬ r10 < 0 := by omega
           obtain ⟨x0, x1, x2, x3, x4, x5, x6, x7, x8, x9, xa, xb, xc⟩ := bq13 hs10.tl.tl.tl.hd
           have HS10 := Lib.hid hs10
           have HEQ10 := Lib.hid (HEQ.out _ _ _ (HRG.out _ _ _ HY1.out hs10.hd) (HRG.out _ _ _ HY0.out hs10.tl.tl.hd))
           clear hs10 hr10)
        | (go_at_call 12
           with_reducible refine HEQ10.out.mono ?_
           rintro e w11 ⟨rfl, hg⟩
           have hs11 := HS10.out.grown hg
           have HMG11 := Lib.hid (HMG.out _ _ _ _ _ HY1.out hs11)
           rw [HY1.out, ← HM0.out] at HMG11
           clear hg hs11)
        | (go_at_call 14
           with_reducible refine HMG11.out.mono ?_
           rintro e w12 ⟨rfl, hs12⟩
           have HS12 := Lib.hid hs12
           have HHG12 := Lib.hid (HHG.out _ _ (HRM.out _ _ _ HY1.out hs12.hd))
           clear hs12)
        | (go_at_call 15
           with_reducible refine HHG12.out.mono ?_
           rintro e w13 ⟨rfl, hg⟩
           have hs13 := HS12.out.grown hg
           clear x0 x1 x2 x3 x4 x5 x6 x7 x8 x9 xa xb xc
           obtain ⟨x0, x1, x2, x3, x4, x5, x6, x7, x8, x9, xa, xb, xc⟩ := bq13 hs13.tl.tl.tl.hd
           have HS13 := Lib.hid hs13
           have HK13 := Lib.hid (show w.grownBy w13 none from hs13.tl.tl.tl.tl.hd)
           clear hg hs13)
        | (go_at_call 7
           with_reducible refine (HTS.out _ HK13.out).mono ?_
           rintro e w14 ⟨qad, h1d, h2d, h3d, rad, u1d, u2d, u3d, qcd, j1d, j2d, j3d, rcd, v1d, v2d, v3d, XD, rfl, hsx, hxs, hrd, hsg⟩
           have hs14 := HS13.out.graft1 hsg OSe_own
           have HS14 := Lib.hid hs14
           have HIM14 := Lib.hid (HIM.out _ _ _ _ _ _ _ _ _ (show w.grownBy _ none from hs14.tl.tl.tl.tl.tl.hd) (hrd _ hs14.hd))
           clear hsg hs14 hsx hxs hrd)
        | (go_at_call 11
           with_reducible refine HIM14.out.mono ?_
           rintro e w15 ⟨g2, c2, ys2, rfl, hy2, hsg⟩
           have hs15 := (HS14.out.graft1 hsg OG_own).drop2
           have HS15 := Lib.hid hs15
           have HEQ15 := Lib.hid (HEQ.out _ _ _ (HRG.out _ _ _ hy2 hs15.hd) (HRG.out _ _ _ HY0.out hs15.tl.tl.tl.hd))
           clear hsg hs15 hy2)
        | (go_at_call 12
           with_reducible refine HEQ15.out.mono ?_
           rintro e w16 ⟨rfl, hg⟩
           have hs16 := HS15.out.grown hg
           have HHG16 := Lib.hid (HHG.out _ _ (HRM.out _ _ _ HY1.out hs16.tl.hd))
           have HK16 := Lib.hid (show w.grownBy w16 none from hs16.tl.tl.tl.tl.tl.hd)
           clear hg hs16)
        | (go_at_call 15
           with_reducible refine HHG16.out.mono ?_
           rintro e w17 ⟨rfl, hg⟩
           have HK17 := Lib.hid (grownBy_trans HK16.out hg)
           clear hg))
      go_ret
      exact ⟨rfl, HK17.out⟩
end Go.Proofs.YtlpgjnjhhgjkmaaDoor

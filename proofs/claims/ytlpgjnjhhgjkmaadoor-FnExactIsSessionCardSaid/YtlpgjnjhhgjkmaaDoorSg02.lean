/-
  Is it a session, in the reference. Conditions: lengths are small.
-/
import Derived.Test.YtlpgjnjhhgjkmaaDoorSg01
namespace Go.Proofs.YtlpgjnjhhgjkmaaDoor
open Go.RowKit
set_option linter.unusedVariables false
set_option maxRecDepth 100000

theorem snB_eq (s : Se) (g : Gr) : snB s g = (ovB s.p g && (monB g && (decide (g.i.length = s.now.i.length) && decide (g.o.length = s.now.o.length)))) := rfl
set_option maxHeartbeats 2000000 in
theorem snGraph_any (s : Se) (pv e1 i1 o1 fv e2 i2 o2 ev iv ov : Value) (y : Gr) (w : World) (hr : RdSe graphE edgeE w s pv e1 i1 o1 fv e2 i2 o2) (he : RdE edgeE w ev y.es) (hi : IntsV w iv y.i) (ho : IntsV w ov y.o) (hsm : Sm y) :
    Calls Tryd.prog 34 #[seV s.p s.k s.l pv s.now.n e1 i1 o1 fv s.goal.n e2 i2 o2, grV y.n ev iv ov] w fun e w' => e = .returned (.bool (snB s y)) ∧ w.grownBy w' none := by
  have HOV := Lib.hid fun W (h : w.grownBy W none) => hgGood_any s.p ev iv ov y W (he.carry h) (hi.carry h) (ho.carry h) (by have := hsm.es; omega) (by have := hsm.i; omega) (by have := hsm.o; omega)
  have HMO := Lib.hid fun (hg : grB y = true) W (h : w.grownBy W none) => hgMono_any ev iv ov y W (he.carry h) (hi.carry h) (ho.carry h) hg
  unfold grV at *
  obtain ⟨pa, pc, rfl⟩ := hr.past.shape
  obtain ⟨a1, c1, rfl⟩ := hr.es1.shape
  obtain ⟨a2, c2, rfl⟩ := hr.is1.shape
  obtain ⟨a3, c3, rfl⟩ := hr.os1.shape
  obtain ⟨fa, fc, rfl⟩ := hr.fut.shape
  obtain ⟨b1, d1, rfl⟩ := hr.es2.shape
  obtain ⟨b2, d2, rfl⟩ := hr.is2.shape
  obtain ⟨b3, d3, rfl⟩ := hr.os2.shape
  obtain ⟨t1, r1, rfl⟩ := he.shape
  obtain ⟨t2, r2, rfl⟩ := hi.shape
  obtain ⟨t3, r3, rfl⟩ := ho.shape
  clear hr he hi ho hsm
  have hgr : ovB s.p y = true → grB y = true := by unfold ovB; intro h; simp only [Bool.and_eq_true] at h; exact h.2.1
  have HS := Lib.hid (snB_eq s y)
  unfold seV
  have hs0 := ((Sep.start w).box #[.int .i64 s.p, .int .i64 s.k, .int .i64 s.l, .slice pa s.past.length pc, .int .i64 s.now.n, .slice a1 s.now.es.length c1, .slice a2 s.now.i.length c2, .slice a3 s.now.o.length c3, .slice fa s.fut.length fc, .int .i64 s.goal.n, .slice b1 s.goal.es.length d1, .slice b2 s.goal.i.length d2, .slice b3 s.goal.o.length d3] 36).box #[.int .i64 y.n, .slice t1 y.es.length r1, .slice t2 y.i.length r2, .slice t3 y.o.length r3] 34
  have e1 : (w.alloc (.cells #[.int .i64 s.p, .int .i64 s.k, .int .i64 s.l, .slice pa s.past.length pc, .int .i64 s.now.n, .slice a1 s.now.es.length c1, .slice a2 s.now.i.length c2, .slice a3 s.now.o.length c3, .slice fa s.fut.length fc, .int .i64 s.goal.n, .slice b1 s.goal.es.length d1, .slice b2 s.goal.i.length d2, .slice b3 s.goal.o.length d3] 36)).heap.size = w.heap.size + 1 := by simp
  rw [e1] at hs0
  have HS0 := Lib.hid hs0
  have HK0 := Lib.hid (show w.grownBy _ none from hs0.tl.tl.hd)
  clear hs0 e1
  generalize s.past.length = pn at *
  generalize s.fut.length = fn at *
  generalize s.now.es.length = n1 at *
  generalize s.now.i.length = n2 at *
  generalize s.now.o.length = n3 at *
  generalize s.goal.es.length = m1 at *
  generalize s.goal.i.length = m2 at *
  generalize s.goal.o.length = m3 at *
  cases hov : ovB s.p y
  · rw [hov] at HOV
    have HR := Lib.hid (show snB s y = false by rw [HS.out, hov]; rfl)
    clear hov hgr
    generalize y.es.length = l1 at *
    generalize y.i.length = l2 at *
    generalize y.o.length = l3 at *
    generalize y.n = yn at *
    go_enter Tryd.func34, Tryd.ntmps34
    go_wp2_with (
      go_at_call 49
      with_reducible refine (HOV.out _ HK0.out).mono ?_
      rintro e w6 ⟨rfl, hg⟩
      have HK6 := Lib.hid (grownBy_trans HK0.out hg)
      clear hg)
    go_ret
    exact ⟨by rw [HR.out]; try rfl, HK6.out⟩
  · rw [hov] at HOV
    have HM1 := Lib.hid (HMO.out (hgr hov))
    have HS2 := Lib.hid (show snB s y = (monB y && (decide (y.i.length = n2) && decide (y.o.length = n3))) by rw [HS.out, hov]; rfl)
    clear hov hgr HMO
    cases hmb : monB y
    · rw [hmb] at HM1
      have HR := Lib.hid (show snB s y = false by rw [HS2.out, hmb]; rfl)
      clear hmb
      generalize y.es.length = l1 at *
      generalize y.i.length = l2 at *
      generalize y.o.length = l3 at *
      generalize y.n = yn at *
      go_enter Tryd.func34, Tryd.ntmps34
      go_wp2_with (first
        | (go_at_call 49
           with_reducible refine (HOV.out _ HK0.out).mono ?_
           rintro e w6 ⟨rfl, hg⟩
           have hs6 := HS0.out.grown hg
           obtain ⟨v0, v1, v2, v3, v4, v5, v6, v7, v8, v9, va, vb, vc⟩ := bq13 hs6.tl.hd
           obtain ⟨u0, u1, u2, u3, _⟩ := bq4 hs6.hd
           have HSC := Lib.hid hs6
           have HK6 := Lib.hid (show w.grownBy _ none from hs6.tl.tl.hd)
           clear hg hs6)
        | (go_at_call 50
           with_reducible refine (HM1.out _ HK6.out).mono ?_
           rintro e w7 ⟨rfl, hg⟩
           have hs7 := HSC.out.grown hg
           obtain ⟨v0, v1, v2, v3, v4, v5, v6, v7, v8, v9, va, vb, vc⟩ := bq13 hs7.tl.hd
           obtain ⟨u0, u1, u2, u3, _⟩ := bq4 hs7.hd
           have HK7 := Lib.hid (show w.grownBy _ none from hs7.tl.tl.hd)
           clear hg hs7))
      go_ret
      exact ⟨by rw [HR.out]; try rfl, HK7.out⟩
    · rw [hmb] at HM1
      have HS3 := Lib.hid (show snB s y = (decide (y.i.length = n2) && decide (y.o.length = n3)) by rw [HS2.out, hmb]; rfl)
      clear hmb
      generalize y.es.length = l1 at *
      generalize y.i.length = l2 at *
      generalize y.o.length = l3 at *
      generalize y.n = yn at *
      by_cases hl2 : l2 = n2
      · subst hl2
        have f2 : ((l2 : Int) == (l2 : Int)) = true := by simp
        obtain ⟨d, hd⟩ : ∃ d, d = decide (l3 = n3) := ⟨_, rfl⟩
        have f3 : ((l3 : Int) == (n3 : Int)) = d := by
          rw [hd]
          by_cases h : l3 = n3
          · rw [decide_eq_true h, h]; simp
          · rw [decide_eq_false h, beq_eq_false_iff_ne]; omega
        have HR := Lib.hid (show snB s y = d by rw [HS3.out, ← hd]; simp)
        clear hd
        go_enter Tryd.func34, Tryd.ntmps34
        go_wp2_with (first
          | (go_at_call 49
             with_reducible refine (HOV.out _ HK0.out).mono ?_
             rintro e w6 ⟨rfl, hg⟩
             have hs6 := HS0.out.grown hg
             obtain ⟨v0, v1, v2, v3, v4, v5, v6, v7, v8, v9, va, vb, vc⟩ := bq13 hs6.tl.hd
             obtain ⟨u0, u1, u2, u3, _⟩ := bq4 hs6.hd
             have HSC := Lib.hid hs6
             have HK6 := Lib.hid (show w.grownBy _ none from hs6.tl.tl.hd)
             clear hg hs6)
          | (go_at_call 50
             with_reducible refine (HM1.out _ HK6.out).mono ?_
             rintro e w7 ⟨rfl, hg⟩
             have hs7 := HSC.out.grown hg
             obtain ⟨v0, v1, v2, v3, v4, v5, v6, v7, v8, v9, va, vb, vc⟩ := bq13 hs7.tl.hd
             obtain ⟨u0, u1, u2, u3, _⟩ := bq4 hs7.hd
             have HK7 := Lib.hid (show w.grownBy _ none from hs7.tl.tl.hd)
             clear hg hs7))
        go_ret
        exact ⟨by rw [HR.out]; try rfl, HK7.out⟩
      · have HR := Lib.hid (show snB s y = false by rw [HS3.out, decide_eq_false hl2]; rfl)
        have f2 : ((l2 : Int) == (n2 : Int)) = false := by rw [beq_eq_false_iff_ne]; omega
        go_enter Tryd.func34, Tryd.ntmps34
        go_wp2_with (first
          | (go_at_call 49
             with_reducible refine (HOV.out _ HK0.out).mono ?_
             rintro e w6 ⟨rfl, hg⟩
             have hs6 := HS0.out.grown hg
             obtain ⟨v0, v1, v2, v3, v4, v5, v6, v7, v8, v9, va, vb, vc⟩ := bq13 hs6.tl.hd
             obtain ⟨u0, u1, u2, u3, _⟩ := bq4 hs6.hd
             have HSC := Lib.hid hs6
             have HK6 := Lib.hid (show w.grownBy _ none from hs6.tl.tl.hd)
             clear hg hs6)
          | (go_at_call 50
             with_reducible refine (HM1.out _ HK6.out).mono ?_
             rintro e w7 ⟨rfl, hg⟩
             have hs7 := HSC.out.grown hg
             obtain ⟨v0, v1, v2, v3, v4, v5, v6, v7, v8, v9, va, vb, vc⟩ := bq13 hs7.tl.hd
             obtain ⟨u0, u1, u2, u3, _⟩ := bq4 hs7.hd
             have HK7 := Lib.hid (show w.grownBy _ none from hs7.tl.tl.hd)
             clear hg hs7))
        go_ret
        exact ⟨by rw [HR.out]; try rfl, HK7.out⟩
theorem sesB_spec (s : Se) : sesB s = ((fldB s.p && (elB s.p s.k && elB s.p s.l)) && (snB s s.now && (snB s s.goal && (decide (s.past.length + s.fut.length ≤ 30) && (s.past.all (snB s) && s.fut.all (snB s)))))) := by
  unfold sesB allG
  simp only [List.all_cons, List.all_nil, List.all_append, Bool.and_true]
  generalize (fldB s.p && (elB s.p s.k && elB s.p s.l)) = a
  generalize snB s s.now = b
  generalize snB s s.goal = c
  generalize decide (s.past.length + s.fut.length ≤ 30) = d
  cases a <;> cases b <;> cases c <;> cases d <;> rfl
set_option maxHeartbeats 4000000 in
theorem snGood_any (s : Se) (pv e1 i1 o1 fv e2 i2 o2 : Value) (w : World) (hr : RdSe graphE edgeE w s pv e1 i1 o1 fv e2 i2 o2) (hsm : SmS s) :
    Calls Tryd.prog 18 #[seV s.p s.k s.l pv s.now.n e1 i1 o1 fv s.goal.n e2 i2 o2] w fun e w' => e = .returned (.bool (sesB s)) ∧ w.grownBy w' none := by
  have HSG := Lib.hid fun (y : Gr) ev iv ov W (h : w.grownBy W none) (he : RdE edgeE W ev y.es) (hi : IntsV W iv y.i) (ho : IntsV W ov y.o) (hy : Sm y) => snGraph_any s _ _ _ _ _ _ _ _ ev iv ov y W (hr.carry h) he hi ho hy
  have HN := Lib.hid fun W (h : w.grownBy W none) => snGraph_any s _ _ _ _ _ _ _ _ _ _ _ s.now W (hr.carry h) (hr.es1.carry h) (hr.is1.carry h) (hr.os1.carry h) hsm.now
  have HG := Lib.hid fun W (h : w.grownBy W none) => snGraph_any s _ _ _ _ _ _ _ _ _ _ _ s.goal W (hr.carry h) (hr.es2.carry h) (hr.is2.carry h) (hr.os2.carry h) hsm.goal
  have HFT := Lib.hid fun W => fdTwo_any s.p s.k s.l W
  have HVP := Lib.hid hr.past; have HVF := Lib.hid hr.fut
  have HSP := Lib.hid hsm.past; have HSF := Lib.hid hsm.fut
  have hpl := hsm.pl
  have hfl := hsm.fl
  obtain ⟨pa, pc, rfl⟩ := hr.past.shape
  obtain ⟨a1, c1, rfl⟩ := hr.es1.shape
  obtain ⟨a2, c2, rfl⟩ := hr.is1.shape
  obtain ⟨a3, c3, rfl⟩ := hr.os1.shape
  obtain ⟨fa, fc, rfl⟩ := hr.fut.shape
  obtain ⟨b1, d1, rfl⟩ := hr.es2.shape
  obtain ⟨b2, d2, rfl⟩ := hr.is2.shape
  obtain ⟨b3, d3, rfl⟩ := hr.os2.shape
  clear hr hsm
  have HSB := Lib.hid (sesB_spec s)
  unfold seV grV at *
  have HS0 := Lib.hid ((Sep.start w).box #[.int .i64 s.p, .int .i64 s.k, .int .i64 s.l, .slice pa s.past.length pc, .int .i64 s.now.n, .slice a1 s.now.es.length c1, .slice a2 s.now.i.length c2, .slice a3 s.now.o.length c3, .slice fa s.fut.length fc, .int .i64 s.goal.n, .slice b1 s.goal.es.length d1, .slice b2 s.goal.i.length d2, .slice b3 s.goal.o.length d3] 36)
  have HK0 := Lib.hid (show w.grownBy _ none from HS0.out.tl.hd)
  have HG0 := Lib.hid (grownBy_refl w none)
  generalize hpn : s.past.length = pn at *
  generalize hfn : s.fut.length = fn at *
  generalize s.now.es.length = n1 at *
  generalize s.now.i.length = n2 at *
  generalize s.now.o.length = n3 at *
  generalize s.goal.es.length = m1 at *
  generalize s.goal.i.length = m2 at *
  generalize s.goal.o.length = m3 at *
  have HPN := Lib.hid hpn; have HFN := Lib.hid hfn
  clear hpn hfn
  cases h0 : (fldB s.p && (elB s.p s.k && elB s.p s.l))
  · rw [h0] at HFT
    have HR := Lib.hid (show sesB s = false by rw [HSB.out, h0]; rfl)
    clear h0
    go_enter Tryd.func18, Tryd.ntmps18
    go_wp2_with (go_at_call 33; with_reducible refine (HFT.out _).mono ?_; rintro e w3 ⟨rfl, rfl⟩)
    go_ret
    exact ⟨by rw [HR.out]; try rfl, HK0.out⟩
  · rw [h0] at HFT
    have H0 := Lib.hid h0
    clear h0
    cases h1 : snB s s.now
    · rw [h1] at HN
      have HR := Lib.hid (show sesB s = false by rw [HSB.out, h1]; simp)
      clear h1
      go_enter Tryd.func18, Tryd.ntmps18
      go_wp2_with (first
        | (go_at_call 33; with_reducible refine (HFT.out _).mono ?_; rintro e w3 ⟨rfl, rfl⟩)
        | (go_at_call 34
           with_reducible refine (HN.out _ HK0.out).mono ?_
           rintro e w4 ⟨rfl, hg⟩
           have HK4 := Lib.hid (grownBy_trans HK0.out hg)
           clear hg))
      go_ret
      exact ⟨by rw [HR.out]; try rfl, HK4.out⟩
    · rw [h1] at HN
      have H1 := Lib.hid h1
      clear h1
      cases h2 : snB s s.goal
      · rw [h2] at HG
        have HR := Lib.hid (show sesB s = false by rw [HSB.out, h2]; simp)
        clear h2
        go_enter Tryd.func18, Tryd.ntmps18
        go_wp2_with (first
          | (go_at_call 33; with_reducible refine (HFT.out _).mono ?_; rintro e w3 ⟨rfl, rfl⟩)
          | (go_at_call 34
             with_reducible refine (HN.out _ HK0.out).mono ?_
             rintro e w4 ⟨rfl, hg⟩
             have hs4 := HS0.out.grown hg
             obtain ⟨x0, x1, x2, x3, x4, x5, x6, x7, x8, x9, xa, xb, xc⟩ := bq13 hs4.hd
             have HS4 := Lib.hid hs4
             have HK4 := Lib.hid (show w.grownBy _ none from hs4.tl.hd)
             clear hg hs4)
          | (go_at_call 34
             with_reducible refine (HG.out _ HK4.out).mono ?_
             rintro e w5 ⟨rfl, hg⟩
             have hs5 := HS4.out.grown hg
             obtain ⟨v0, v1, v2, v3, v4, v5, v6, v7, v8, v9, va, vb, vc⟩ := bq13 hs5.hd
             have HS5 := Lib.hid hs5
             have HK5 := Lib.hid (show w.grownBy _ none from hs5.tl.hd)
             clear hg hs5))
        go_ret
        exact ⟨by rw [HR.out]; try rfl, HK5.out⟩
      · rw [h2] at HG
        have H2 := Lib.hid h2
        clear h2
        have hwr : IntKind.i64.wrap ((pn : Int) + (fn : Int)) = (pn : Int) + (fn : Int) := by rw [IntKind.wrap_i64]; omega
        by_cases hq : (30 : Int) < (pn : Int) + (fn : Int)
        · have HR := Lib.hid (show sesB s = false by rw [HSB.out, decide_eq_false (by omega : ¬ pn + fn ≤ 30)]; simp)
          go_enter Tryd.func18, Tryd.ntmps18
          go_wp2_with (first
            | (go_at_call 33; with_reducible refine (HFT.out _).mono ?_; rintro e w3 ⟨rfl, rfl⟩)
            | (go_at_call 34
               with_reducible refine (HN.out _ HK0.out).mono ?_
               rintro e w4 ⟨rfl, hg⟩
               have hs4 := HS0.out.grown hg
               obtain ⟨x0, x1, x2, x3, x4, x5, x6, x7, x8, x9, xa, xb, xc⟩ := bq13 hs4.hd
               have HS4 := Lib.hid hs4
               have HK4 := Lib.hid (show w.grownBy _ none from hs4.tl.hd)
               clear hg hs4)
            | (go_at_call 34
               with_reducible refine (HG.out _ HK4.out).mono ?_
               rintro e w5 ⟨rfl, hg⟩
               have hs5 := HS4.out.grown hg
               obtain ⟨v0, v1, v2, v3, v4, v5, v6, v7, v8, v9, va, vb, vc⟩ := bq13 hs5.hd
               have HS5 := Lib.hid hs5
               have HK5 := Lib.hid (show w.grownBy _ none from hs5.tl.hd)
               clear hg hs5))
          go_ret
          exact ⟨by rw [HR.out]; try rfl, HK5.out⟩
        · have hsum : pn + fn ≤ 30 := by omega
          have HR := Lib.hid (show sesB s = (s.past.all (snB s) && s.fut.all (snB s)) by rw [HSB.out, H0.out, H1.out, H2.out, decide_eq_true hsum]; rfl)
          go_enter Tryd.func18, Tryd.ntmps18
          go_wp2_with (first
            | (go_at_call 33; with_reducible refine (HFT.out _).mono ?_; rintro e w3 ⟨rfl, rfl⟩)
            | (go_at_call 34
               with_reducible refine (HN.out _ HK0.out).mono ?_
               rintro e w4 ⟨rfl, hg⟩
               have hs4 := HS0.out.grown hg
               obtain ⟨x0, x1, x2, x3, x4, x5, x6, x7, x8, x9, xa, xb, xc⟩ := bq13 hs4.hd
               have HS4 := Lib.hid hs4
               have HK4 := Lib.hid (show w.grownBy _ none from hs4.tl.hd)
               clear hg hs4)
            | (go_at_call 34
               with_reducible refine (HG.out _ HK4.out).mono ?_
               rintro e w5 ⟨rfl, hg⟩
               have hs5 := HS4.out.grown hg
               obtain ⟨v0, v1, v2, v3, v4, v5, v6, v7, v8, v9, va, vb, vc⟩ := bq13 hs5.hd
               have HS5 := Lib.hid hs5
               have HK5 := Lib.hid (show w.grownBy _ none from hs5.tl.hd)
               clear hg hs5))
          clear v0 v1 v2 v3 v4 v5 v6 v7 v8 v9 va vb vc x0 x1 x2 x3 x4 x5 x6 x7 x8 x9 xa xb xc
          have HSW := Lib.hid HS5.out
          obtain ⟨z0, z1, z2, z3, z4, z5, z6, z7, z8, z9, za, zb, zc⟩ := bq13 HS5.out.hd
          go_loopw [4, 42] (fun _ i wx => ∃ k : Nat, k ≤ pn ∧ i = .int .i64 k ∧ (s.past.take k).all (snB s) = true ∧ w5.grownBy wx none) (fun _ i _ => pn - (intOf i).toNat)
          case atStart => exact ⟨0, by omega, rfl, by simp, grownBy_refl _ _⟩
          case round =>
            obtain ⟨k, hk, rfl, ha, hg⟩ := hrel
            have HA := Lib.hid ha; have HGG := Lib.hid hg
            clear ha hg z0 z1 z2 z3 z4 z5 z6 z7 z8 z9 za zb zc
            have hsw := HSW.out.grown HGG.out
            by_cases hlt : k < pn
            · have hke : k < s.past.length := by rw [HPN.out]; exact hlt
              obtain ⟨gb, go, ev, iv, ov, rfl, hat⟩ := HVP.out.atK rfl rfl hke
              obtain ⟨⟨q0, q1, q2, q3⟩, he, hi, ho⟩ := hat wr hsw.tl.hd
              have HTK := Lib.hid (snall_take (s := s) hke)
              have HBD := Lib.hid (snall_bad (s := s) hke)
              have hSM := HSP.out _ (getD_mem (d := gr00) hke)
              generalize s.past.getD k gr00 = y at *
              have HC := Lib.hid fun W (h : wr.grownBy W none) => HSG.out y ev iv ov W (grownBy_trans hsw.tl.hd h) (he.carry h) (hi.carry h) (ho.carry h) hSM
              obtain ⟨t1, r1, rfl⟩ := he.shape
              obtain ⟨t2, r2, rfl⟩ := hi.shape
              obtain ⟨t3, r3, rfl⟩ := ho.shape
              have hsb := (hsw.box #[.int .i64 y.n, .slice t1 y.es.length r1, .slice t2 y.i.length r2, .slice t3 y.o.length r3] 34).s2
              obtain ⟨z0, z1, z2, z3, z4, z5, z6, z7, z8, z9, za, zb, zc⟩ := bq13 hsb.hd
              have HGB := Lib.hid (gr1 wr (.cells #[.int .i64 y.n, .slice t1 y.es.length r1, .slice t2 y.i.length r2, .slice t3 y.o.length r3] 34))
              have HKB := Lib.hid (show w.grownBy _ none from hsb.tl.tl.hd)
              clear he hi ho hat hke hsw hsb hSM
              generalize y.es.length = l1 at *
              generalize y.i.length = l2 at *
              generalize y.o.length = l3 at *
              generalize y.n = yn at *
              cases hb : snB s y
              · rw [hb] at HC
                have HR2 := Lib.hid (show sesB s = false by rw [HR.out, HBD.out hb]; try simp)
                clear hb
                go_wp2_with (
                  go_at_call 34
                  with_reducible refine (HC.out _ HGB.out).mono ?_
                  rintro e w6 ⟨rfl, hg⟩
                  have HK6 := Lib.hid (grownBy_trans HKB.out hg)
                  clear hg)
                go_ret
                exact ⟨by rw [HR2.out]; try rfl, HK6.out⟩
              · rw [hb] at HC
                have HN3 := Lib.hid (show (s.past.take (k + 1)).all (snB s) = true by rw [HTK.out, HA.out, hb]; rfl)
                clear hb
                go_wp2_with (
                  go_at_call 34
                  with_reducible refine (HC.out _ HGB.out).mono ?_
                  rintro e w6 ⟨rfl, hg⟩
                  have HG6 := Lib.hid (grownBy_trans HGG.out (grownBy_trans HGB.out hg))
                  clear hg)
                go_roundw
                case rel => exact ⟨k + 1, by omega, by go_num, HN3.out, HG6.out⟩
                case measure => simp [intOf]; omega
            · have hkn : k = pn := by omega
              subst hkn
              have ha := HA.out
              rw [List.take_of_length_le (by rw [HPN.out]; exact Nat.le_refl _)] at ha
              have HR3 := Lib.hid (show sesB s = s.fut.all (snB s) by rw [HR.out, ha]; rfl)
              clear HR
              have HR := HR3
              have HS6 := Lib.hid hsw
              obtain ⟨z0, z1, z2, z3, z4, z5, z6, z7, z8, z9, za, zb, zc⟩ := bq13 hsw.hd
              clear ha hlt hsw HSW HGG HA
              go_wp2_with fail
              have HSW := HS6
              clear HS6 HR3
              go_loopw [6, 54] (fun _ i wx => ∃ k : Nat, k ≤ fn ∧ i = .int .i64 k ∧ (s.fut.take k).all (snB s) = true ∧ wr.grownBy wx none) (fun _ i _ => fn - (intOf i).toNat)
              case atStart => exact ⟨0, by omega, rfl, by simp, grownBy_refl _ _⟩
              case round =>
                obtain ⟨k, hk, rfl, ha, hg⟩ := hrel
                have HA := Lib.hid ha; have HGG := Lib.hid hg
                clear ha hg z0 z1 z2 z3 z4 z5 z6 z7 z8 z9 za zb zc
                have hsw := HSW.out.grown HGG.out
                by_cases hlt : k < fn
                · have hke : k < s.fut.length := by rw [HFN.out]; exact hlt
                  obtain ⟨gb, go, ev, iv, ov, rfl, hat⟩ := HVF.out.atK rfl rfl hke
                  obtain ⟨⟨q0, q1, q2, q3⟩, he, hi, ho⟩ := hat wr hsw.tl.hd
                  have HTK := Lib.hid (snall_take (s := s) hke)
                  have HBD := Lib.hid (snall_bad (s := s) hke)
                  have hSM := HSF.out _ (getD_mem (d := gr00) hke)
                  generalize s.fut.getD k gr00 = y at *
                  have HC := Lib.hid fun W (h : wr.grownBy W none) => HSG.out y ev iv ov W (grownBy_trans hsw.tl.hd h) (he.carry h) (hi.carry h) (ho.carry h) hSM
                  obtain ⟨t1, r1, rfl⟩ := he.shape
                  obtain ⟨t2, r2, rfl⟩ := hi.shape
                  obtain ⟨t3, r3, rfl⟩ := ho.shape
                  have hsb := (hsw.box #[.int .i64 y.n, .slice t1 y.es.length r1, .slice t2 y.i.length r2, .slice t3 y.o.length r3] 34).s2
                  obtain ⟨z0, z1, z2, z3, z4, z5, z6, z7, z8, z9, za, zb, zc⟩ := bq13 hsb.hd
                  have HGB := Lib.hid (gr1 wr (.cells #[.int .i64 y.n, .slice t1 y.es.length r1, .slice t2 y.i.length r2, .slice t3 y.o.length r3] 34))
                  have HKB := Lib.hid (show w.grownBy _ none from hsb.tl.tl.hd)
                  clear he hi ho hat hke hsw hsb hSM
                  generalize y.es.length = l1 at *
                  generalize y.i.length = l2 at *
                  generalize y.o.length = l3 at *
                  generalize y.n = yn at *
                  cases hb : snB s y
                  · rw [hb] at HC
                    have HR2 := Lib.hid (show sesB s = false by rw [HR.out, HBD.out hb]; try simp)
                    clear hb
                    go_wp2_with (
                      go_at_call 34
                      with_reducible refine (HC.out _ HGB.out).mono ?_
                      rintro e w6 ⟨rfl, hg⟩
                      have HK6 := Lib.hid (grownBy_trans HKB.out hg)
                      clear hg)
                    go_ret
                    exact ⟨by rw [HR2.out]; try rfl, HK6.out⟩
                  · rw [hb] at HC
                    have HN3 := Lib.hid (show (s.fut.take (k + 1)).all (snB s) = true by rw [HTK.out, HA.out, hb]; rfl)
                    clear hb
                    go_wp2_with (
                      go_at_call 34
                      with_reducible refine (HC.out _ HGB.out).mono ?_
                      rintro e w6 ⟨rfl, hg⟩
                      have HG6 := Lib.hid (grownBy_trans HGG.out (grownBy_trans HGB.out hg))
                      clear hg)
                    go_roundw
                    case rel => exact ⟨k + 1, by omega, by go_num, HN3.out, HG6.out⟩
                    case measure => simp [intOf]; omega
                · have hkn : k = fn := by omega
                  subst hkn
                  have ha := HA.out
                  rw [List.take_of_length_le (by rw [HFN.out]; exact Nat.le_refl _)] at ha
                  have HR3 := Lib.hid (show sesB s = true by rw [HR.out, ha]; try rfl)
                  have HKF := Lib.hid (show w.grownBy wr none from hsw.tl.hd)
                  clear ha hlt hsw
                  go_wp2
                  go_ret
                  exact ⟨by rw [HR3.out]; try rfl, HKF.out⟩
end Go.Proofs.YtlpgjnjhhgjkmaaDoor

/-
  The walk of FnExactIsSession. Conditions: the table of small primes holds what its text lays; the slices' lengths are those of slices.
-/
namespace Go.Proofs.YtlpgjnjhhgjkmaaDoor
open Go.RowKit
set_option linter.unusedVariables false
set_option maxRecDepth 100000

theorem iIsSession_any (s : Se) (pv e1 i1 o1 fv e2 i2 o2 : Value) (w : World) (ht : Tab w) (hr : RdSe graphE edgeE w s pv e1 i1 o1 fv e2 i2 o2) (hsm : SmS s) :
    Calls Tryd.prog 8 #[seV s.p s.k s.l pv s.now.n e1 i1 o1 fv s.goal.n e2 i2 o2] w fun e w' => e = .returned (.bool (sesB s)) ∧ w.grownBy w' none := by
  have HK0 := Lib.hid fun o => gr1 w o
  have HC := Lib.hid fun W (h : w.grownBy W none) => isSession_any s _ _ _ _ _ _ _ _ W (ht.grown h) (hr.carry h) hsm
  obtain ⟨pa, pc, rfl⟩ := hr.past.shape
  obtain ⟨a1, a4, rfl⟩ := hr.es1.shape
  obtain ⟨a2, a5, rfl⟩ := hr.is1.shape
  obtain ⟨a3, a6, rfl⟩ := hr.os1.shape
  obtain ⟨fa, fc, rfl⟩ := hr.fut.shape
  obtain ⟨b1, b4, rfl⟩ := hr.es2.shape
  obtain ⟨b2, b5, rfl⟩ := hr.is2.shape
  obtain ⟨b3, b6, rfl⟩ := hr.os2.shape
  unfold seV at *
  clear hr hsm ht
  go_enter Tryd.func8, Tryd.ntmps8
  go_wp2_with (
    go_at_call 21
    with_reducible refine (HC.out _ (HK0.out _)).mono ?_
    rintro e w2 ⟨rfl, hg⟩
    have HG := Lib.hid (grownBy_trans (HK0.out _) hg)
    clear hg)
  go_ret
  exact ⟨rfl, HG.out⟩
theorem sIsSession_any (s : Se) (pv e1 i1 o1 fv e2 i2 o2 : Value) (w : World) (hr : RdSe graphE edgeE w s pv e1 i1 o1 fv e2 i2 o2) (hsm : SmS s) :
    Calls Tryd.prog 6 #[seV s.p s.k s.l pv s.now.n e1 i1 o1 fv s.goal.n e2 i2 o2] w fun e w' => e = .returned (.bool (sesB s)) ∧ w.grownBy w' none := by
  have HK0 := Lib.hid fun o => gr1 w o
  have HC := Lib.hid fun W (h : w.grownBy W none) => snGood_any s _ _ _ _ _ _ _ _ W (hr.carry h) hsm
  obtain ⟨pa, pc, rfl⟩ := hr.past.shape
  obtain ⟨a1, a4, rfl⟩ := hr.es1.shape
  obtain ⟨a2, a5, rfl⟩ := hr.is1.shape
  obtain ⟨a3, a6, rfl⟩ := hr.os1.shape
  obtain ⟨fa, fc, rfl⟩ := hr.fut.shape
  obtain ⟨b1, b4, rfl⟩ := hr.es2.shape
  obtain ⟨b2, b5, rfl⟩ := hr.is2.shape
  obtain ⟨b3, b6, rfl⟩ := hr.os2.shape
  unfold seV at *
  clear hr hsm
  go_enter Tryd.func6, Tryd.ntmps6
  go_wp2_with (
    go_at_call 18
    with_reducible refine (HC.out _ (HK0.out _)).mono ?_
    rintro e w2 ⟨rfl, hg⟩
    have HG := Lib.hid (grownBy_trans (HK0.out _) hg)
    clear hg)
  go_ret
  exact ⟨rfl, HG.out⟩
theorem toSession_rd (s : Se) (pv e1 i1 o1 fv e2 i2 o2 : Value) (w : World) (hr : RdSe argGrE argEdE w s pv e1 i1 o1 fv e2 i2 o2) (hsm : SmS s) :
    Calls Tryd.prog 7 #[seV s.p s.k s.l pv s.now.n e1 i1 o1 fv s.goal.n e2 i2 o2] w fun e w' => ∃ qv c1 c2 c3 gv d1 d2 d3, e = .returned (seV s.p s.k s.l qv s.now.n c1 c2 c3 gv s.goal.n d1 d2 d3) ∧ RdSe graphE edgeE w' s qv c1 c2 c3 gv d1 d2 d3 ∧ w.grownBy w' none := by
  refine (toSession_any s _ _ _ _ _ _ _ _ w hr hsm).mono ?_
  rintro e w' ⟨x, rfl, hx, hs⟩
  have h := OSe.read hs.hd
  subst hx
  exact ⟨_, _, _, _, _, _, _, _, rfl, h, hs.tl.hd⟩
set_option maxHeartbeats 8000000 in
theorem fnIsSession_any (s : Se) (pv e1 i1 o1 fv e2 i2 o2 : Value) (w : World) (ht : Tab w) (hr : RdSe argGrE argEdE w s pv e1 i1 o1 fv e2 i2 o2) (hok : okS s) :
    Calls Tryd.prog 3 #[seV s.p s.k s.l pv s.now.n e1 i1 o1 fv s.goal.n e2 i2 o2] w fun e w' => e = .returned (.bool true) ∧ w.grownBy w' none := by
  have HSZ := Lib.hid fun W (h : w.grownBy W none) => szSession_any s _ _ _ _ _ _ _ _ 1048576 W (hr.carry h) hok (by decide) (by decide)
  have HTB := Lib.hid fun W (h : w.grownBy W none) => ht.grown h
  have HRD := Lib.hid hr
  obtain ⟨pa, pc, rfl⟩ := hr.past.shape
  obtain ⟨a1, a4, rfl⟩ := hr.es1.shape
  obtain ⟨a2, a5, rfl⟩ := hr.is1.shape
  obtain ⟨a3, a6, rfl⟩ := hr.os1.shape
  obtain ⟨fa, fc, rfl⟩ := hr.fut.shape
  obtain ⟨b1, b4, rfl⟩ := hr.es2.shape
  obtain ⟨b2, b5, rfl⟩ := hr.is2.shape
  obtain ⟨b3, b6, rfl⟩ := hr.os2.shape
  have HS0 := Lib.hid ((Sep.start w).box #[.int .i64 s.p, .int .i64 s.k, .int .i64 s.l, .slice pa s.past.length pc, .int .i64 s.now.n, .slice a1 s.now.es.length a4, .slice a2 s.now.i.length a5, .slice a3 s.now.o.length a6, .slice fa s.fut.length fc, .int .i64 s.goal.n, .slice b1 s.goal.es.length b4, .slice b2 s.goal.i.length b5, .slice b3 s.goal.o.length b6] 28)
  have HK0 := Lib.hid (show w.grownBy _ none from HS0.out.tl.hd)
  by_cases hsz : lft 1048576 (totS s) < 0
  · generalize lft 1048576 (totS s) = r at *
    unfold seV at *
    clear hr hok ht HRD HTB
    generalize s.past.length = pn at *
    generalize s.now.es.length = n1 at *
    generalize s.now.i.length = n2 at *
    generalize s.now.o.length = n3 at *
    generalize s.fut.length = fn at *
    generalize s.goal.es.length = m1 at *
    generalize s.goal.i.length = m2 at *
    generalize s.goal.o.length = m3 at *
    go_enter Tryd.func3, Tryd.ntmps3
    go_wp2_with (
      go_at_call 5
      with_reducible refine (HSZ.out _ HK0.out).mono ?_
      rintro e w2 ⟨rfl, hg⟩
      have HK2 := Lib.hid (grownBy_trans HK0.out hg)
      clear hg)
    go_ret
    exact ⟨rfl, HK2.out⟩
  · have hsm : SmS s := SmS.of (by unfold lft at hsz; by_cases h : (1048576 : Int) - totS s < 0 <;> simp [h] at hsz <;> omega)
    have HTS := Lib.hid fun W (h : w.grownBy W none) => toSession_rd s _ _ _ _ _ _ _ _ W (hr.carry h) hsm
    have HSI := Lib.hid fun W qv c1 c2 c3 gv d1 d2 d3 (h : RdSe graphE edgeE W s qv c1 c2 c3 gv d1 d2 d3) => sIsSession_any s qv c1 c2 c3 gv d1 d2 d3 W h hsm
    have HII := Lib.hid fun W qv c1 c2 c3 gv d1 d2 d3 (hw : w.grownBy W none) (h : RdSe graphE edgeE W s qv c1 c2 c3 gv d1 d2 d3) => iIsSession_any s qv c1 c2 c3 gv d1 d2 d3 W (HTB.out _ hw) h hsm
    have HEQ := Lib.hid fun W qv c1 c2 c3 gv d1 d2 d3 qv' c1' c2' c3' gv' d1' d2' d3' (h : RdSe graphE edgeE W s qv c1 c2 c3 gv d1 d2 d3) (h' : RdSe graphE edgeE W s qv' c1' c2' c3' gv' d1' d2' d3') => eqSession_same s qv c1 c2 c3 gv d1 d2 d3 qv' c1' c2' c3' gv' d1' d2' d3' W h h' hsm
    generalize lft 1048576 (totS s) = r at *
    generalize sesB s = b at *
    unfold seV at *
    clear hr hok ht hsm HRD HTB
    have hnb : (b != b) = false := by simp
    go_enter Tryd.func3, Tryd.ntmps3
    go_upto_region 10 with (first
      | (go_at_call 5
         with_reducible refine (HSZ.out _ HK0.out).mono ?_
         rintro e w2 ⟨rfl, hg⟩
         have hs2 := HS0.out.grown hg
         obtain ⟨x0, x1, x2, x3, x4, x5, x6, x7, x8, x9, xa, xb, xc⟩ := bq13 hs2.hd
         have HS2 := Lib.hid hs2
         have HK2 := Lib.hid (show w.grownBy _ none from hs2.tl.hd)
         clear hg hs2)
      | (go_at_call 7
         with_reducible refine (HTS.out _ HK2.out).mono ?_
         rintro e w3 ⟨qv, c1, c2, c3, gv, d1, d2, d3, rfl, hrs, hg⟩
         obtain ⟨qa, qc, rfl⟩ := hrs.past.shape
         obtain ⟨c1, c4, rfl⟩ := hrs.es1.shape
         obtain ⟨c2, c5, rfl⟩ := hrs.is1.shape
         obtain ⟨c3, c6, rfl⟩ := hrs.os1.shape
         obtain ⟨ga, gc, rfl⟩ := hrs.fut.shape
         obtain ⟨d1, d4, rfl⟩ := hrs.es2.shape
         obtain ⟨d2, d5, rfl⟩ := hrs.is2.shape
         obtain ⟨d3, d6, rfl⟩ := hrs.os2.shape
         have hs3 := HS2.out.grown hg
         obtain ⟨x0, x1, x2, x3, x4, x5, x6, x7, x8, x9, xa, xb, xc⟩ := bq13 hs3.hd
         have HS3 := Lib.hid hs3
         have HSI3 := Lib.hid (HSI.out _ _ _ _ _ _ _ _ _ hrs)
         clear hg hs3 hrs)
      | (go_at_call 6
         with_reducible refine HSI3.out.mono ?_
         rintro e w4 ⟨rfl, hg⟩
         have hs4 := HS3.out.grown hg
         obtain ⟨x0, x1, x2, x3, x4, x5, x6, x7, x8, x9, xa, xb, xc⟩ := bq13 hs4.hd
         have HS4 := Lib.hid hs4
         have HK4 := Lib.hid (show w.grownBy _ none from hs4.tl.hd)
         clear hg hs4)
      | (go_at_call 7
         with_reducible refine (HTS.out _ HK4.out).mono ?_
         rintro e w5 ⟨qv, c1, c2, c3, gv, d1, d2, d3, rfl, hrs, hg⟩
         obtain ⟨qa, qc, rfl⟩ := hrs.past.shape
         obtain ⟨c1, c4, rfl⟩ := hrs.es1.shape
         obtain ⟨c2, c5, rfl⟩ := hrs.is1.shape
         obtain ⟨c3, c6, rfl⟩ := hrs.os1.shape
         obtain ⟨ga, gc, rfl⟩ := hrs.fut.shape
         obtain ⟨d1, d4, rfl⟩ := hrs.es2.shape
         obtain ⟨d2, d5, rfl⟩ := hrs.is2.shape
         obtain ⟨d3, d6, rfl⟩ := hrs.os2.shape
         have hs5 := (HS4.out.grown hg).box #[.int .i64 s.p, .int .i64 s.k, .int .i64 s.l, .slice qa s.past.length qc, .int .i64 s.now.n, .slice c1 s.now.es.length c4, .slice c2 s.now.i.length c5, .slice c3 s.now.o.length c6, .slice ga s.fut.length gc, .int .i64 s.goal.n, .slice d1 s.goal.es.length d4, .slice d2 s.goal.i.length d5, .slice d3 s.goal.o.length d6] 36
         obtain ⟨x0, x1, x2, x3, x4, x5, x6, x7, x8, x9, xa, xb, xc⟩ := bq13 hs5.tl.hd
         have HS5 := Lib.hid hs5
         have HR5 := Lib.hid (hrs.carry (gr1 w5 (.cells #[.int .i64 s.p, .int .i64 s.k, .int .i64 s.l, .slice qa s.past.length qc, .int .i64 s.now.n, .slice c1 s.now.es.length c4, .slice c2 s.now.i.length c5, .slice c3 s.now.o.length c6, .slice ga s.fut.length gc, .int .i64 s.goal.n, .slice d1 s.goal.es.length d4, .slice d2 s.goal.i.length d5, .slice d3 s.goal.o.length d6] 36)))
         have HII5 := Lib.hid (HII.out _ _ _ _ _ _ _ _ _ (show w.grownBy _ none from hs5.tl.tl.hd) HR5.out)
         clear hg hs5 hrs)
      | (go_at_call 8
         with_reducible refine HII5.out.mono ?_
         rintro e w6 ⟨rfl, hg⟩
         have hs6 := HS5.out.grown hg
         obtain ⟨x0, x1, x2, x3, x4, x5, x6, x7, x8, x9, xa, xb, xc⟩ := bq13 hs6.tl.hd
         obtain ⟨y0, y1, y2, y3, y4, y5, y6, y7, y8, y9, ya, yb, yc⟩ := bq13 hs6.hd
         have HS6 := Lib.hid hs6
         have HR6 := Lib.hid (HR5.out.carry hg)
         clear hg hs6))
    have HRD6 := Lib.hid (HR6.out.carry (⟨rfl, rfl, rfl, Nat.le_refl _, fun _ _ _ => rfl⟩ : w6.grownBy w6.drew none))
    have HSD6 := Lib.hid HS6.out.dr
    have HKD6 := Lib.hid (show w.grownBy w6.drew none from HSD6.out.tl.tl.hd)
    obtain ⟨u0, u1, u2, u3, u4, u5, u6, u7, u8, u9, ua, ub, uc⟩ := bq13 HSD6.out.tl.hd
    obtain ⟨v0, v1, v2, v3, v4, v5, v6, v7, v8, v9, va, vb, vc⟩ := bq13 HSD6.out.hd
    go_region_law (first
      | ((try go_simp)
         go_at_call 7
         with_reducible refine (HTS.out _ HKD6.out).mono ?_
         rintro e w7 ⟨hv, k1, k2, k3, lv, l1, l2, l3, rfl, hrs, hg⟩
         obtain ⟨ha, hc, rfl⟩ := hrs.past.shape
         obtain ⟨k1, k4, rfl⟩ := hrs.es1.shape
         obtain ⟨k2, k5, rfl⟩ := hrs.is1.shape
         obtain ⟨k3, k6, rfl⟩ := hrs.os1.shape
         obtain ⟨ja, jc, rfl⟩ := hrs.fut.shape
         obtain ⟨l1, l4, rfl⟩ := hrs.es2.shape
         obtain ⟨l2, l5, rfl⟩ := hrs.is2.shape
         obtain ⟨l3, l6, rfl⟩ := hrs.os2.shape
         have hs7 := HSD6.out.grown hg
         obtain ⟨z0, z1, z2, z3, z4, z5, z6, z7, z8, z9, za, zb, zc⟩ := bq13 hs7.hd
         have HE7 := Lib.hid (HEQ.out _ _ _ _ _ _ _ _ _ _ _ _ _ _ _ _ _ (HRD6.out.carry hg) hrs)
         have HK7 := Lib.hid (show w.grownBy _ none from hs7.tl.tl.hd)
         clear hg hs7 hrs)
      | ((try go_simp)
         go_at_call 9
         with_reducible refine HE7.out.mono ?_
         rintro e w8 ⟨rfl, hg⟩
         have HK8 := Lib.hid (grownBy_trans HK7.out hg)
         clear hg))
    all_goals
      go_wp2_with fail
      go_ret
      exact ⟨rfl, HK8.out⟩
end Go.Proofs.YtlpgjnjhhgjkmaaDoor

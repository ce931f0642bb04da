/-
  The law on functions: its walk. Conditions: both arguments read as bytes; the table of small primes holds what its text lays.
-/
import Derived.Test.YtpeaeminjbjlnaaDoorMf03
import Derived.Test.YtpeaeminjbjlnaaDoorMf07
import Derived.Test.YtpeaeminjbjlnaaDoorMv15
import Derived.Deep.CutRange
namespace Go.Proofs.YtpeaeminjbjlnaaDoor
open Go.RowKit
set_option linter.unusedVariables false

set_option maxRecDepth 100000 in
set_option maxHeartbeats 40000000 in
theorem fnFunctions_any (cv mv : Value) (w : World) (hc : CodeRaw w cv) (hm : CodeRaw w mv) (ht : Tab w) : Calls Tryd.prog 10 #[cv, mv] w (Gives (.bool true) w) := by
  have HT := Lib.hid ht
  obtain ⟨a1, l1, c1, rfl, hl1, hx1⟩ := hc
  obtain ⟨a2, l2, c2, rfl, hl2, hx2⟩ := hm
  have HX1 := Lib.hid hx1
  have HX2 := Lib.hid hx2
  clear ht hx1 hx2
  cases hbig : bigB l1 l2
  case true =>
    go_enter Tryd.func10, Tryd.ntmps10
    go_wp2_with (go_at_call 13; refine (big_any _ _ _ _ _ _ _ hl1 hl2).mono ?_; rintro e w' ⟨rfl, rfl⟩)
    go_ret
    exact ⟨rfl, grownBy_refl _ _⟩
  case false =>
    obtain ⟨b1, b2⟩ := bigB_no hbig
    have HC := Lib.hid (show CodeAt w (.slice a1 l1 c1) from ⟨a1, l1, c1, rfl, by omega, HX1.out⟩)
    have HM := Lib.hid (show CodeAt w (.slice a2 l2 c2) from ⟨a2, l2, c2, rfl, by omega, HX2.out⟩)
    clear b1 b2
    go_enter Tryd.func10, Tryd.ntmps10
    go_wp2_with fail
    refine (big_any _ _ _ _ _ _ _ hl1 hl2).mono ?_
    rintro e w' ⟨rfl, rfl⟩
    go_wp2_with fail
    refine (drawMulMatrices_any _ _ HC.out).mono ?_
    rintro e w1 ⟨p, ca, cb, o, vs, L, u, us, M, rfl, hp2, hp97, ho, hL, hu, hM, g1⟩
    obtain ⟨oa, oc, hoe, _, _⟩ := own_form ho
    subst hoe
    obtain ⟨ua, uc, hue, _, _⟩ := own_form hu
    subst hue
    unfold mxV
    generalize hlen : L.length = ln at *
    generalize hmen : M.length = mn at *
    have hga := (grownBy_alloc w1 (.cells #[.int .i64 ca, .slice oa ln oc] 39) none).trans (grownBy_alloc (w1.alloc (.cells #[.int .i64 ca, .slice oa ln oc] 39)) (.cells #[.int .i64 cb, .slice ua mn uc] 39) none)
    have hsp := fn1 (p := (p : Int)) (ca := ca) (cb := cb) (HT.out.grown (g1.trans hga)) (ho.read.carry hga) (hu.read.carry hga) hL hM (by omega) (by omega)
    have hou := ho.read.carry hga
    have HU := Lib.hid hou
    have SLA := Lib.hid hL
    have HGW := Lib.hid (g1.trans hga)
    have HB0 := Lib.hid fun W (h : ((w1.alloc (.cells #[.int .i64 ca, .slice oa ln oc] 39)).alloc (.cells #[.int .i64 cb, .slice ua mn uc] 39)).grownBy W none) => And.intro (bx_on (alloc_heap_new w1 (.cells #[.int .i64 ca, .slice oa ln oc] 39)) ((grownBy_alloc _ _ none).trans h)) (bx_on (alloc_heap_new (w1.alloc (.cells #[.int .i64 ca, .slice oa ln oc] 39)) (.cells #[.int .i64 cb, .slice ua mn uc] 39)) h)
    rw [show (w1.alloc (.cells #[.int .i64 ca, .slice oa ln oc] 39)).heap.size = w1.heap.size + 1 by simp] at HB0
    go_wp2_with fail
    generalize (w1.alloc (.cells #[.int .i64 ca, .slice oa ln oc] 39)).alloc (.cells #[.int .i64 cb, .slice ua mn uc] 39) = W2 at *
    have G0 := Lib.hid (grownBy_refl W2 none)
    have fb := HB0.out _ (grownBy_refl _ _)
    obtain ⟨y0A0, y0A1, _, _⟩ := bx fb.1
    obtain ⟨y0B0, y0B1, _, _⟩ := bx fb.2
    have HLEN := Lib.hid hlen; have HMEN := Lib.hid hmen
    obtain ⟨b1, b2, b3, ly, ry, cc, lz, rz, KY, KC, KZ, hrest, hsp⟩ := hsp
    obtain ⟨R6, R7, R8⟩ := hrest
    unfold rlV mxV at R6 R8
    unfold mxV at R7
    have R6 := Lib.hid R6; have R7 := Lib.hid R7; have R8 := Lib.hid R8
    generalize hky : KY.length = lky at *
    have LKY := Lib.hid hky
    generalize hkc : KC.length = lkc at *
    have LKC := Lib.hid hkc
    generalize hkz : KZ.length = lkz at *
    have LKZ := Lib.hid hkz
    clear ho hL hu hM g1 hga fb hmen hou hky hkc hkz
    rcases hsp with hs | ⟨q, n, c, X, hpq, hnl, hcc, hs, sX, hcn⟩
    · obtain ⟨H1, H2⟩ := hs
      have H1 := Lib.hid H1; have H2 := Lib.hid H2
      unfold rlV mxV nilS at H1 H2
      go_wp2_with (first
        | (go_at_call 81
           go_loud (with_reducible refine (H1.out _ G0.out).mono ?_)
           rintro e v1 ⟨rfl, g⟩
           have ga := g.trans (grownBy_alloc v1 (.cells #[.int .i64 0, .int .i64 0, .slice none 0 0] 65) none)
           have HB1 := Lib.hid fun W (h : (v1.alloc (.cells #[.int .i64 0, .int .i64 0, .slice none 0 0] 65)).grownBy W none) => And.intro (bx_on (alloc_heap_new v1 _) h) (And.intro (nil_mat' W) (HB0.out W (ga.trans h)))
           have G1 := Lib.hid (G0.out.trans ga)
           have fb := HB1.out _ (grownBy_refl _ _)
           obtain ⟨y1A0, y1A1, _, _⟩ := bx fb.2.2.1
           clear g ga fb)
        | (go_at_call 82
           go_loud (with_reducible refine (H2.out _ G1.out).mono ?_)
           rintro e v2 ⟨rfl, g⟩
           have ga := g.trans (grownBy_alloc v2 (.cells #[.int .i64 0, .int .i64 0, .slice none 0 0] 65) none)
           have HB2 := Lib.hid fun W (h : (v2.alloc (.cells #[.int .i64 0, .int .i64 0, .slice none 0 0] 65)).grownBy W none) => And.intro (bx_on (alloc_heap_new v2 _) h) (And.intro (nil_mat' W) (HB1.out W (ga.trans h)))
           have G2 := Lib.hid (G1.out.trans ga)
           have fb := HB2.out _ (grownBy_refl _ _)
           obtain ⟨y2X0, y2X1, y2X2, _, _, _⟩ := bx3 fb.2.2.1
           obtain ⟨y2V0, y2V1, y2V2, _, _, _⟩ := bx3 fb.1
           clear g ga fb)
        | (go_at_call 47
           go_loud (with_reducible refine (sameRel_nil _).mono ?_)
           rintro e v3 ⟨rfl, g⟩
           have HB3 := Lib.hid fun W (h : v3.grownBy W none) => HB2.out W (g.trans h)
           have G3 := Lib.hid (G2.out.trans g)
           have fb := HB3.out _ (grownBy_refl _ _)
           obtain ⟨y3B0, y3B1, _, _⟩ := bx fb.2.2.2.2.2
           clear g fb)
        | (go_at_call 81
           go_loud (with_reducible refine (R6.out _ G3.out).mono ?_)
           rintro e v4 ⟨o4, rfl, hm, g⟩
           obtain ⟨xa4, xc4, rfl⟩ := hm.shape
           rw [LKY.out] at hm ⊢
           have ga := g.trans (grownBy_alloc v4 (.cells #[.int .i64 ly, .int .i64 ry, .slice xa4 lky xc4] 65) none)
           have HB4 := Lib.hid fun W (h : (v4.alloc (.cells #[.int .i64 ly, .int .i64 ry, .slice xa4 lky xc4] 65)).grownBy W none) => And.intro (bx_on (alloc_heap_new v4 _) h) (And.intro (hm.carry ((grownBy_alloc v4 _ none).trans h)) (HB3.out W (ga.trans h)))
           have G4 := Lib.hid (G3.out.trans ga)
           have fb := HB4.out _ (grownBy_refl _ _)
           obtain ⟨y4A0, y4A1, _, _⟩ := bx fb.2.2.2.2.2.2.1
           obtain ⟨y4B0, y4B1, _, _⟩ := bx fb.2.2.2.2.2.2.2
           clear hm g ga fb)
        | (go_at_call 29
           go_loud (with_reducible refine (R7.out _ G4.out).mono ?_)
           rintro e v5 ⟨o5, rfl, hm, g⟩
           obtain ⟨xa5, xc5, rfl⟩ := hm.shape
           rw [LKC.out] at hm ⊢
           have ga := g.trans (grownBy_alloc v5 (.cells #[.int .i64 cc, .slice xa5 lkc xc5] 39) none)
           have HB5 := Lib.hid fun W (h : (v5.alloc (.cells #[.int .i64 cc, .slice xa5 lkc xc5] 39)).grownBy W none) => And.intro (bx_on (alloc_heap_new v5 _) h) (And.intro (hm.carry ((grownBy_alloc v5 _ none).trans h)) (HB4.out W (ga.trans h)))
           have G5 := Lib.hid (G4.out.trans ga)
           have fb := HB5.out _ (grownBy_refl _ _)
           obtain ⟨y5C0, y5C1, _, _⟩ := bx fb.1
           clear hm g ga fb)
        | (go_at_call 81
           go_loud (with_reducible refine (R8.out _ _ G5.out (HB5.out _ (grownBy_refl _ _)).2.1).mono ?_)
           rintro e v6 ⟨o6, rfl, hm, g⟩
           obtain ⟨xa6, xc6, rfl⟩ := hm.shape
           rw [LKZ.out] at hm ⊢
           have ga := g.trans (grownBy_alloc v6 (.cells #[.int .i64 lz, .int .i64 rz, .slice xa6 lkz xc6] 65) none)
           have HB6 := Lib.hid fun W (h : (v6.alloc (.cells #[.int .i64 lz, .int .i64 rz, .slice xa6 lkz xc6] 65)).grownBy W none) => And.intro (bx_on (alloc_heap_new v6 _) h) (And.intro (hm.carry ((grownBy_alloc v6 _ none).trans h)) (HB5.out W (ga.trans h)))
           have G6 := Lib.hid (G5.out.trans ga)
           have fb := HB6.out _ (grownBy_refl _ _)

           clear hm g ga fb))
      have hcm := HM.out.carry (HGW.out.trans G6.out)
      refine (drawFunctionOf_any _ _ hcm).mono ?_
      rintro e z1 ⟨p2, l2, m3, o2, vs2, L2, rfl, hq2, hq97, ho, hL, sg⟩
      obtain ⟨oa2, oc2, hoe, _, _⟩ := own_form ho
      subst hoe
      unfold rlV
      generalize hlen2 : L2.length = ln2 at *
      have hga := grownBy_alloc z1 (.cells #[.int .i64 l2, .int .i64 m3, .slice oa2 ln2 oc2] 65) none
      obtain ⟨fb2, tb2, sb2, rb2, c2, K2, hk2, sk2⟩ := fn2 (p := (p2 : Int)) (l := l2) (r := m3) (HT.out.grown ((HGW.out.trans (G6.out.trans sg)).trans hga)) (ho.readC.carry hga) hL (by omega) (by omega)
      have HX0 := Lib.hid ((HGW.out.trans (G6.out.trans sg)).trans hga)
      have HB20 := Lib.hid fun W (h : (z1.alloc (.cells #[.int .i64 l2, .int .i64 m3, .slice oa2 ln2 oc2] 65)).grownBy W none) => bx_on (alloc_heap_new z1 (.cells #[.int .i64 l2, .int .i64 m3, .slice oa2 ln2 oc2] 65)) h
      obtain ⟨Q1, Q2, Q3, Q4, hok2⟩ := hk2
      unfold rlV mxV at Q1 Q2
      unfold rlV at Q3 Q4
      have Q1 := Lib.hid Q1; have Q2 := Lib.hid Q2; have Q3 := Lib.hid Q3; have Q4 := Lib.hid Q4
      have SK2 := Lib.hid sk2
      generalize hk2l : K2.length = lk2 at *
      have LK2 := Lib.hid hk2l
      go_wp2_with fail
      generalize z1.alloc (.cells #[.int .i64 l2, .int .i64 m3, .slice oa2 ln2 oc2] 65) = Z2 at *
      have G20 := Lib.hid (grownBy_refl Z2 none)
      have fb := HB20.out _ (grownBy_refl _ _)
      obtain ⟨y20D0, y20D1, y20D2, _, _, _⟩ := bx3 fb
      clear ho hL sg hga fb hlen2 hcm sk2 hk2l
      rcases hok2 with ⟨rfl, rfl⟩ | ⟨rfl, rfl, rfl, rfl⟩ | ⟨rfl, rfl, rfl, rfl⟩ | ⟨rfl, rfl, rfl⟩
      all_goals
        go_wp2_with (first
          | (go_at_call 85
             go_loud (with_reducible refine (Q1.out _ G20.out).mono ?_)
             rintro e v21 ⟨o21, rfl, hm, g⟩
             obtain ⟨xa21, xc21, rfl⟩ := hm.shape
             rw [LK2.out] at hm ⊢
             have ga := g.trans (grownBy_alloc v21 (.cells #[.int .i64 c2, .slice xa21 lk2 xc21] 39) none)
             have HB21 := Lib.hid fun W (h : (v21.alloc (.cells #[.int .i64 c2, .slice xa21 lk2 xc21] 39)).grownBy W none) => And.intro (bx_on (alloc_heap_new v21 _) h) (And.intro (hm.carry ((grownBy_alloc v21 _ none).trans h)) (HB20.out W (ga.trans h)))
             have G21 := Lib.hid (G20.out.trans ga)
             have fb := HB21.out _ (grownBy_refl _ _)
             obtain ⟨y21D0, y21D1, y21D2, _, _, _⟩ := bx3 fb.2.2
             clear hm g ga fb)
          | (go_at_call 87
             go_loud (with_reducible refine (Q2.out _ G21.out).mono ?_)
             rintro e v22 ⟨o22, rfl, hm, g⟩
             obtain ⟨xa22, xc22, rfl⟩ := hm.shape
             rw [LK2.out] at hm ⊢
             have ga := g.trans (grownBy_alloc v22 (.cells #[.int .i64 c2, .slice xa22 lk2 xc22] 39) none)
             have HB22 := Lib.hid fun W (h : (v22.alloc (.cells #[.int .i64 c2, .slice xa22 lk2 xc22] 39)).grownBy W none) => And.intro (bx_on (alloc_heap_new v22 _) h) (And.intro (hm.carry ((grownBy_alloc v22 _ none).trans h)) (HB21.out W (ga.trans h)))
             have G22 := Lib.hid (G21.out.trans ga)
             have fb := HB22.out _ (grownBy_refl _ _)
             obtain ⟨y22D0, y22D1, y22D2, _, _, _⟩ := bx3 fb.2.2.2.2
             clear hm g ga fb)
          | (go_at_call 83
             go_loud (with_reducible refine (Q3.out _ G22.out).mono ?_)
             rintro e v23 ⟨rfl, g⟩
             have HB23 := Lib.hid fun W (h : v23.grownBy W none) => HB22.out W (g.trans h)
             have G23 := Lib.hid (G22.out.trans g)
             have fb := HB23.out _ (grownBy_refl _ _)
             obtain ⟨y23D0, y23D1, y23D2, _, _, _⟩ := bx3 fb.2.2.2.2
             clear g fb)
          | (go_at_call 84
             go_loud (with_reducible refine (Q4.out _ G23.out).mono ?_)
             rintro e v24 ⟨rfl, g⟩
             have HB24 := Lib.hid fun W (h : v24.grownBy W none) => HB23.out W (g.trans h)
             have G24 := Lib.hid (G23.out.trans g)
             have fb := HB24.out _ (grownBy_refl _ _)
             obtain ⟨y24P0, y24P1, _, _⟩ := bx fb.2.2.1
             obtain ⟨y24Q0, y24Q1, _, _⟩ := bx fb.1
             clear g fb)
          | (go_at_call 28
             go_loud (with_reducible refine (pSame_m _ _ _ _ ((HB24.out _ (grownBy_refl _ _)).2.2.2.1) ((HB24.out _ (grownBy_refl _ _)).2.1) SK2.out).mono ?_)
             rintro e v25 ⟨rfl, g⟩
             have HB25 := Lib.hid fun W (h : v25.grownBy W none) => HB24.out W (g.trans h)
             have G25 := Lib.hid (G24.out.trans g)
             have fb := HB25.out _ (grownBy_refl _ _)

             clear g fb))
        go_ret
        exact ⟨rfl, HX0.out.trans G25.out⟩
    · obtain rfl : p = q := by omega
      subst hcc
      obtain rfl : n = ln := by omega
      obtain ⟨H1, H2, H3, H4, H5⟩ := hs
      have H1 := Lib.hid H1; have H2 := Lib.hid H2; have H3 := Lib.hid H3; have H4 := Lib.hid H4; have H5 := Lib.hid H5
      unfold rlV mxV at H1 H2 H5
      unfold rlV at H3 H4
      have SX := Lib.hid sX
      clear sX
      generalize hlx : X.length = lx at *
      have LX := Lib.hid hlx
      have LN := HLEN
      clear hlx
      go_wp2_with (first
        | (go_at_call 81
           go_loud (with_reducible refine (H1.out _ G0.out).mono ?_)
           rintro e v1 ⟨o1, rfl, hm, g⟩
           obtain ⟨xa1, xc1, rfl⟩ := hm.shape
           rw [LX.out] at hm ⊢
           have ga := g.trans (grownBy_alloc v1 (.cells #[.int .i64 n, .int .i64 c, .slice xa1 lx xc1] 65) none)
           have HB1 := Lib.hid fun W (h : (v1.alloc (.cells #[.int .i64 n, .int .i64 c, .slice xa1 lx xc1] 65)).grownBy W none) => And.intro (bx_on (alloc_heap_new v1 _) h) (And.intro (hm.carry ((grownBy_alloc v1 _ none).trans h)) (HB0.out W (ga.trans h)))
           have G1 := Lib.hid (G0.out.trans ga)
           have fb := HB1.out _ (grownBy_refl _ _)
           obtain ⟨y1A0, y1A1, _, _⟩ := bx fb.2.2.1
           clear hm g ga fb)
        | (go_at_call 82
           go_loud (with_reducible refine (H2.out _ G1.out).mono ?_)
           rintro e v2 ⟨o2, rfl, hm, g⟩
           obtain ⟨xa2, xc2, rfl⟩ := hm.shape
           rw [LX.out] at hm ⊢
           have ga := g.trans (grownBy_alloc v2 (.cells #[.int .i64 n, .int .i64 c, .slice xa2 lx xc2] 65) none)
           have HB2 := Lib.hid fun W (h : (v2.alloc (.cells #[.int .i64 n, .int .i64 c, .slice xa2 lx xc2] 65)).grownBy W none) => And.intro (bx_on (alloc_heap_new v2 _) h) (And.intro (hm.carry ((grownBy_alloc v2 _ none).trans h)) (HB1.out W (ga.trans h)))
           have G2 := Lib.hid (G1.out.trans ga)
           have fb := HB2.out _ (grownBy_refl _ _)
           obtain ⟨y2X0, y2X1, y2X2, _, _, _⟩ := bx3 fb.2.2.1
           obtain ⟨y2V0, y2V1, y2V2, _, _, _⟩ := bx3 fb.1
           clear hm g ga fb)
        | (go_at_call 47
           go_loud (with_reducible refine (sameRel_n _ _ _ _ _ ((HB2.out _ (grownBy_refl _ _)).2.2.2.1).v ((HB2.out _ (grownBy_refl _ _)).2.1).v SX.out).mono ?_)
           rintro e v3 ⟨rfl, g⟩
           have HB3 := Lib.hid fun W (h : v3.grownBy W none) => HB2.out W (g.trans h)
           have G3 := Lib.hid (G2.out.trans g)
           have fb := HB3.out _ (grownBy_refl _ _)
           obtain ⟨y3X0, y3X1, y3X2, _, _, _⟩ := bx3 fb.2.2.1
           clear g fb)
        | (go_at_call 83
           go_loud (with_reducible refine (H3.out _ _ G3.out (HB3.out _ (grownBy_refl _ _)).2.2.2.1).mono ?_)
           rintro e v4 ⟨rfl, g⟩
           have HB4 := Lib.hid fun W (h : v4.grownBy W none) => HB3.out W (g.trans h)
           have G4 := Lib.hid (G3.out.trans g)
           have fb := HB4.out _ (grownBy_refl _ _)
           obtain ⟨y4X0, y4X1, y4X2, _, _, _⟩ := bx3 fb.2.2.1
           clear g fb)
        | (go_at_call 84
           go_loud (with_reducible refine (H4.out _ _ G4.out (HB4.out _ (grownBy_refl _ _)).2.2.2.1).mono ?_)
           rintro e v5 ⟨rfl, g⟩
           have HB5 := Lib.hid fun W (h : v5.grownBy W none) => HB4.out W (g.trans h)
           have G5 := Lib.hid (G4.out.trans g)
           have fb := HB5.out _ (grownBy_refl _ _)
           obtain ⟨y5X0, y5X1, y5X2, _, _, _⟩ := bx3 fb.2.2.1
           clear g fb)
        | (go_at_call 85
           go_loud (with_reducible refine (H5.out _ _ G5.out (HB5.out _ (grownBy_refl _ _)).2.2.2.1).mono ?_)
           rintro e v6 ⟨o6, rfl, hm, g⟩
           obtain ⟨xa6, xc6, rfl⟩ := hm.shape
           rw [LN.out] at hm ⊢
           have ga := g.trans (grownBy_alloc v6 (.cells #[.int .i64 c, .slice xa6 n xc6] 39) none)
           have HB6 := Lib.hid fun W (h : (v6.alloc (.cells #[.int .i64 c, .slice xa6 n xc6] 39)).grownBy W none) => And.intro (bx_on (alloc_heap_new v6 _) h) (And.intro (hm.carry ((grownBy_alloc v6 _ none).trans h)) (HB5.out W (ga.trans h)))
           have G6 := Lib.hid (G5.out.trans ga)
           have fb := HB6.out _ (grownBy_refl _ _)
           obtain ⟨y6M0, y6M1, _, _⟩ := bx fb.1
           obtain ⟨y6A0, y6A1, _, _⟩ := bx fb.2.2.2.2.2.2.1
           clear hm g ga fb)
        | (go_at_call 28
           go_loud (with_reducible refine (pSame_m _ _ _ _ ((HB6.out _ (grownBy_refl _ _)).2.1) (HU.out.carry G6.out) SLA.out).mono ?_)
           rintro e v7 ⟨rfl, g⟩
           have HB7 := Lib.hid fun W (h : v7.grownBy W none) => HB6.out W (g.trans h)
           have G7 := Lib.hid (G6.out.trans g)
           have fb := HB7.out _ (grownBy_refl _ _)
           obtain ⟨y7B0, y7B1, _, _⟩ := bx fb.2.2.2.2.2.2.2
           clear g fb)
        | (go_at_call 81
           go_loud (with_reducible refine (R6.out _ G7.out).mono ?_)
           rintro e v8 ⟨o8, rfl, hm, g⟩
           obtain ⟨xa8, xc8, rfl⟩ := hm.shape
           rw [LKY.out] at hm ⊢
           have ga := g.trans (grownBy_alloc v8 (.cells #[.int .i64 ly, .int .i64 ry, .slice xa8 lky xc8] 65) none)
           have HB8 := Lib.hid fun W (h : (v8.alloc (.cells #[.int .i64 ly, .int .i64 ry, .slice xa8 lky xc8] 65)).grownBy W none) => And.intro (bx_on (alloc_heap_new v8 _) h) (And.intro (hm.carry ((grownBy_alloc v8 _ none).trans h)) (HB7.out W (ga.trans h)))
           have G8 := Lib.hid (G7.out.trans ga)
           have fb := HB8.out _ (grownBy_refl _ _)
           obtain ⟨y8A0, y8A1, _, _⟩ := bx fb.2.2.2.2.2.2.2.2.1
           obtain ⟨y8B0, y8B1, _, _⟩ := bx fb.2.2.2.2.2.2.2.2.2
           clear hm g ga fb)
        | (go_at_call 29
           go_loud (with_reducible refine (R7.out _ G8.out).mono ?_)
           rintro e v9 ⟨o9, rfl, hm, g⟩
           obtain ⟨xa9, xc9, rfl⟩ := hm.shape
           rw [LKC.out] at hm ⊢
           have ga := g.trans (grownBy_alloc v9 (.cells #[.int .i64 cc, .slice xa9 lkc xc9] 39) none)
           have HB9 := Lib.hid fun W (h : (v9.alloc (.cells #[.int .i64 cc, .slice xa9 lkc xc9] 39)).grownBy W none) => And.intro (bx_on (alloc_heap_new v9 _) h) (And.intro (hm.carry ((grownBy_alloc v9 _ none).trans h)) (HB8.out W (ga.trans h)))
           have G9 := Lib.hid (G8.out.trans ga)
           have fb := HB9.out _ (grownBy_refl _ _)
           obtain ⟨y9C0, y9C1, _, _⟩ := bx fb.1
           clear hm g ga fb))
      go_loud (with_reducible refine (R8.out _ _ G9.out (HB9.out _ (grownBy_refl _ _)).2.1).mono ?_)
      rintro e v10 ⟨o10, rfl, hm, g⟩
      obtain ⟨xa10, xc10, rfl⟩ := hm.shape
      rw [LKZ.out] at hm ⊢
      have ga := g.trans (grownBy_alloc v10 (.cells #[.int .i64 lz, .int .i64 rz, .slice xa10 lkz xc10] 65) none)
      have HB10 := Lib.hid fun W (h : (v10.alloc (.cells #[.int .i64 lz, .int .i64 rz, .slice xa10 lkz xc10] 65)).grownBy W none) => And.intro (bx_on (alloc_heap_new v10 _) h) (And.intro (hm.carry ((grownBy_alloc v10 _ none).trans h)) (HB9.out W (ga.trans h)))
      have G10 := Lib.hid (G9.out.trans ga)
      have fb := HB10.out _ (grownBy_refl _ _)
      obtain ⟨y10X0, y10X1, y10X2, _, _, _⟩ := bx3 fb.2.2.2.2.2.2.2.2.2.2.1
      obtain ⟨y10Y0, y10Y1, y10Y2, _, _, _⟩ := bx3 fb.2.2.2.2.1
      clear hm g ga fb
      rcases hcn with rfl | ⟨rfl, rfl⟩ | ⟨rfl, rfl, rfl⟩ | ⟨rfl, rfl, rfl, hco, sz⟩
      · go_wp2_with fail
        have hcm := HM.out.carry (HGW.out.trans G10.out)
        refine (drawFunctionOf_any _ _ hcm).mono ?_
        rintro e z1 ⟨p2, l2, m3, o2, vs2, L2, rfl, hq2, hq97, ho, hL, sg⟩
        obtain ⟨oa2, oc2, hoe, _, _⟩ := own_form ho
        subst hoe
        unfold rlV
        generalize hlen2 : L2.length = ln2 at *
        have hga := grownBy_alloc z1 (.cells #[.int .i64 l2, .int .i64 m3, .slice oa2 ln2 oc2] 65) none
        obtain ⟨fb2, tb2, sb2, rb2, c2, K2, hk2, sk2⟩ := fn2 (p := (p2 : Int)) (l := l2) (r := m3) (HT.out.grown ((HGW.out.trans (G10.out.trans sg)).trans hga)) (ho.readC.carry hga) hL (by omega) (by omega)
        have HX0 := Lib.hid ((HGW.out.trans (G10.out.trans sg)).trans hga)
        have HB20 := Lib.hid fun W (h : (z1.alloc (.cells #[.int .i64 l2, .int .i64 m3, .slice oa2 ln2 oc2] 65)).grownBy W none) => bx_on (alloc_heap_new z1 (.cells #[.int .i64 l2, .int .i64 m3, .slice oa2 ln2 oc2] 65)) h
        obtain ⟨Q1, Q2, Q3, Q4, hok2⟩ := hk2
        unfold rlV mxV at Q1 Q2
        unfold rlV at Q3 Q4
        have Q1 := Lib.hid Q1; have Q2 := Lib.hid Q2; have Q3 := Lib.hid Q3; have Q4 := Lib.hid Q4
        have SK2 := Lib.hid sk2
        generalize hk2l : K2.length = lk2 at *
        have LK2 := Lib.hid hk2l
        go_wp2_with fail
        generalize z1.alloc (.cells #[.int .i64 l2, .int .i64 m3, .slice oa2 ln2 oc2] 65) = Z2 at *
        have G20 := Lib.hid (grownBy_refl Z2 none)
        have fb := HB20.out _ (grownBy_refl _ _)
        obtain ⟨y20D0, y20D1, y20D2, _, _, _⟩ := bx3 fb
        clear ho hL sg hga fb hlen2 hcm sk2 hk2l
        rcases hok2 with ⟨rfl, rfl⟩ | ⟨rfl, rfl, rfl, rfl⟩ | ⟨rfl, rfl, rfl, rfl⟩ | ⟨rfl, rfl, rfl⟩
        all_goals
          go_wp2_with (first
            | (go_at_call 85
               go_loud (with_reducible refine (Q1.out _ G20.out).mono ?_)
               rintro e v21 ⟨o21, rfl, hm, g⟩
               obtain ⟨xa21, xc21, rfl⟩ := hm.shape
               rw [LK2.out] at hm ⊢
               have ga := g.trans (grownBy_alloc v21 (.cells #[.int .i64 c2, .slice xa21 lk2 xc21] 39) none)
               have HB21 := Lib.hid fun W (h : (v21.alloc (.cells #[.int .i64 c2, .slice xa21 lk2 xc21] 39)).grownBy W none) => And.intro (bx_on (alloc_heap_new v21 _) h) (And.intro (hm.carry ((grownBy_alloc v21 _ none).trans h)) (HB20.out W (ga.trans h)))
               have G21 := Lib.hid (G20.out.trans ga)
               have fb := HB21.out _ (grownBy_refl _ _)
               obtain ⟨y21D0, y21D1, y21D2, _, _, _⟩ := bx3 fb.2.2
               clear hm g ga fb)
            | (go_at_call 87
               go_loud (with_reducible refine (Q2.out _ G21.out).mono ?_)
               rintro e v22 ⟨o22, rfl, hm, g⟩
               obtain ⟨xa22, xc22, rfl⟩ := hm.shape
               rw [LK2.out] at hm ⊢
               have ga := g.trans (grownBy_alloc v22 (.cells #[.int .i64 c2, .slice xa22 lk2 xc22] 39) none)
               have HB22 := Lib.hid fun W (h : (v22.alloc (.cells #[.int .i64 c2, .slice xa22 lk2 xc22] 39)).grownBy W none) => And.intro (bx_on (alloc_heap_new v22 _) h) (And.intro (hm.carry ((grownBy_alloc v22 _ none).trans h)) (HB21.out W (ga.trans h)))
               have G22 := Lib.hid (G21.out.trans ga)
               have fb := HB22.out _ (grownBy_refl _ _)
               obtain ⟨y22D0, y22D1, y22D2, _, _, _⟩ := bx3 fb.2.2.2.2
               clear hm g ga fb)
            | (go_at_call 83
               go_loud (with_reducible refine (Q3.out _ G22.out).mono ?_)
               rintro e v23 ⟨rfl, g⟩
               have HB23 := Lib.hid fun W (h : v23.grownBy W none) => HB22.out W (g.trans h)
               have G23 := Lib.hid (G22.out.trans g)
               have fb := HB23.out _ (grownBy_refl _ _)
               obtain ⟨y23D0, y23D1, y23D2, _, _, _⟩ := bx3 fb.2.2.2.2
               clear g fb)
            | (go_at_call 84
               go_loud (with_reducible refine (Q4.out _ G23.out).mono ?_)
               rintro e v24 ⟨rfl, g⟩
               have HB24 := Lib.hid fun W (h : v24.grownBy W none) => HB23.out W (g.trans h)
               have G24 := Lib.hid (G23.out.trans g)
               have fb := HB24.out _ (grownBy_refl _ _)
               obtain ⟨y24P0, y24P1, _, _⟩ := bx fb.2.2.1
               obtain ⟨y24Q0, y24Q1, _, _⟩ := bx fb.1
               clear g fb)
            | (go_at_call 28
               go_loud (with_reducible refine (pSame_m _ _ _ _ ((HB24.out _ (grownBy_refl _ _)).2.2.2.1) ((HB24.out _ (grownBy_refl _ _)).2.1) SK2.out).mono ?_)
               rintro e v25 ⟨rfl, g⟩
               have HB25 := Lib.hid fun W (h : v25.grownBy W none) => HB24.out W (g.trans h)
               have G25 := Lib.hid (G24.out.trans g)
               have fb := HB25.out _ (grownBy_refl _ _)

               clear g fb))
          go_ret
          exact ⟨rfl, HX0.out.trans G25.out⟩
      · go_wp2_with fail
        have hcm := HM.out.carry (HGW.out.trans G10.out)
        refine (drawFunctionOf_any _ _ hcm).mono ?_
        rintro e z1 ⟨p2, l2, m3, o2, vs2, L2, rfl, hq2, hq97, ho, hL, sg⟩
        obtain ⟨oa2, oc2, hoe, _, _⟩ := own_form ho
        subst hoe
        unfold rlV
        generalize hlen2 : L2.length = ln2 at *
        have hga := grownBy_alloc z1 (.cells #[.int .i64 l2, .int .i64 m3, .slice oa2 ln2 oc2] 65) none
        obtain ⟨fb2, tb2, sb2, rb2, c2, K2, hk2, sk2⟩ := fn2 (p := (p2 : Int)) (l := l2) (r := m3) (HT.out.grown ((HGW.out.trans (G10.out.trans sg)).trans hga)) (ho.readC.carry hga) hL (by omega) (by omega)
        have HX0 := Lib.hid ((HGW.out.trans (G10.out.trans sg)).trans hga)
        have HB20 := Lib.hid fun W (h : (z1.alloc (.cells #[.int .i64 l2, .int .i64 m3, .slice oa2 ln2 oc2] 65)).grownBy W none) => bx_on (alloc_heap_new z1 (.cells #[.int .i64 l2, .int .i64 m3, .slice oa2 ln2 oc2] 65)) h
        obtain ⟨Q1, Q2, Q3, Q4, hok2⟩ := hk2
        unfold rlV mxV at Q1 Q2
        unfold rlV at Q3 Q4
        have Q1 := Lib.hid Q1; have Q2 := Lib.hid Q2; have Q3 := Lib.hid Q3; have Q4 := Lib.hid Q4
        have SK2 := Lib.hid sk2
        generalize hk2l : K2.length = lk2 at *
        have LK2 := Lib.hid hk2l
        go_wp2_with fail
        generalize z1.alloc (.cells #[.int .i64 l2, .int .i64 m3, .slice oa2 ln2 oc2] 65) = Z2 at *
        have G20 := Lib.hid (grownBy_refl Z2 none)
        have fb := HB20.out _ (grownBy_refl _ _)
        obtain ⟨y20D0, y20D1, y20D2, _, _, _⟩ := bx3 fb
        clear ho hL sg hga fb hlen2 hcm sk2 hk2l
        rcases hok2 with ⟨rfl, rfl⟩ | ⟨rfl, rfl, rfl, rfl⟩ | ⟨rfl, rfl, rfl, rfl⟩ | ⟨rfl, rfl, rfl⟩
        all_goals
          go_wp2_with (first
            | (go_at_call 85
               go_loud (with_reducible refine (Q1.out _ G20.out).mono ?_)
               rintro e v21 ⟨o21, rfl, hm, g⟩
               obtain ⟨xa21, xc21, rfl⟩ := hm.shape
               rw [LK2.out] at hm ⊢
               have ga := g.trans (grownBy_alloc v21 (.cells #[.int .i64 c2, .slice xa21 lk2 xc21] 39) none)
               have HB21 := Lib.hid fun W (h : (v21.alloc (.cells #[.int .i64 c2, .slice xa21 lk2 xc21] 39)).grownBy W none) => And.intro (bx_on (alloc_heap_new v21 _) h) (And.intro (hm.carry ((grownBy_alloc v21 _ none).trans h)) (HB20.out W (ga.trans h)))
               have G21 := Lib.hid (G20.out.trans ga)
               have fb := HB21.out _ (grownBy_refl _ _)
               obtain ⟨y21D0, y21D1, y21D2, _, _, _⟩ := bx3 fb.2.2
               clear hm g ga fb)
            | (go_at_call 87
               go_loud (with_reducible refine (Q2.out _ G21.out).mono ?_)
               rintro e v22 ⟨o22, rfl, hm, g⟩
               obtain ⟨xa22, xc22, rfl⟩ := hm.shape
               rw [LK2.out] at hm ⊢
               have ga := g.trans (grownBy_alloc v22 (.cells #[.int .i64 c2, .slice xa22 lk2 xc22] 39) none)
               have HB22 := Lib.hid fun W (h : (v22.alloc (.cells #[.int .i64 c2, .slice xa22 lk2 xc22] 39)).grownBy W none) => And.intro (bx_on (alloc_heap_new v22 _) h) (And.intro (hm.carry ((grownBy_alloc v22 _ none).trans h)) (HB21.out W (ga.trans h)))
               have G22 := Lib.hid (G21.out.trans ga)
               have fb := HB22.out _ (grownBy_refl _ _)
               obtain ⟨y22D0, y22D1, y22D2, _, _, _⟩ := bx3 fb.2.2.2.2
               clear hm g ga fb)
            | (go_at_call 83
               go_loud (with_reducible refine (Q3.out _ G22.out).mono ?_)
               rintro e v23 ⟨rfl, g⟩
               have HB23 := Lib.hid fun W (h : v23.grownBy W none) => HB22.out W (g.trans h)
               have G23 := Lib.hid (G22.out.trans g)
               have fb := HB23.out _ (grownBy_refl _ _)
               obtain ⟨y23D0, y23D1, y23D2, _, _, _⟩ := bx3 fb.2.2.2.2
               clear g fb)
            | (go_at_call 84
               go_loud (with_reducible refine (Q4.out _ G23.out).mono ?_)
               rintro e v24 ⟨rfl, g⟩
               have HB24 := Lib.hid fun W (h : v24.grownBy W none) => HB23.out W (g.trans h)
               have G24 := Lib.hid (G23.out.trans g)
               have fb := HB24.out _ (grownBy_refl _ _)
               obtain ⟨y24P0, y24P1, _, _⟩ := bx fb.2.2.1
               obtain ⟨y24Q0, y24Q1, _, _⟩ := bx fb.1
               clear g fb)
            | (go_at_call 28
               go_loud (with_reducible refine (pSame_m _ _ _ _ ((HB24.out _ (grownBy_refl _ _)).2.2.2.1) ((HB24.out _ (grownBy_refl _ _)).2.1) SK2.out).mono ?_)
               rintro e v25 ⟨rfl, g⟩
               have HB25 := Lib.hid fun W (h : v25.grownBy W none) => HB24.out W (g.trans h)
               have G25 := Lib.hid (G24.out.trans g)
               have fb := HB25.out _ (grownBy_refl _ _)

               clear g fb))
          go_ret
          exact ⟨rfl, HX0.out.trans G25.out⟩
      · go_wp2_with fail
        have hcm := HM.out.carry (HGW.out.trans G10.out)
        refine (drawFunctionOf_any _ _ hcm).mono ?_
        rintro e z1 ⟨p2, l2, m3, o2, vs2, L2, rfl, hq2, hq97, ho, hL, sg⟩
        obtain ⟨oa2, oc2, hoe, _, _⟩ := own_form ho
        subst hoe
        unfold rlV
        generalize hlen2 : L2.length = ln2 at *
        have hga := grownBy_alloc z1 (.cells #[.int .i64 l2, .int .i64 m3, .slice oa2 ln2 oc2] 65) none
        obtain ⟨fb2, tb2, sb2, rb2, c2, K2, hk2, sk2⟩ := fn2 (p := (p2 : Int)) (l := l2) (r := m3) (HT.out.grown ((HGW.out.trans (G10.out.trans sg)).trans hga)) (ho.readC.carry hga) hL (by omega) (by omega)
        have HX0 := Lib.hid ((HGW.out.trans (G10.out.trans sg)).trans hga)
        have HB20 := Lib.hid fun W (h : (z1.alloc (.cells #[.int .i64 l2, .int .i64 m3, .slice oa2 ln2 oc2] 65)).grownBy W none) => bx_on (alloc_heap_new z1 (.cells #[.int .i64 l2, .int .i64 m3, .slice oa2 ln2 oc2] 65)) h
        obtain ⟨Q1, Q2, Q3, Q4, hok2⟩ := hk2
        unfold rlV mxV at Q1 Q2
        unfold rlV at Q3 Q4
        have Q1 := Lib.hid Q1; have Q2 := Lib.hid Q2; have Q3 := Lib.hid Q3; have Q4 := Lib.hid Q4
        have SK2 := Lib.hid sk2
        generalize hk2l : K2.length = lk2 at *
        have LK2 := Lib.hid hk2l
        go_wp2_with fail
        generalize z1.alloc (.cells #[.int .i64 l2, .int .i64 m3, .slice oa2 ln2 oc2] 65) = Z2 at *
        have G20 := Lib.hid (grownBy_refl Z2 none)
        have fb := HB20.out _ (grownBy_refl _ _)
        obtain ⟨y20D0, y20D1, y20D2, _, _, _⟩ := bx3 fb
        clear ho hL sg hga fb hlen2 hcm sk2 hk2l
        rcases hok2 with ⟨rfl, rfl⟩ | ⟨rfl, rfl, rfl, rfl⟩ | ⟨rfl, rfl, rfl, rfl⟩ | ⟨rfl, rfl, rfl⟩
        all_goals
          go_wp2_with (first
            | (go_at_call 85
               go_loud (with_reducible refine (Q1.out _ G20.out).mono ?_)
               rintro e v21 ⟨o21, rfl, hm, g⟩
               obtain ⟨xa21, xc21, rfl⟩ := hm.shape
               rw [LK2.out] at hm ⊢
               have ga := g.trans (grownBy_alloc v21 (.cells #[.int .i64 c2, .slice xa21 lk2 xc21] 39) none)
               have HB21 := Lib.hid fun W (h : (v21.alloc (.cells #[.int .i64 c2, .slice xa21 lk2 xc21] 39)).grownBy W none) => And.intro (bx_on (alloc_heap_new v21 _) h) (And.intro (hm.carry ((grownBy_alloc v21 _ none).trans h)) (HB20.out W (ga.trans h)))
               have G21 := Lib.hid (G20.out.trans ga)
               have fb := HB21.out _ (grownBy_refl _ _)
               obtain ⟨y21D0, y21D1, y21D2, _, _, _⟩ := bx3 fb.2.2
               clear hm g ga fb)
            | (go_at_call 87
               go_loud (with_reducible refine (Q2.out _ G21.out).mono ?_)
               rintro e v22 ⟨o22, rfl, hm, g⟩
               obtain ⟨xa22, xc22, rfl⟩ := hm.shape
               rw [LK2.out] at hm ⊢
               have ga := g.trans (grownBy_alloc v22 (.cells #[.int .i64 c2, .slice xa22 lk2 xc22] 39) none)
               have HB22 := Lib.hid fun W (h : (v22.alloc (.cells #[.int .i64 c2, .slice xa22 lk2 xc22] 39)).grownBy W none) => And.intro (bx_on (alloc_heap_new v22 _) h) (And.intro (hm.carry ((grownBy_alloc v22 _ none).trans h)) (HB21.out W (ga.trans h)))
               have G22 := Lib.hid (G21.out.trans ga)
               have fb := HB22.out _ (grownBy_refl _ _)
               obtain ⟨y22D0, y22D1, y22D2, _, _, _⟩ := bx3 fb.2.2.2.2
               clear hm g ga fb)
            | (go_at_call 83
               go_loud (with_reducible refine (Q3.out _ G22.out).mono ?_)
               rintro e v23 ⟨rfl, g⟩
               have HB23 := Lib.hid fun W (h : v23.grownBy W none) => HB22.out W (g.trans h)
               have G23 := Lib.hid (G22.out.trans g)
               have fb := HB23.out _ (grownBy_refl _ _)
               obtain ⟨y23D0, y23D1, y23D2, _, _, _⟩ := bx3 fb.2.2.2.2
               clear g fb)
            | (go_at_call 84
               go_loud (with_reducible refine (Q4.out _ G23.out).mono ?_)
               rintro e v24 ⟨rfl, g⟩
               have HB24 := Lib.hid fun W (h : v24.grownBy W none) => HB23.out W (g.trans h)
               have G24 := Lib.hid (G23.out.trans g)
               have fb := HB24.out _ (grownBy_refl _ _)
               obtain ⟨y24P0, y24P1, _, _⟩ := bx fb.2.2.1
               obtain ⟨y24Q0, y24Q1, _, _⟩ := bx fb.1
               clear g fb)
            | (go_at_call 28
               go_loud (with_reducible refine (pSame_m _ _ _ _ ((HB24.out _ (grownBy_refl _ _)).2.2.2.1) ((HB24.out _ (grownBy_refl _ _)).2.1) SK2.out).mono ?_)
               rintro e v25 ⟨rfl, g⟩
               have HB25 := Lib.hid fun W (h : v25.grownBy W none) => HB24.out W (g.trans h)
               have G25 := Lib.hid (G24.out.trans g)
               have fb := HB25.out _ (grownBy_refl _ _)

               clear g fb))
          go_ret
          exact ⟨rfl, HX0.out.trans G25.out⟩
      · unfold FnComp at hco
        unfold rlV at hco
        have HCO := Lib.hid hco
        have SZ := Lib.hid sz
        clear hco sz
        go_wp2_with (first
          | (go_at_call 45
             go_loud (with_reducible refine (HCO.out _ _ _ G10.out (HB10.out _ (grownBy_refl _ _)).2.2.2.2.2.2.2.2.2.2.2.1 (HB10.out _ (grownBy_refl _ _)).2.2.2.2.2.1).mono ?_)
             rintro e v11 ⟨o11, rfl, hm, g⟩
             obtain ⟨xa11, xc11, rfl⟩ := hm.shape
             rw [LKZ.out] at hm ⊢
             have ga := g.trans (grownBy_alloc v11 (.cells #[.int .i64 lz, .int .i64 rz, .slice xa11 lkz xc11] 65) none)
             have HB11 := Lib.hid fun W (h : (v11.alloc (.cells #[.int .i64 lz, .int .i64 rz, .slice xa11 lkz xc11] 65)).grownBy W none) => And.intro (bx_on (alloc_heap_new v11 _) h) (And.intro (hm.carry ((grownBy_alloc v11 _ none).trans h)) (HB10.out W (ga.trans h)))
             have G11 := Lib.hid (G10.out.trans ga)
             have fb := HB11.out _ (grownBy_refl _ _)
             obtain ⟨y11W0, y11W1, y11W2, _, _, _⟩ := bx3 fb.1
             obtain ⟨y11Z0, y11Z1, y11Z2, _, _, _⟩ := bx3 fb.2.2.1
             clear hm g ga fb)
          | (go_at_call 47
             go_loud (with_reducible refine (sameRel_n _ _ _ _ _ ((HB11.out _ (grownBy_refl _ _)).2.1).v ((HB11.out _ (grownBy_refl _ _)).2.2.2.1).v SZ.out).mono ?_)
             rintro e v12 ⟨rfl, g⟩
             have HB12 := Lib.hid fun W (h : v12.grownBy W none) => HB11.out W (g.trans h)
             have G12 := Lib.hid (G11.out.trans g)
             have fb := HB12.out _ (grownBy_refl _ _)

             clear g fb))
        have hcm := HM.out.carry (HGW.out.trans G12.out)
        refine (drawFunctionOf_any _ _ hcm).mono ?_
        rintro e z1 ⟨p2, l2, m3, o2, vs2, L2, rfl, hq2, hq97, ho, hL, sg⟩
        obtain ⟨oa2, oc2, hoe, _, _⟩ := own_form ho
        subst hoe
        unfold rlV
        generalize hlen2 : L2.length = ln2 at *
        have hga := grownBy_alloc z1 (.cells #[.int .i64 l2, .int .i64 m3, .slice oa2 ln2 oc2] 65) none
        obtain ⟨fb2, tb2, sb2, rb2, c2, K2, hk2, sk2⟩ := fn2 (p := (p2 : Int)) (l := l2) (r := m3) (HT.out.grown ((HGW.out.trans (G12.out.trans sg)).trans hga)) (ho.readC.carry hga) hL (by omega) (by omega)
        have HX0 := Lib.hid ((HGW.out.trans (G12.out.trans sg)).trans hga)
        have HB20 := Lib.hid fun W (h : (z1.alloc (.cells #[.int .i64 l2, .int .i64 m3, .slice oa2 ln2 oc2] 65)).grownBy W none) => bx_on (alloc_heap_new z1 (.cells #[.int .i64 l2, .int .i64 m3, .slice oa2 ln2 oc2] 65)) h
        obtain ⟨Q1, Q2, Q3, Q4, hok2⟩ := hk2
        unfold rlV mxV at Q1 Q2
        unfold rlV at Q3 Q4
        have Q1 := Lib.hid Q1; have Q2 := Lib.hid Q2; have Q3 := Lib.hid Q3; have Q4 := Lib.hid Q4
        have SK2 := Lib.hid sk2
        generalize hk2l : K2.length = lk2 at *
        have LK2 := Lib.hid hk2l
        go_wp2_with fail
        generalize z1.alloc (.cells #[.int .i64 l2, .int .i64 m3, .slice oa2 ln2 oc2] 65) = Z2 at *
        have G20 := Lib.hid (grownBy_refl Z2 none)
        have fb := HB20.out _ (grownBy_refl _ _)
        obtain ⟨y20D0, y20D1, y20D2, _, _, _⟩ := bx3 fb
        clear ho hL sg hga fb hlen2 hcm sk2 hk2l
        rcases hok2 with ⟨rfl, rfl⟩ | ⟨rfl, rfl, rfl, rfl⟩ | ⟨rfl, rfl, rfl, rfl⟩ | ⟨rfl, rfl, rfl⟩
        all_goals
          go_wp2_with (first
            | (go_at_call 85
               go_loud (with_reducible refine (Q1.out _ G20.out).mono ?_)
               rintro e v21 ⟨o21, rfl, hm, g⟩
               obtain ⟨xa21, xc21, rfl⟩ := hm.shape
               rw [LK2.out] at hm ⊢
               have ga := g.trans (grownBy_alloc v21 (.cells #[.int .i64 c2, .slice xa21 lk2 xc21] 39) none)
               have HB21 := Lib.hid fun W (h : (v21.alloc (.cells #[.int .i64 c2, .slice xa21 lk2 xc21] 39)).grownBy W none) => And.intro (bx_on (alloc_heap_new v21 _) h) (And.intro (hm.carry ((grownBy_alloc v21 _ none).trans h)) (HB20.out W (ga.trans h)))
               have G21 := Lib.hid (G20.out.trans ga)
               have fb := HB21.out _ (grownBy_refl _ _)
               obtain ⟨y21D0, y21D1, y21D2, _, _, _⟩ := bx3 fb.2.2
               clear hm g ga fb)
            | (go_at_call 87
               go_loud (with_reducible refine (Q2.out _ G21.out).mono ?_)
               rintro e v22 ⟨o22, rfl, hm, g⟩
               obtain ⟨xa22, xc22, rfl⟩ := hm.shape
               rw [LK2.out] at hm ⊢
               have ga := g.trans (grownBy_alloc v22 (.cells #[.int .i64 c2, .slice xa22 lk2 xc22] 39) none)
               have HB22 := Lib.hid fun W (h : (v22.alloc (.cells #[.int .i64 c2, .slice xa22 lk2 xc22] 39)).grownBy W none) => And.intro (bx_on (alloc_heap_new v22 _) h) (And.intro (hm.carry ((grownBy_alloc v22 _ none).trans h)) (HB21.out W (ga.trans h)))
               have G22 := Lib.hid (G21.out.trans ga)
               have fb := HB22.out _ (grownBy_refl _ _)
               obtain ⟨y22D0, y22D1, y22D2, _, _, _⟩ := bx3 fb.2.2.2.2
               clear hm g ga fb)
            | (go_at_call 83
               go_loud (with_reducible refine (Q3.out _ G22.out).mono ?_)
               rintro e v23 ⟨rfl, g⟩
               have HB23 := Lib.hid fun W (h : v23.grownBy W none) => HB22.out W (g.trans h)
               have G23 := Lib.hid (G22.out.trans g)
               have fb := HB23.out _ (grownBy_refl _ _)
               obtain ⟨y23D0, y23D1, y23D2, _, _, _⟩ := bx3 fb.2.2.2.2
               clear g fb)
            | (go_at_call 84
               go_loud (with_reducible refine (Q4.out _ G23.out).mono ?_)
               rintro e v24 ⟨rfl, g⟩
               have HB24 := Lib.hid fun W (h : v24.grownBy W none) => HB23.out W (g.trans h)
               have G24 := Lib.hid (G23.out.trans g)
               have fb := HB24.out _ (grownBy_refl _ _)
               obtain ⟨y24P0, y24P1, _, _⟩ := bx fb.2.2.1
               obtain ⟨y24Q0, y24Q1, _, _⟩ := bx fb.1
               clear g fb)
            | (go_at_call 28
               go_loud (with_reducible refine (pSame_m _ _ _ _ ((HB24.out _ (grownBy_refl _ _)).2.2.2.1) ((HB24.out _ (grownBy_refl _ _)).2.1) SK2.out).mono ?_)
               rintro e v25 ⟨rfl, g⟩
               have HB25 := Lib.hid fun W (h : v25.grownBy W none) => HB24.out W (g.trans h)
               have G25 := Lib.hid (G24.out.trans g)
               have fb := HB25.out _ (grownBy_refl _ _)

               clear g fb))
          go_ret
          exact ⟨rfl, HX0.out.trans G25.out⟩
end Go.Proofs.YtpeaeminjbjlnaaDoor

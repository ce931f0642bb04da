/-
  The law on orthogonals: its walk. Conditions: both arguments read as bytes; the table of small primes holds what its text lays.
-/
import Derived.Test.YtpeaeminjbjlnaaDoorMo02
import Derived.Test.YtpeaeminjbjlnaaDoorMo03
import Derived.Test.YtpeaeminjbjlnaaDoorMv15
import Derived.Deep.CutRange
namespace Go.Proofs.YtpeaeminjbjlnaaDoor
open Go.RowKit
set_option linter.unusedVariables false

set_option maxRecDepth 100000 in
set_option maxHeartbeats 40000000 in
theorem fnOrthogonals_any (cv mv : Value) (w : World) (hc : CodeRaw w cv) (hm : CodeRaw w mv) (ht : Tab w) : Calls Tryd.prog 12 #[cv, mv] w (Gives (.bool true) w) := by
  have HT := Lib.hid ht
  obtain ⟨a1, l1, c1, rfl, hl1, hx1⟩ := hc
  obtain ⟨a2, l2, c2, rfl, hl2, hx2⟩ := hm
  have HX1 := Lib.hid hx1
  have HX2 := Lib.hid hx2
  clear ht hx1 hx2
  cases hbig : bigB l1 l2
  case true =>
    go_enter Tryd.func12, Tryd.ntmps12
    go_wp2_with (go_at_call 13; refine (big_any _ _ _ _ _ _ _ hl1 hl2).mono ?_; rintro e w' ⟨rfl, rfl⟩)
    go_ret
    exact ⟨rfl, grownBy_refl _ _⟩
  case false =>
    obtain ⟨b1, b2⟩ := bigB_no hbig
    have HC := Lib.hid (show CodeAt w (.slice a1 l1 c1) from ⟨a1, l1, c1, rfl, by omega, HX1.out⟩)
    have HM := Lib.hid (show CodeAt w (.slice a2 l2 c2) from ⟨a2, l2, c2, rfl, by omega, HX2.out⟩)
    clear b1 b2
    go_enter Tryd.func12, Tryd.ntmps12
    go_wp2_with fail
    refine (big_any _ _ _ _ _ _ _ hl1 hl2).mono ?_
    rintro e w' ⟨rfl, rfl⟩
    go_wp2_with fail
    refine (drawComposeRelations_any _ _ HC.out).mono ?_
    rintro e w1 ⟨p, l, m, m2, r, o, vs, L, u, us, M, rfl, hp2, hp97, ho, hL, hu, hM, g1⟩
    obtain ⟨oa, oc, hoe, _, _⟩ := own_form ho
    subst hoe
    obtain ⟨ua, uc, hue, _, _⟩ := own_form hu
    subst hue
    unfold rlV
    generalize hlen : L.length = ln at *
    generalize hmen : M.length = mn at *
    have hga := (grownBy_alloc w1 (.cells #[.int .i64 l, .int .i64 m, .slice oa ln oc] 65) none).trans (grownBy_alloc (w1.alloc (.cells #[.int .i64 l, .int .i64 m, .slice oa ln oc] 65)) (.cells #[.int .i64 m2, .int .i64 r, .slice ua mn uc] 65) none)
    have hsp := or1 (p := (p : Int)) (l := l) (m := m) (m2 := m2) (r := r) (HT.out.grown (g1.trans hga)) (ho.readC.carry hga) (hu.readC.carry hga) hL hM (by omega) (by omega)
    have hou := ho.readC.carry hga
    have HU := Lib.hid hou
    have HGW := Lib.hid (g1.trans hga)
    have HB0 := Lib.hid fun W (h : ((w1.alloc (.cells #[.int .i64 l, .int .i64 m, .slice oa ln oc] 65)).alloc (.cells #[.int .i64 m2, .int .i64 r, .slice ua mn uc] 65)).grownBy W none) => And.intro (bx_on (alloc_heap_new w1 (.cells #[.int .i64 l, .int .i64 m, .slice oa ln oc] 65)) ((grownBy_alloc _ _ none).trans h)) (bx_on (alloc_heap_new (w1.alloc (.cells #[.int .i64 l, .int .i64 m, .slice oa ln oc] 65)) (.cells #[.int .i64 m2, .int .i64 r, .slice ua mn uc] 65)) h)
    rw [show (w1.alloc (.cells #[.int .i64 l, .int .i64 m, .slice oa ln oc] 65)).heap.size = w1.heap.size + 1 by simp] at HB0
    go_wp2_with fail
    generalize (w1.alloc (.cells #[.int .i64 l, .int .i64 m, .slice oa ln oc] 65)).alloc (.cells #[.int .i64 m2, .int .i64 r, .slice ua mn uc] 65) = W2 at *
    have G0 := Lib.hid (grownBy_refl W2 none)
    have fb := HB0.out _ (grownBy_refl _ _)
    obtain ⟨y0A0, y0A1, y0A2, _, _, _⟩ := bx3 fb.1
    obtain ⟨y0B0, y0B1, y0B2, _, _, _⟩ := bx3 fb.2
    have HLEN := Lib.hid hlen; have HMEN := Lib.hid hmen
    clear ho hL hu hM g1 hga fb hlen hmen hou
    rcases hsp with ⟨hs, hcn⟩ | ⟨q, a, b, X, hpq, hla, hmb, hs, sA, sX, hcn⟩
    · obtain ⟨H1, H2⟩ := hs
      have H1 := Lib.hid H1; have H2 := Lib.hid H2
      unfold CompNo at hcn
      unfold rlV nilS at H1 H2 hcn
      have HCN := Lib.hid hcn
      clear hcn
      go_wp2_with (first
        | (go_at_call 95
           go_loud (with_reducible refine (H1.out _ G0.out).mono ?_)
           rintro e v1 ⟨rfl, g⟩
           have ga := g.trans (grownBy_alloc v1 (.cells #[.int .i64 0, .int .i64 0, .slice none 0 0] 65) none)
           have HB1 := Lib.hid fun W (h : (v1.alloc (.cells #[.int .i64 0, .int .i64 0, .slice none 0 0] 65)).grownBy W none) => And.intro (bx_on (alloc_heap_new v1 _) h) (And.intro (nil_mat' W) (HB0.out W (ga.trans h)))
           have G1 := Lib.hid (G0.out.trans ga)
           have fb := HB1.out _ (grownBy_refl _ _)
           obtain ⟨y1A0, y1A1, y1A2, _, _, _⟩ := bx3 fb.2.2.1
           clear g ga fb)
        | (go_at_call 96
           go_loud (with_reducible refine (H2.out _ G1.out).mono ?_)
           rintro e v2 ⟨rfl, g⟩
           have ga := g.trans (grownBy_alloc v2 (.cells #[.int .i64 0, .int .i64 0, .slice none 0 0] 65) none)
           have HB2 := Lib.hid fun W (h : (v2.alloc (.cells #[.int .i64 0, .int .i64 0, .slice none 0 0] 65)).grownBy W none) => And.intro (bx_on (alloc_heap_new v2 _) h) (And.intro (nil_mat' W) (HB1.out W (ga.trans h)))
           have G2 := Lib.hid (G1.out.trans ga)
           have fb := HB2.out _ (grownBy_refl _ _)
           obtain ⟨y2X0, y2X1, y2X2, _, _, _⟩ := bx3 fb.2.2.1
           obtain ⟨y2V0, y2V1, y2V2, _, _, _⟩ := bx3 fb.1
           clear g ga fb)
        | (go_at_call 47
           go_loud (with_reducible refine (sameRel_nil _).mono ?_)
           rintro e v3 ⟨rfl, g⟩
           have HB3 := Lib.hid fun W (h : v3.grownBy W none) => HB2.out W (g.trans h)
           have G3 := Lib.hid (G2.out.trans g)
           have fb := HB3.out _ (grownBy_refl _ _)
           obtain ⟨y3A0, y3A1, y3A2, _, _, _⟩ := bx3 fb.2.2.2.2.1
           obtain ⟨y3B0, y3B1, y3B2, _, _, _⟩ := bx3 fb.2.2.2.2.2
           clear g fb)
        | (go_at_call 45
           go_loud (with_reducible refine (HCN.out _ G3.out).mono ?_)
           rintro e v4 ⟨rfl, g⟩
           have ga := g.trans (grownBy_alloc v4 (.cells #[.int .i64 0, .int .i64 0, .slice none 0 0] 65) none)
           have HB4 := Lib.hid fun W (h : (v4.alloc (.cells #[.int .i64 0, .int .i64 0, .slice none 0 0] 65)).grownBy W none) => And.intro (bx_on (alloc_heap_new v4 _) h) (And.intro (nil_mat' W) (HB3.out W (ga.trans h)))
           have G4 := Lib.hid (G3.out.trans ga)
           have fb := HB4.out _ (grownBy_refl _ _)

           clear g ga fb))
      have hcm := HM.out.carry (HGW.out.trans G4.out)
      refine (drawIncludesRelation_any _ _ hcm).mono ?_
      rintro e z1 ⟨p2, l2, m3, l3, r3, o2, vs2, L2, u2, us2, M2, rfl, hq2, hq97, ho, hL, hu, hM, sg⟩
      obtain ⟨oa2, oc2, hoe, _, _⟩ := own_form ho
      subst hoe
      obtain ⟨ua2, uc2, hue, _, _⟩ := own_form hu
      subst hue
      unfold rlV
      generalize hlen2 : L2.length = ln2 at *
      generalize hmen2 : M2.length = mn2 at *
      have hga := (grownBy_alloc z1 (.cells #[.int .i64 l2, .int .i64 m3, .slice oa2 ln2 oc2] 65) none).trans (grownBy_alloc (z1.alloc (.cells #[.int .i64 l2, .int .i64 m3, .slice oa2 ln2 oc2] 65)) (.cells #[.int .i64 l3, .int .i64 r3, .slice ua2 mn2 uc2] 65) none)
      have hsp2 := or2 (p := (p2 : Int)) (l := l2) (r := m3) (l2 := l3) (r2 := r3) (HT.out.grown ((HGW.out.trans (G4.out.trans sg)).trans hga)) (ho.readC.carry hga) (hu.readC.carry hga) hL hM (by omega) (by omega)
      have HX0 := Lib.hid ((HGW.out.trans (G4.out.trans sg)).trans hga)
      have HB20 := Lib.hid fun W (h : ((z1.alloc (.cells #[.int .i64 l2, .int .i64 m3, .slice oa2 ln2 oc2] 65)).alloc (.cells #[.int .i64 l3, .int .i64 r3, .slice ua2 mn2 uc2] 65)).grownBy W none) => And.intro (bx_on (alloc_heap_new z1 (.cells #[.int .i64 l2, .int .i64 m3, .slice oa2 ln2 oc2] 65)) ((grownBy_alloc _ _ none).trans h)) (bx_on (alloc_heap_new (z1.alloc (.cells #[.int .i64 l2, .int .i64 m3, .slice oa2 ln2 oc2] 65)) (.cells #[.int .i64 l3, .int .i64 r3, .slice ua2 mn2 uc2] 65)) h)
      rw [show (z1.alloc (.cells #[.int .i64 l2, .int .i64 m3, .slice oa2 ln2 oc2] 65)).heap.size = z1.heap.size + 1 by simp] at HB20
      go_wp2_with fail
      generalize (z1.alloc (.cells #[.int .i64 l2, .int .i64 m3, .slice oa2 ln2 oc2] 65)).alloc (.cells #[.int .i64 l3, .int .i64 r3, .slice ua2 mn2 uc2] 65) = Z2 at *
      have G20 := Lib.hid (grownBy_refl Z2 none)
      have fb := HB20.out _ (grownBy_refl _ _)
      obtain ⟨y20D0, y20D1, y20D2, _, _, _⟩ := bx3 fb.1
      obtain ⟨y20E0, y20E1, y20E2, _, _, _⟩ := bx3 fb.2
      clear ho hL hu hM sg hga fb hlen2 hmen2 hcm
      rcases hsp2 with hs2 | ⟨q2, a2, b2, ib, U, V, hpq2, hld, hrd, hle, hre, hs2, sU, sV⟩
      · obtain ⟨K1, K2⟩ := hs2
        have K1 := Lib.hid K1; have K2 := Lib.hid K2
        unfold rlV at K1 K2
        go_wp2_with (first
          | (go_at_call 98
             go_loud (with_reducible refine (K1.out _ G20.out).mono ?_)
             rintro e v21 ⟨rfl, g⟩
             have HB21 := Lib.hid fun W (h : v21.grownBy W none) => HB20.out W (g.trans h)
             have G21 := Lib.hid (G20.out.trans g)
             have fb := HB21.out _ (grownBy_refl _ _)
             obtain ⟨y21D0, y21D1, y21D2, _, _, _⟩ := bx3 fb.1
             obtain ⟨y21E0, y21E1, y21E2, _, _, _⟩ := bx3 fb.2
             clear g fb)
          | (go_at_call 99
             go_loud (with_reducible refine (K2.out _ G21.out).mono ?_)
             rintro e v22 ⟨rfl, g⟩
             have HB22 := Lib.hid fun W (h : v22.grownBy W none) => HB21.out W (g.trans h)
             have G22 := Lib.hid (G21.out.trans g)
             have fb := HB22.out _ (grownBy_refl _ _)

             clear g fb))
        go_ret
        exact ⟨rfl, HX0.out.trans G22.out⟩
      · obtain rfl : p2 = q2 := by omega
        subst hld hrd hle hre
        obtain ⟨K1, K2, K3, K4, K5⟩ := hs2
        have K1 := Lib.hid K1; have K2 := Lib.hid K2; have K3 := Lib.hid K3; have K4 := Lib.hid K4; have K5 := Lib.hid K5
        unfold rlV at K1 K2 K3 K4 K5
        clear sU sV
        generalize hlu : U.length = lu at *
        have LU := Lib.hid hlu
        generalize hlv : V.length = lv at *
        have LV := Lib.hid hlv
        clear hlu hlv
        cases ib
        all_goals
          go_wp2_with (first
            | (go_at_call 98
               go_loud (with_reducible refine (K1.out _ G20.out).mono ?_)
               rintro e v21 ⟨rfl, g⟩
               have HB21 := Lib.hid fun W (h : v21.grownBy W none) => HB20.out W (g.trans h)
               have G21 := Lib.hid (G20.out.trans g)
               have fb := HB21.out _ (grownBy_refl _ _)
               obtain ⟨y21D0, y21D1, y21D2, _, _, _⟩ := bx3 fb.1
               obtain ⟨y21E0, y21E1, y21E2, _, _, _⟩ := bx3 fb.2
               clear g fb)
            | (go_at_call 99
               go_loud (with_reducible refine (K2.out _ G21.out).mono ?_)
               rintro e v22 ⟨rfl, g⟩
               have HB22 := Lib.hid fun W (h : v22.grownBy W none) => HB21.out W (g.trans h)
               have G22 := Lib.hid (G21.out.trans g)
               have fb := HB22.out _ (grownBy_refl _ _)
               obtain ⟨y22D0, y22D1, y22D2, _, _, _⟩ := bx3 fb.1
               clear g fb)
            | (go_at_call 95
               go_loud (with_reducible refine (K3.out _ G22.out).mono ?_)
               rintro e v23 ⟨o23, rfl, hm, g⟩
               obtain ⟨xa23, xc23, rfl⟩ := hm.shape
               rw [LU.out] at hm ⊢
               have ga := g.trans (grownBy_alloc v23 (.cells #[.int .i64 a2, .int .i64 b2, .slice xa23 lu xc23] 65) none)
               have HB23 := Lib.hid fun W (h : (v23.alloc (.cells #[.int .i64 a2, .int .i64 b2, .slice xa23 lu xc23] 65)).grownBy W none) => And.intro (bx_on (alloc_heap_new v23 _) h) (And.intro (hm.carry ((grownBy_alloc v23 _ none).trans h)) (HB22.out W (ga.trans h)))
               have G23 := Lib.hid (G22.out.trans ga)
               have fb := HB23.out _ (grownBy_refl _ _)
               obtain ⟨y23E0, y23E1, y23E2, _, _, _⟩ := bx3 fb.2.2.2
               clear hm g ga fb)
            | (go_at_call 95
               go_loud (with_reducible refine (K4.out _ G23.out).mono ?_)
               rintro e v24 ⟨o24, rfl, hm, g⟩
               obtain ⟨xa24, xc24, rfl⟩ := hm.shape
               rw [LV.out] at hm ⊢
               have ga := g.trans (grownBy_alloc v24 (.cells #[.int .i64 a2, .int .i64 b2, .slice xa24 lv xc24] 65) none)
               have HB24 := Lib.hid fun W (h : (v24.alloc (.cells #[.int .i64 a2, .int .i64 b2, .slice xa24 lv xc24] 65)).grownBy W none) => And.intro (bx_on (alloc_heap_new v24 _) h) (And.intro (hm.carry ((grownBy_alloc v24 _ none).trans h)) (HB23.out W (ga.trans h)))
               have G24 := Lib.hid (G23.out.trans ga)
               have fb := HB24.out _ (grownBy_refl _ _)
               obtain ⟨y24V0, y24V1, y24V2, _, _, _⟩ := bx3 fb.1
               obtain ⟨y24U0, y24U1, y24U2, _, _, _⟩ := bx3 fb.2.2.1
               clear hm g ga fb)
            | (go_at_call 98
               go_loud (with_reducible refine (K5.out _ _ _ G24.out (HB24.out _ (grownBy_refl _ _)).2.1 (HB24.out _ (grownBy_refl _ _)).2.2.2.1).mono ?_)
               rintro e v25 ⟨rfl, g⟩
               have HB25 := Lib.hid fun W (h : v25.grownBy W none) => HB24.out W (g.trans h)
               have G25 := Lib.hid (G24.out.trans g)
               have fb := HB25.out _ (grownBy_refl _ _)

               clear g fb))
          go_ret
          exact ⟨rfl, HX0.out.trans G25.out⟩
    · obtain rfl : p = q := by omega
      subst hla hmb
      obtain ⟨H1, H2, H3⟩ := hs
      have H1 := Lib.hid H1; have H2 := Lib.hid H2; have H3 := Lib.hid H3
      unfold rlV at H1 H2 H3
      have SA := Lib.hid sA; have SX := Lib.hid sX
      clear sA sX
      generalize hlx : X.length = lx at *
      have LX := Lib.hid hlx
      have LN := HLEN
      clear hlx
      go_wp2_with (first
        | (go_at_call 95
           go_loud (with_reducible refine (H1.out _ G0.out).mono ?_)
           rintro e v1 ⟨o1, rfl, hm, g⟩
           obtain ⟨xa1, xc1, rfl⟩ := hm.shape
           rw [LX.out] at hm ⊢
           have ga := g.trans (grownBy_alloc v1 (.cells #[.int .i64 a, .int .i64 b, .slice xa1 lx xc1] 65) none)
           have HB1 := Lib.hid fun W (h : (v1.alloc (.cells #[.int .i64 a, .int .i64 b, .slice xa1 lx xc1] 65)).grownBy W none) => And.intro (bx_on (alloc_heap_new v1 _) h) (And.intro (hm.carry ((grownBy_alloc v1 _ none).trans h)) (HB0.out W (ga.trans h)))
           have G1 := Lib.hid (G0.out.trans ga)
           have fb := HB1.out _ (grownBy_refl _ _)
           obtain ⟨y1A0, y1A1, y1A2, _, _, _⟩ := bx3 fb.2.2.1
           clear hm g ga fb)
        | (go_at_call 96
           go_loud (with_reducible refine (H2.out _ G1.out).mono ?_)
           rintro e v2 ⟨o2, rfl, hm, g⟩
           obtain ⟨xa2, xc2, rfl⟩ := hm.shape
           rw [LX.out] at hm ⊢
           have ga := g.trans (grownBy_alloc v2 (.cells #[.int .i64 a, .int .i64 b, .slice xa2 lx xc2] 65) none)
           have HB2 := Lib.hid fun W (h : (v2.alloc (.cells #[.int .i64 a, .int .i64 b, .slice xa2 lx xc2] 65)).grownBy W none) => And.intro (bx_on (alloc_heap_new v2 _) h) (And.intro (hm.carry ((grownBy_alloc v2 _ none).trans h)) (HB1.out W (ga.trans h)))
           have G2 := Lib.hid (G1.out.trans ga)
           have fb := HB2.out _ (grownBy_refl _ _)
           obtain ⟨y2X0, y2X1, y2X2, _, _, _⟩ := bx3 fb.2.2.1
           obtain ⟨y2V0, y2V1, y2V2, _, _, _⟩ := bx3 fb.1
           clear hm g ga fb)
        | (go_at_call 47
           go_loud (with_reducible refine (sameRel_n _ _ _ _ _ ((HB2.out _ (grownBy_refl _ _)).2.2.2.1).v ((HB2.out _ (grownBy_refl _ _)).2.1).v SX.out).mono ?_)
           rintro e v3 ⟨rfl, g⟩
           have HB3 := Lib.hid fun W (h : v3.grownBy W none) => HB2.out W (g.trans h)
           have G3 := Lib.hid (G2.out.trans g)
           have fb := HB3.out _ (grownBy_refl _ _)
           obtain ⟨y3X0, y3X1, y3X2, _, _, _⟩ := bx3 fb.2.2.1
           clear g fb)
        | (go_at_call 95
           go_loud (with_reducible refine (H3.out _ _ G3.out (HB3.out _ (grownBy_refl _ _)).2.2.2.1).mono ?_)
           rintro e v4 ⟨o4, rfl, hm, g⟩
           obtain ⟨xa4, xc4, rfl⟩ := hm.shape
           rw [LN.out] at hm ⊢
           have ga := g.trans (grownBy_alloc v4 (.cells #[.int .i64 a, .int .i64 b, .slice xa4 ln xc4] 65) none)
           have HB4 := Lib.hid fun W (h : (v4.alloc (.cells #[.int .i64 a, .int .i64 b, .slice xa4 ln xc4] 65)).grownBy W none) => And.intro (bx_on (alloc_heap_new v4 _) h) (And.intro (hm.carry ((grownBy_alloc v4 _ none).trans h)) (HB3.out W (ga.trans h)))
           have G4 := Lib.hid (G3.out.trans ga)
           have fb := HB4.out _ (grownBy_refl _ _)
           obtain ⟨y4K0, y4K1, y4K2, _, _, _⟩ := bx3 fb.1
           obtain ⟨y4A0, y4A1, y4A2, _, _, _⟩ := bx3 fb.2.2.2.2.2.2.1
           clear hm g ga fb)
        | (go_at_call 47
           go_loud (with_reducible refine (sameRel_n _ _ _ _ _ ((HB4.out _ (grownBy_refl _ _)).2.1).v (HU.out.carry G4.out).v SA.out).mono ?_)
           rintro e v5 ⟨rfl, g⟩
           have HB5 := Lib.hid fun W (h : v5.grownBy W none) => HB4.out W (g.trans h)
           have G5 := Lib.hid (G4.out.trans g)
           have fb := HB5.out _ (grownBy_refl _ _)
           obtain ⟨y5A0, y5A1, y5A2, _, _, _⟩ := bx3 fb.2.2.2.2.2.2.1
           obtain ⟨y5B0, y5B1, y5B2, _, _, _⟩ := bx3 fb.2.2.2.2.2.2.2
           clear g fb))
      rcases hcn with hcn | ⟨c, Y, CL, Z, hm2, hrc, hcc, sZ⟩
      · unfold CompNo at hcn
        unfold rlV nilS at hcn
        have HCN := Lib.hid hcn
        clear hcn
        go_wp2_with (first
          | (go_at_call 45
             go_loud (with_reducible refine (HCN.out _ G5.out).mono ?_)
             rintro e v6 ⟨rfl, g⟩
             have ga := g.trans (grownBy_alloc v6 (.cells #[.int .i64 0, .int .i64 0, .slice none 0 0] 65) none)
             have HB6 := Lib.hid fun W (h : (v6.alloc (.cells #[.int .i64 0, .int .i64 0, .slice none 0 0] 65)).grownBy W none) => And.intro (bx_on (alloc_heap_new v6 _) h) (And.intro (nil_mat' W) (HB5.out W (ga.trans h)))
             have G6 := Lib.hid (G5.out.trans ga)
             have fb := HB6.out _ (grownBy_refl _ _)

             clear g ga fb))
        have hcm := HM.out.carry (HGW.out.trans G6.out)
        refine (drawIncludesRelation_any _ _ hcm).mono ?_
        rintro e z1 ⟨p2, l2, m3, l3, r3, o2, vs2, L2, u2, us2, M2, rfl, hq2, hq97, ho, hL, hu, hM, sg⟩
        obtain ⟨oa2, oc2, hoe, _, _⟩ := own_form ho
        subst hoe
        obtain ⟨ua2, uc2, hue, _, _⟩ := own_form hu
        subst hue
        unfold rlV
        generalize hlen2 : L2.length = ln2 at *
        generalize hmen2 : M2.length = mn2 at *
        have hga := (grownBy_alloc z1 (.cells #[.int .i64 l2, .int .i64 m3, .slice oa2 ln2 oc2] 65) none).trans (grownBy_alloc (z1.alloc (.cells #[.int .i64 l2, .int .i64 m3, .slice oa2 ln2 oc2] 65)) (.cells #[.int .i64 l3, .int .i64 r3, .slice ua2 mn2 uc2] 65) none)
        have hsp2 := or2 (p := (p2 : Int)) (l := l2) (r := m3) (l2 := l3) (r2 := r3) (HT.out.grown ((HGW.out.trans (G6.out.trans sg)).trans hga)) (ho.readC.carry hga) (hu.readC.carry hga) hL hM (by omega) (by omega)
        have HX0 := Lib.hid ((HGW.out.trans (G6.out.trans sg)).trans hga)
        have HB20 := Lib.hid fun W (h : ((z1.alloc (.cells #[.int .i64 l2, .int .i64 m3, .slice oa2 ln2 oc2] 65)).alloc (.cells #[.int .i64 l3, .int .i64 r3, .slice ua2 mn2 uc2] 65)).grownBy W none) => And.intro (bx_on (alloc_heap_new z1 (.cells #[.int .i64 l2, .int .i64 m3, .slice oa2 ln2 oc2] 65)) ((grownBy_alloc _ _ none).trans h)) (bx_on (alloc_heap_new (z1.alloc (.cells #[.int .i64 l2, .int .i64 m3, .slice oa2 ln2 oc2] 65)) (.cells #[.int .i64 l3, .int .i64 r3, .slice ua2 mn2 uc2] 65)) h)
        rw [show (z1.alloc (.cells #[.int .i64 l2, .int .i64 m3, .slice oa2 ln2 oc2] 65)).heap.size = z1.heap.size + 1 by simp] at HB20
        go_wp2_with fail
        generalize (z1.alloc (.cells #[.int .i64 l2, .int .i64 m3, .slice oa2 ln2 oc2] 65)).alloc (.cells #[.int .i64 l3, .int .i64 r3, .slice ua2 mn2 uc2] 65) = Z2 at *
        have G20 := Lib.hid (grownBy_refl Z2 none)
        have fb := HB20.out _ (grownBy_refl _ _)
        obtain ⟨y20D0, y20D1, y20D2, _, _, _⟩ := bx3 fb.1
        obtain ⟨y20E0, y20E1, y20E2, _, _, _⟩ := bx3 fb.2
        clear ho hL hu hM sg hga fb hlen2 hmen2 hcm
        rcases hsp2 with hs2 | ⟨q2, a2, b2, ib, U, V, hpq2, hld, hrd, hle, hre, hs2, sU, sV⟩
        · obtain ⟨K1, K2⟩ := hs2
          have K1 := Lib.hid K1; have K2 := Lib.hid K2
          unfold rlV at K1 K2
          go_wp2_with (first
            | (go_at_call 98
               go_loud (with_reducible refine (K1.out _ G20.out).mono ?_)
               rintro e v21 ⟨rfl, g⟩
               have HB21 := Lib.hid fun W (h : v21.grownBy W none) => HB20.out W (g.trans h)
               have G21 := Lib.hid (G20.out.trans g)
               have fb := HB21.out _ (grownBy_refl _ _)
               obtain ⟨y21D0, y21D1, y21D2, _, _, _⟩ := bx3 fb.1
               obtain ⟨y21E0, y21E1, y21E2, _, _, _⟩ := bx3 fb.2
               clear g fb)
            | (go_at_call 99
               go_loud (with_reducible refine (K2.out _ G21.out).mono ?_)
               rintro e v22 ⟨rfl, g⟩
               have HB22 := Lib.hid fun W (h : v22.grownBy W none) => HB21.out W (g.trans h)
               have G22 := Lib.hid (G21.out.trans g)
               have fb := HB22.out _ (grownBy_refl _ _)

               clear g fb))
          go_ret
          exact ⟨rfl, HX0.out.trans G22.out⟩
        · obtain rfl : p2 = q2 := by omega
          subst hld hrd hle hre
          obtain ⟨K1, K2, K3, K4, K5⟩ := hs2
          have K1 := Lib.hid K1; have K2 := Lib.hid K2; have K3 := Lib.hid K3; have K4 := Lib.hid K4; have K5 := Lib.hid K5
          unfold rlV at K1 K2 K3 K4 K5
          clear sU sV
          generalize hlu : U.length = lu at *
          have LU := Lib.hid hlu
          generalize hlv : V.length = lv at *
          have LV := Lib.hid hlv
          clear hlu hlv
          cases ib
          all_goals
            go_wp2_with (first
              | (go_at_call 98
                 go_loud (with_reducible refine (K1.out _ G20.out).mono ?_)
                 rintro e v21 ⟨rfl, g⟩
                 have HB21 := Lib.hid fun W (h : v21.grownBy W none) => HB20.out W (g.trans h)
                 have G21 := Lib.hid (G20.out.trans g)
                 have fb := HB21.out _ (grownBy_refl _ _)
                 obtain ⟨y21D0, y21D1, y21D2, _, _, _⟩ := bx3 fb.1
                 obtain ⟨y21E0, y21E1, y21E2, _, _, _⟩ := bx3 fb.2
                 clear g fb)
              | (go_at_call 99
                 go_loud (with_reducible refine (K2.out _ G21.out).mono ?_)
                 rintro e v22 ⟨rfl, g⟩
                 have HB22 := Lib.hid fun W (h : v22.grownBy W none) => HB21.out W (g.trans h)
                 have G22 := Lib.hid (G21.out.trans g)
                 have fb := HB22.out _ (grownBy_refl _ _)
                 obtain ⟨y22D0, y22D1, y22D2, _, _, _⟩ := bx3 fb.1
                 clear g fb)
              | (go_at_call 95
                 go_loud (with_reducible refine (K3.out _ G22.out).mono ?_)
                 rintro e v23 ⟨o23, rfl, hm, g⟩
                 obtain ⟨xa23, xc23, rfl⟩ := hm.shape
                 rw [LU.out] at hm ⊢
                 have ga := g.trans (grownBy_alloc v23 (.cells #[.int .i64 a2, .int .i64 b2, .slice xa23 lu xc23] 65) none)
                 have HB23 := Lib.hid fun W (h : (v23.alloc (.cells #[.int .i64 a2, .int .i64 b2, .slice xa23 lu xc23] 65)).grownBy W none) => And.intro (bx_on (alloc_heap_new v23 _) h) (And.intro (hm.carry ((grownBy_alloc v23 _ none).trans h)) (HB22.out W (ga.trans h)))
                 have G23 := Lib.hid (G22.out.trans ga)
                 have fb := HB23.out _ (grownBy_refl _ _)
                 obtain ⟨y23E0, y23E1, y23E2, _, _, _⟩ := bx3 fb.2.2.2
                 clear hm g ga fb)
              | (go_at_call 95
                 go_loud (with_reducible refine (K4.out _ G23.out).mono ?_)
                 rintro e v24 ⟨o24, rfl, hm, g⟩
                 obtain ⟨xa24, xc24, rfl⟩ := hm.shape
                 rw [LV.out] at hm ⊢
                 have ga := g.trans (grownBy_alloc v24 (.cells #[.int .i64 a2, .int .i64 b2, .slice xa24 lv xc24] 65) none)
                 have HB24 := Lib.hid fun W (h : (v24.alloc (.cells #[.int .i64 a2, .int .i64 b2, .slice xa24 lv xc24] 65)).grownBy W none) => And.intro (bx_on (alloc_heap_new v24 _) h) (And.intro (hm.carry ((grownBy_alloc v24 _ none).trans h)) (HB23.out W (ga.trans h)))
                 have G24 := Lib.hid (G23.out.trans ga)
                 have fb := HB24.out _ (grownBy_refl _ _)
                 obtain ⟨y24V0, y24V1, y24V2, _, _, _⟩ := bx3 fb.1
                 obtain ⟨y24U0, y24U1, y24U2, _, _, _⟩ := bx3 fb.2.2.1
                 clear hm g ga fb)
              | (go_at_call 98
                 go_loud (with_reducible refine (K5.out _ _ _ G24.out (HB24.out _ (grownBy_refl _ _)).2.1 (HB24.out _ (grownBy_refl _ _)).2.2.2.1).mono ?_)
                 rintro e v25 ⟨rfl, g⟩
                 have HB25 := Lib.hid fun W (h : v25.grownBy W none) => HB24.out W (g.trans h)
                 have G25 := Lib.hid (G24.out.trans g)
                 have fb := HB25.out _ (grownBy_refl _ _)

                 clear g fb))
            go_ret
            exact ⟨rfl, HX0.out.trans G25.out⟩
      · subst hm2 hrc
        obtain ⟨H4, H5, H6, H7⟩ := hcc
        have H4 := Lib.hid H4; have H5 := Lib.hid H5; have H6 := Lib.hid H6; have H7 := Lib.hid H7
        unfold rlV at H4 H5 H6 H7
        have SZ := Lib.hid sZ
        clear sZ
        generalize hlc : CL.length = lc at *
        have LC := Lib.hid hlc
        generalize hly : Y.length = ly at *
        have LY := Lib.hid hly
        generalize hlz : Z.length = lz at *
        have LZ := Lib.hid hlz
        clear hlc hly hlz
        go_wp2_with (first
          | (go_at_call 45
             go_loud (with_reducible refine (H4.out _ G5.out).mono ?_)
             rintro e v6 ⟨o6, rfl, hm, g⟩
             obtain ⟨xa6, xc6, rfl⟩ := hm.shape
             rw [LC.out] at hm ⊢
             have ga := g.trans (grownBy_alloc v6 (.cells #[.int .i64 a, .int .i64 c, .slice xa6 lc xc6] 65) none)
             have HB6 := Lib.hid fun W (h : (v6.alloc (.cells #[.int .i64 a, .int .i64 c, .slice xa6 lc xc6] 65)).grownBy W none) => And.intro (bx_on (alloc_heap_new v6 _) h) (And.intro (hm.carry ((grownBy_alloc v6 _ none).trans h)) (HB5.out W (ga.trans h)))
             have G6 := Lib.hid (G5.out.trans ga)
             have fb := HB6.out _ (grownBy_refl _ _)
             obtain ⟨y6B0, y6B1, y6B2, _, _, _⟩ := bx3 fb.2.2.2.2.2.2.2.2.2
             clear hm g ga fb)
          | (go_at_call 95
             go_loud (with_reducible refine (H5.out _ G6.out).mono ?_)
             rintro e v7 ⟨o7, rfl, hm, g⟩
             obtain ⟨xa7, xc7, rfl⟩ := hm.shape
             rw [LY.out] at hm ⊢
             have ga := g.trans (grownBy_alloc v7 (.cells #[.int .i64 b, .int .i64 c, .slice xa7 ly xc7] 65) none)
             have HB7 := Lib.hid fun W (h : (v7.alloc (.cells #[.int .i64 b, .int .i64 c, .slice xa7 ly xc7] 65)).grownBy W none) => And.intro (bx_on (alloc_heap_new v7 _) h) (And.intro (hm.carry ((grownBy_alloc v7 _ none).trans h)) (HB6.out W (ga.trans h)))
             have G7 := Lib.hid (G6.out.trans ga)
             have fb := HB7.out _ (grownBy_refl _ _)
             obtain ⟨y7X0, y7X1, y7X2, _, _, _⟩ := bx3 fb.2.2.2.2.2.2.2.2.1
             obtain ⟨y7Y0, y7Y1, y7Y2, _, _, _⟩ := bx3 fb.1
             clear hm g ga fb)
          | (go_at_call 45
             go_loud (with_reducible refine (H6.out _ _ _ G7.out (HB7.out _ (grownBy_refl _ _)).2.2.2.2.2.2.2.2.2.1 (HB7.out _ (grownBy_refl _ _)).2.1).mono ?_)
             rintro e v8 ⟨o8, rfl, hm, g⟩
             obtain ⟨xa8, xc8, rfl⟩ := hm.shape
             rw [LZ.out] at hm ⊢
             have ga := g.trans (grownBy_alloc v8 (.cells #[.int .i64 a, .int .i64 c, .slice xa8 lz xc8] 65) none)
             have HB8 := Lib.hid fun W (h : (v8.alloc (.cells #[.int .i64 a, .int .i64 c, .slice xa8 lz xc8] 65)).grownBy W none) => And.intro (bx_on (alloc_heap_new v8 _) h) (And.intro (hm.carry ((grownBy_alloc v8 _ none).trans h)) (HB7.out W (ga.trans h)))
             have G8 := Lib.hid (G7.out.trans ga)
             have fb := HB8.out _ (grownBy_refl _ _)
             obtain ⟨y8C0, y8C1, y8C2, _, _, _⟩ := bx3 fb.2.2.2.2.1
             clear hm g ga fb)
          | (go_at_call 95
             go_loud (with_reducible refine (H7.out _ _ G8.out (HB8.out _ (grownBy_refl _ _)).2.2.2.2.2.1).mono ?_)
             rintro e v9 ⟨o9, rfl, hm, g⟩
             obtain ⟨xa9, xc9, rfl⟩ := hm.shape
             rw [LZ.out] at hm ⊢
             have ga := g.trans (grownBy_alloc v9 (.cells #[.int .i64 a, .int .i64 c, .slice xa9 lz xc9] 65) none)
             have HB9 := Lib.hid fun W (h : (v9.alloc (.cells #[.int .i64 a, .int .i64 c, .slice xa9 lz xc9] 65)).grownBy W none) => And.intro (bx_on (alloc_heap_new v9 _) h) (And.intro (hm.carry ((grownBy_alloc v9 _ none).trans h)) (HB8.out W (ga.trans h)))
             have G9 := Lib.hid (G8.out.trans ga)
             have fb := HB9.out _ (grownBy_refl _ _)
             obtain ⟨y9Z0, y9Z1, y9Z2, _, _, _⟩ := bx3 fb.2.2.1
             obtain ⟨y9T0, y9T1, y9T2, _, _, _⟩ := bx3 fb.1
             clear hm g ga fb)
          | (go_at_call 47
             go_loud (with_reducible refine (sameRel_n _ _ _ _ _ ((HB9.out _ (grownBy_refl _ _)).2.2.2.1).v ((HB9.out _ (grownBy_refl _ _)).2.1).v SZ.out).mono ?_)
             rintro e v10 ⟨rfl, g⟩
             have HB10 := Lib.hid fun W (h : v10.grownBy W none) => HB9.out W (g.trans h)
             have G10 := Lib.hid (G9.out.trans g)
             have fb := HB10.out _ (grownBy_refl _ _)

             clear g fb))
        have hcm := HM.out.carry (HGW.out.trans G10.out)
        refine (drawIncludesRelation_any _ _ hcm).mono ?_
        rintro e z1 ⟨p2, l2, m3, l3, r3, o2, vs2, L2, u2, us2, M2, rfl, hq2, hq97, ho, hL, hu, hM, sg⟩
        obtain ⟨oa2, oc2, hoe, _, _⟩ := own_form ho
        subst hoe
        obtain ⟨ua2, uc2, hue, _, _⟩ := own_form hu
        subst hue
        unfold rlV
        generalize hlen2 : L2.length = ln2 at *
        generalize hmen2 : M2.length = mn2 at *
        have hga := (grownBy_alloc z1 (.cells #[.int .i64 l2, .int .i64 m3, .slice oa2 ln2 oc2] 65) none).trans (grownBy_alloc (z1.alloc (.cells #[.int .i64 l2, .int .i64 m3, .slice oa2 ln2 oc2] 65)) (.cells #[.int .i64 l3, .int .i64 r3, .slice ua2 mn2 uc2] 65) none)
        have hsp2 := or2 (p := (p2 : Int)) (l := l2) (r := m3) (l2 := l3) (r2 := r3) (HT.out.grown ((HGW.out.trans (G10.out.trans sg)).trans hga)) (ho.readC.carry hga) (hu.readC.carry hga) hL hM (by omega) (by omega)
        have HX0 := Lib.hid ((HGW.out.trans (G10.out.trans sg)).trans hga)
        have HB20 := Lib.hid fun W (h : ((z1.alloc (.cells #[.int .i64 l2, .int .i64 m3, .slice oa2 ln2 oc2] 65)).alloc (.cells #[.int .i64 l3, .int .i64 r3, .slice ua2 mn2 uc2] 65)).grownBy W none) => And.intro (bx_on (alloc_heap_new z1 (.cells #[.int .i64 l2, .int .i64 m3, .slice oa2 ln2 oc2] 65)) ((grownBy_alloc _ _ none).trans h)) (bx_on (alloc_heap_new (z1.alloc (.cells #[.int .i64 l2, .int .i64 m3, .slice oa2 ln2 oc2] 65)) (.cells #[.int .i64 l3, .int .i64 r3, .slice ua2 mn2 uc2] 65)) h)
        rw [show (z1.alloc (.cells #[.int .i64 l2, .int .i64 m3, .slice oa2 ln2 oc2] 65)).heap.size = z1.heap.size + 1 by simp] at HB20
        go_wp2_with fail
        generalize (z1.alloc (.cells #[.int .i64 l2, .int .i64 m3, .slice oa2 ln2 oc2] 65)).alloc (.cells #[.int .i64 l3, .int .i64 r3, .slice ua2 mn2 uc2] 65) = Z2 at *
        have G20 := Lib.hid (grownBy_refl Z2 none)
        have fb := HB20.out _ (grownBy_refl _ _)
        obtain ⟨y20D0, y20D1, y20D2, _, _, _⟩ := bx3 fb.1
        obtain ⟨y20E0, y20E1, y20E2, _, _, _⟩ := bx3 fb.2
        clear ho hL hu hM sg hga fb hlen2 hmen2 hcm
        rcases hsp2 with hs2 | ⟨q2, a2, b2, ib, U, V, hpq2, hld, hrd, hle, hre, hs2, sU, sV⟩
        · obtain ⟨K1, K2⟩ := hs2
          have K1 := Lib.hid K1; have K2 := Lib.hid K2
          unfold rlV at K1 K2
          go_wp2_with (first
            | (go_at_call 98
               go_loud (with_reducible refine (K1.out _ G20.out).mono ?_)
               rintro e v21 ⟨rfl, g⟩
               have HB21 := Lib.hid fun W (h : v21.grownBy W none) => HB20.out W (g.trans h)
               have G21 := Lib.hid (G20.out.trans g)
               have fb := HB21.out _ (grownBy_refl _ _)
               obtain ⟨y21D0, y21D1, y21D2, _, _, _⟩ := bx3 fb.1
               obtain ⟨y21E0, y21E1, y21E2, _, _, _⟩ := bx3 fb.2
               clear g fb)
            | (go_at_call 99
               go_loud (with_reducible refine (K2.out _ G21.out).mono ?_)
               rintro e v22 ⟨rfl, g⟩
               have HB22 := Lib.hid fun W (h : v22.grownBy W none) => HB21.out W (g.trans h)
               have G22 := Lib.hid (G21.out.trans g)
               have fb := HB22.out _ (grownBy_refl _ _)

               clear g fb))
          go_ret
          exact ⟨rfl, HX0.out.trans G22.out⟩
        · obtain rfl : p2 = q2 := by omega
          subst hld hrd hle hre
          obtain ⟨K1, K2, K3, K4, K5⟩ := hs2
          have K1 := Lib.hid K1; have K2 := Lib.hid K2; have K3 := Lib.hid K3; have K4 := Lib.hid K4; have K5 := Lib.hid K5
          unfold rlV at K1 K2 K3 K4 K5
          clear sU sV
          generalize hlu : U.length = lu at *
          have LU := Lib.hid hlu
          generalize hlv : V.length = lv at *
          have LV := Lib.hid hlv
          clear hlu hlv
          cases ib
          all_goals
            go_wp2_with (first
              | (go_at_call 98
                 go_loud (with_reducible refine (K1.out _ G20.out).mono ?_)
                 rintro e v21 ⟨rfl, g⟩
                 have HB21 := Lib.hid fun W (h : v21.grownBy W none) => HB20.out W (g.trans h)
                 have G21 := Lib.hid (G20.out.trans g)
                 have fb := HB21.out _ (grownBy_refl _ _)
                 obtain ⟨y21D0, y21D1, y21D2, _, _, _⟩ := bx3 fb.1
                 obtain ⟨y21E0, y21E1, y21E2, _, _, _⟩ := bx3 fb.2
                 clear g fb)
              | (go_at_call 99
                 go_loud (with_reducible refine (K2.out _ G21.out).mono ?_)
                 rintro e v22 ⟨rfl, g⟩
                 have HB22 := Lib.hid fun W (h : v22.grownBy W none) => HB21.out W (g.trans h)
                 have G22 := Lib.hid (G21.out.trans g)
                 have fb := HB22.out _ (grownBy_refl _ _)
                 obtain ⟨y22D0, y22D1, y22D2, _, _, _⟩ := bx3 fb.1
                 clear g fb)
              | (go_at_call 95
                 go_loud (with_reducible refine (K3.out _ G22.out).mono ?_)
                 rintro e v23 ⟨o23, rfl, hm, g⟩
                 obtain ⟨xa23, xc23, rfl⟩ := hm.shape
                 rw [LU.out] at hm ⊢
                 have ga := g.trans (grownBy_alloc v23 (.cells #[.int .i64 a2, .int .i64 b2, .slice xa23 lu xc23] 65) none)
                 have HB23 := Lib.hid fun W (h : (v23.alloc (.cells #[.int .i64 a2, .int .i64 b2, .slice xa23 lu xc23] 65)).grownBy W none) => And.intro (bx_on (alloc_heap_new v23 _) h) (And.intro (hm.carry ((grownBy_alloc v23 _ none).trans h)) (HB22.out W (ga.trans h)))
                 have G23 := Lib.hid (G22.out.trans ga)
                 have fb := HB23.out _ (grownBy_refl _ _)
                 obtain ⟨y23E0, y23E1, y23E2, _, _, _⟩ := bx3 fb.2.2.2
                 clear hm g ga fb)
              | (go_at_call 95
                 go_loud (with_reducible refine (K4.out _ G23.out).mono ?_)
                 rintro e v24 ⟨o24, rfl, hm, g⟩
                 obtain ⟨xa24, xc24, rfl⟩ := hm.shape
                 rw [LV.out] at hm ⊢
                 have ga := g.trans (grownBy_alloc v24 (.cells #[.int .i64 a2, .int .i64 b2, .slice xa24 lv xc24] 65) none)
                 have HB24 := Lib.hid fun W (h : (v24.alloc (.cells #[.int .i64 a2, .int .i64 b2, .slice xa24 lv xc24] 65)).grownBy W none) => And.intro (bx_on (alloc_heap_new v24 _) h) (And.intro (hm.carry ((grownBy_alloc v24 _ none).trans h)) (HB23.out W (ga.trans h)))
                 have G24 := Lib.hid (G23.out.trans ga)
                 have fb := HB24.out _ (grownBy_refl _ _)
                 obtain ⟨y24V0, y24V1, y24V2, _, _, _⟩ := bx3 fb.1
                 obtain ⟨y24U0, y24U1, y24U2, _, _, _⟩ := bx3 fb.2.2.1
                 clear hm g ga fb)
              | (go_at_call 98
                 go_loud (with_reducible refine (K5.out _ _ _ G24.out (HB24.out _ (grownBy_refl _ _)).2.1 (HB24.out _ (grownBy_refl _ _)).2.2.2.1).mono ?_)
                 rintro e v25 ⟨rfl, g⟩
                 have HB25 := Lib.hid fun W (h : v25.grownBy W none) => HB24.out W (g.trans h)
                 have G25 := Lib.hid (G24.out.trans g)
                 have fb := HB25.out _ (grownBy_refl _ _)

                 clear g fb))
            go_ret
            exact ⟨rfl, HX0.out.trans G25.out⟩
end Go.Proofs.YtpeaeminjbjlnaaDoor

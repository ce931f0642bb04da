/-
  The law on relations: its walk. Conditions: both arguments read as bytes; the table of small primes holds what its text lays.
-/
import Derived.Test.YtpeaeminjbjlnaaDoorMr01
import Derived.Test.YtpeaeminjbjlnaaDoorMr04
import Derived.Test.YtpeaeminjbjlnaaDoorMv15
import Derived.Deep.CutRange
namespace Go.Proofs.YtpeaeminjbjlnaaDoor
open Go.RowKit
set_option linter.unusedVariables false

theorem Sep.three {w : World} {l : List Asrt} {b : Nat} {x y z : Value} {t : TypeId} (h : Sep w (BxA b #[x, y, z] t :: l)) (x' y' z' : Value) : Sep (((w.setCell ⟨b, 0, none⟩ x').setCell ⟨b, 1, none⟩ y').setCell ⟨b, 2, none⟩ z') (BxA b #[x', y', z'] t :: l) := ((h.setB 0 x').setB 1 y').setB 2 z'
set_option maxRecDepth 100000 in
set_option maxHeartbeats 40000000 in
theorem fnRelations_any (cv mv : Value) (w : World) (hc : CodeRaw w cv) (hm : CodeRaw w mv) (ht : Tab w) : Calls Tryd.prog 6 #[cv, mv] w (Gives (.bool true) w) := by
  have HT := Lib.hid ht
  obtain ⟨a1, l1, c1, rfl, hl1, hx1⟩ := hc
  obtain ⟨a2, l2, c2, rfl, hl2, hx2⟩ := hm
  have HX1 := Lib.hid hx1
  have HX2 := Lib.hid hx2
  clear ht hx1 hx2
  cases hbig : bigB l1 l2
  case true =>
    go_enter Tryd.func6, Tryd.ntmps6
    go_wp2_with (go_at_call 13; refine (big_any _ _ _ _ _ _ _ hl1 hl2).mono ?_; rintro e w' ⟨rfl, rfl⟩)
    go_ret
    exact ⟨rfl, grownBy_refl _ _⟩
  case false =>
    obtain ⟨b1, b2⟩ := bigB_no hbig
    have HC := Lib.hid (show CodeAt w (.slice a1 l1 c1) from ⟨a1, l1, c1, rfl, by omega, HX1.out⟩)
    have HM := Lib.hid (show CodeAt w (.slice a2 l2 c2) from ⟨a2, l2, c2, rfl, by omega, HX2.out⟩)
    clear b1 b2
    go_enter Tryd.func6, Tryd.ntmps6
    go_wp2_with fail
    refine (big_any _ _ _ _ _ _ _ hl1 hl2).mono ?_
    rintro e w' ⟨rfl, rfl⟩
    go_wp2_with fail
    refine (drawComposeRelations_any _ _ HC.out).mono ?_
    rintro e w1 ⟨p, l, m, m2, r, o, vs, L, u, us, M, rfl, hp2, hp97, ho, hL, hu, hM, g1⟩
    obtain ⟨oa, oc, hoe, _, _⟩ := own_form ho
    subst hoe
    obtain ⟨ua, uc, hue, _, _⟩ := own_form hu
    subst hue
    unfold rlV
    generalize hlen : L.length = ln at *
    generalize hmen : M.length = mn at *
    have hga := (grownBy_alloc w1 (.cells #[.int .i64 l, .int .i64 m, .slice oa ln oc] 65) none).trans (grownBy_alloc (w1.alloc (.cells #[.int .i64 l, .int .i64 m, .slice oa ln oc] 65)) (.cells #[.int .i64 m2, .int .i64 r, .slice ua mn uc] 65) none)
    have hsp := rl1 (p := (p : Int)) (l := l) (m := m) (m2 := m2) (r := r) (HT.out.grown (g1.trans hga)) (ho.readC.carry hga) (hu.readC.carry hga) hL hM (by omega) (by omega)
    have hou := ho.readC.carry hga
    have HU := Lib.hid hou
    have HGW := Lib.hid (g1.trans hga)
    have HB0 := Lib.hid fun W (h : ((w1.alloc (.cells #[.int .i64 l, .int .i64 m, .slice oa ln oc] 65)).alloc (.cells #[.int .i64 m2, .int .i64 r, .slice ua mn uc] 65)).grownBy W none) => And.intro (bx_on (alloc_heap_new w1 (.cells #[.int .i64 l, .int .i64 m, .slice oa ln oc] 65)) ((grownBy_alloc _ _ none).trans h)) (bx_on (alloc_heap_new (w1.alloc (.cells #[.int .i64 l, .int .i64 m, .slice oa ln oc] 65)) (.cells #[.int .i64 m2, .int .i64 r, .slice ua mn uc] 65)) h)
    rw [show (w1.alloc (.cells #[.int .i64 l, .int .i64 m, .slice oa ln oc] 65)).heap.size = w1.heap.size + 1 by simp] at HB0
    go_wp2_with fail
    generalize (w1.alloc (.cells #[.int .i64 l, .int .i64 m, .slice oa ln oc] 65)).alloc (.cells #[.int .i64 m2, .int .i64 r, .slice ua mn uc] 65) = W2 at *
    have G0 := Lib.hid (grownBy_refl W2 none)
    have fb := HB0.out _ (grownBy_refl _ _)
    obtain ⟨y0A0, y0A1, y0A2, _, _, _⟩ := bx3 fb.1
    obtain ⟨y0B0, y0B1, y0B2, _, _, _⟩ := bx3 fb.2
    have HLEN := Lib.hid hlen; have HMEN := Lib.hid hmen
    clear ho hL hu hM g1 hga fb hlen hmen hou
    rcases hsp with hs | ⟨q, a, b, c, CL, X, Y, Z, hpq, hla, hmb, hmb2, hrc, hs, sA, sCL, sZ, sY, ha24⟩
    · obtain ⟨H1, H2⟩ := hs
      have H1 := Lib.hid H1; have H2 := Lib.hid H2
      unfold rlV nilS at H1 H2
      go_wp2_with (first
        | (go_at_call 45
           go_loud (with_reducible refine (H1.out _ G0.out).mono ?_)
           rintro e v1 ⟨rfl, g⟩
           have ga := g.trans (grownBy_alloc v1 (.cells #[.int .i64 0, .int .i64 0, .slice none 0 0] 65) none)
           have HB1 := Lib.hid fun W (h : (v1.alloc (.cells #[.int .i64 0, .int .i64 0, .slice none 0 0] 65)).grownBy W none) => And.intro (bx_on (alloc_heap_new v1 _) h) (And.intro (nil_mat' W) (HB0.out W (ga.trans h)))
           have G1 := Lib.hid (G0.out.trans ga)
           have fb := HB1.out _ (grownBy_refl _ _)
           obtain ⟨y1A0, y1A1, y1A2, _, _, _⟩ := bx3 fb.2.2.1
           obtain ⟨y1B0, y1B1, y1B2, _, _, _⟩ := bx3 fb.2.2.2
           clear g ga fb)
        | (go_at_call 46
           go_loud (with_reducible refine (H2.out _ G1.out).mono ?_)
           rintro e v2 ⟨rfl, g⟩
           have ga := g.trans (grownBy_alloc v2 (.cells #[.int .i64 0, .int .i64 0, .slice none 0 0] 65) none)
           have HB2 := Lib.hid fun W (h : (v2.alloc (.cells #[.int .i64 0, .int .i64 0, .slice none 0 0] 65)).grownBy W none) => And.intro (bx_on (alloc_heap_new v2 _) h) (And.intro (nil_mat' W) (HB1.out W (ga.trans h)))
           have G2 := Lib.hid (G1.out.trans ga)
           have fb := HB2.out _ (grownBy_refl _ _)
           obtain ⟨y2C0, y2C1, y2C2, _, _, _⟩ := bx3 fb.2.2.1
           obtain ⟨y2V0, y2V1, y2V2, _, _, _⟩ := bx3 fb.1
           clear g ga fb)
        | (go_at_call 47
           go_loud (with_reducible refine (sameRel_nil _).mono ?_)
           rintro e v3 ⟨rfl, g⟩
           have HB3 := Lib.hid fun W (h : v3.grownBy W none) => HB2.out W (g.trans h)
           have G3 := Lib.hid (G2.out.trans g)
           have fb := HB3.out _ (grownBy_refl _ _)

           clear g fb))
      go_ret
      exact ⟨rfl, HGW.out.trans G3.out⟩
    · obtain rfl : p = q := by omega
      subst hla hmb hmb2 hrc
      obtain ⟨H1, H2, H3, H4, H5, H6, H7, H8⟩ := hs
      have H1 := Lib.hid H1; have H2 := Lib.hid H2; have H3 := Lib.hid H3; have H4 := Lib.hid H4; have H5 := Lib.hid H5; have H6 := Lib.hid H6; have H7 := Lib.hid H7; have H8 := Lib.hid H8
      unfold rlV at H1 H2 H3 H4 H5 H6 H7
      have SA := Lib.hid sA; have SCL := Lib.hid sCL; have SZ := Lib.hid sZ; have SY := Lib.hid sY
      clear sA sCL sZ sY
      generalize hlc : CL.length = lc at *
      have LC := Lib.hid hlc
      generalize hlx : X.length = lx at *
      have LX := Lib.hid hlx
      generalize hly : Y.length = ly at *
      have LY := Lib.hid hly
      generalize hlz : Z.length = lz at *
      have LZ := Lib.hid hlz
      have LN := HLEN
      clear hlc hlx hly hlz
      go_wp2_with (first
        | (go_at_call 45
           go_loud (with_reducible refine (H1.out _ G0.out).mono ?_)
           rintro e v1 ⟨o1, rfl, hm, g⟩
           obtain ⟨xa1, xc1, rfl⟩ := hm.shape
           rw [LC.out] at hm ⊢
           have ga := g.trans (grownBy_alloc v1 (.cells #[.int .i64 a, .int .i64 c, .slice xa1 lc xc1] 65) none)
           have HB1 := Lib.hid fun W (h : (v1.alloc (.cells #[.int .i64 a, .int .i64 c, .slice xa1 lc xc1] 65)).grownBy W none) => And.intro (bx_on (alloc_heap_new v1 _) h) (And.intro (hm.carry ((grownBy_alloc v1 _ none).trans h)) (HB0.out W (ga.trans h)))
           have G1 := Lib.hid (G0.out.trans ga)
           have fb := HB1.out _ (grownBy_refl _ _)
           obtain ⟨y1A0, y1A1, y1A2, _, _, _⟩ := bx3 fb.2.2.1
           obtain ⟨y1B0, y1B1, y1B2, _, _, _⟩ := bx3 fb.2.2.2
           clear hm g ga fb)
        | (go_at_call 46
           go_loud (with_reducible refine (H2.out _ G1.out).mono ?_)
           rintro e v2 ⟨o2, rfl, hm, g⟩
           obtain ⟨xa2, xc2, rfl⟩ := hm.shape
           rw [LC.out] at hm ⊢
           have ga := g.trans (grownBy_alloc v2 (.cells #[.int .i64 a, .int .i64 c, .slice xa2 lc xc2] 65) none)
           have HB2 := Lib.hid fun W (h : (v2.alloc (.cells #[.int .i64 a, .int .i64 c, .slice xa2 lc xc2] 65)).grownBy W none) => And.intro (bx_on (alloc_heap_new v2 _) h) (And.intro (hm.carry ((grownBy_alloc v2 _ none).trans h)) (HB1.out W (ga.trans h)))
           have G2 := Lib.hid (G1.out.trans ga)
           have fb := HB2.out _ (grownBy_refl _ _)
           obtain ⟨y2C0, y2C1, y2C2, _, _, _⟩ := bx3 fb.2.2.1
           obtain ⟨y2V0, y2V1, y2V2, _, _, _⟩ := bx3 fb.1
           clear hm g ga fb)
        | (go_at_call 47
           go_loud (with_reducible refine (sameRel_n _ _ _ _ _ ((HB2.out _ (grownBy_refl _ _)).2.2.2.1).v ((HB2.out _ (grownBy_refl _ _)).2.1).v SCL.out).mono ?_)
           rintro e v3 ⟨rfl, g⟩
           have HB3 := Lib.hid fun W (h : v3.grownBy W none) => HB2.out W (g.trans h)
           have G3 := Lib.hid (G2.out.trans g)
           have fb := HB3.out _ (grownBy_refl _ _)
           obtain ⟨y3A0, y3A1, y3A2, _, _, _⟩ := bx3 fb.2.2.2.2.1
           clear g fb)
        | (go_at_call 48
           go_loud (with_reducible refine (H3.out _ G3.out).mono ?_)
           rintro e v4 ⟨o4, rfl, hm, g⟩
           obtain ⟨xa4, xc4, rfl⟩ := hm.shape
           rw [LX.out] at hm ⊢
           have ga := g.trans (grownBy_alloc v4 (.cells #[.int .i64 b, .int .i64 a, .slice xa4 lx xc4] 65) none)
           have HB4 := Lib.hid fun W (h : (v4.alloc (.cells #[.int .i64 b, .int .i64 a, .slice xa4 lx xc4] 65)).grownBy W none) => And.intro (bx_on (alloc_heap_new v4 _) h) (And.intro (hm.carry ((grownBy_alloc v4 _ none).trans h)) (HB3.out W (ga.trans h)))
           have G4 := Lib.hid (G3.out.trans ga)
           have fb := HB4.out _ (grownBy_refl _ _)
           obtain ⟨y4B0, y4B1, y4B2, _, _, _⟩ := bx3 fb.2.2.2.2.2.2.2
           clear hm g ga fb)
        | (go_at_call 48
           go_loud (with_reducible refine (H4.out _ G4.out).mono ?_)
           rintro e v5 ⟨o5, rfl, hm, g⟩
           obtain ⟨xa5, xc5, rfl⟩ := hm.shape
           rw [LY.out] at hm ⊢
           have ga := g.trans (grownBy_alloc v5 (.cells #[.int .i64 c, .int .i64 b, .slice xa5 ly xc5] 65) none)
           have HB5 := Lib.hid fun W (h : (v5.alloc (.cells #[.int .i64 c, .int .i64 b, .slice xa5 ly xc5] 65)).grownBy W none) => And.intro (bx_on (alloc_heap_new v5 _) h) (And.intro (hm.carry ((grownBy_alloc v5 _ none).trans h)) (HB4.out W (ga.trans h)))
           have G5 := Lib.hid (G4.out.trans ga)
           have fb := HB5.out _ (grownBy_refl _ _)
           obtain ⟨y5Y0, y5Y1, y5Y2, _, _, _⟩ := bx3 fb.1
           obtain ⟨y5X0, y5X1, y5X2, _, _, _⟩ := bx3 fb.2.2.1
           clear hm g ga fb)
        | (go_at_call 45
           go_loud (with_reducible refine (H5.out _ _ _ G5.out (HB5.out _ (grownBy_refl _ _)).2.1 (HB5.out _ (grownBy_refl _ _)).2.2.2.1).mono ?_)
           rintro e v6 ⟨o6, rfl, hm, g⟩
           obtain ⟨xa6, xc6, rfl⟩ := hm.shape
           rw [LZ.out] at hm ⊢
           have ga := g.trans (grownBy_alloc v6 (.cells #[.int .i64 c, .int .i64 a, .slice xa6 lz xc6] 65) none)
           have HB6 := Lib.hid fun W (h : (v6.alloc (.cells #[.int .i64 c, .int .i64 a, .slice xa6 lz xc6] 65)).grownBy W none) => And.intro (bx_on (alloc_heap_new v6 _) h) (And.intro (hm.carry ((grownBy_alloc v6 _ none).trans h)) (HB5.out W (ga.trans h)))
           have G6 := Lib.hid (G5.out.trans ga)
           have fb := HB6.out _ (grownBy_refl _ _)
           obtain ⟨y6C0, y6C1, y6C2, _, _, _⟩ := bx3 fb.2.2.2.2.2.2.2.2.1
           clear hm g ga fb)
        | (go_at_call 48
           go_loud (with_reducible refine (H6.out _ _ G6.out (HB6.out _ (grownBy_refl _ _)).2.2.2.2.2.2.2.2.2.1).mono ?_)
           rintro e v7 ⟨o7, rfl, hm, g⟩
           obtain ⟨xa7, xc7, rfl⟩ := hm.shape
           rw [LZ.out] at hm ⊢
           have ga := g.trans (grownBy_alloc v7 (.cells #[.int .i64 c, .int .i64 a, .slice xa7 lz xc7] 65) none)
           have HB7 := Lib.hid fun W (h : (v7.alloc (.cells #[.int .i64 c, .int .i64 a, .slice xa7 lz xc7] 65)).grownBy W none) => And.intro (bx_on (alloc_heap_new v7 _) h) (And.intro (hm.carry ((grownBy_alloc v7 _ none).trans h)) (HB6.out W (ga.trans h)))
           have G7 := Lib.hid (G6.out.trans ga)
           have fb := HB7.out _ (grownBy_refl _ _)
           obtain ⟨y7Z0, y7Z1, y7Z2, _, _, _⟩ := bx3 fb.2.2.1
           obtain ⟨y7T0, y7T1, y7T2, _, _, _⟩ := bx3 fb.1
           clear hm g ga fb))
      go_loud (with_reducible refine (sameRel_n _ _ _ _ _ ((HB7.out _ (grownBy_refl _ _)).2.2.2.1).v ((HB7.out _ (grownBy_refl _ _)).2.1).v SZ.out).mono ?_)
      rintro e v8 ⟨rfl, g⟩
      have HB8 := Lib.hid fun W (h : v8.grownBy W none) => HB7.out W (g.trans h)
      have G8 := Lib.hid (G7.out.trans g)
      have fb := HB8.out _ (grownBy_refl _ _)
      obtain ⟨y8A0, y8A1, y8A2, _, _, _⟩ := bx3 fb.2.2.2.2.2.2.2.2.2.2.2.2.1
      clear g fb
      by_cases hl24 : a + a ≤ 24
      · have hle : 2 * (a : Int) ≤ 24 := by omega
        have LI := Lib.hid (idRel_len a)
        go_wp2_with (first
          | (go_at_call 49
             go_loud (with_reducible refine (identityRelation_yes a v8 hl24).mono ?_)
             rintro e v9 ⟨o9, vs9, rfl, hm, g⟩
             unfold rlV
             have hm := hm.readC
             obtain ⟨xa9, xc9, rfl⟩ := hm.shape
             rw [LI.out] at hm ⊢
             have ga := g.trans (grownBy_alloc v9 (.cells #[.int .i64 a, .int .i64 a, .slice xa9 a xc9] 65) none)
             have HB9 := Lib.hid fun W (h : (v9.alloc (.cells #[.int .i64 a, .int .i64 a, .slice xa9 a xc9] 65)).grownBy W none) => And.intro (bx_on (alloc_heap_new v9 _) h) (And.intro (hm.carry ((grownBy_alloc v9 _ none).trans h)) (HB8.out W (ga.trans h)))
             have G9 := Lib.hid (G8.out.trans ga)
             have fb := HB9.out _ (grownBy_refl _ _)
             obtain ⟨y9I0, y9I1, y9I2, _, _, _⟩ := bx3 fb.1
             obtain ⟨y9A0, y9A1, y9A2, _, _, _⟩ := bx3 fb.2.2.2.2.2.2.2.2.2.2.2.2.2.2.1
             clear hm g ga fb)
          | (go_at_call 45
             go_loud (with_reducible refine (H7.out hl24 _ _ G9.out (HB9.out _ (grownBy_refl _ _)).2.1).mono ?_)
             rintro e v10 ⟨o10, rfl, hm, g⟩
             obtain ⟨xa10, xc10, rfl⟩ := hm.shape
             rw [LN.out] at hm ⊢
             have ga := g.trans (grownBy_alloc v10 (.cells #[.int .i64 a, .int .i64 b, .slice xa10 ln xc10] 65) none)
             have HB10 := Lib.hid fun W (h : (v10.alloc (.cells #[.int .i64 a, .int .i64 b, .slice xa10 ln xc10] 65)).grownBy W none) => And.intro (bx_on (alloc_heap_new v10 _) h) (And.intro (hm.carry ((grownBy_alloc v10 _ none).trans h)) (HB9.out W (ga.trans h)))
             have G10 := Lib.hid (G9.out.trans ga)
             have fb := HB10.out _ (grownBy_refl _ _)
             obtain ⟨y10S0, y10S1, y10S2, _, _, _⟩ := bx3 fb.1
             obtain ⟨y10A0, y10A1, y10A2, _, _, _⟩ := bx3 fb.2.2.2.2.2.2.2.2.2.2.2.2.2.2.2.2.1
             clear hm g ga fb)
          | (go_at_call 47
             go_loud (with_reducible refine (sameRel_n _ _ _ _ _ ((HB10.out _ (grownBy_refl _ _)).2.1).v (HU.out.carry G10.out).v SA.out).mono ?_)
             rintro e v11 ⟨rfl, g⟩
             have HB11 := Lib.hid fun W (h : v11.grownBy W none) => HB10.out W (g.trans h)
             have G11 := Lib.hid (G10.out.trans g)
             have fb := HB11.out _ (grownBy_refl _ _)

             clear g fb))
        have hcm := HM.out.carry (HGW.out.trans G11.out)
        refine (drawComposeRelations_any _ _ hcm).mono ?_
        rintro e z1 ⟨p2, l2, m3, l3, r3, o2, vs2, L2, u2, us2, M2, rfl, hq2, hq97, ho, hL, hu, hM, sg⟩
        obtain ⟨oa2, oc2, hoe, _, _⟩ := own_form ho
        subst hoe
        obtain ⟨ua2, uc2, hue, _, _⟩ := own_form hu
        subst hue
        generalize hlen2 : L2.length = ln2 at *
        generalize hmen2 : M2.length = mn2 at *
        have LMN2 := Lib.hid hmen2
        have HSZ := Lib.hid (((Sep.start z1).box #[.int .i64 l2, .int .i64 m3, .slice oa2 ln2 oc2] 65).box #[.int .i64 l3, .int .i64 r3, .slice ua2 mn2 uc2] 65)
        simp only [show ∀ (W : World) o, (W.alloc o).heap.size = W.heap.size + 1 from fun W o => by simp] at HSZ
        have HFM := Lib.hid hu.readC
        have SM2 := Lib.hid hM
        have HBZ := Lib.hid fun W (h : z1.grownBy W none) => HB11.out W (sg.trans h)
        have GZ := Lib.hid (G11.out.trans sg)
        clear ho hL hu hM sg hlen2 hmen2 hcm
        unfold rlV
        obtain ⟨yf0, yf1, yf2, _, _, _⟩ := bx3 HSZ.out.hd
        obtain ⟨_, _, _, ye3, ye4, ye5⟩ := bx3 HSZ.out.s2.hd
        have fb := HBZ.out _ HSZ.out.tl.tl.hd
        obtain ⟨yc0, yc1, yc2, _, _, _⟩ := bx3 fb.2.2.2.2.2.2.2.2.2.2.2.2.2.2.1
        obtain ⟨yy0, yy1, yy2, _, _, _⟩ := bx3 fb.2.2.2.2.2.2.2.2.1
        clear fb
        by_cases hpp : (p2 : Int) = (p : Int)
        · by_cases hll : l3 = (c : Int)
          · subst hll
            have HSQ := Lib.hid (((Sep.start z1).box #[.int .i64 c, .int .i64 r3, .slice ua2 mn2 uc2] 65).box #[.int .i64 c, .int .i64 r3, .slice ua2 mn2 uc2] 65)
            simp only [show ∀ (W : World) o, (W.alloc o).heap.size = W.heap.size + 1 from fun W o => by simp] at HSQ
            have gq : z1.grownBy _ none := HSQ.out.tl.tl.hd
            have HB20 := Lib.hid fun W (h : World.grownBy _ W none) => And.intro (bx_on HSQ.out.s2.hd h) (And.intro (HFM.out.carry ((show z1.grownBy _ none from HSQ.out.tl.tl.hd).trans h)) (HBZ.out W ((show z1.grownBy _ none from HSQ.out.tl.tl.hd).trans h)))
            have G20 := Lib.hid (GZ.out.trans gq)
            have fb := HB20.out _ (grownBy_refl _ _)
            obtain ⟨y20E0, y20E1, y20E2, _, _, _⟩ := bx3 fb.1
            obtain ⟨y20C0, y20C1, y20C2, _, _, _⟩ := bx3 fb.2.2.2.2.2.2.2.2.2.2.2.2.2.2.2.2.1
            obtain ⟨b5, b6, b7, l5, r5, l6, r6, l7, r7, K5, K6, K7, K⟩ := H8.out c r3 M2 SM2.out
            obtain ⟨T5, T6, T7, TK⟩ := K
            unfold rlV at T5 T6 T7
            have T5 := Lib.hid T5; have T6 := Lib.hid T6; have T7 := Lib.hid T7
            clear fb gq HSQ
            generalize hl5 : K5.length = lk5 at *
            have LK5 := Lib.hid hl5
            generalize hl6 : K6.length = lk6 at *
            have LK6 := Lib.hid hl6
            generalize hl7 : K7.length = lk7 at *
            have LK7 := Lib.hid hl7
            clear hl5 hl6 hl7
            have TK := Lib.hid TK
            go_wp2_with (first
              | (go_at_call 45
                 go_loud (with_reducible refine (T5.out _ _ _ G20.out (HB20.out _ (grownBy_refl _ _)).2.2.2.2.2.2.2.2.2.2.2.2.2.2.2.2.2.1 (HB20.out _ (grownBy_refl _ _)).2.1).mono ?_)
                 rintro e v21 ⟨o21, rfl, hm, g⟩
                 obtain ⟨xa21, xc21, rfl⟩ := hm.shape
                 rw [LK5.out] at hm ⊢
                 have ga := g.trans (grownBy_alloc v21 (.cells #[.int .i64 l5, .int .i64 r5, .slice xa21 lk5 xc21] 65) none)
                 have HB21 := Lib.hid fun W (h : (v21.alloc (.cells #[.int .i64 l5, .int .i64 r5, .slice xa21 lk5 xc21] 65)).grownBy W none) => And.intro (bx_on (alloc_heap_new v21 _) h) (And.intro (hm.carry ((grownBy_alloc v21 _ none).trans h)) (HB20.out W (ga.trans h)))
                 have G21 := Lib.hid (G20.out.trans ga)
                 have fb := HB21.out _ (grownBy_refl _ _)
                 obtain ⟨y21B0, y21B1, y21B2, _, _, _⟩ := bx3 fb.2.2.2.2.2.2.2.2.2.2.2.2.2.2.2.2.2.2.2.2.2
                 obtain ⟨y21E0, y21E1, y21E2, _, _, _⟩ := bx3 fb.2.2.1
                 clear hm g ga fb)
              | (go_at_call 45
                 go_loud (with_reducible refine (T6.out _ _ G21.out (HB21.out _ (grownBy_refl _ _)).2.2.2.1).mono ?_)
                 rintro e v22 ⟨o22, rfl, hm, g⟩
                 obtain ⟨xa22, xc22, rfl⟩ := hm.shape
                 rw [LK6.out] at hm ⊢
                 have ga := g.trans (grownBy_alloc v22 (.cells #[.int .i64 l6, .int .i64 r6, .slice xa22 lk6 xc22] 65) none)
                 have HB22 := Lib.hid fun W (h : (v22.alloc (.cells #[.int .i64 l6, .int .i64 r6, .slice xa22 lk6 xc22] 65)).grownBy W none) => And.intro (bx_on (alloc_heap_new v22 _) h) (And.intro (hm.carry ((grownBy_alloc v22 _ none).trans h)) (HB21.out W (ga.trans h)))
                 have G22 := Lib.hid (G21.out.trans ga)
                 have fb := HB22.out _ (grownBy_refl _ _)
                 obtain ⟨y22A0, y22A1, y22A2, _, _, _⟩ := bx3 fb.2.2.2.2.2.2.2.2.2.2.2.2.2.2.2.2.2.2.2.2.2.2.1
                 obtain ⟨y22N0, y22N1, y22N2, _, _, _⟩ := bx3 fb.1
                 clear hm g ga fb))
            go_loud (with_reducible refine (T7.out _ _ G22.out (HB22.out _ (grownBy_refl _ _)).2.1).mono ?_)
            rintro e v23 ⟨o23, rfl, hm, g⟩
            obtain ⟨xa23, xc23, rfl⟩ := hm.shape
            rw [LK7.out] at hm ⊢
            have ga := g.trans (grownBy_alloc v23 (.cells #[.int .i64 l7, .int .i64 r7, .slice xa23 lk7 xc23] 65) none)
            have HB23 := Lib.hid fun W (h : (v23.alloc (.cells #[.int .i64 l7, .int .i64 r7, .slice xa23 lk7 xc23] 65)).grownBy W none) => And.intro (bx_on (alloc_heap_new v23 _) h) (And.intro (hm.carry ((grownBy_alloc v23 _ none).trans h)) (HB22.out W (ga.trans h)))
            have G23 := Lib.hid (G22.out.trans ga)
            have fb := HB23.out _ (grownBy_refl _ _)
            obtain ⟨y23L0, y23L1, y23L2, _, _, _⟩ := bx3 fb.2.2.2.2.1
            obtain ⟨y23Q0, y23Q1, y23Q2, _, _, _⟩ := bx3 fb.1
            clear hm g ga fb
            rcases TK.out with rfl | ⟨rfl, rfl⟩ | ⟨rfl, rfl, rfl⟩ | ⟨rfl, rfl, rfl, e1, e2, e3, s5⟩
            · go_wp2
              go_ret
              exact ⟨rfl, HGW.out.trans G23.out⟩
            · go_wp2
              go_ret
              exact ⟨rfl, HGW.out.trans G23.out⟩
            · go_wp2
              go_ret
              exact ⟨rfl, HGW.out.trans G23.out⟩
            · have S5 := Lib.hid s5
              have TE := Lib.hid (And.intro e1 (And.intro e2 e3))
              clear s5 e1 e2 e3
              go_wp2_with (first
                | (go_at_call 47
                   go_loud (with_reducible refine (sameRel_eq ((HB23.out _ (grownBy_refl _ _)).2.2.2.2.2.1).v ((HB23.out _ (grownBy_refl _ _)).2.1).v TE.out S5.out).mono ?_)
                   rintro e v24 ⟨rfl, g⟩
                   have HB24 := Lib.hid fun W (h : v24.grownBy W none) => HB23.out W (g.trans h)
                   have G24 := Lib.hid (G23.out.trans g)
                   have fb := HB24.out _ (grownBy_refl _ _)

                   clear g fb))
              go_ret
              exact ⟨rfl, HGW.out.trans G24.out⟩
          · have HSQ := Lib.hid (((Sep.start z1).box #[.int .i64 c, .int .i64 b, .slice xa5 ly xc5] 65).box #[.int .i64 l3, .int .i64 r3, .slice ua2 mn2 uc2] 65)
            simp only [show ∀ (W : World) o, (W.alloc o).heap.size = W.heap.size + 1 from fun W o => by simp] at HSQ
            have gq : z1.grownBy _ none := HSQ.out.tl.tl.hd
            have HB20 := Lib.hid fun W (h : World.grownBy _ W none) => And.intro (bx_on HSQ.out.s2.hd h) (And.intro ((HBZ.out _ (grownBy_refl _ _)).2.2.2.2.2.2.2.2.2.1.carry ((show z1.grownBy _ none from HSQ.out.tl.tl.hd).trans h)) (HBZ.out W ((show z1.grownBy _ none from HSQ.out.tl.tl.hd).trans h)))
            have G20 := Lib.hid (GZ.out.trans gq)
            have fb := HB20.out _ (grownBy_refl _ _)
            obtain ⟨y20E0, y20E1, y20E2, _, _, _⟩ := bx3 fb.1
            obtain ⟨y20C0, y20C1, y20C2, _, _, _⟩ := bx3 fb.2.2.2.2.2.2.2.2.2.2.2.2.2.2.2.2.1
            obtain ⟨b5, b6, b7, l5, r5, l6, r6, l7, r7, K5, K6, K7, K⟩ := H8.out c b Y (Small.up (by decide) SY.out)
            obtain ⟨T5, T6, T7, TK⟩ := K
            unfold rlV at T5 T6 T7
            have T5 := Lib.hid T5; have T6 := Lib.hid T6; have T7 := Lib.hid T7
            clear fb gq HSQ
            generalize hl5 : K5.length = lk5 at *
            have LK5 := Lib.hid hl5
            generalize hl6 : K6.length = lk6 at *
            have LK6 := Lib.hid hl6
            generalize hl7 : K7.length = lk7 at *
            have LK7 := Lib.hid hl7
            clear hl5 hl6 hl7
            have TK := Lib.hid TK
            go_wp2_with (first
              | (go_at_call 45
                 go_loud (with_reducible refine (T5.out _ _ _ G20.out (HB20.out _ (grownBy_refl _ _)).2.2.2.2.2.2.2.2.2.2.2.2.2.2.2.2.2.1 (HB20.out _ (grownBy_refl _ _)).2.1).mono ?_)
                 rintro e v21 ⟨o21, rfl, hm, g⟩
                 obtain ⟨xa21, xc21, rfl⟩ := hm.shape
                 rw [LK5.out] at hm ⊢
                 have ga := g.trans (grownBy_alloc v21 (.cells #[.int .i64 l5, .int .i64 r5, .slice xa21 lk5 xc21] 65) none)
                 have HB21 := Lib.hid fun W (h : (v21.alloc (.cells #[.int .i64 l5, .int .i64 r5, .slice xa21 lk5 xc21] 65)).grownBy W none) => And.intro (bx_on (alloc_heap_new v21 _) h) (And.intro (hm.carry ((grownBy_alloc v21 _ none).trans h)) (HB20.out W (ga.trans h)))
                 have G21 := Lib.hid (G20.out.trans ga)
                 have fb := HB21.out _ (grownBy_refl _ _)
                 obtain ⟨y21B0, y21B1, y21B2, _, _, _⟩ := bx3 fb.2.2.2.2.2.2.2.2.2.2.2.2.2.2.2.2.2.2.2.2.2
                 obtain ⟨y21E0, y21E1, y21E2, _, _, _⟩ := bx3 fb.2.2.1
                 clear hm g ga fb)
              | (go_at_call 45
                 go_loud (with_reducible refine (T6.out _ _ G21.out (HB21.out _ (grownBy_refl _ _)).2.2.2.1).mono ?_)
                 rintro e v22 ⟨o22, rfl, hm, g⟩
                 obtain ⟨xa22, xc22, rfl⟩ := hm.shape
                 rw [LK6.out] at hm ⊢
                 have ga := g.trans (grownBy_alloc v22 (.cells #[.int .i64 l6, .int .i64 r6, .slice xa22 lk6 xc22] 65) none)
                 have HB22 := Lib.hid fun W (h : (v22.alloc (.cells #[.int .i64 l6, .int .i64 r6, .slice xa22 lk6 xc22] 65)).grownBy W none) => And.intro (bx_on (alloc_heap_new v22 _) h) (And.intro (hm.carry ((grownBy_alloc v22 _ none).trans h)) (HB21.out W (ga.trans h)))
                 have G22 := Lib.hid (G21.out.trans ga)
                 have fb := HB22.out _ (grownBy_refl _ _)
                 obtain ⟨y22A0, y22A1, y22A2, _, _, _⟩ := bx3 fb.2.2.2.2.2.2.2.2.2.2.2.2.2.2.2.2.2.2.2.2.2.2.1
                 obtain ⟨y22N0, y22N1, y22N2, _, _, _⟩ := bx3 fb.1
                 clear hm g ga fb))
            go_loud (with_reducible refine (T7.out _ _ G22.out (HB22.out _ (grownBy_refl _ _)).2.1).mono ?_)
            rintro e v23 ⟨o23, rfl, hm, g⟩
            obtain ⟨xa23, xc23, rfl⟩ := hm.shape
            rw [LK7.out] at hm ⊢
            have ga := g.trans (grownBy_alloc v23 (.cells #[.int .i64 l7, .int .i64 r7, .slice xa23 lk7 xc23] 65) none)
            have HB23 := Lib.hid fun W (h : (v23.alloc (.cells #[.int .i64 l7, .int .i64 r7, .slice xa23 lk7 xc23] 65)).grownBy W none) => And.intro (bx_on (alloc_heap_new v23 _) h) (And.intro (hm.carry ((grownBy_alloc v23 _ none).trans h)) (HB22.out W (ga.trans h)))
            have G23 := Lib.hid (G22.out.trans ga)
            have fb := HB23.out _ (grownBy_refl _ _)
            obtain ⟨y23L0, y23L1, y23L2, _, _, _⟩ := bx3 fb.2.2.2.2.1
            obtain ⟨y23Q0, y23Q1, y23Q2, _, _, _⟩ := bx3 fb.1
            clear hm g ga fb
            rcases TK.out with rfl | ⟨rfl, rfl⟩ | ⟨rfl, rfl, rfl⟩ | ⟨rfl, rfl, rfl, e1, e2, e3, s5⟩
            · go_wp2
              go_ret
              exact ⟨rfl, HGW.out.trans G23.out⟩
            · go_wp2
              go_ret
              exact ⟨rfl, HGW.out.trans G23.out⟩
            · go_wp2
              go_ret
              exact ⟨rfl, HGW.out.trans G23.out⟩
            · have S5 := Lib.hid s5
              have TE := Lib.hid (And.intro e1 (And.intro e2 e3))
              clear s5 e1 e2 e3
              go_wp2_with (first
                | (go_at_call 47
                   go_loud (with_reducible refine (sameRel_eq ((HB23.out _ (grownBy_refl _ _)).2.2.2.2.2.1).v ((HB23.out _ (grownBy_refl _ _)).2.1).v TE.out S5.out).mono ?_)
                   rintro e v24 ⟨rfl, g⟩
                   have HB24 := Lib.hid fun W (h : v24.grownBy W none) => HB23.out W (g.trans h)
                   have G24 := Lib.hid (G23.out.trans g)
                   have fb := HB24.out _ (grownBy_refl _ _)

                   clear g fb))
              go_ret
              exact ⟨rfl, HGW.out.trans G24.out⟩
        · have HSQ := Lib.hid (((Sep.start z1).box #[.int .i64 c, .int .i64 b, .slice xa5 ly xc5] 65).box #[.int .i64 l3, .int .i64 r3, .slice ua2 mn2 uc2] 65)
          simp only [show ∀ (W : World) o, (W.alloc o).heap.size = W.heap.size + 1 from fun W o => by simp] at HSQ
          have gq : z1.grownBy _ none := HSQ.out.tl.tl.hd
          have HB20 := Lib.hid fun W (h : World.grownBy _ W none) => And.intro (bx_on HSQ.out.s2.hd h) (And.intro ((HBZ.out _ (grownBy_refl _ _)).2.2.2.2.2.2.2.2.2.1.carry ((show z1.grownBy _ none from HSQ.out.tl.tl.hd).trans h)) (HBZ.out W ((show z1.grownBy _ none from HSQ.out.tl.tl.hd).trans h)))
          have G20 := Lib.hid (GZ.out.trans gq)
          have fb := HB20.out _ (grownBy_refl _ _)
          obtain ⟨y20E0, y20E1, y20E2, _, _, _⟩ := bx3 fb.1
          obtain ⟨y20C0, y20C1, y20C2, _, _, _⟩ := bx3 fb.2.2.2.2.2.2.2.2.2.2.2.2.2.2.2.2.1
          obtain ⟨b5, b6, b7, l5, r5, l6, r6, l7, r7, K5, K6, K7, K⟩ := H8.out c b Y (Small.up (by decide) SY.out)
          obtain ⟨T5, T6, T7, TK⟩ := K
          unfold rlV at T5 T6 T7
          have T5 := Lib.hid T5; have T6 := Lib.hid T6; have T7 := Lib.hid T7
          clear fb gq HSQ
          generalize hl5 : K5.length = lk5 at *
          have LK5 := Lib.hid hl5
          generalize hl6 : K6.length = lk6 at *
          have LK6 := Lib.hid hl6
          generalize hl7 : K7.length = lk7 at *
          have LK7 := Lib.hid hl7
          clear hl5 hl6 hl7
          have TK := Lib.hid TK
          go_wp2_with (first
            | (go_at_call 45
               go_loud (with_reducible refine (T5.out _ _ _ G20.out (HB20.out _ (grownBy_refl _ _)).2.2.2.2.2.2.2.2.2.2.2.2.2.2.2.2.2.1 (HB20.out _ (grownBy_refl _ _)).2.1).mono ?_)
               rintro e v21 ⟨o21, rfl, hm, g⟩
               obtain ⟨xa21, xc21, rfl⟩ := hm.shape
               rw [LK5.out] at hm ⊢
               have ga := g.trans (grownBy_alloc v21 (.cells #[.int .i64 l5, .int .i64 r5, .slice xa21 lk5 xc21] 65) none)
               have HB21 := Lib.hid fun W (h : (v21.alloc (.cells #[.int .i64 l5, .int .i64 r5, .slice xa21 lk5 xc21] 65)).grownBy W none) => And.intro (bx_on (alloc_heap_new v21 _) h) (And.intro (hm.carry ((grownBy_alloc v21 _ none).trans h)) (HB20.out W (ga.trans h)))
               have G21 := Lib.hid (G20.out.trans ga)
               have fb := HB21.out _ (grownBy_refl _ _)
               obtain ⟨y21B0, y21B1, y21B2, _, _, _⟩ := bx3 fb.2.2.2.2.2.2.2.2.2.2.2.2.2.2.2.2.2.2.2.2.2
               obtain ⟨y21E0, y21E1, y21E2, _, _, _⟩ := bx3 fb.2.2.1
               clear hm g ga fb)
            | (go_at_call 45
               go_loud (with_reducible refine (T6.out _ _ G21.out (HB21.out _ (grownBy_refl _ _)).2.2.2.1).mono ?_)
               rintro e v22 ⟨o22, rfl, hm, g⟩
               obtain ⟨xa22, xc22, rfl⟩ := hm.shape
               rw [LK6.out] at hm ⊢
               have ga := g.trans (grownBy_alloc v22 (.cells #[.int .i64 l6, .int .i64 r6, .slice xa22 lk6 xc22] 65) none)
               have HB22 := Lib.hid fun W (h : (v22.alloc (.cells #[.int .i64 l6, .int .i64 r6, .slice xa22 lk6 xc22] 65)).grownBy W none) => And.intro (bx_on (alloc_heap_new v22 _) h) (And.intro (hm.carry ((grownBy_alloc v22 _ none).trans h)) (HB21.out W (ga.trans h)))
               have G22 := Lib.hid (G21.out.trans ga)
               have fb := HB22.out _ (grownBy_refl _ _)
               obtain ⟨y22A0, y22A1, y22A2, _, _, _⟩ := bx3 fb.2.2.2.2.2.2.2.2.2.2.2.2.2.2.2.2.2.2.2.2.2.2.1
               obtain ⟨y22N0, y22N1, y22N2, _, _, _⟩ := bx3 fb.1
               clear hm g ga fb))
          go_loud (with_reducible refine (T7.out _ _ G22.out (HB22.out _ (grownBy_refl _ _)).2.1).mono ?_)
          rintro e v23 ⟨o23, rfl, hm, g⟩
          obtain ⟨xa23, xc23, rfl⟩ := hm.shape
          rw [LK7.out] at hm ⊢
          have ga := g.trans (grownBy_alloc v23 (.cells #[.int .i64 l7, .int .i64 r7, .slice xa23 lk7 xc23] 65) none)
          have HB23 := Lib.hid fun W (h : (v23.alloc (.cells #[.int .i64 l7, .int .i64 r7, .slice xa23 lk7 xc23] 65)).grownBy W none) => And.intro (bx_on (alloc_heap_new v23 _) h) (And.intro (hm.carry ((grownBy_alloc v23 _ none).trans h)) (HB22.out W (ga.trans h)))
          have G23 := Lib.hid (G22.out.trans ga)
          have fb := HB23.out _ (grownBy_refl _ _)
          obtain ⟨y23L0, y23L1, y23L2, _, _, _⟩ := bx3 fb.2.2.2.2.1
          obtain ⟨y23Q0, y23Q1, y23Q2, _, _, _⟩ := bx3 fb.1
          clear hm g ga fb
          rcases TK.out with rfl | ⟨rfl, rfl⟩ | ⟨rfl, rfl, rfl⟩ | ⟨rfl, rfl, rfl, e1, e2, e3, s5⟩
          · go_wp2
            go_ret
            exact ⟨rfl, HGW.out.trans G23.out⟩
          · go_wp2
            go_ret
            exact ⟨rfl, HGW.out.trans G23.out⟩
          · go_wp2
            go_ret
            exact ⟨rfl, HGW.out.trans G23.out⟩
          · have S5 := Lib.hid s5
            have TE := Lib.hid (And.intro e1 (And.intro e2 e3))
            clear s5 e1 e2 e3
            go_wp2_with (first
              | (go_at_call 47
                 go_loud (with_reducible refine (sameRel_eq ((HB23.out _ (grownBy_refl _ _)).2.2.2.2.2.1).v ((HB23.out _ (grownBy_refl _ _)).2.1).v TE.out S5.out).mono ?_)
                 rintro e v24 ⟨rfl, g⟩
                 have HB24 := Lib.hid fun W (h : v24.grownBy W none) => HB23.out W (g.trans h)
                 have G24 := Lib.hid (G23.out.trans g)
                 have fb := HB24.out _ (grownBy_refl _ _)

                 clear g fb))
            go_ret
            exact ⟨rfl, HGW.out.trans G24.out⟩
      · have hle : ¬ 2 * (a : Int) ≤ 24 := by omega
        go_wp2_with fail
        have hcm := HM.out.carry (HGW.out.trans G8.out)
        refine (drawComposeRelations_any _ _ hcm).mono ?_
        rintro e z1 ⟨p2, l2, m3, l3, r3, o2, vs2, L2, u2, us2, M2, rfl, hq2, hq97, ho, hL, hu, hM, sg⟩
        obtain ⟨oa2, oc2, hoe, _, _⟩ := own_form ho
        subst hoe
        obtain ⟨ua2, uc2, hue, _, _⟩ := own_form hu
        subst hue
        generalize hlen2 : L2.length = ln2 at *
        generalize hmen2 : M2.length = mn2 at *
        have LMN2 := Lib.hid hmen2
        have HSZ := Lib.hid (((Sep.start z1).box #[.int .i64 l2, .int .i64 m3, .slice oa2 ln2 oc2] 65).box #[.int .i64 l3, .int .i64 r3, .slice ua2 mn2 uc2] 65)
        simp only [show ∀ (W : World) o, (W.alloc o).heap.size = W.heap.size + 1 from fun W o => by simp] at HSZ
        have HFM := Lib.hid hu.readC
        have SM2 := Lib.hid hM
        have HBZ := Lib.hid fun W (h : z1.grownBy W none) => HB8.out W (sg.trans h)
        have GZ := Lib.hid (G8.out.trans sg)
        clear ho hL hu hM sg hlen2 hmen2 hcm
        unfold rlV
        obtain ⟨yf0, yf1, yf2, _, _, _⟩ := bx3 HSZ.out.hd
        obtain ⟨_, _, _, ye3, ye4, ye5⟩ := bx3 HSZ.out.s2.hd
        have fb := HBZ.out _ HSZ.out.tl.tl.hd
        obtain ⟨yc0, yc1, yc2, _, _, _⟩ := bx3 fb.2.2.2.2.2.2.2.2.2.2.1
        obtain ⟨yy0, yy1, yy2, _, _, _⟩ := bx3 fb.2.2.2.2.1
        clear fb
        by_cases hpp : (p2 : Int) = (p : Int)
        · by_cases hll : l3 = (c : Int)
          · subst hll
            have HSQ := Lib.hid (((Sep.start z1).box #[.int .i64 c, .int .i64 r3, .slice ua2 mn2 uc2] 65).box #[.int .i64 c, .int .i64 r3, .slice ua2 mn2 uc2] 65)
            simp only [show ∀ (W : World) o, (W.alloc o).heap.size = W.heap.size + 1 from fun W o => by simp] at HSQ
            have gq : z1.grownBy _ none := HSQ.out.tl.tl.hd
            have HB20 := Lib.hid fun W (h : World.grownBy _ W none) => And.intro (bx_on HSQ.out.s2.hd h) (And.intro (HFM.out.carry ((show z1.grownBy _ none from HSQ.out.tl.tl.hd).trans h)) (HBZ.out W ((show z1.grownBy _ none from HSQ.out.tl.tl.hd).trans h)))
            have G20 := Lib.hid (GZ.out.trans gq)
            have fb := HB20.out _ (grownBy_refl _ _)
            obtain ⟨y20E0, y20E1, y20E2, _, _, _⟩ := bx3 fb.1
            obtain ⟨y20C0, y20C1, y20C2, _, _, _⟩ := bx3 fb.2.2.2.2.2.2.2.2.2.2.2.2.1
            obtain ⟨b5, b6, b7, l5, r5, l6, r6, l7, r7, K5, K6, K7, K⟩ := H8.out c r3 M2 SM2.out
            obtain ⟨T5, T6, T7, TK⟩ := K
            unfold rlV at T5 T6 T7
            have T5 := Lib.hid T5; have T6 := Lib.hid T6; have T7 := Lib.hid T7
            clear fb gq HSQ
            generalize hl5 : K5.length = lk5 at *
            have LK5 := Lib.hid hl5
            generalize hl6 : K6.length = lk6 at *
            have LK6 := Lib.hid hl6
            generalize hl7 : K7.length = lk7 at *
            have LK7 := Lib.hid hl7
            clear hl5 hl6 hl7
            have TK := Lib.hid TK
            go_wp2_with (first
              | (go_at_call 45
                 go_loud (with_reducible refine (T5.out _ _ _ G20.out (HB20.out _ (grownBy_refl _ _)).2.2.2.2.2.2.2.2.2.2.2.2.2.1 (HB20.out _ (grownBy_refl _ _)).2.1).mono ?_)
                 rintro e v21 ⟨o21, rfl, hm, g⟩
                 obtain ⟨xa21, xc21, rfl⟩ := hm.shape
                 rw [LK5.out] at hm ⊢
                 have ga := g.trans (grownBy_alloc v21 (.cells #[.int .i64 l5, .int .i64 r5, .slice xa21 lk5 xc21] 65) none)
                 have HB21 := Lib.hid fun W (h : (v21.alloc (.cells #[.int .i64 l5, .int .i64 r5, .slice xa21 lk5 xc21] 65)).grownBy W none) => And.intro (bx_on (alloc_heap_new v21 _) h) (And.intro (hm.carry ((grownBy_alloc v21 _ none).trans h)) (HB20.out W (ga.trans h)))
                 have G21 := Lib.hid (G20.out.trans ga)
                 have fb := HB21.out _ (grownBy_refl _ _)
                 obtain ⟨y21B0, y21B1, y21B2, _, _, _⟩ := bx3 fb.2.2.2.2.2.2.2.2.2.2.2.2.2.2.2.2.2
                 obtain ⟨y21E0, y21E1, y21E2, _, _, _⟩ := bx3 fb.2.2.1
                 clear hm g ga fb)
              | (go_at_call 45
                 go_loud (with_reducible refine (T6.out _ _ G21.out (HB21.out _ (grownBy_refl _ _)).2.2.2.1).mono ?_)
                 rintro e v22 ⟨o22, rfl, hm, g⟩
                 obtain ⟨xa22, xc22, rfl⟩ := hm.shape
                 rw [LK6.out] at hm ⊢
                 have ga := g.trans (grownBy_alloc v22 (.cells #[.int .i64 l6, .int .i64 r6, .slice xa22 lk6 xc22] 65) none)
                 have HB22 := Lib.hid fun W (h : (v22.alloc (.cells #[.int .i64 l6, .int .i64 r6, .slice xa22 lk6 xc22] 65)).grownBy W none) => And.intro (bx_on (alloc_heap_new v22 _) h) (And.intro (hm.carry ((grownBy_alloc v22 _ none).trans h)) (HB21.out W (ga.trans h)))
                 have G22 := Lib.hid (G21.out.trans ga)
                 have fb := HB22.out _ (grownBy_refl _ _)
                 obtain ⟨y22A0, y22A1, y22A2, _, _, _⟩ := bx3 fb.2.2.2.2.2.2.2.2.2.2.2.2.2.2.2.2.2.2.1
                 obtain ⟨y22N0, y22N1, y22N2, _, _, _⟩ := bx3 fb.1
                 clear hm g ga fb))
            go_loud (with_reducible refine (T7.out _ _ G22.out (HB22.out _ (grownBy_refl _ _)).2.1).mono ?_)
            rintro e v23 ⟨o23, rfl, hm, g⟩
            obtain ⟨xa23, xc23, rfl⟩ := hm.shape
            rw [LK7.out] at hm ⊢
            have ga := g.trans (grownBy_alloc v23 (.cells #[.int .i64 l7, .int .i64 r7, .slice xa23 lk7 xc23] 65) none)
            have HB23 := Lib.hid fun W (h : (v23.alloc (.cells #[.int .i64 l7, .int .i64 r7, .slice xa23 lk7 xc23] 65)).grownBy W none) => And.intro (bx_on (alloc_heap_new v23 _) h) (And.intro (hm.carry ((grownBy_alloc v23 _ none).trans h)) (HB22.out W (ga.trans h)))
            have G23 := Lib.hid (G22.out.trans ga)
            have fb := HB23.out _ (grownBy_refl _ _)
            obtain ⟨y23L0, y23L1, y23L2, _, _, _⟩ := bx3 fb.2.2.2.2.1
            obtain ⟨y23Q0, y23Q1, y23Q2, _, _, _⟩ := bx3 fb.1
            clear hm g ga fb
            rcases TK.out with rfl | ⟨rfl, rfl⟩ | ⟨rfl, rfl, rfl⟩ | ⟨rfl, rfl, rfl, e1, e2, e3, s5⟩
            · go_wp2
              go_ret
              exact ⟨rfl, HGW.out.trans G23.out⟩
            · go_wp2
              go_ret
              exact ⟨rfl, HGW.out.trans G23.out⟩
            · go_wp2
              go_ret
              exact ⟨rfl, HGW.out.trans G23.out⟩
            · have S5 := Lib.hid s5
              have TE := Lib.hid (And.intro e1 (And.intro e2 e3))
              clear s5 e1 e2 e3
              go_wp2_with (first
                | (go_at_call 47
                   go_loud (with_reducible refine (sameRel_eq ((HB23.out _ (grownBy_refl _ _)).2.2.2.2.2.1).v ((HB23.out _ (grownBy_refl _ _)).2.1).v TE.out S5.out).mono ?_)
                   rintro e v24 ⟨rfl, g⟩
                   have HB24 := Lib.hid fun W (h : v24.grownBy W none) => HB23.out W (g.trans h)
                   have G24 := Lib.hid (G23.out.trans g)
                   have fb := HB24.out _ (grownBy_refl _ _)

                   clear g fb))
              go_ret
              exact ⟨rfl, HGW.out.trans G24.out⟩
          · have HSQ := Lib.hid (((Sep.start z1).box #[.int .i64 c, .int .i64 b, .slice xa5 ly xc5] 65).box #[.int .i64 l3, .int .i64 r3, .slice ua2 mn2 uc2] 65)
            simp only [show ∀ (W : World) o, (W.alloc o).heap.size = W.heap.size + 1 from fun W o => by simp] at HSQ
            have gq : z1.grownBy _ none := HSQ.out.tl.tl.hd
            have HB20 := Lib.hid fun W (h : World.grownBy _ W none) => And.intro (bx_on HSQ.out.s2.hd h) (And.intro ((HBZ.out _ (grownBy_refl _ _)).2.2.2.2.2.1.carry ((show z1.grownBy _ none from HSQ.out.tl.tl.hd).trans h)) (HBZ.out W ((show z1.grownBy _ none from HSQ.out.tl.tl.hd).trans h)))
            have G20 := Lib.hid (GZ.out.trans gq)
            have fb := HB20.out _ (grownBy_refl _ _)
            obtain ⟨y20E0, y20E1, y20E2, _, _, _⟩ := bx3 fb.1
            obtain ⟨y20C0, y20C1, y20C2, _, _, _⟩ := bx3 fb.2.2.2.2.2.2.2.2.2.2.2.2.1
            obtain ⟨b5, b6, b7, l5, r5, l6, r6, l7, r7, K5, K6, K7, K⟩ := H8.out c b Y (Small.up (by decide) SY.out)
            obtain ⟨T5, T6, T7, TK⟩ := K
            unfold rlV at T5 T6 T7
            have T5 := Lib.hid T5; have T6 := Lib.hid T6; have T7 := Lib.hid T7
            clear fb gq HSQ
            generalize hl5 : K5.length = lk5 at *
            have LK5 := Lib.hid hl5
            generalize hl6 : K6.length = lk6 at *
            have LK6 := Lib.hid hl6
            generalize hl7 : K7.length = lk7 at *
            have LK7 := Lib.hid hl7
            clear hl5 hl6 hl7
            have TK := Lib.hid TK
            go_wp2_with (first
              | (go_at_call 45
                 go_loud (with_reducible refine (T5.out _ _ _ G20.out (HB20.out _ (grownBy_refl _ _)).2.2.2.2.2.2.2.2.2.2.2.2.2.1 (HB20.out _ (grownBy_refl _ _)).2.1).mono ?_)
                 rintro e v21 ⟨o21, rfl, hm, g⟩
                 obtain ⟨xa21, xc21, rfl⟩ := hm.shape
                 rw [LK5.out] at hm ⊢
                 have ga := g.trans (grownBy_alloc v21 (.cells #[.int .i64 l5, .int .i64 r5, .slice xa21 lk5 xc21] 65) none)
                 have HB21 := Lib.hid fun W (h : (v21.alloc (.cells #[.int .i64 l5, .int .i64 r5, .slice xa21 lk5 xc21] 65)).grownBy W none) => And.intro (bx_on (alloc_heap_new v21 _) h) (And.intro (hm.carry ((grownBy_alloc v21 _ none).trans h)) (HB20.out W (ga.trans h)))
                 have G21 := Lib.hid (G20.out.trans ga)
                 have fb := HB21.out _ (grownBy_refl _ _)
                 obtain ⟨y21B0, y21B1, y21B2, _, _, _⟩ := bx3 fb.2.2.2.2.2.2.2.2.2.2.2.2.2.2.2.2.2
                 obtain ⟨y21E0, y21E1, y21E2, _, _, _⟩ := bx3 fb.2.2.1
                 clear hm g ga fb)
              | (go_at_call 45
                 go_loud (with_reducible refine (T6.out _ _ G21.out (HB21.out _ (grownBy_refl _ _)).2.2.2.1).mono ?_)
                 rintro e v22 ⟨o22, rfl, hm, g⟩
                 obtain ⟨xa22, xc22, rfl⟩ := hm.shape
                 rw [LK6.out] at hm ⊢
                 have ga := g.trans (grownBy_alloc v22 (.cells #[.int .i64 l6, .int .i64 r6, .slice xa22 lk6 xc22] 65) none)
                 have HB22 := Lib.hid fun W (h : (v22.alloc (.cells #[.int .i64 l6, .int .i64 r6, .slice xa22 lk6 xc22] 65)).grownBy W none) => And.intro (bx_on (alloc_heap_new v22 _) h) (And.intro (hm.carry ((grownBy_alloc v22 _ none).trans h)) (HB21.out W (ga.trans h)))
                 have G22 := Lib.hid (G21.out.trans ga)
                 have fb := HB22.out _ (grownBy_refl _ _)
                 obtain ⟨y22A0, y22A1, y22A2, _, _, _⟩ := bx3 fb.2.2.2.2.2.2.2.2.2.2.2.2.2.2.2.2.2.2.1
                 obtain ⟨y22N0, y22N1, y22N2, _, _, _⟩ := bx3 fb.1
                 clear hm g ga fb))
            go_loud (with_reducible refine (T7.out _ _ G22.out (HB22.out _ (grownBy_refl _ _)).2.1).mono ?_)
            rintro e v23 ⟨o23, rfl, hm, g⟩
            obtain ⟨xa23, xc23, rfl⟩ := hm.shape
            rw [LK7.out] at hm ⊢
            have ga := g.trans (grownBy_alloc v23 (.cells #[.int .i64 l7, .int .i64 r7, .slice xa23 lk7 xc23] 65) none)
            have HB23 := Lib.hid fun W (h : (v23.alloc (.cells #[.int .i64 l7, .int .i64 r7, .slice xa23 lk7 xc23] 65)).grownBy W none) => And.intro (bx_on (alloc_heap_new v23 _) h) (And.intro (hm.carry ((grownBy_alloc v23 _ none).trans h)) (HB22.out W (ga.trans h)))
            have G23 := Lib.hid (G22.out.trans ga)
            have fb := HB23.out _ (grownBy_refl _ _)
            obtain ⟨y23L0, y23L1, y23L2, _, _, _⟩ := bx3 fb.2.2.2.2.1
            obtain ⟨y23Q0, y23Q1, y23Q2, _, _, _⟩ := bx3 fb.1
            clear hm g ga fb
            rcases TK.out with rfl | ⟨rfl, rfl⟩ | ⟨rfl, rfl, rfl⟩ | ⟨rfl, rfl, rfl, e1, e2, e3, s5⟩
            · go_wp2
              go_ret
              exact ⟨rfl, HGW.out.trans G23.out⟩
            · go_wp2
              go_ret
              exact ⟨rfl, HGW.out.trans G23.out⟩
            · go_wp2
              go_ret
              exact ⟨rfl, HGW.out.trans G23.out⟩
            · have S5 := Lib.hid s5
              have TE := Lib.hid (And.intro e1 (And.intro e2 e3))
              clear s5 e1 e2 e3
              go_wp2_with (first
                | (go_at_call 47
                   go_loud (with_reducible refine (sameRel_eq ((HB23.out _ (grownBy_refl _ _)).2.2.2.2.2.1).v ((HB23.out _ (grownBy_refl _ _)).2.1).v TE.out S5.out).mono ?_)
                   rintro e v24 ⟨rfl, g⟩
                   have HB24 := Lib.hid fun W (h : v24.grownBy W none) => HB23.out W (g.trans h)
                   have G24 := Lib.hid (G23.out.trans g)
                   have fb := HB24.out _ (grownBy_refl _ _)

                   clear g fb))
              go_ret
              exact ⟨rfl, HGW.out.trans G24.out⟩
        · have HSQ := Lib.hid (((Sep.start z1).box #[.int .i64 c, .int .i64 b, .slice xa5 ly xc5] 65).box #[.int .i64 l3, .int .i64 r3, .slice ua2 mn2 uc2] 65)
          simp only [show ∀ (W : World) o, (W.alloc o).heap.size = W.heap.size + 1 from fun W o => by simp] at HSQ
          have gq : z1.grownBy _ none := HSQ.out.tl.tl.hd
          have HB20 := Lib.hid fun W (h : World.grownBy _ W none) => And.intro (bx_on HSQ.out.s2.hd h) (And.intro ((HBZ.out _ (grownBy_refl _ _)).2.2.2.2.2.1.carry ((show z1.grownBy _ none from HSQ.out.tl.tl.hd).trans h)) (HBZ.out W ((show z1.grownBy _ none from HSQ.out.tl.tl.hd).trans h)))
          have G20 := Lib.hid (GZ.out.trans gq)
          have fb := HB20.out _ (grownBy_refl _ _)
          obtain ⟨y20E0, y20E1, y20E2, _, _, _⟩ := bx3 fb.1
          obtain ⟨y20C0, y20C1, y20C2, _, _, _⟩ := bx3 fb.2.2.2.2.2.2.2.2.2.2.2.2.1
          obtain ⟨b5, b6, b7, l5, r5, l6, r6, l7, r7, K5, K6, K7, K⟩ := H8.out c b Y (Small.up (by decide) SY.out)
          obtain ⟨T5, T6, T7, TK⟩ := K
          unfold rlV at T5 T6 T7
          have T5 := Lib.hid T5; have T6 := Lib.hid T6; have T7 := Lib.hid T7
          clear fb gq HSQ
          generalize hl5 : K5.length = lk5 at *
          have LK5 := Lib.hid hl5
          generalize hl6 : K6.length = lk6 at *
          have LK6 := Lib.hid hl6
          generalize hl7 : K7.length = lk7 at *
          have LK7 := Lib.hid hl7
          clear hl5 hl6 hl7
          have TK := Lib.hid TK
          go_wp2_with (first
            | (go_at_call 45
               go_loud (with_reducible refine (T5.out _ _ _ G20.out (HB20.out _ (grownBy_refl _ _)).2.2.2.2.2.2.2.2.2.2.2.2.2.1 (HB20.out _ (grownBy_refl _ _)).2.1).mono ?_)
               rintro e v21 ⟨o21, rfl, hm, g⟩
               obtain ⟨xa21, xc21, rfl⟩ := hm.shape
               rw [LK5.out] at hm ⊢
               have ga := g.trans (grownBy_alloc v21 (.cells #[.int .i64 l5, .int .i64 r5, .slice xa21 lk5 xc21] 65) none)
               have HB21 := Lib.hid fun W (h : (v21.alloc (.cells #[.int .i64 l5, .int .i64 r5, .slice xa21 lk5 xc21] 65)).grownBy W none) => And.intro (bx_on (alloc_heap_new v21 _) h) (And.intro (hm.carry ((grownBy_alloc v21 _ none).trans h)) (HB20.out W (ga.trans h)))
               have G21 := Lib.hid (G20.out.trans ga)
               have fb := HB21.out _ (grownBy_refl _ _)
               obtain ⟨y21B0, y21B1, y21B2, _, _, _⟩ := bx3 fb.2.2.2.2.2.2.2.2.2.2.2.2.2.2.2.2.2
               obtain ⟨y21E0, y21E1, y21E2, _, _, _⟩ := bx3 fb.2.2.1
               clear hm g ga fb)
            | (go_at_call 45
               go_loud (with_reducible refine (T6.out _ _ G21.out (HB21.out _ (grownBy_refl _ _)).2.2.2.1).mono ?_)
               rintro e v22 ⟨o22, rfl, hm, g⟩
               obtain ⟨xa22, xc22, rfl⟩ := hm.shape
               rw [LK6.out] at hm ⊢
               have ga := g.trans (grownBy_alloc v22 (.cells #[.int .i64 l6, .int .i64 r6, .slice xa22 lk6 xc22] 65) none)
               have HB22 := Lib.hid fun W (h : (v22.alloc (.cells #[.int .i64 l6, .int .i64 r6, .slice xa22 lk6 xc22] 65)).grownBy W none) => And.intro (bx_on (alloc_heap_new v22 _) h) (And.intro (hm.carry ((grownBy_alloc v22 _ none).trans h)) (HB21.out W (ga.trans h)))
               have G22 := Lib.hid (G21.out.trans ga)
               have fb := HB22.out _ (grownBy_refl _ _)
               obtain ⟨y22A0, y22A1, y22A2, _, _, _⟩ := bx3 fb.2.2.2.2.2.2.2.2.2.2.2.2.2.2.2.2.2.2.1
               obtain ⟨y22N0, y22N1, y22N2, _, _, _⟩ := bx3 fb.1
               clear hm g ga fb))
          go_loud (with_reducible refine (T7.out _ _ G22.out (HB22.out _ (grownBy_refl _ _)).2.1).mono ?_)
          rintro e v23 ⟨o23, rfl, hm, g⟩
          obtain ⟨xa23, xc23, rfl⟩ := hm.shape
          rw [LK7.out] at hm ⊢
          have ga := g.trans (grownBy_alloc v23 (.cells #[.int .i64 l7, .int .i64 r7, .slice xa23 lk7 xc23] 65) none)
          have HB23 := Lib.hid fun W (h : (v23.alloc (.cells #[.int .i64 l7, .int .i64 r7, .slice xa23 lk7 xc23] 65)).grownBy W none) => And.intro (bx_on (alloc_heap_new v23 _) h) (And.intro (hm.carry ((grownBy_alloc v23 _ none).trans h)) (HB22.out W (ga.trans h)))
          have G23 := Lib.hid (G22.out.trans ga)
          have fb := HB23.out _ (grownBy_refl _ _)
          obtain ⟨y23L0, y23L1, y23L2, _, _, _⟩ := bx3 fb.2.2.2.2.1
          obtain ⟨y23Q0, y23Q1, y23Q2, _, _, _⟩ := bx3 fb.1
          clear hm g ga fb
          rcases TK.out with rfl | ⟨rfl, rfl⟩ | ⟨rfl, rfl, rfl⟩ | ⟨rfl, rfl, rfl, e1, e2, e3, s5⟩
          · go_wp2
            go_ret
            exact ⟨rfl, HGW.out.trans G23.out⟩
          · go_wp2
            go_ret
            exact ⟨rfl, HGW.out.trans G23.out⟩
          · go_wp2
            go_ret
            exact ⟨rfl, HGW.out.trans G23.out⟩
          · have S5 := Lib.hid s5
            have TE := Lib.hid (And.intro e1 (And.intro e2 e3))
            clear s5 e1 e2 e3
            go_wp2_with (first
              | (go_at_call 47
                 go_loud (with_reducible refine (sameRel_eq ((HB23.out _ (grownBy_refl _ _)).2.2.2.2.2.1).v ((HB23.out _ (grownBy_refl _ _)).2.1).v TE.out S5.out).mono ?_)
                 rintro e v24 ⟨rfl, g⟩
                 have HB24 := Lib.hid fun W (h : v24.grownBy W none) => HB23.out W (g.trans h)
                 have G24 := Lib.hid (G23.out.trans g)
                 have fb := HB24.out _ (grownBy_refl _ _)

                 clear g fb))
            go_ret
            exact ⟨rfl, HGW.out.trans G24.out⟩
end Go.Proofs.YtpeaeminjbjlnaaDoor

/-
  The law on separators: its walk. Conditions: both arguments read as bytes; the table of small primes holds what its text lays.
-/
import Derived.Test.YtpeaeminjbjlnaaDoorMs20
import Derived.Test.YtpeaeminjbjlnaaDoorMs21
import Derived.Deep.CutRange
namespace Go.Proofs.YtpeaeminjbjlnaaDoor
open Go.RowKit
set_option linter.unusedVariables false

theorem same_self (v1 v2 : Value) (x : List Int) (w : World) (h1 : IntsV w v1 x) (h2 : IntsV w v2 x) (l1 : x.length ≤ 1000000000) :
    Calls Tryd.prog 17 #[v1, v2] w fun e w' => e = .returned (.bool true) ∧ w.grownBy w' none := by
  refine (sameInts_q v1 v2 x x w h1 h2 l1 l1).mono ?_
  rintro e w' ⟨rfl, q, rfl⟩
  exact ⟨by simp, grown_drewN _ _⟩


theorem colTo_bd {q : Nat} (C : List Int) (L : List (List Int)) (j k : Nat) (hq : (1 : Int) ≤ q) : 0 ≤ colTo q C L j k ∧ colTo q C L j k < q := by
  cases k with
  | zero => simp only [colTo]; omega
  | succ k => exact ⟨Int.emod_nonneg _ (by omega), Int.emod_lt_of_pos _ (by omega)⟩
theorem same_selfL (v1 v2 : Value) (x : List (List Int)) (w : World) (h1 : MatV w v1 x) (h2 : MatV w v2 x) (l1 : x.length ≤ 1000000) (m1 : ∀ row ∈ x, row.length ≤ 1000000) :
    Calls Tryd.prog 53 #[v1, v2] w fun e w' => e = .returned (.bool true) ∧ w.grownBy w' none := by
  refine (sameLists_q v1 v2 x x w h1 h2 l1 l1 m1 m1).mono ?_
  rintro e w' ⟨rfl, q, rfl⟩
  exact ⟨by simp, grown_drewN _ _⟩
theorem nil_mat' (w : World) : MatV w (.slice none 0 0) [] := ⟨none, 0, rfl, fun h => absurd rfl h⟩

set_option maxRecDepth 100000 in
set_option maxHeartbeats 4000000 in
theorem fnSeparators_any (cv mv : Value) (w : World) (hc : CodeRaw w cv) (hm : CodeRaw w mv) (ht : Tab w) : Calls Tryd.prog 9 #[cv, mv] w (Gives (.bool true) w) := by
  have HT := Lib.hid ht
  obtain ⟨a1, l1, c1, rfl, hl1, hx1⟩ := hc
  obtain ⟨a2, l2, c2, rfl, hl2, hx2⟩ := hm
  have HX1 := Lib.hid hx1
  have HX2 := Lib.hid hx2
  clear ht hx1 hx2
  cases hbig : bigB l1 l2
  case true =>
    go_enter Tryd.func9, Tryd.ntmps9
    go_wp2_with (go_at_call 13; refine (big_any _ _ _ _ _ _ _ hl1 hl2).mono ?_; rintro e w' ⟨rfl, rfl⟩)
    go_ret
    exact ⟨rfl, grownBy_refl _ _⟩
  case false =>
    obtain ⟨b1, b2⟩ := bigB_no hbig
    have HC := Lib.hid (show CodeAt w (.slice a1 l1 c1) from ⟨a1, l1, c1, rfl, by omega, HX1.out⟩)
    have HM := Lib.hid (show CodeAt w (.slice a2 l2 c2) from ⟨a2, l2, c2, rfl, by omega, HX2.out⟩)
    clear b1 b2
    go_enter Tryd.func9, Tryd.ntmps9
    go_wp2_with fail
    refine (big_any _ _ _ _ _ _ _ hl1 hl2).mono ?_
    rintro e w' ⟨rfl, rfl⟩
    go_wp2_with fail
    refine (drawSeparatorOf_any _ _ HC.out).mono ?_
    rintro e w1 ⟨p, c, o, vs, L, u, zs, rfl, hp, hc0, hc1, ho, hl, hll, hu, hz, g1⟩
    have hpb := anyP_bd hp
    obtain ⟨oa, oc, hoe, _, _⟩ := own_form ho
    subst hoe
    obtain ⟨c, rfl⟩ := Int.eq_ofNat_of_zero_le hc0
    have hga := grownBy_alloc w1 (.cells #[.int .i64 c, .slice oa L.length oc] 74) none
    have hsix := six (p := p) (n := c) (HT.out.grown (g1.trans hga)) (ho.read.carry hga) (hu.read.carry hga) hl hll hz (by omega) (by omega)
    have HU := Lib.hid (hu.read.carry hga)
    have HO := Lib.hid (ho.read.carry hga)
    have HGW := Lib.hid (g1.trans hga)
    have HBX := Lib.hid fun W (h : (w1.alloc (.cells #[.int .i64 c, .slice oa L.length oc] 74)).grownBy W none) => (⟨(bx (bx_on (alloc_heap_new w1 _) h)).1, (bx (bx_on (alloc_heap_new w1 _) h)).2.1⟩ : W.cell? ⟨w1.heap.size, 0, none⟩ = some (.int .i64 c) ∧ W.cell? ⟨w1.heap.size, 1, none⟩ = some (.slice oa L.length oc))
    have HL := Lib.hid hl; have HLL := Lib.hid hll; have HZ := Lib.hid hz
    obtain ⟨ua, uc, rfl⟩ := own_shape hu
    clear hp ho hl hll hu hz g1 hga hc0 hc1
    unfold mxV
    go_wp2_with fail
    generalize w1.heap.size = s at *
    generalize w1.alloc (.cells #[.int .i64 c, .slice oa L.length oc] 74) = W2 at *
    have G1 := Lib.hid (grownBy_refl W2 none)
    obtain ⟨y0, y1⟩ := HBX.out _ G1.out
    rcases hsix with hs | ⟨q, iq, m, rfl, hcm, hf, hq, hm, hlm, hred, hok, hvx, ⟨hs, hcl, hcb, hcol⟩ | ⟨z, hs, hvz, hz1, hz0⟩⟩
    · obtain ⟨H1, H2, H3, H4, H5, H6⟩ := hs
      have H1 := Lib.hid H1; have H2 := Lib.hid H2; have H3 := Lib.hid H3; have H4 := Lib.hid H4; have H5 := Lib.hid H5; have H6 := Lib.hid H6
      unfold mxV at H1 H2 H3 H4 H5 H6
      have HLZ := Lib.hid (show ((none : Option (List Int)).getD [] : List Int).length ≤ 1000000000 by simp)
      have HLC := Lib.hid (show ([] : List Int).length ≤ 1000000000 by simp)
      generalize hlen : L.length = l at *
      have HLEN := Lib.hid hlen
      clear hlen
      go_wp2_with (first
        | (go_at_call 72
           go_loud (with_reducible refine (H1.out _ G1.out).mono ?_)
           rintro e v2 ⟨o1, rfl, i1, g⟩
           have I1 := Lib.hid fun W (h : v2.grownBy W none) => i1.carry h
           have G2 := Lib.hid (G1.out.trans g)
           obtain ⟨y2, y3⟩ := HBX.out _ G2.out
           clear i1 g)
        | (go_at_call 73
           go_loud (with_reducible refine (H2.out _ G2.out).mono ?_)
           rintro e v3 ⟨o2, rfl, i2, g⟩
           have I2 := Lib.hid fun W (h : v3.grownBy W none) => i2.carry h
           have E3 := Lib.hid g
           have G3 := Lib.hid (G2.out.trans g)
           obtain ⟨y4, y5⟩ := HBX.out _ G3.out
           clear i2 g)
        | (go_at_call 56
           go_loud (with_reducible refine (H3.out _ G3.out).mono ?_)
           rintro e v4 ⟨rfl, g⟩
           have E4 := Lib.hid g
           have G4 := Lib.hid (G3.out.trans g)
           obtain ⟨y6, y7⟩ := HBX.out _ G4.out
           clear g)
        | (go_at_call 74
           go_loud (with_reducible refine (H4.out _ G4.out).mono ?_)
           rintro e v5 ⟨rfl, g⟩
           have E5 := Lib.hid g
           have G5 := Lib.hid (G4.out.trans g)
           obtain ⟨y8, y9⟩ := HBX.out _ G5.out
           clear g)
        | (go_at_call 75
           go_loud (with_reducible refine (H5.out _ G5.out).mono ?_)
           rintro e v6 ⟨o3, rfl, i3, g⟩
           have I3 := Lib.hid fun W (h : v6.grownBy W none) => i3.carry h
           have E6 := Lib.hid g
           have G6 := Lib.hid (G5.out.trans g)
           obtain ⟨y10, y11⟩ := HBX.out _ G6.out
           clear i3 g)
        | (go_at_call 76
           go_loud (with_reducible refine (H6.out _ G6.out).mono ?_)
           rintro e v7 ⟨o4, rfl, i4, g⟩
           have I4 := Lib.hid fun W (h : v7.grownBy W none) => i4.carry h
           have E7 := Lib.hid g
           have G7 := Lib.hid (G6.out.trans g)
           have F7 := Lib.hid (E3.out.trans (E4.out.trans (E5.out.trans (E6.out.trans g))))
           clear i4 g)
        | (go_at_call 17
           first
             | (with_reducible refine (same_self _ _ _ _ (I1.out _ F7.out) (I2.out _ (E4.out.trans (E5.out.trans (E6.out.trans E7.out)))) HLZ.out).mono ?_
                rintro e v8 ⟨rfl, g⟩
                have E8 := Lib.hid g
                have G8 := Lib.hid (G7.out.trans g)
                clear g)
             | (with_reducible refine (same_self _ _ _ _ (I3.out _ (E7.out.trans E8.out)) (I4.out _ E8.out) HLC.out).mono ?_
                rintro e v9 ⟨rfl, g⟩
                have E9 := Lib.hid g
                have G9 := Lib.hid (G8.out.trans g)
                clear g)))
      refine (drawSpanOf_any _ _ (HM.out.carry (HGW.out.trans G9.out))).mono ?_
      rintro e x1 ⟨sp, sn, so, svs, sL, rfl, shp, sn0, sn1, sho, shl, shll, sg⟩
      have hspb := anyP_bd shp
      have HG10 := Lib.hid (G9.out.trans sg)
      have HMS := Lib.hid fun W (h : x1.grownBy W none) => sho.read.carry h
      have h2 := two (p := sp) (n := sn) (HT.out.grown (HGW.out.trans HG10.out)) sho.read shl shll (by omega) (by omega)
      have HSL := Lib.hid shl
      obtain ⟨soa, soc, hsoe, _, _⟩ := own_form sho
      subst hsoe
      clear shp sho shl shll sg
      rcases h2 with ⟨K1, K2⟩ | ⟨sm, R, rfl, hsm, hR, hRr, hLr, K1, K2, K3⟩
      · have K1 := Lib.hid K1; have K2 := Lib.hid K2
        unfold mxV nilS at K1 K2
        go_wp2_with (first
          | (go_at_call 79
             go_loud (with_reducible refine (K1.out _ (grownBy_refl _ _)).mono ?_)
             rintro e x2 ⟨rfl, g⟩
             have J2 := Lib.hid (g.trans (grownBy_alloc x2 (.cells #[.int .i64 0, .slice none 0 0] 74) none))
             have HBY := Lib.hid fun W (h : (x2.alloc (.cells #[.int .i64 0, .slice none 0 0] 74)).grownBy W none) => (⟨(bx (bx_on (alloc_heap_new x2 _) h)).1, (bx (bx_on (alloc_heap_new x2 _) h)).2.1⟩ : W.cell? ⟨x2.heap.size, 0, none⟩ = some (.int .i64 0) ∧ W.cell? ⟨x2.heap.size, 1, none⟩ = some (.slice none 0 0))
             clear g)
          | (go_at_call 80
             go_loud (with_reducible refine (K2.out _ J2.out).mono ?_)
             rintro e x3 ⟨rfl, g⟩
             have J3 := Lib.hid ((J2.out.trans g).trans (grownBy_alloc x3 (.cells #[.int .i64 0, .slice none 0 0] 74) none))
             obtain ⟨q0, q1⟩ := HBY.out _ (g.trans (grownBy_alloc x3 (.cells #[.int .i64 0, .slice none 0 0] 74) none))
             clear g)
          | (go_at_call 53
             go_loud (refine (sameLists_q _ _ [] [] _ (nil_mat' _) (nil_mat' _) (by simp) (by simp) (by simp) (by simp)).mono ?_)
             rintro e x4 ⟨rfl, sq, rfl⟩))
        go_ret
        exact ⟨rfl, HGW.out.trans (HG10.out.trans (J3.out.trans (grown_drewN _ _)))⟩
      · have K1 := Lib.hid K1; have K2 := Lib.hid K2; have K3 := Lib.hid K3
        unfold mxV at K1 K2 K3
        have HSR := Lib.hid (show R.length ≤ 1000000 ∧ ∀ row ∈ R, row.length ≤ 1000000 from ⟨by omega, fun row hr => by rw [hRr row hr]; omega⟩)
        clear hRr hLr
        go_wp2_with (first
          | (go_at_call 79
             go_loud (with_reducible refine (K1.out _ (grownBy_refl _ _)).mono ?_)
             rintro e x2 ⟨o5, rfl, hm2, g⟩
             obtain ⟨ya, yc, rfl⟩ := hm2.shape
             have J2 := Lib.hid (g.trans (grownBy_alloc x2 (.cells #[.int .i64 sm, .slice ya R.length yc] 74) none))
             have HBY := Lib.hid fun W (h : (x2.alloc (.cells #[.int .i64 sm, .slice ya R.length yc] 74)).grownBy W none) => (⟨(bx (bx_on (alloc_heap_new x2 _) h)).1, (bx (bx_on (alloc_heap_new x2 _) h)).2.1⟩ : W.cell? ⟨x2.heap.size, 0, none⟩ = some (.int .i64 sm) ∧ W.cell? ⟨x2.heap.size, 1, none⟩ = some (.slice ya R.length yc))
             have HM2 := Lib.hid fun W (h : (x2.alloc (.cells #[.int .i64 sm, .slice ya R.length yc] 74)).grownBy W none) => hm2.carry ((grownBy_alloc x2 _ none).trans h)
             clear g hm2)
          | (go_at_call 80
             go_loud (with_reducible refine (K2.out _ J2.out).mono ?_)
             rintro e x3 ⟨o6, rfl, hm3, g⟩
             obtain ⟨za, zc, rfl⟩ := hm3.shape
             have L3 := Lib.hid (g.trans (grownBy_alloc x3 (.cells #[.int .i64 sm, .slice za R.length zc] 74) none))
             have J3 := Lib.hid (J2.out.trans L3.out)
             have HM3 := Lib.hid (hm3.carry (grownBy_alloc x3 (.cells #[.int .i64 sm, .slice za R.length zc] 74) none))
             obtain ⟨q0, q1⟩ := HBY.out _ L3.out
             clear g hm3)
          | (go_at_call 53
             go_loud (refine (same_selfL _ _ R _ (HM2.out _ L3.out) HM3.out HSR.out.1 HSR.out.2).mono ?_)
             rintro e x4 ⟨rfl, g⟩
             have J4 := Lib.hid (J3.out.trans g)
             have L4 := Lib.hid (L3.out.trans g)
             clear g))
        go_loopw [226] (fun i wr => ∃ k : Nat, k ≤ sL.length ∧ i = .int .i64 k ∧ x4.grownBy wr none) (fun i _ => sL.length - (intOf i).toNat)
        case atStart => exact ⟨0, by omega, rfl, grownBy_refl _ _⟩
        case round =>
          obtain ⟨k, hk, rfl, hg⟩ := hrel
          have HG := Lib.hid hg
          obtain ⟨q2, q3⟩ := HBY.out _ (L4.out.trans hg)
          have hsl := HSL.out
          by_cases hkl : k < sL.length
          · obtain ⟨bb, bo, bcap, bml, br, bc, hbv, hcell, hrow⟩ := (HMS.out x1 (grownBy_refl _ _)).rowK (J4.out.trans hg) hkl
            cases hbv
            have HK := Lib.hid (K3.out wr _ _ _ (getD_mem hkl) (HT.out.grown (HGW.out.trans (HG10.out.trans (J4.out.trans hg)))) (HM2.out _ (L4.out.trans hg)) (hrow.carry (J4.out.trans hg)))
            clear hg hrow
            generalize (sL.getD k []).length = rlen at *
            go_wp2_with (
              go_at_call 56
              go_loud (with_reducible refine HK.out.mono ?_)
              rintro e x5 ⟨rfl, g⟩
              have HG5 := Lib.hid (HG.out.trans g)
              clear g)
            go_roundw
            case rel => exact ⟨k + 1, by omega, by go_num, HG5.out⟩
            case measure => simp [intOf]; omega
          · clear hg
            go_wp2
            go_ret
            exact ⟨rfl, HGW.out.trans (HG10.out.trans (J4.out.trans HG.out))⟩
    · obtain rfl : c = m := by omega
      obtain ⟨H1, H2, H3, H4, H5, H6⟩ := hs
      have H1 := Lib.hid H1; have H2 := Lib.hid H2; have H3 := Lib.hid H3; have H4 := Lib.hid H4; have H5 := Lib.hid H5; have H6 := Lib.hid H6
      unfold mxV at H1 H2 H3 H4 H5 H6
      have HLZ := Lib.hid (show ((none : Option (List Int)).getD [] : List Int).length ≤ 1000000000 by simp)
      have HLC := Lib.hid (show (coordsL L zs : List Int).length ≤ 1000000000 by rw [hcl]; omega)
      have HOK := Lib.hid hok; have HVX := Lib.hid hvx; have HCB := Lib.hid hcb; have HCOL := Lib.hid hcol; have HF := Lib.hid hf
      clear hred hok hvx hcb hcol
      have hq1 : (1 : Int) ≤ (q : Int) := by have := lt_p hf; omega
      have hq2 : (q : Int) ≤ 1000 := by omega
      generalize hC : coordsL L zs = C at *
      have HCL := Lib.hid hcl
      clear hC hcl
      have hzl := HVX.out.1
      generalize zs.length = zl at *
      subst hzl
      generalize hlen : L.length = l at *
      have HLEN := Lib.hid hlen
      clear hlen
      go_wp2_with (first
        | (go_at_call 72
           go_loud (with_reducible refine (H1.out _ G1.out).mono ?_)
           rintro e v2 ⟨o1, rfl, i1, g⟩
           have I1 := Lib.hid fun W (h : v2.grownBy W none) => i1.carry h
           have G2 := Lib.hid (G1.out.trans g)
           obtain ⟨y2, y3⟩ := HBX.out _ G2.out
           clear i1 g)
        | (go_at_call 73
           go_loud (with_reducible refine (H2.out _ G2.out).mono ?_)
           rintro e v3 ⟨o2, rfl, i2, g⟩
           have I2 := Lib.hid fun W (h : v3.grownBy W none) => i2.carry h
           have E3 := Lib.hid g
           have G3 := Lib.hid (G2.out.trans g)
           obtain ⟨y4, y5⟩ := HBX.out _ G3.out
           clear i2 g)
        | (go_at_call 56
           go_loud (with_reducible refine (H3.out _ G3.out).mono ?_)
           rintro e v4 ⟨rfl, g⟩
           have E4 := Lib.hid g
           have G4 := Lib.hid (G3.out.trans g)
           obtain ⟨y6, y7⟩ := HBX.out _ G4.out
           clear g)
        | (go_at_call 74
           go_loud (with_reducible refine (H4.out _ G4.out).mono ?_)
           rintro e v5 ⟨rfl, g⟩
           have E5 := Lib.hid g
           have G5 := Lib.hid (G4.out.trans g)
           obtain ⟨y8, y9⟩ := HBX.out _ G5.out
           clear g)
        | (go_at_call 75
           go_loud (with_reducible refine (H5.out _ G5.out).mono ?_)
           rintro e v6 ⟨o3, rfl, i3, g⟩
           have I3 := Lib.hid fun W (h : v6.grownBy W none) => i3.carry h
           have E6 := Lib.hid g
           have G6 := Lib.hid (G5.out.trans g)
           obtain ⟨y10, y11⟩ := HBX.out _ G6.out
           clear i3 g)
        | (go_at_call 76
           go_loud (with_reducible refine (H6.out _ G6.out).mono ?_)
           rintro e v7 ⟨o4, rfl, i4, g⟩
           have I4 := Lib.hid fun W (h : v7.grownBy W none) => i4.carry h
           have E7 := Lib.hid g
           have G7 := Lib.hid (G6.out.trans g)
           have F7 := Lib.hid (E3.out.trans (E4.out.trans (E5.out.trans (E6.out.trans g))))
           clear i4 g)
        | (go_at_call 17
           first
             | (with_reducible refine (same_self _ _ _ _ (I1.out _ F7.out) (I2.out _ (E4.out.trans (E5.out.trans (E6.out.trans E7.out)))) HLZ.out).mono ?_
                rintro e v8 ⟨rfl, g⟩
                have E8 := Lib.hid g
                have G8 := Lib.hid (G7.out.trans g)
                clear g)
             | (with_reducible refine (same_self _ _ _ _ (I3.out _ (E7.out.trans E8.out)) (I4.out _ E8.out) HLC.out).mono ?_
                rintro e v9 ⟨rfl, g⟩
                have E9 := Lib.hid g
                have G9 := Lib.hid (G8.out.trans g)
                clear g)))
      have F9 := Lib.hid (E7.out.trans (E8.out.trans E9.out))
      have hi3 := I3.out _ F9.out
      obtain ⟨a3, k3, rfl, _⟩ := id hi3
      have hcl := HCL.out
      generalize hC2 : C.length = cl at *
      have HC2 := Lib.hid hC2
      clear hC2 HCL
      obtain rfl : l = cl := hcl.symm
      clear hcl
      go_loopw [153] (fun i wr => ∃ j : Nat, j ≤ zl ∧ i = .int .i64 j ∧ v9.grownBy wr none) (fun i _ => zl - (intOf i).toNat)
      case atStart => exact ⟨0, by omega, rfl, grownBy_refl _ _⟩
      case round =>
        obtain ⟨j, hj, rfl, hg⟩ := hrel
        by_cases hlt : j < zl
        · have HG := Lib.hid hg
          obtain ⟨r0, r1⟩ := HBX.out _ (G9.out.trans hg)
          clear hg
          go_wp2
          go_loopw [23, 159] (fun s i wx => ∃ k : Nat, k ≤ l ∧ s = .int .i64 (colTo q C L j k) ∧ i = .int .i64 k ∧ v9.grownBy wx none) (fun _ i _ => l - (intOf i).toNat)
          case atStart => exact ⟨0, by omega, rfl, rfl, HG.out⟩
          case round =>
            obtain ⟨k, hk, rfl, rfl, hg⟩ := hrel
            have hcb := colTo_bd (q := q) C L j k hq1
            by_cases hkl : k < l
            · have hkL : k < L.length := by rw [HLEN.out]; exact hkl
              have hkC : k < C.length := by rw [HC2.out]; exact hkl
              obtain ⟨bb, bo, bcap, bml, br, bc, hbv, hcell, hrow⟩ := HO.out.rowK (G9.out.trans hg) hkL
              cases hbv
              have hrok := HOK.out _ (getD_mem hkL)
              have hn : colTo q C L j (k + 1) = (colTo q C L j k + C.getD k 0 * (L.getD k []).getD j 0) % q := rfl
              have hjr : j < (L.getD k []).length := by rw [hrok.1]; exact hlt
              rw [getD_lt hkC, getD_lt hjr] at hn
              have b1 := HCB.out _ (List.getElem_mem hkC)
              have b2 := hrok.2 _ (List.getElem_mem hjr)
              obtain ⟨d, rfl, hs, hd, hcell1⟩ := (I3.out _ (F9.out.trans hg)).at hkC
              obtain ⟨d2, rfl, hs2, hd2, hcell2⟩ := (hrow.carry (G9.out.trans hg)).at hjr
              obtain ⟨db, dof, _⟩ := d
              obtain ⟨db2, dof2, _⟩ := d2
              simp only at hs hcell1 hs2 hcell2
              subst hs hs2
              rw [hrok.1] at hcell
              have HN := Lib.hid hn
              have HG := Lib.hid hg
              clear hn hd hd2 hg hrow hrok
              generalize C[k] = xk at *
              generalize (L.getD k [])[j] = yk at *
              generalize colTo q C L j k = s at *
              have b3 : -(1000 * 1000) ≤ xk * yk ∧ xk * yk ≤ 1000 * 1000 := mul_bd2 (A := 1000) (B := 1000) ⟨by omega, by omega⟩ ⟨by omega, by omega⟩ (by omega) (by omega)
              have b4 := Int.mul_nonneg b1.1 b2.1
              go_wp2
              go_quiet (fail)
              go_wp2
              go_roundw
              case rel => exact ⟨k + 1, by omega, by rw [HN.out], by go_num, HG.out.trans (grown_drewN _ _)⟩
              case measure => simp [intOf]; omega
            · have hkl2 : k = l := by omega
              subst hkl2
              have hjz : j < zs.length := by rw [HVX.out.1]; exact hlt
              have hze := HCOL.out j hlt
              rw [getD_lt hjz] at hze
              have hu2 := HU.out.carry (G9.out.trans hg)
              rw [show zl = zs.length from HVX.out.1.symm] at hu2
              obtain ⟨d, rfl, hs, hd, hcell1⟩ := hu2.at hjz
              obtain ⟨db, dof, _⟩ := d
              simp only at hs hcell1
              subst hs
              rw [← hze] at hcell1
              have HG := Lib.hid hg
              clear hd hg hu2 hze
              generalize colTo q C L j k = s at *
              go_wp2
              go_roundw
              case rel => exact ⟨j + 1, by omega, by go_num, HG.out⟩
              case measure => simp [intOf]; omega
        · have G9 := Lib.hid (G9.out.trans hg)
          go_wp2_with fail
          refine (drawSpanOf_any _ _ (HM.out.carry (HGW.out.trans G9.out))).mono ?_
          rintro e x1 ⟨sp, sn, so, svs, sL, rfl, shp, sn0, sn1, sho, shl, shll, sg⟩
          have hspb := anyP_bd shp
          have HG10 := Lib.hid (G9.out.trans sg)
          have HMS := Lib.hid fun W (h : x1.grownBy W none) => sho.read.carry h
          have h2 := two (p := sp) (n := sn) (HT.out.grown (HGW.out.trans HG10.out)) sho.read shl shll (by omega) (by omega)
          have HSL := Lib.hid shl
          obtain ⟨soa, soc, hsoe, _, _⟩ := own_form sho
          subst hsoe
          clear shp sho shl shll sg
          rcases h2 with ⟨K1, K2⟩ | ⟨sm, R, rfl, hsm, hR, hRr, hLr, K1, K2, K3⟩
          · have K1 := Lib.hid K1; have K2 := Lib.hid K2
            unfold mxV nilS at K1 K2
            go_wp2_with (first
              | (go_at_call 79
                 go_loud (with_reducible refine (K1.out _ (grownBy_refl _ _)).mono ?_)
                 rintro e x2 ⟨rfl, g⟩
                 have J2 := Lib.hid (g.trans (grownBy_alloc x2 (.cells #[.int .i64 0, .slice none 0 0] 74) none))
                 have HBY := Lib.hid fun W (h : (x2.alloc (.cells #[.int .i64 0, .slice none 0 0] 74)).grownBy W none) => (⟨(bx (bx_on (alloc_heap_new x2 _) h)).1, (bx (bx_on (alloc_heap_new x2 _) h)).2.1⟩ : W.cell? ⟨x2.heap.size, 0, none⟩ = some (.int .i64 0) ∧ W.cell? ⟨x2.heap.size, 1, none⟩ = some (.slice none 0 0))
                 clear g)
              | (go_at_call 80
                 go_loud (with_reducible refine (K2.out _ J2.out).mono ?_)
                 rintro e x3 ⟨rfl, g⟩
                 have J3 := Lib.hid ((J2.out.trans g).trans (grownBy_alloc x3 (.cells #[.int .i64 0, .slice none 0 0] 74) none))
                 obtain ⟨q0, q1⟩ := HBY.out _ (g.trans (grownBy_alloc x3 (.cells #[.int .i64 0, .slice none 0 0] 74) none))
                 clear g)
              | (go_at_call 53
                 go_loud (refine (sameLists_q _ _ [] [] _ (nil_mat' _) (nil_mat' _) (by simp) (by simp) (by simp) (by simp)).mono ?_)
                 rintro e x4 ⟨rfl, sq, rfl⟩))
            go_ret
            exact ⟨rfl, HGW.out.trans (HG10.out.trans (J3.out.trans (grown_drewN _ _)))⟩
          · have K1 := Lib.hid K1; have K2 := Lib.hid K2; have K3 := Lib.hid K3
            unfold mxV at K1 K2 K3
            have HSR := Lib.hid (show R.length ≤ 1000000 ∧ ∀ row ∈ R, row.length ≤ 1000000 from ⟨by omega, fun row hr => by rw [hRr row hr]; omega⟩)
            clear hRr hLr
            go_wp2_with (first
              | (go_at_call 79
                 go_loud (with_reducible refine (K1.out _ (grownBy_refl _ _)).mono ?_)
                 rintro e x2 ⟨o5, rfl, hm2, g⟩
                 obtain ⟨ya, yc, rfl⟩ := hm2.shape
                 have J2 := Lib.hid (g.trans (grownBy_alloc x2 (.cells #[.int .i64 sm, .slice ya R.length yc] 74) none))
                 have HBY := Lib.hid fun W (h : (x2.alloc (.cells #[.int .i64 sm, .slice ya R.length yc] 74)).grownBy W none) => (⟨(bx (bx_on (alloc_heap_new x2 _) h)).1, (bx (bx_on (alloc_heap_new x2 _) h)).2.1⟩ : W.cell? ⟨x2.heap.size, 0, none⟩ = some (.int .i64 sm) ∧ W.cell? ⟨x2.heap.size, 1, none⟩ = some (.slice ya R.length yc))
                 have HM2 := Lib.hid fun W (h : (x2.alloc (.cells #[.int .i64 sm, .slice ya R.length yc] 74)).grownBy W none) => hm2.carry ((grownBy_alloc x2 _ none).trans h)
                 clear g hm2)
              | (go_at_call 80
                 go_loud (with_reducible refine (K2.out _ J2.out).mono ?_)
                 rintro e x3 ⟨o6, rfl, hm3, g⟩
                 obtain ⟨za, zc, rfl⟩ := hm3.shape
                 have L3 := Lib.hid (g.trans (grownBy_alloc x3 (.cells #[.int .i64 sm, .slice za R.length zc] 74) none))
                 have J3 := Lib.hid (J2.out.trans L3.out)
                 have HM3 := Lib.hid (hm3.carry (grownBy_alloc x3 (.cells #[.int .i64 sm, .slice za R.length zc] 74) none))
                 obtain ⟨q0, q1⟩ := HBY.out _ L3.out
                 clear g hm3)
              | (go_at_call 53
                 go_loud (refine (same_selfL _ _ R _ (HM2.out _ L3.out) HM3.out HSR.out.1 HSR.out.2).mono ?_)
                 rintro e x4 ⟨rfl, g⟩
                 have J4 := Lib.hid (J3.out.trans g)
                 have L4 := Lib.hid (L3.out.trans g)
                 clear g))
            go_loopw [226] (fun i wr => ∃ k : Nat, k ≤ sL.length ∧ i = .int .i64 k ∧ x4.grownBy wr none) (fun i _ => sL.length - (intOf i).toNat)
            case atStart => exact ⟨0, by omega, rfl, grownBy_refl _ _⟩
            case round =>
              obtain ⟨k, hk, rfl, hg⟩ := hrel
              have HG := Lib.hid hg
              obtain ⟨q2, q3⟩ := HBY.out _ (L4.out.trans hg)
              have hsl := HSL.out
              by_cases hkl : k < sL.length
              · obtain ⟨bb, bo, bcap, bml, br, bc, hbv, hcell, hrow⟩ := (HMS.out x1 (grownBy_refl _ _)).rowK (J4.out.trans hg) hkl
                cases hbv
                have HK := Lib.hid (K3.out wr _ _ _ (getD_mem hkl) (HT.out.grown (HGW.out.trans (HG10.out.trans (J4.out.trans hg)))) (HM2.out _ (L4.out.trans hg)) (hrow.carry (J4.out.trans hg)))
                clear hg hrow
                generalize (sL.getD k []).length = rlen at *
                go_wp2_with (
                  go_at_call 56
                  go_loud (with_reducible refine HK.out.mono ?_)
                  rintro e x5 ⟨rfl, g⟩
                  have HG5 := Lib.hid (HG.out.trans g)
                  clear g)
                go_roundw
                case rel => exact ⟨k + 1, by omega, by go_num, HG5.out⟩
                case measure => simp [intOf]; omega
              · clear hg
                go_wp2
                go_ret
                exact ⟨rfl, HGW.out.trans (HG10.out.trans (J4.out.trans HG.out))⟩
    · obtain rfl : c = m := by omega
      obtain ⟨H1, H2, H3, H4, H5, H6⟩ := hs
      have H1 := Lib.hid H1; have H2 := Lib.hid H2; have H3 := Lib.hid H3; have H4 := Lib.hid H4; have H5 := Lib.hid H5; have H6 := Lib.hid H6
      unfold mxV at H1 H2 H3 H4 H5 H6
      have HLZ := Lib.hid (show ((some z).getD [] : List Int).length ≤ 1000000000 by have := hvz.1; simp; omega)
      have HLC := Lib.hid (show ([] : List Int).length ≤ 1000000000 by simp)
      have HOK := Lib.hid hok; have HVX := Lib.hid hvx; have HVZ := Lib.hid hvz; have HZ0 := Lib.hid hz0; have HZ1 := Lib.hid hz1
      clear hred hok hvx hz0 hvz hz1
      generalize hlen : L.length = l at *
      have HLEN := Lib.hid hlen
      clear hlen
      go_wp2_with (first
        | (go_at_call 72
           go_loud (with_reducible refine (H1.out _ G1.out).mono ?_)
           rintro e v2 ⟨o1, rfl, i1, g⟩
           have I1 := Lib.hid fun W (h : v2.grownBy W none) => i1.carry h
           have G2 := Lib.hid (G1.out.trans g)
           obtain ⟨y2, y3⟩ := HBX.out _ G2.out
           clear i1 g)
        | (go_at_call 73
           go_loud (with_reducible refine (H2.out _ G2.out).mono ?_)
           rintro e v3 ⟨o2, rfl, i2, g⟩
           have I2 := Lib.hid fun W (h : v3.grownBy W none) => i2.carry h
           have E3 := Lib.hid g
           have G3 := Lib.hid (G2.out.trans g)
           obtain ⟨y4, y5⟩ := HBX.out _ G3.out
           clear i2 g)
        | (go_at_call 56
           go_loud (with_reducible refine (H3.out _ G3.out).mono ?_)
           rintro e v4 ⟨rfl, g⟩
           have E4 := Lib.hid g
           have G4 := Lib.hid (G3.out.trans g)
           obtain ⟨y6, y7⟩ := HBX.out _ G4.out
           clear g)
        | (go_at_call 74
           go_loud (with_reducible refine (H4.out _ G4.out).mono ?_)
           rintro e v5 ⟨rfl, g⟩
           have E5 := Lib.hid g
           have G5 := Lib.hid (G4.out.trans g)
           obtain ⟨y8, y9⟩ := HBX.out _ G5.out
           clear g)
        | (go_at_call 75
           go_loud (with_reducible refine (H5.out _ G5.out).mono ?_)
           rintro e v6 ⟨o3, rfl, i3, g⟩
           have I3 := Lib.hid fun W (h : v6.grownBy W none) => i3.carry h
           have E6 := Lib.hid g
           have G6 := Lib.hid (G5.out.trans g)
           obtain ⟨y10, y11⟩ := HBX.out _ G6.out
           clear i3 g)
        | (go_at_call 76
           go_loud (with_reducible refine (H6.out _ G6.out).mono ?_)
           rintro e v7 ⟨o4, rfl, i4, g⟩
           have I4 := Lib.hid fun W (h : v7.grownBy W none) => i4.carry h
           have E7 := Lib.hid g
           have G7 := Lib.hid (G6.out.trans g)
           have F7 := Lib.hid (E3.out.trans (E4.out.trans (E5.out.trans (E6.out.trans g))))
           clear i4 g)
        | (go_at_call 17
           first
             | (with_reducible refine (same_self _ _ _ _ (I1.out _ F7.out) (I2.out _ (E4.out.trans (E5.out.trans (E6.out.trans E7.out)))) HLZ.out).mono ?_
                rintro e v8 ⟨rfl, g⟩
                have E8 := Lib.hid g
                have G8 := Lib.hid (G7.out.trans g)
                clear g)
             | (with_reducible refine (same_self _ _ _ _ (I3.out _ (E7.out.trans E8.out)) (I4.out _ E8.out) HLC.out).mono ?_
                rintro e v9 ⟨rfl, g⟩
                have E9 := Lib.hid g
                have G9 := Lib.hid (G8.out.trans g)
                clear g)))
      have F9 := Lib.hid (F7.out.trans (E8.out.trans E9.out))
      have hq1 : (1 : Int) ≤ (q : Int) := by have := lt_p hf; omega
      have hq2 : (q : Int) ≤ 1000 := by omega
      have hzb : ∀ x ∈ z, 0 ≤ x ∧ x ≤ 1000 := fun x hx => by have := HVZ.out.2 x hx; omega
      have hxb : ∀ x ∈ zs, 0 ≤ x ∧ x ≤ 1000 := fun x hx => by have := HVX.out.2 x hx; omega
      have HZB := Lib.hid hzb; have HXB := Lib.hid hxb
      clear hzb hxb
      have hqd := qDot_q (q : Int) o1 _ z zs v9 (I1.out _ F9.out) (HU.out.carry G9.out) (by rw [HVZ.out.1, HVX.out.1]) (by rw [HVZ.out.1]; omega) hq1 hq2 HZB.out HXB.out
      rw [HZ1.out] at hqd
      have HD := Lib.hid hqd
      clear hqd
      with_reducible refine HD.out.mono ?_
      rintro e x0 ⟨rfl, dq, rfl⟩
      obtain ⟨r0, r1⟩ := HBX.out _ (G9.out.trans (grown_drewN _ dq))
      go_wp2
      go_loopw [140] (fun i wr => ∃ k : Nat, k ≤ l ∧ i = .int .i64 k ∧ v9.grownBy wr none) (fun i _ => l - (intOf i).toNat)
      case atStart => exact ⟨0, by omega, rfl, grown_drewN _ _⟩
      case round =>
        obtain ⟨k, hk, rfl, hg⟩ := hrel
        by_cases hlt : k < l
        · have hkL : k < L.length := by rw [HLEN.out]; exact hlt
          obtain ⟨bb, bo, bcap, bml, br, bc, hbv, hcell, hrow⟩ := HO.out.rowK (G9.out.trans hg) hkL
          cases hbv
          have hmem := getD_mem hkL
          have hrok := HOK.out _ hmem
          have hqd := qDot_q (q : Int) o1 _ z (L.getD k []) wr (I1.out _ (F9.out.trans hg)) (hrow.carry (G9.out.trans hg)) (by rw [HVZ.out.1, hrok.1]) (by rw [HVZ.out.1]; omega) hq1 hq2 HZB.out (fun x hx => by have := hrok.2 x hx; omega)
          rw [HZ0.out _ hmem] at hqd
          have HD2 := Lib.hid hqd
          have HG := Lib.hid hg
          clear hqd hg hrok hmem hrow
          generalize L.getD k [] = row at *
          go_wp2_with (
            go_at_call 77
            go_loud (with_reducible refine HD2.out.mono ?_)
            rintro e x2 ⟨rfl, dq2, rfl⟩)
          go_roundw
          case rel => exact ⟨k + 1, by omega, by go_num, HG.out.trans (grown_drewN _ _)⟩
          case measure => simp [intOf]; omega
        · have G9 := Lib.hid (G9.out.trans hg)
          go_wp2_with fail
          refine (drawSpanOf_any _ _ (HM.out.carry (HGW.out.trans G9.out))).mono ?_
          rintro e x1 ⟨sp, sn, so, svs, sL, rfl, shp, sn0, sn1, sho, shl, shll, sg⟩
          have hspb := anyP_bd shp
          have HG10 := Lib.hid (G9.out.trans sg)
          have HMS := Lib.hid fun W (h : x1.grownBy W none) => sho.read.carry h
          have h2 := two (p := sp) (n := sn) (HT.out.grown (HGW.out.trans HG10.out)) sho.read shl shll (by omega) (by omega)
          have HSL := Lib.hid shl
          obtain ⟨soa, soc, hsoe, _, _⟩ := own_form sho
          subst hsoe
          clear shp sho shl shll sg
          rcases h2 with ⟨K1, K2⟩ | ⟨sm, R, rfl, hsm, hR, hRr, hLr, K1, K2, K3⟩
          · have K1 := Lib.hid K1; have K2 := Lib.hid K2
            unfold mxV nilS at K1 K2
            go_wp2_with (first
              | (go_at_call 79
                 go_loud (with_reducible refine (K1.out _ (grownBy_refl _ _)).mono ?_)
                 rintro e x2 ⟨rfl, g⟩
                 have J2 := Lib.hid (g.trans (grownBy_alloc x2 (.cells #[.int .i64 0, .slice none 0 0] 74) none))
                 have HBY := Lib.hid fun W (h : (x2.alloc (.cells #[.int .i64 0, .slice none 0 0] 74)).grownBy W none) => (⟨(bx (bx_on (alloc_heap_new x2 _) h)).1, (bx (bx_on (alloc_heap_new x2 _) h)).2.1⟩ : W.cell? ⟨x2.heap.size, 0, none⟩ = some (.int .i64 0) ∧ W.cell? ⟨x2.heap.size, 1, none⟩ = some (.slice none 0 0))
                 clear g)
              | (go_at_call 80
                 go_loud (with_reducible refine (K2.out _ J2.out).mono ?_)
                 rintro e x3 ⟨rfl, g⟩
                 have J3 := Lib.hid ((J2.out.trans g).trans (grownBy_alloc x3 (.cells #[.int .i64 0, .slice none 0 0] 74) none))
                 obtain ⟨q0, q1⟩ := HBY.out _ (g.trans (grownBy_alloc x3 (.cells #[.int .i64 0, .slice none 0 0] 74) none))
                 clear g)
              | (go_at_call 53
                 go_loud (refine (sameLists_q _ _ [] [] _ (nil_mat' _) (nil_mat' _) (by simp) (by simp) (by simp) (by simp)).mono ?_)
                 rintro e x4 ⟨rfl, sq, rfl⟩))
            go_ret
            exact ⟨rfl, HGW.out.trans (HG10.out.trans (J3.out.trans (grown_drewN _ _)))⟩
          · have K1 := Lib.hid K1; have K2 := Lib.hid K2; have K3 := Lib.hid K3
            unfold mxV at K1 K2 K3
            have HSR := Lib.hid (show R.length ≤ 1000000 ∧ ∀ row ∈ R, row.length ≤ 1000000 from ⟨by omega, fun row hr => by rw [hRr row hr]; omega⟩)
            clear hRr hLr
            go_wp2_with (first
              | (go_at_call 79
                 go_loud (with_reducible refine (K1.out _ (grownBy_refl _ _)).mono ?_)
                 rintro e x2 ⟨o5, rfl, hm2, g⟩
                 obtain ⟨ya, yc, rfl⟩ := hm2.shape
                 have J2 := Lib.hid (g.trans (grownBy_alloc x2 (.cells #[.int .i64 sm, .slice ya R.length yc] 74) none))
                 have HBY := Lib.hid fun W (h : (x2.alloc (.cells #[.int .i64 sm, .slice ya R.length yc] 74)).grownBy W none) => (⟨(bx (bx_on (alloc_heap_new x2 _) h)).1, (bx (bx_on (alloc_heap_new x2 _) h)).2.1⟩ : W.cell? ⟨x2.heap.size, 0, none⟩ = some (.int .i64 sm) ∧ W.cell? ⟨x2.heap.size, 1, none⟩ = some (.slice ya R.length yc))
                 have HM2 := Lib.hid fun W (h : (x2.alloc (.cells #[.int .i64 sm, .slice ya R.length yc] 74)).grownBy W none) => hm2.carry ((grownBy_alloc x2 _ none).trans h)
                 clear g hm2)
              | (go_at_call 80
                 go_loud (with_reducible refine (K2.out _ J2.out).mono ?_)
                 rintro e x3 ⟨o6, rfl, hm3, g⟩
                 obtain ⟨za, zc, rfl⟩ := hm3.shape
                 have L3 := Lib.hid (g.trans (grownBy_alloc x3 (.cells #[.int .i64 sm, .slice za R.length zc] 74) none))
                 have J3 := Lib.hid (J2.out.trans L3.out)
                 have HM3 := Lib.hid (hm3.carry (grownBy_alloc x3 (.cells #[.int .i64 sm, .slice za R.length zc] 74) none))
                 obtain ⟨q0, q1⟩ := HBY.out _ L3.out
                 clear g hm3)
              | (go_at_call 53
                 go_loud (refine (same_selfL _ _ R _ (HM2.out _ L3.out) HM3.out HSR.out.1 HSR.out.2).mono ?_)
                 rintro e x4 ⟨rfl, g⟩
                 have J4 := Lib.hid (J3.out.trans g)
                 have L4 := Lib.hid (L3.out.trans g)
                 clear g))
            go_loopw [226] (fun i wr => ∃ k : Nat, k ≤ sL.length ∧ i = .int .i64 k ∧ x4.grownBy wr none) (fun i _ => sL.length - (intOf i).toNat)
            case atStart => exact ⟨0, by omega, rfl, grownBy_refl _ _⟩
            case round =>
              obtain ⟨k, hk, rfl, hg⟩ := hrel
              have HG := Lib.hid hg
              obtain ⟨q2, q3⟩ := HBY.out _ (L4.out.trans hg)
              have hsl := HSL.out
              by_cases hkl : k < sL.length
              · obtain ⟨bb, bo, bcap, bml, br, bc, hbv, hcell, hrow⟩ := (HMS.out x1 (grownBy_refl _ _)).rowK (J4.out.trans hg) hkl
                cases hbv
                have HK := Lib.hid (K3.out wr _ _ _ (getD_mem hkl) (HT.out.grown (HGW.out.trans (HG10.out.trans (J4.out.trans hg)))) (HM2.out _ (L4.out.trans hg)) (hrow.carry (J4.out.trans hg)))
                clear hg hrow
                generalize (sL.getD k []).length = rlen at *
                go_wp2_with (
                  go_at_call 56
                  go_loud (with_reducible refine HK.out.mono ?_)
                  rintro e x5 ⟨rfl, g⟩
                  have HG5 := Lib.hid (HG.out.trans g)
                  clear g)
                go_roundw
                case rel => exact ⟨k + 1, by omega, by go_num, HG5.out⟩
                case measure => simp [intOf]; omega
              · clear hg
                go_wp2
                go_ret
                exact ⟨rfl, HGW.out.trans (HG10.out.trans (J4.out.trans HG.out))⟩
end Go.Proofs.YtpeaeminjbjlnaaDoor

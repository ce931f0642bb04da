/-
  StartSession in the program. Conditions: the terms lie in memory; the lengths are small; the table of small primes holds what its text lays.
-/
import Derived.Test.YtjagjhchnpmngaaGreatDoorYx11
import Derived.Test.YtjagjhchnpmngaaGreatDoorYx05
import Derived.Test.YtjagjhchnpmngaaGreatDoorYx00
import Derived.Laws.IdiomStrings
namespace Go.Proofs.YtjagjhchnpmngaaGreatDoor
open Go.RowKit
set_option linter.unusedVariables false
set_option linter.unusedSimpArgs false
set_option maxRecDepth 100000

theorem tmT_len {p : Int} {x y : List Nd} (h1 : ovT p x = true) (h2 : ovT p y = true) (o1 : okT x = true) (o2 : okT y = true) : decide ((tmT x).1 = (tmT y).1) = decide ((grT x).i.length = (grT y).i.length) ∧ decide ((tmT x).2 = (tmT y).2) = decide ((grT x).o.length = (grT y).o.length) := by
  obtain ⟨_, a1, a2⟩ := grT_ok h1 o1
  obtain ⟨_, b1, b2⟩ := grT_ok h2 o2
  constructor
  · rw [decide_eq_decide, ← a1, ← b1]; omega
  · rw [decide_eq_decide, ← a2, ← b2]; omega
set_option maxHeartbeats 8000000 in
theorem iStart_any (p k l : Int) (x y : List Nd) (na nb : Option Addr) (nc mc : Nat) (w : World) (ht : Tab w) (hx : RdR nodeE w (.slice na x.length nc) x) (hxl : x.length ≤ 2000000) (hy : RdR nodeE w (.slice nb y.length mc) y) (hyl : y.length ≤ 2000000) :
    Calls Tryz.prog 7 #[.int .i64 p, .int .i64 k, .int .i64 l, .agg #[.slice na x.length nc], .agg #[.slice nb y.length mc]] w (GivesN (snOk p k l x y) (snRes p k l x y) w) := by
  have HGA := Lib.hid fun W (hW : w.grownBy W none) => isOverT_any p (.slice na x.length nc) x W (ht.grown hW) (hx.carry hW) hxl
  have HGB := Lib.hid fun W (hW : w.grownBy W none) => isOverT_any p (.slice nb y.length mc) y W (ht.grown hW) (hy.carry hW) hyl
  have HFT := Lib.hid fun W v (hW : w.grownBy W none) (hv : IntsV W v [k, l]) => areElements_any p v [k, l] W (ht.grown hW) hv (by simp)
  rw [show [k, l].all (elB p) = (elB p k && elB p l) from by simp] at HFT
  have HMA := Lib.hid fun (hb : tmB x = true) W (hW : w.grownBy W none) => show Calls Tryz.prog 22 #[.agg #[.slice na x.length nc]] W (MadeR (okT x) (grT x) W) from by
    obtain ⟨⟨b1, b2⟩, t, hok, hno, hp⟩ := tmB_tree hb
    obtain ⟨e1, e2, _⟩ := tree_eq hp
    rw [e1, e2]
    exact graphOf_any (.slice na x.length nc) x t W (hx.carry hW) hp b1 b2
  have HMB := Lib.hid fun (hb : tmB y = true) W (hW : w.grownBy W none) => show Calls Tryz.prog 22 #[.agg #[.slice nb y.length mc]] W (MadeR (okT y) (grT y) W) from by
    obtain ⟨⟨b1, b2⟩, t, hok, hno, hp⟩ := tmB_tree hb
    obtain ⟨e1, e2, _⟩ := tree_eq hp
    rw [e1, e2]
    exact graphOf_any (.slice nb y.length mc) y t W (hy.carry hW) hp b1 b2
  obtain ⟨b, hb⟩ : ∃ b, snOk p k l x y = b := ⟨_, rfl⟩
  obtain ⟨R, hR⟩ : ∃ R, snRes p k l x y = R := ⟨_, rfl⟩
  rw [hb, hR]
  have HB := Lib.hid hb; have HR := Lib.hid hR
  clear hx hxl hy hyl hb hR ht
  generalize hn : x.length = n at *
  generalize hm : y.length = m at *
  clear hn hm
  have hs0 := (((Sep.start w).boxAt w.heap.size rfl #[.slice na n nc] 37).boxAt (w.heap.size + 1) (by simp) #[.slice nb m mc] 37).boxAt (w.heap.size + 2) (by simp) #[.int .i64 0, .int .i64 0, .int .i64 0, .slice none 0 0, .int .i64 0, .slice none 0 0, .slice none 0 0, .slice none 0 0, .slice none 0 0, .int .i64 0, .slice none 0 0, .slice none 0 0, .slice none 0 0] 32
  have HS0 := Lib.hid (show Sep (World.alloc _ (.cells #[.int .i64 k, .int .i64 l] 3)) _ from Sep.twoIT hs0 k l (w.heap.size + 3) (by simp))
  clear hs0
  have HK0 := Lib.hid (show w.grownBy _ none from HS0.out.tl.tl.tl.tl.hd)
  have HCF := Lib.hid (HFT.out _ _ HK0.out (show OwnInts 0 _ _ [k, l] from HS0.out.hd).read)
  have x0 := bs1 HS0.out.tl.tl.tl.hd
  have y0 := bs1 HS0.out.tl.tl.hd
  clear HFT
  cases h3 : fldB p && (elB p k && elB p l)
  · rw [h3] at HCF
    obtain rfl : b = false := by rw [← HB.out]; unfold snOk; rw [h3]; simp
    obtain rfl : R = sn0 := HR.out.symm.trans (sn_no HB.out)
    clear h3
    go_enter Tryz.func7, Tryz.ntmps7
    go_upto_region 2 with (first
      | (go_at_call 20
         with_reducible refine HCF.out.mono ?_
         rintro e w3 ⟨rfl, hw⟩
         have HSB := Lib.hid (show Sep w3 _ from hw ▸ HS0.out)
         clear hw x0 y0))
    clear HCF HK0
    have hz0 := Sep.blk (A := [_]) (B := [_]) HSB.out
    obtain ⟨y0_, y1_, y2_, y3_, y4_, y5_, y6_, y7_, y8_, y9_, y10_, y11_, y12_⟩ := cq13 hz0.hd
    obtain ⟨f0_, f1_, f2_, f3_, f4_, f5_, f6_, f7_, f8_, f9_, f10_, f11_, f12_⟩ := cf13 hz0.hd
    have hz := (((((((((((((hz0.q13_0 (u := .int .i64 0)).q13_1 (u := .int .i64 0)).q13_2 (u := .int .i64 0)).q13_3 (u := .slice none 0 0)).q13_4 (u := .int .i64 0)).q13_5 (u := .slice none 0 0)).q13_6 (u := .slice none 0 0)).q13_7 (u := .slice none 0 0)).q13_8 (u := .slice none 0 0)).q13_9 (u := .int .i64 0)).q13_10 (u := .slice none 0 0)).q13_11 (u := .slice none 0 0)).q13_12 (u := .slice none 0 0))
    have HZC := Lib.hid (cq13 hz.hd)
    have HKF := Lib.hid (show w.grownBy _ none from Sep.all hz (KeepA w) (by simp))
    clear hz hz0
    go_wp2_with fail
    obtain ⟨z0_, z1_, z2_, z3_, z4_, z5_, z6_, z7_, z8_, z9_, z10_, z11_, z12_⟩ := HZC.out
    refine bodyPost_ret_by (v := .tuple #[.agg #[.int .i64 0, .int .i64 0, .int .i64 0, .slice none 0 0, .int .i64 0, .slice none 0 0, .slice none 0 0, .slice none 0 0, .slice none 0 0, .int .i64 0, .slice none 0 0, .slice none 0 0, .slice none 0 0], .bool false]) ?_ rfl (GivesN.zero HKF.out)
    simp [results, go_sem, *]
  · cases h1 : ovT p x
    · rw [h3] at HCF
      rw [h1] at HGA
      obtain rfl : b = false := by rw [← HB.out]; unfold snOk; rw [h1]; simp
      obtain rfl : R = sn0 := HR.out.symm.trans (sn_no HB.out)
      clear h3 h1
      go_enter Tryz.func7, Tryz.ntmps7
      go_upto_region 2 with (first
        | (go_at_call 20
           with_reducible refine HCF.out.mono ?_
           rintro e w3 ⟨rfl, rfl⟩)
        | (go_at_call 21
           with_reducible refine (HGA.out _ HK0.out).mono ?_
           rintro e w4 ⟨rfl, hg⟩
           have HS1 := Lib.hid (HS0.out.grown hg)
           have HK1 := Lib.hid (show w.grownBy _ none from HS1.out.tl.tl.tl.tl.hd)
           clear hg x0 y0
           have x0 := bs1 HS1.out.tl.tl.tl.hd
           have y0 := bs1 HS1.out.tl.tl.hd))
      have hz0 := Sep.blk (A := [_]) (B := [_]) HS1.out
      obtain ⟨y0_, y1_, y2_, y3_, y4_, y5_, y6_, y7_, y8_, y9_, y10_, y11_, y12_⟩ := cq13 hz0.hd
      obtain ⟨f0_, f1_, f2_, f3_, f4_, f5_, f6_, f7_, f8_, f9_, f10_, f11_, f12_⟩ := cf13 hz0.hd
      have hz := (((((((((((((hz0.q13_0 (u := .int .i64 0)).q13_1 (u := .int .i64 0)).q13_2 (u := .int .i64 0)).q13_3 (u := .slice none 0 0)).q13_4 (u := .int .i64 0)).q13_5 (u := .slice none 0 0)).q13_6 (u := .slice none 0 0)).q13_7 (u := .slice none 0 0)).q13_8 (u := .slice none 0 0)).q13_9 (u := .int .i64 0)).q13_10 (u := .slice none 0 0)).q13_11 (u := .slice none 0 0)).q13_12 (u := .slice none 0 0))
      have HZC := Lib.hid (cq13 hz.hd)
      have HKF := Lib.hid (show w.grownBy _ none from Sep.all hz (KeepA w) (by simp))
      clear hz hz0
      go_wp2_with fail
      obtain ⟨z0_, z1_, z2_, z3_, z4_, z5_, z6_, z7_, z8_, z9_, z10_, z11_, z12_⟩ := HZC.out
      refine bodyPost_ret_by (v := .tuple #[.agg #[.int .i64 0, .int .i64 0, .int .i64 0, .slice none 0 0, .int .i64 0, .slice none 0 0, .slice none 0 0, .slice none 0 0, .slice none 0 0, .int .i64 0, .slice none 0 0, .slice none 0 0, .slice none 0 0], .bool false]) ?_ rfl (GivesN.zero HKF.out)
      simp [results, go_sem, *]
    · cases h2 : ovT p y
      · rw [h3] at HCF
        rw [h1] at HGA
        rw [h2] at HGB
        obtain rfl : b = false := by rw [← HB.out]; unfold snOk; rw [h2]; simp
        obtain rfl : R = sn0 := HR.out.symm.trans (sn_no HB.out)
        clear h3 h1 h2
        go_enter Tryz.func7, Tryz.ntmps7
        go_upto_region 2 with (first
          | (go_at_call 20
             with_reducible refine HCF.out.mono ?_
             rintro e w3 ⟨rfl, rfl⟩)
          | (go_at_call 21
             with_reducible refine (HGA.out _ HK0.out).mono ?_
             rintro e w4 ⟨rfl, hg⟩
             have HS1 := Lib.hid (HS0.out.grown hg)
             have HK1 := Lib.hid (show w.grownBy _ none from HS1.out.tl.tl.tl.tl.hd)
             clear hg x0 y0
             have x0 := bs1 HS1.out.tl.tl.tl.hd
             have y0 := bs1 HS1.out.tl.tl.hd)
          | (go_at_call 21
             with_reducible refine (HGB.out _ HK1.out).mono ?_
             rintro e w5 ⟨rfl, hg⟩
             have HS2 := Lib.hid (HS1.out.grown hg)
             have HK2 := Lib.hid (show w.grownBy _ none from HS2.out.tl.tl.tl.tl.hd)
             clear hg x0 y0
             have x0 := bs1 HS2.out.tl.tl.tl.hd
             have y0 := bs1 HS2.out.tl.tl.hd))
        have hz0 := Sep.blk (A := [_]) (B := [_]) HS2.out
        obtain ⟨y0_, y1_, y2_, y3_, y4_, y5_, y6_, y7_, y8_, y9_, y10_, y11_, y12_⟩ := cq13 hz0.hd
        obtain ⟨f0_, f1_, f2_, f3_, f4_, f5_, f6_, f7_, f8_, f9_, f10_, f11_, f12_⟩ := cf13 hz0.hd
        have hz := (((((((((((((hz0.q13_0 (u := .int .i64 0)).q13_1 (u := .int .i64 0)).q13_2 (u := .int .i64 0)).q13_3 (u := .slice none 0 0)).q13_4 (u := .int .i64 0)).q13_5 (u := .slice none 0 0)).q13_6 (u := .slice none 0 0)).q13_7 (u := .slice none 0 0)).q13_8 (u := .slice none 0 0)).q13_9 (u := .int .i64 0)).q13_10 (u := .slice none 0 0)).q13_11 (u := .slice none 0 0)).q13_12 (u := .slice none 0 0))
        have HZC := Lib.hid (cq13 hz.hd)
        have HKF := Lib.hid (show w.grownBy _ none from Sep.all hz (KeepA w) (by simp))
        clear hz hz0
        go_wp2_with fail
        obtain ⟨z0_, z1_, z2_, z3_, z4_, z5_, z6_, z7_, z8_, z9_, z10_, z11_, z12_⟩ := HZC.out
        refine bodyPost_ret_by (v := .tuple #[.agg #[.int .i64 0, .int .i64 0, .int .i64 0, .slice none 0 0, .int .i64 0, .slice none 0 0, .slice none 0 0, .slice none 0 0, .slice none 0 0, .int .i64 0, .slice none 0 0, .slice none 0 0, .slice none 0 0], .bool false]) ?_ rfl (GivesN.zero HKF.out)
        simp [results, go_sem, *]
      · rw [h3] at HCF
        rw [h1] at HGA
        rw [h2] at HGB
        have HX := Lib.hid (ovT_tm h1).2
        have HY := Lib.hid (ovT_tm h2).2
        have HBO := Lib.hid (show b = ((decide ((tmT x).1 = (tmT y).1) && decide ((tmT x).2 = (tmT y).2)) && (okT x && okT y)) from by rw [← HB.out]; unfold snOk; rw [h1, h2, h3]; simp)
        have HTL := Lib.hid fun o1 o2 => tmT_len h1 h2 o1 o2
        clear h1 h2 h3
        go_enter Tryz.func7, Tryz.ntmps7
        go_upto_region 3 with (first
          | (go_at_call 20
             with_reducible refine HCF.out.mono ?_
             rintro e w3 ⟨rfl, rfl⟩)
          | (go_at_call 21
             with_reducible refine (HGA.out _ HK0.out).mono ?_
             rintro e w4 ⟨rfl, hg⟩
             have HS1 := Lib.hid (HS0.out.grown hg)
             have HK1 := Lib.hid (show w.grownBy _ none from HS1.out.tl.tl.tl.tl.hd)
             clear hg x0 y0
             have x0 := bs1 HS1.out.tl.tl.tl.hd
             have y0 := bs1 HS1.out.tl.tl.hd)
          | (go_at_call 21
             with_reducible refine (HGB.out _ HK1.out).mono ?_
             rintro e w5 ⟨rfl, hg⟩
             have HS2 := Lib.hid (HS1.out.grown hg)
             have HK2 := Lib.hid (show w.grownBy _ none from HS2.out.tl.tl.tl.tl.hd)
             clear hg x0 y0
             have x0 := bs1 HS2.out.tl.tl.tl.hd
             have y0 := bs1 HS2.out.tl.tl.hd))
        clear HCF HGA HGB HK0 HK1 HS0 HS1
        have HMC := Lib.hid (HMA.out HX.out _ HK2.out)
        go_upto_region 4 with (
          go_at_call 22
          with_reducible refine HMC.out.mono ?_
          rintro e w6 hmd
          obtain ⟨G1, a1, b1, c1, s1, t1, u1, xs, hG1, rfl, hxs, hsg⟩ := made_parts hmd
          have HG1 := Lib.hid hG1; have HXS := Lib.hid hxs
          have HS3 := Lib.hid ((HS2.out.graft1 hsg OX3_own).boxAt w6.heap.size rfl #[.int .i64 G1.n, .slice a1 G1.es.length s1, .slice b1 G1.i.length t1, .slice c1 G1.o.length u1] 30)
          clear hmd hG1 hxs hsg x0 y0)
        generalize w6.alloc (.cells #[.int .i64 G1.n, .slice a1 G1.es.length s1, .slice b1 G1.i.length t1, .slice c1 G1.o.length u1] 30) = w7 at *
        generalize w6.heap.size = gb at *
        have HMD := Lib.hid (HMB.out HY.out _ HS3.out.tl.tl.tl.tl.tl.tl.hd)
        have y0 := bs1 HS3.out.tl.tl.tl.tl.hd
        go_upto_region 5 with (
          go_at_call 22
          with_reducible refine HMD.out.mono ?_
          rintro e w8 hmd
          obtain ⟨G2, d1, e1, f1, v1, q1, r1, ys, hG2, rfl, hys, hsg⟩ := made_parts hmd
          have HG2 := Lib.hid hG2; have HYS := Lib.hid hys
          have HS5 := Lib.hid ((HS3.out.graft1 hsg OX3_own).boxAt w8.heap.size rfl #[.int .i64 G2.n, .slice d1 G2.es.length v1, .slice e1 G2.i.length q1, .slice f1 G2.o.length r1] 30)
          clear hmd hG2 hys hsg y0)
        generalize w8.alloc (.cells #[.int .i64 G2.n, .slice d1 G2.es.length v1, .slice e1 G2.i.length q1, .slice f1 G2.o.length r1] 30) = w9 at *
        generalize w8.heap.size = hb at *
        have HSR := Lib.hid (Sep.blk (A := [_, _, _, _, _]) (B := [_]) HS5.out)
        obtain ⟨o1, ho1⟩ : ∃ o, okT x = o := ⟨_, rfl⟩
        obtain ⟨o2, ho2⟩ : ∃ o, okT y = o := ⟨_, rfl⟩
        rw [ho1] at HG1 HBO HTL ⊢
        rw [ho2] at HG2 HBO HTL ⊢
        clear ho1 ho2 HMA HMB HMC HMD HS2 HS3 HK2
        cases o1
        · obtain rfl : b = false := by rw [HBO.out]; simp
          obtain rfl : R = sn0 := HR.out.symm.trans (sn_no HB.out)
          have hz0 := HSR.out
          obtain ⟨y0_, y1_, y2_, y3_, y4_, y5_, y6_, y7_, y8_, y9_, y10_, y11_, y12_⟩ := cq13 hz0.hd
          obtain ⟨f0_, f1_, f2_, f3_, f4_, f5_, f6_, f7_, f8_, f9_, f10_, f11_, f12_⟩ := cf13 hz0.hd
          have hz := (((((((((((((hz0.q13_0 (u := .int .i64 0)).q13_1 (u := .int .i64 0)).q13_2 (u := .int .i64 0)).q13_3 (u := .slice none 0 0)).q13_4 (u := .int .i64 0)).q13_5 (u := .slice none 0 0)).q13_6 (u := .slice none 0 0)).q13_7 (u := .slice none 0 0)).q13_8 (u := .slice none 0 0)).q13_9 (u := .int .i64 0)).q13_10 (u := .slice none 0 0)).q13_11 (u := .slice none 0 0)).q13_12 (u := .slice none 0 0))
          have HZC := Lib.hid (cq13 hz.hd)
          have HKF := Lib.hid (show w.grownBy _ none from Sep.all hz (KeepA w) (by simp))
          clear hz hz0
          go_wp2_with fail
          obtain ⟨z0_, z1_, z2_, z3_, z4_, z5_, z6_, z7_, z8_, z9_, z10_, z11_, z12_⟩ := HZC.out
          refine bodyPost_ret_by (v := .tuple #[.agg #[.int .i64 0, .int .i64 0, .int .i64 0, .slice none 0 0, .int .i64 0, .slice none 0 0, .slice none 0 0, .slice none 0 0, .slice none 0 0, .int .i64 0, .slice none 0 0, .slice none 0 0, .slice none 0 0], .bool false]) ?_ rfl (GivesN.zero HKF.out)
          simp [results, go_sem, *]
        · cases o2
          · obtain rfl : b = false := by rw [HBO.out]; simp
            obtain rfl : R = sn0 := HR.out.symm.trans (sn_no HB.out)
            have hz0 := HSR.out
            obtain ⟨y0_, y1_, y2_, y3_, y4_, y5_, y6_, y7_, y8_, y9_, y10_, y11_, y12_⟩ := cq13 hz0.hd
            obtain ⟨f0_, f1_, f2_, f3_, f4_, f5_, f6_, f7_, f8_, f9_, f10_, f11_, f12_⟩ := cf13 hz0.hd
            have hz := (((((((((((((hz0.q13_0 (u := .int .i64 0)).q13_1 (u := .int .i64 0)).q13_2 (u := .int .i64 0)).q13_3 (u := .slice none 0 0)).q13_4 (u := .int .i64 0)).q13_5 (u := .slice none 0 0)).q13_6 (u := .slice none 0 0)).q13_7 (u := .slice none 0 0)).q13_8 (u := .slice none 0 0)).q13_9 (u := .int .i64 0)).q13_10 (u := .slice none 0 0)).q13_11 (u := .slice none 0 0)).q13_12 (u := .slice none 0 0))
            have HZC := Lib.hid (cq13 hz.hd)
            have HKF := Lib.hid (show w.grownBy _ none from Sep.all hz (KeepA w) (by simp))
            clear hz hz0
            go_wp2_with fail
            obtain ⟨z0_, z1_, z2_, z3_, z4_, z5_, z6_, z7_, z8_, z9_, z10_, z11_, z12_⟩ := HZC.out
            refine bodyPost_ret_by (v := .tuple #[.agg #[.int .i64 0, .int .i64 0, .int .i64 0, .slice none 0 0, .int .i64 0, .slice none 0 0, .slice none 0 0, .slice none 0 0, .slice none 0 0, .int .i64 0, .slice none 0 0, .slice none 0 0, .slice none 0 0], .bool false]) ?_ rfl (GivesN.zero HKF.out)
            simp [results, go_sem, *]
          · have g1 : G1 = grT x := HG1.out
            have g2 : G2 = grT y := HG2.out
            obtain ⟨hl1, hl2⟩ := HTL.out rfl rfl
            rw [hl1, hl2, ← g1, ← g2] at HBO
            have HGG := Lib.hid (And.intro g1 g2)
            clear g1 g2 hl1 hl2 HTL
            cases hi : decide (G1.i.length = G2.i.length)
            · have hni : ((G1.i.length : Int) != (G2.i.length : Int)) = true := by have := of_decide_eq_false hi; simp; omega
              obtain rfl : b = false := by rw [HBO.out, hi]; simp
              obtain rfl : R = sn0 := HR.out.symm.trans (sn_no HB.out)
              clear hi
              obtain ⟨k0, k1, k2, k3, _⟩ := gq4 HSR.out.tl.hd
              obtain ⟨j0, j1, j2, j3, _⟩ := gq4 HSR.out.tl.tl.tl.hd
              have hz0 := HSR.out
              obtain ⟨y0_, y1_, y2_, y3_, y4_, y5_, y6_, y7_, y8_, y9_, y10_, y11_, y12_⟩ := cq13 hz0.hd
              obtain ⟨f0_, f1_, f2_, f3_, f4_, f5_, f6_, f7_, f8_, f9_, f10_, f11_, f12_⟩ := cf13 hz0.hd
              have hz := (((((((((((((hz0.q13_0 (u := .int .i64 0)).q13_1 (u := .int .i64 0)).q13_2 (u := .int .i64 0)).q13_3 (u := .slice none 0 0)).q13_4 (u := .int .i64 0)).q13_5 (u := .slice none 0 0)).q13_6 (u := .slice none 0 0)).q13_7 (u := .slice none 0 0)).q13_8 (u := .slice none 0 0)).q13_9 (u := .int .i64 0)).q13_10 (u := .slice none 0 0)).q13_11 (u := .slice none 0 0)).q13_12 (u := .slice none 0 0))
              have HZC := Lib.hid (cq13 hz.hd)
              have HKF := Lib.hid (show w.grownBy _ none from Sep.all hz (KeepA w) (by simp))
              clear hz hz0
              go_wp2_with fail
              obtain ⟨z0_, z1_, z2_, z3_, z4_, z5_, z6_, z7_, z8_, z9_, z10_, z11_, z12_⟩ := HZC.out
              refine bodyPost_ret_by (v := .tuple #[.agg #[.int .i64 0, .int .i64 0, .int .i64 0, .slice none 0 0, .int .i64 0, .slice none 0 0, .slice none 0 0, .slice none 0 0, .slice none 0 0, .int .i64 0, .slice none 0 0, .slice none 0 0, .slice none 0 0], .bool false]) ?_ rfl (GivesN.zero HKF.out)
              simp [results, go_sem, *]
            · have hni : ((G1.i.length : Int) != (G2.i.length : Int)) = false := by have := of_decide_eq_true hi; simp; omega
              cases ho : decide (G1.o.length = G2.o.length)
              · have hno : ((G1.o.length : Int) != (G2.o.length : Int)) = true := by have := of_decide_eq_false ho; simp; omega
                obtain rfl : b = false := by rw [HBO.out, ho]; simp
                obtain rfl : R = sn0 := HR.out.symm.trans (sn_no HB.out)
                clear hi ho
                obtain ⟨k0, k1, k2, k3, _⟩ := gq4 HSR.out.tl.hd
                obtain ⟨j0, j1, j2, j3, _⟩ := gq4 HSR.out.tl.tl.tl.hd
                have hz0 := HSR.out
                obtain ⟨y0_, y1_, y2_, y3_, y4_, y5_, y6_, y7_, y8_, y9_, y10_, y11_, y12_⟩ := cq13 hz0.hd
                obtain ⟨f0_, f1_, f2_, f3_, f4_, f5_, f6_, f7_, f8_, f9_, f10_, f11_, f12_⟩ := cf13 hz0.hd
                have hz := (((((((((((((hz0.q13_0 (u := .int .i64 0)).q13_1 (u := .int .i64 0)).q13_2 (u := .int .i64 0)).q13_3 (u := .slice none 0 0)).q13_4 (u := .int .i64 0)).q13_5 (u := .slice none 0 0)).q13_6 (u := .slice none 0 0)).q13_7 (u := .slice none 0 0)).q13_8 (u := .slice none 0 0)).q13_9 (u := .int .i64 0)).q13_10 (u := .slice none 0 0)).q13_11 (u := .slice none 0 0)).q13_12 (u := .slice none 0 0))
                have HZC := Lib.hid (cq13 hz.hd)
                have HKF := Lib.hid (show w.grownBy _ none from Sep.all hz (KeepA w) (by simp))
                clear hz hz0
                go_wp2_with fail
                obtain ⟨z0_, z1_, z2_, z3_, z4_, z5_, z6_, z7_, z8_, z9_, z10_, z11_, z12_⟩ := HZC.out
                refine bodyPost_ret_by (v := .tuple #[.agg #[.int .i64 0, .int .i64 0, .int .i64 0, .slice none 0 0, .int .i64 0, .slice none 0 0, .slice none 0 0, .slice none 0 0, .slice none 0 0, .int .i64 0, .slice none 0 0, .slice none 0 0, .slice none 0 0], .bool false]) ?_ rfl (GivesN.zero HKF.out)
                simp [results, go_sem, *]
              · have hno : ((G1.o.length : Int) != (G2.o.length : Int)) = false := by have := of_decide_eq_true ho; simp; omega
                obtain rfl : b = true := by rw [HBO.out, hi, ho]; rfl
                have hR2 := HR.out.symm.trans (sn_yes HB.out)
                rw [← HGG.out.1, ← HGG.out.2] at hR2
                subst hR2
                clear hi ho
                obtain ⟨y0_, y1_, y2_, y3_, y4_, y5_, y6_, y7_, y8_, y9_, y10_, y11_, y12_⟩ := cq13 HSR.out.hd
                obtain ⟨f0_, f1_, f2_, f3_, f4_, f5_, f6_, f7_, f8_, f9_, f10_, f11_, f12_⟩ := cf13 HSR.out.hd
                obtain ⟨k0, k1, k2, k3, _⟩ := gq4 HSR.out.tl.hd
                obtain ⟨j0, j1, j2, j3, _⟩ := gq4 HSR.out.tl.tl.tl.hd
                have hz := (((((((((((((HSR.out.q13_0 (u := .int .i64 p)).q13_1 (u := .int .i64 k)).q13_2 (u := .int .i64 l)).q13_3 (u := .slice none 0 0)).q13_4 (u := .int .i64 G1.n)).q13_5 (u := .slice a1 G1.es.length s1)).q13_6 (u := .slice b1 G1.i.length t1)).q13_7 (u := .slice c1 G1.o.length u1)).q13_8 (u := .slice none 0 0)).q13_9 (u := .int .i64 G2.n)).q13_10 (u := .slice d1 G2.es.length v1)).q13_11 (u := .slice e1 G2.i.length q1)).q13_12 (u := .slice f1 G2.o.length r1))
                have HZC := Lib.hid (cq13 hz.hd)
                have HSF := Lib.hid (Sep.bag (l := [_, _]) (Sep.blk (A := [_]) (B := [_]) (Sep.cutA (X := [_, _]) (A := [_, _, _]) (Sep.cutA (X := [_]) (A := [_]) (Sep.cutA (X := []) (A := [_]) hz.tl)))))
                clear hz
                go_wp2_with fail
                obtain ⟨z0_, z1_, z2_, z3_, z4_, z5_, z6_, z7_, z8_, z9_, z10_, z11_, z12_⟩ := HZC.out
                refine bodyPost_ret_by (v := .tuple #[.agg #[.int .i64 p, .int .i64 k, .int .i64 l, .slice none 0 0, .int .i64 G1.n, .slice a1 G1.es.length s1, .slice b1 G1.i.length t1, .slice c1 G1.o.length u1, .slice none 0 0, .int .i64 G2.n, .slice d1 G2.es.length v1, .slice e1 G2.i.length q1, .slice f1 G2.o.length r1], .bool true]) ?_ rfl ⟨a1, b1, c1, d1, e1, f1, s1, t1, u1, v1, q1, r1, xs, ys, rfl, ⟨HXS.out, HYS.out⟩, HSF.out⟩
                simp [results, go_sem, *]
end Go.Proofs.YtjagjhchnpmngaaGreatDoor

/-
  The laws' own helpers on terms: comparison and marks. Conditions: lengths are small.
-/
namespace Go.Proofs.YtjagjhchnpmngaaGreatDoor
open Go.RowKit
set_option linter.unusedVariables false
set_option maxRecDepth 100000

/-- One byte's string. -/
theorem conv_one (w : World) (b : Nat) (x : Int) (t : TypeId) (h : w.heap[b]? = some (.cells #[.int .u8 x] t (0, 0))) :
    ∃ s : ByteArray, s.size = 1 ∧ (convert 113 9 (.slice (some ⟨b, 0, none⟩) 1 1)).run Tryz.prog w = .ok (.string s) w := by
  refine ⟨ByteArray.empty.push (UInt8.ofNat x.toNat), rfl, ?_⟩
  rw [run_convert_bytes_string w _ _ 5 _ _ _ Tryz.underlying113 Tryz.underlying5 Tryz.underlying9]
  refine run_bytesToString w _ 1 1 [x] ?_
  simp [loadCells, go_sem, cell_of_row w b 0 _ _ _ h]
theorem lt_meas {x : Int} {a b : Nat} (h : x = (a : Int)) (h2 : a < b) : (intOf (.int .i64 x)).toNat < (intOf (.int .i64 (b : Int))).toNat := by
  subst h; exact h2
set_option maxHeartbeats 1000000 in
theorem markText_any (k : Int) (w : World) (h0 : 0 ≤ k) (h1 : k ≤ 100000000) :
    Calls Tryz.prog 54 #[.int .i64 k] w fun e w' => (∃ s, e = .returned (.string s)) ∧ w.grownBy w' none := by
  obtain ⟨n, rfl⟩ : ∃ n : Nat, k = n := ⟨k.toNat, by omega⟩
  by_cases hk0 : (n : Int) ≤ 0
  · go_enter Tryz.func54, Tryz.ntmps54
    go_wp2_with fail
    go_ret
    exact ⟨⟨_, rfl⟩, grownBy_refl _ _⟩
  · go_enter Tryz.func54, Tryz.ntmps54
    go_wp2_with fail
    go_loopw [0, 3] (fun kv ov wr => ∃ (m : Nat) (s : ByteArray), kv = .int .i64 m ∧ ov = .string s ∧ s.size + m ≤ n ∧ w.grownBy wr none) (fun kv _ _ => (intOf kv).toNat)
    case atStart => exact ⟨n, _, rfl, rfl, by show 0 + n ≤ n; omega, grownBy_refl _ _⟩
    case round =>
      obtain ⟨m, s, rfl, rfl, hs, hg⟩ := hrel
      have HS := Lib.hid hs
      have HG := Lib.hid hg
      clear hs hg
      by_cases hm : (0 : Int) < (m : Int)
      · obtain ⟨t, ht1, ht⟩ := conv_one (wr.alloc (.cells #[.int .u8 (48 + (m : Int) % 10)] 5)) wr.heap.size _ _ (alloc_heap_new wr _)
        have hadd : ∀ W, (Op.stringOp .add t s).run Tryz.prog W = .ok (.string (t ++ s)) W := fun W => run_string_add_sum W _ _ (by have := HS.out; omega)
        have HTS := Lib.hid (show (t ++ s).size = s.size + 1 from by rw [ByteArray.size_append, ht1]; omega)
        have hn10 := HS.out
        obtain ⟨m1, hm1⟩ : ∃ m1 : Nat, m / 10 = m1 := ⟨_, rfl⟩
        have hw : wrap64 ((m : Int) / 10) = (m1 : Int) := (wrap64_id (by omega) (by omega)).trans (by omega)
        have HN10 := Lib.hid (show (t ++ s).size + m1 ≤ n from by rw [HTS.out]; omega)
        have HNL := Lib.hid (show m1 < m from by omega)
        clear ht1 hn10 hm1
        go_wp2_with fail
        go_roundw
        case rel => exact ⟨m1, t ++ s, congrArg _ hw, rfl, HN10.out, grownBy_trans HG.out (gr1 _ _)⟩
        case measure => exact lt_meas hw HNL.out
      · have hadd : (Op.stringOp .add ⟨#[109]⟩ s).run Tryz.prog wr = .ok (.string (⟨#[109]⟩ ++ s)) wr := run_string_add_sum wr _ _ (by have := HS.out; have : (ByteArray.mk #[109]).size = 1 := rfl; omega)
        go_wp2_with fail
        go_ret
        exact ⟨⟨_, rfl⟩, HG.out⟩
end Go.Proofs.YtjagjhchnpmngaaGreatDoor

/-
  The laws' own helpers on terms: comparison and marks. Conditions: lengths are small.
-/
namespace Go.Proofs.YtjagjhchnpmngaaGreatDoor
open Go.RowKit
set_option linter.unusedVariables false
set_option maxRecDepth 100000

theorem Nd.ext' {x y : Nd} (h1 : x.k = y.k) (h2 : x.v = y.v) (h3 : x.s = y.s) : x = y := by
  cases x; cases y; simp_all
theorem ba_eqT (s : ByteArray) : (s.toList == s.toList) = true := by simp
theorem eqNode_same (k v : Int) (s : ByteArray) (w : World) : Calls Tryz.prog 53 #[.agg #[.int .i64 k, .int .i64 v, .string s], .agg #[.int .i64 k, .int .i64 v, .string s]] w fun e w' => e = .returned (.bool true) ∧ w.grownBy w' none := by
  have h1 : (k != k) = false := by simp
  have h2 : (v != v) = false := by simp
  have h3 : (s.toList == s.toList) = true := ba_eqT s
  go_enter Tryz.func53, Tryz.ntmps53
  go_wp2_with fail
  go_ret
  exact ⟨rfl, gr2 _ _ _⟩
set_option maxHeartbeats 1000000 in
theorem eqNodeS_same (v1 v2 : Value) (x : List Nd) (w : World) (h1 : RdR nodeE w v1 x) (h2 : RdR nodeE w v2 x) (l1 : x.length ≤ 1000000000) :
    Calls Tryz.prog 25 #[v1, v2] w fun e w' => e = .returned (.bool true) ∧ w.grownBy w' none := by
  have H1 := Lib.hid h1; have H2 := Lib.hid h2
  obtain ⟨a1, c1, rfl⟩ := h1.shape
  obtain ⟨a2, c2, rfl⟩ := h2.shape
  clear h1 h2
  generalize hlx : x.length = l at *
  have HLX := Lib.hid hlx
  clear hlx
  go_enter Tryz.func25, Tryz.ntmps25
  go_wp2
  go_loopw [5] (fun i wr => ∃ k : Nat, k ≤ l ∧ i = .int .i64 k ∧ w.grownBy wr none) (fun i _ => l - (intOf i).toNat)
  case atStart => exact ⟨0, by omega, rfl, grownBy_refl _ _⟩
  case round =>
    obtain ⟨k, hk, rfl, hg⟩ := hrel
    have HG := Lib.hid hg
    clear hg
    by_cases hlt : k < l
    · obtain ⟨b1, o1, rfl, hb1, p0, p1, p2⟩ := (H1.out.carry HG.out).node rfl rfl (i := k) (by rw [HLX.out]; exact hlt)
      obtain ⟨b2, o2, rfl, hb2, q0, q1, q2⟩ := (H2.out.carry HG.out).node rfl rfl (i := k) (by rw [HLX.out]; exact hlt)
      generalize x.getD k nd0 = y at *
      obtain ⟨ky, vy, sy⟩ := y
      simp only at p0 p1 p2 q0 q1 q2
      have HC := Lib.hid (eqNode_same ky vy sy wr.drew)
      clear hb1 hb2
      go_wp2_with fail
      refine wp_region_still_tail 8 (by kernel_rfl) (by kernel_rfl) ?_
      simp only [List.take_succ_cons, List.take_zero, List.drop_succ_cons, List.drop_zero]
      repeat still_step
      refine wpStill_nil ?_
      change wpList _ _ _ _ _ wr.drew
      go_wp2_with (
        go_at_call 53
        refine HC.out.mono ?_
        rintro e w2 ⟨rfl, hg⟩
        have HG2 := Lib.hid ((HG.out.trans (⟨rfl, rfl, rfl, Nat.le_refl _, fun _ _ _ => rfl⟩ : wr.grownBy wr.drew none)).trans hg)
        clear hg)
      go_roundw
      case rel => exact ⟨k + 1, by omega, by go_num, HG2.out⟩
      case measure => simp [intOf]; omega
    · go_wp2
      go_ret
      exact ⟨rfl, HG.out⟩
theorem eqTerm_same (v1 v2 : Value) (x : List Nd) (w : World) (h1 : RdR nodeE w v1 x) (h2 : RdR nodeE w v2 x) (l1 : x.length ≤ 1000000000) :
    Calls Tryz.prog 9 #[.agg #[v1], .agg #[v2]] w fun e w' => e = .returned (.bool true) ∧ w.grownBy w' none := by
  have HG := Lib.hid fun W (h : w.grownBy W none) => eqNodeS_same v1 v2 x W (h1.carry h) (h2.carry h) l1
  obtain ⟨a1, c1, rfl⟩ := h1.shape
  obtain ⟨a2, c2, rfl⟩ := h2.shape
  generalize x.length = n1 at *
  clear h1 h2
  have HS0 := Lib.hid (((Sep.start w).boxAt w.heap.size rfl #[.slice a1 n1 c1] 37).boxAt (w.heap.size + 1) (by simp) #[.slice a2 n1 c2] 37)
  go_enter Tryz.func9, Tryz.ntmps9
  go_wp2_with (
    go_at_call 25
    refine (HG.out _ HS0.out.tl.tl.hd).mono ?_
    rintro e w4 ⟨rfl, hg⟩
    have HS1 := Lib.hid (HS0.out.grown hg)
    clear hg)
  go_ret
  exact ⟨rfl, HS1.out.tl.tl.hd⟩
theorem mk_set {gs : List Nd} {n k : Nat} (A : List Nd) (hA : A.length = k) (hl : gs.length = n) (hk : k < n) (y : Nd) : (A ++ gs.drop k).set k y = (A ++ [y]) ++ gs.drop (k + 1) := by
  rw [List.set_append_right _ _ (by omega), hA, Nat.sub_self, List.drop_eq_getElem_cons (by omega), List.set_cons_zero]
  simp
set_option maxHeartbeats 2000000 in
theorem markNodeS_any (a : Option Addr) (n c : Nat) (gs : List Nd) (k : Int) (w : World) (l : List Asrt) (hs : Sep w (OR nodeE (.slice a n c) gs :: l)) (hn : n = gs.length) (hl : n ≤ 2000000) (h0 : 0 ≤ k) (h1 : k ≤ 10000000) :
    Calls Tryz.prog 26 #[.slice a n c, .int .i64 k] w fun e w' => e = .returned (.int .i64 (k + 3 * n)) ∧ Sep w' l := by
  have HS := Lib.hid hs; have HL := Lib.hid hn.symm
  clear hs hn
  go_enter Tryz.func26, Tryz.ntmps26
  go_wp2_with fail
  go_loopw [1, 5] (fun kv i wr => ∃ (j : Nat) (q : Int) (A : List Nd), j ≤ n ∧ i = .int .i64 j ∧ kv = .int .i64 q ∧ q = k + 3 * (j : Int) ∧ A.length = j ∧ Sep wr (OR nodeE (.slice a n c) (A ++ gs.drop j) :: l)) (fun _ i _ => n - (intOf i).toNat)
  case atStart => exact ⟨0, k, [], by omega, rfl, rfl, by simp, rfl, by simpa using HS.out⟩
  case round =>
    obtain ⟨j, q, A, hj, rfl, rfl, hq, hA, hs⟩ := hrel
    have HSX := Lib.hid hs
    have HQ := Lib.hid hq
    have HA := Lib.hid hA
    by_cases hlt : j < n
    · have hll : n = (A ++ gs.drop j).length := by rw [List.length_append, hA, List.length_drop, HL.out]; omega
      obtain ⟨g, cap, he, _, _, _⟩ := OwnR.parts HSX.out.hd (by rw [← hll]; omega)
      rw [← hll] at he
      cases he
      obtain ⟨f0, f1, f2⟩ := node_free HSX.out.hd hll j
      obtain ⟨y, d0, d1, d2⟩ := node_cellsQ HSX.out.hd hll (i := j) (by rw [← hll]; exact hlt)
      obtain ⟨q1, e1⟩ : ∃ q1, q1 = q + 1 := ⟨_, rfl⟩
      obtain ⟨q2, e2⟩ : ∃ q2, q2 = q1 + 1 := ⟨_, rfl⟩
      obtain ⟨q3, e3⟩ : ∃ q3, q3 = q2 + 1 := ⟨_, rfl⟩
      have hw : IntKind.i64.wrap (q + 1) = q1 := by rw [wrap_id (by omega) (by omega)]; exact e1.symm
      have hw1 : IntKind.i64.wrap (q1 + 1) = q2 := by rw [wrap_id (by omega) (by omega)]; exact e2.symm
      have hw2 : IntKind.i64.wrap (q2 + 1) = q3 := by rw [wrap_id (by omega) (by omega)]; exact e3.symm
      have HQ4 := Lib.hid (show q3 = k + 3 * ((j + 1 : Nat) : Int) by omega)
      have HM := Lib.hid fun W => markText_any q2 W (by omega) (by omega)
      have HMS := Lib.hid fun y => mk_set A hA HL.out hlt y
      clear f0 f1 f2 d0 d1 d2 y
      generalize A ++ gs.drop j = L at *
      have hi : j < L.length := by omega
      obtain ⟨z0, hz0⟩ : ∃ z, L[j] = z := ⟨_, rfl⟩
      have h1 := HSX.out.setR (E := nodeE) hll (i := j) (j := 0) (y := ⟨q, z0.v, z0.s⟩) (u := .int .i64 q) hi (by decide) (by rw [hz0]; rfl)
      have h2 := h1.setR (E := nodeE) (by simpa using hll) (i := j) (j := 1) (y := ⟨q, q1, z0.s⟩) (u := .int .i64 q1) (by simpa using hi) (by decide) (by simp [nodeE, nodeC])
      rw [List.set_set] at h2
      obtain ⟨f0, f1, f2⟩ := node_free HSX.out.hd hll j
      obtain ⟨y, d0, d1, d2⟩ := node_cellsQ HSX.out.hd hll (i := j) hi
      obtain ⟨_, f3, _⟩ := node_free h1.hd (by simpa using hll) j
      obtain ⟨y', _, d3, _⟩ := node_cellsQ h1.hd (by simpa using hll) (i := j) (by simpa using hi)
      have HS2 := Lib.hid (show Sep ((wr.setCell ⟨g, j * 3, none⟩ (.int .i64 q)).setCell ⟨g, j * 3 + 1, none⟩ (.int .i64 q1)) _ from h2)
      have HLL := Lib.hid hll
      have HI := Lib.hid hi
      clear hs hq hA hll e1 e2 e3 h1 h2 hz0 hi
      go_upto_region 8 with fail
      clear d0 d1 d2 d3 f0 f1 f2 f3
      generalize (wr.setCell ⟨g, j * 3, none⟩ (.int .i64 q)).setCell ⟨g, j * 3 + 1, none⟩ (.int .i64 q1) = w2 at *
      go_wp2_with (
        go_at_call 54
        with_reducible refine (HM.out _).mono ?_
        rintro e w3 ⟨⟨s, rfl⟩, hg⟩
        have h3 := HS2.out.grown hg
        have hl3 : n = (L.set j ⟨q, q1, z0.s⟩).length := by rw [List.length_set]; exact HLL.out
        have hi3 : j < (L.set j ⟨q, q1, z0.s⟩).length := by rw [List.length_set]; exact HI.out
        obtain ⟨_, _, f2⟩ := node_free h3.hd hl3 j
        obtain ⟨y3, _, _, d2⟩ := node_cellsQ h3.hd hl3 (i := j) hi3
        have h4 := h3.setR (E := nodeE) hl3 (i := j) (j := 2) (y := ⟨q, q1, s⟩) (u := .string s) hi3 (by decide) (by rw [List.getElem_set_self]; simp [nodeE, nodeC])
        rw [List.set_set, HMS.out] at h4
        have HS4 := Lib.hid (show Sep (w3.setCell ⟨g, j * 3 + 2, none⟩ (.string s)) (OR nodeE (.slice (some ⟨g, 0, none⟩) n c) ((A ++ [(⟨q, q1, s⟩ : Nd)]) ++ gs.drop (j + 1)) :: l) from h4)
        clear hg h3 h4 hl3 hi3)
      go_roundw
      case rel => exact ⟨j + 1, q3, A ++ [(⟨q, q1, s⟩ : Nd)], by omega, by go_num, rfl, HQ4.out, by rw [List.length_append, HA.out]; rfl, HS4.out⟩
      case measure => simp [intOf]; omega
    · have hjn : j = n := by omega
      subst hjn
      clear hlt hs hq
      go_wp2_with fail
      go_ret
      exact ⟨by rw [HQ.out]; rfl, HSX.out.tl⟩
theorem markTerm_any (a : Option Addr) (n c : Nat) (gs : List Nd) (k : Int) (w : World) (l : List Asrt) (hs : Sep w (OR nodeE (.slice a n c) gs :: l)) (hn : n = gs.length) (hl : n ≤ 2000000) (h0 : 0 ≤ k) (h1 : k ≤ 10000000) :
    Calls Tryz.prog 10 #[.agg #[.slice a n c], .int .i64 k] w fun e w' => e = .returned (.int .i64 (k + 3 * n)) ∧ Sep w' l := by
  have HG := Lib.hid fun W l (h : Sep W (OR nodeE (.slice a n c) gs :: l)) => markNodeS_any a n c gs k W l h hn hl h0 h1
  have hs0 := (hs.boxAt w.heap.size rfl #[.slice a n c] 37)
  have x0 := cell_of_row _ _ 0 _ _ _ hs0.hd
  have HS0 := Lib.hid hs0.s2
  clear hs hs0 hn
  go_enter Tryz.func10, Tryz.ntmps10
  go_wp2_with (
    go_at_call 26
    with_reducible refine (HG.out _ _ HS0.out).mono ?_
    rintro e w4 ⟨rfl, hs⟩
    have HS1 := Lib.hid hs.tl
    clear hs)
  go_ret
  exact ⟨rfl, HS1.out⟩
end Go.Proofs.YtjagjhchnpmngaaGreatDoor

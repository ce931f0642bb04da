/-
  The law on the matrix ring: its walk. Conditions: both arguments read as bytes; the table of small primes holds what its text lays.
-/
import Derived.Test.YtpeaeminjbjlnaaDoorMn01
import Derived.Test.YtpeaeminjbjlnaaDoorMj07
import Derived.Deep.CutRange
namespace Go.Proofs.YtpeaeminjbjlnaaDoor
open Go.RowKit
set_option linter.unusedVariables false

theorem small_up {A : List (List Int)} (h : Small 24 A) : Small 1000 A := ⟨Nat.le_trans h.1 (by decide), fun r hr => Nat.le_trans (h.2 r hr) (by decide)⟩
set_option maxRecDepth 100000 in
set_option maxHeartbeats 40000000 in
theorem fnMatrixRing_any (cv mv : Value) (w : World) (hc : CodeRaw w cv) (hm : CodeRaw w mv) (ht : Tab w) : Calls Tryd.prog 8 #[cv, mv] w (Gives (.bool true) w) := by
  have HT := Lib.hid ht
  obtain ⟨a1, l1, c1, rfl, hl1, hx1⟩ := hc
  obtain ⟨a2, l2, c2, rfl, hl2, hx2⟩ := hm
  have HX1 := Lib.hid hx1
  have HX2 := Lib.hid hx2
  clear ht hx1 hx2
  cases hbig : bigB l1 l2
  case true =>
    go_enter Tryd.func8, Tryd.ntmps8
    go_wp2_with (go_at_call 13; refine (big_any _ _ _ _ _ _ _ hl1 hl2).mono ?_; rintro e w' ⟨rfl, rfl⟩)
    go_ret
    exact ⟨rfl, grownBy_refl _ _⟩
  case false =>
    obtain ⟨b1, b2⟩ := bigB_no hbig
    have HC := Lib.hid (show CodeAt w (.slice a1 l1 c1) from ⟨a1, l1, c1, rfl, by omega, HX1.out⟩)
    have HM := Lib.hid (show CodeAt w (.slice a2 l2 c2) from ⟨a2, l2, c2, rfl, by omega, HX2.out⟩)
    clear b1 b2
    go_enter Tryd.func8, Tryd.ntmps8
    go_wp2_with fail
    refine (big_any _ _ _ _ _ _ _ hl1 hl2).mono ?_
    rintro e w' ⟨rfl, rfl⟩
    go_wp2_with fail
    refine (drawMulMatrices_any _ _ HC.out).mono ?_
    rintro e w1 ⟨p, ca, cb, o, vs, L, u, us, M, rfl, hp2, hp97, ho, hL, hu, hM, g1⟩
    obtain ⟨oa, oc, hoe, _, _⟩ := own_form ho
    subst hoe
    obtain ⟨ua, uc, hue, _, _⟩ := own_form hu
    subst hue
    obtain ⟨b, c', K, sK, hyes, himpl, hspec⟩ := mul_both (p : Int) ca cb L M hL hM (by omega) (by omega)
    have SK := Lib.hid (small_up sK); have SLA := Lib.hid hL; have SLB := Lib.hid hM; have HY := Lib.hid hyes
    unfold mxV at himpl hspec ⊢
    have HI := Lib.hid himpl; have HSP := Lib.hid hspec
    have hga := (grownBy_alloc w1 (.cells #[.int .i64 ca, .slice oa L.length oc] 39) none).trans (grownBy_alloc (w1.alloc (.cells #[.int .i64 ca, .slice oa L.length oc] 39)) (.cells #[.int .i64 cb, .slice ua M.length uc] 39) none)
    have T0 := Lib.hid fun W (h : ((w1.alloc (.cells #[.int .i64 ca, .slice oa L.length oc] 39)).alloc (.cells #[.int .i64 cb, .slice ua M.length uc] 39)).grownBy W none) => HT.out.grown ((g1.trans hga).trans h)
    have G0 := Lib.hid fun W (h : ((w1.alloc (.cells #[.int .i64 ca, .slice oa L.length oc] 39)).alloc (.cells #[.int .i64 cb, .slice ua M.length uc] 39)).grownBy W none) => (g1.trans hga).trans h
    have MA0 := Lib.hid fun W (h : ((w1.alloc (.cells #[.int .i64 ca, .slice oa L.length oc] 39)).alloc (.cells #[.int .i64 cb, .slice ua M.length uc] 39)).grownBy W none) => ho.read.carry (hga.trans h)
    have MB0 := Lib.hid fun W (h : ((w1.alloc (.cells #[.int .i64 ca, .slice oa L.length oc] 39)).alloc (.cells #[.int .i64 cb, .slice ua M.length uc] 39)).grownBy W none) => hu.read.carry (hga.trans h)
    have BA0 := Lib.hid fun W (h : ((w1.alloc (.cells #[.int .i64 ca, .slice oa L.length oc] 39)).alloc (.cells #[.int .i64 cb, .slice ua M.length uc] 39)).grownBy W none) => bx_on (alloc_heap_new w1 (.cells #[.int .i64 ca, .slice oa L.length oc] 39)) ((grownBy_alloc _ _ none).trans h)
    have BB0 := Lib.hid fun W (h : ((w1.alloc (.cells #[.int .i64 ca, .slice oa L.length oc] 39)).alloc (.cells #[.int .i64 cb, .slice ua M.length uc] 39)).grownBy W none) => bx_on (alloc_heap_new (w1.alloc (.cells #[.int .i64 ca, .slice oa L.length oc] 39)) (.cells #[.int .i64 cb, .slice ua M.length uc] 39)) h
    rw [show (w1.alloc (.cells #[.int .i64 ca, .slice oa L.length oc] 39)).heap.size = w1.heap.size + 1 by simp] at BB0
    clear ho hu hL hM g1 hga himpl hspec hyes sK
    go_wp2_with fail
    generalize ((w1.alloc (.cells #[.int .i64 ca, .slice oa L.length oc] 39)).alloc (.cells #[.int .i64 cb, .slice ua M.length uc] 39)) = W2 at *
    obtain ⟨y0A0, y0A1, _, _⟩ := bx (BA0.out _ (grownBy_refl _ _))
    obtain ⟨y0B0, y0B1, _, _⟩ := bx (BB0.out _ (grownBy_refl _ _))
    go_upto_if 78 with (first
      | (go_at_call 29
         with_reducible refine (HI.out _ _ _ (T0.out _ (grownBy_refl _ _)) (MA0.out _ (grownBy_refl _ _)) (MB0.out _ (grownBy_refl _ _))).mono ?_
         rintro e v1 ⟨o1, rfl, hm, g⟩
         obtain ⟨xa1, xc1, rfl⟩ := hm.shape
         have ga := g.trans (grownBy_alloc v1 (.cells #[.int .i64 c', .slice xa1 K.length xc1] 39) none)
         have T1 := Lib.hid fun W h => T0.out W (ga.trans h)
         have G1 := Lib.hid fun W h => G0.out W (ga.trans h)
         have MA1 := Lib.hid fun W h => MA0.out W (ga.trans h)
         have MB1 := Lib.hid fun W h => MB0.out W (ga.trans h)
         have BA1 := Lib.hid fun W h => BA0.out W (ga.trans h)
         have BB1 := Lib.hid fun W h => BB0.out W (ga.trans h)
         have BC1 := Lib.hid fun W (h : (v1.alloc (.cells #[.int .i64 c', .slice xa1 K.length xc1] 39)).grownBy W none) => bx_on (alloc_heap_new v1 (.cells #[.int .i64 c', .slice xa1 K.length xc1] 39)) h
         have MC1 := Lib.hid fun W (h : (v1.alloc (.cells #[.int .i64 c', .slice xa1 K.length xc1] 39)).grownBy W none) => hm.carry ((grownBy_alloc v1 (.cells #[.int .i64 c', .slice xa1 K.length xc1] 39) none).trans h)
         obtain ⟨y1BA0, y1BA1, _, _⟩ := bx (BA1.out _ (grownBy_refl _ _))
         obtain ⟨y1BB0, y1BB1, _, _⟩ := bx (BB1.out _ (grownBy_refl _ _))
         clear ga g hm)
      | (go_at_call 62
         with_reducible refine (HSP.out _ _ _ (MA1.out _ (grownBy_refl _ _)) (MB1.out _ (grownBy_refl _ _))).mono ?_
         rintro e v2 ⟨o2, rfl, hm, g⟩
         obtain ⟨xa2, xc2, rfl⟩ := hm.shape
         have ga := g.trans (grownBy_alloc v2 (.cells #[.int .i64 c', .slice xa2 K.length xc2] 39) none)
         have T2 := Lib.hid fun W h => T1.out W (ga.trans h)
         have G2 := Lib.hid fun W h => G1.out W (ga.trans h)
         have MA2 := Lib.hid fun W h => MA1.out W (ga.trans h)
         have MB2 := Lib.hid fun W h => MB1.out W (ga.trans h)
         have BA2 := Lib.hid fun W h => BA1.out W (ga.trans h)
         have BB2 := Lib.hid fun W h => BB1.out W (ga.trans h)
         have BC2 := Lib.hid fun W h => BC1.out W (ga.trans h)
         have MC2 := Lib.hid fun W h => MC1.out W (ga.trans h)
         have BW2 := Lib.hid fun W (h : (v2.alloc (.cells #[.int .i64 c', .slice xa2 K.length xc2] 39)).grownBy W none) => bx_on (alloc_heap_new v2 (.cells #[.int .i64 c', .slice xa2 K.length xc2] 39)) h
         have MW2 := Lib.hid fun W (h : (v2.alloc (.cells #[.int .i64 c', .slice xa2 K.length xc2] 39)).grownBy W none) => hm.carry ((grownBy_alloc v2 (.cells #[.int .i64 c', .slice xa2 K.length xc2] 39) none).trans h)
         obtain ⟨y2BC0, y2BC1, _, _⟩ := bx (BC2.out _ (grownBy_refl _ _))
         obtain ⟨y2BW0, y2BW1, _, _⟩ := bx (BW2.out _ (grownBy_refl _ _))
         clear ga g hm)
      | (go_at_call 28
         with_reducible refine (pSame_m _ _ _ _ (MC2.out _ (grownBy_refl _ _)) (MW2.out _ (grownBy_refl _ _)) SK.out).mono ?_
         rintro e v3 ⟨rfl, g⟩
         have ga := g
         have T3 := Lib.hid fun W h => T2.out W (ga.trans h)
         have G3 := Lib.hid fun W h => G2.out W (ga.trans h)
         have MA3 := Lib.hid fun W h => MA2.out W (ga.trans h)
         have MB3 := Lib.hid fun W h => MB2.out W (ga.trans h)
         have BA3 := Lib.hid fun W h => BA2.out W (ga.trans h)
         have BB3 := Lib.hid fun W h => BB2.out W (ga.trans h)
         have BC3 := Lib.hid fun W h => BC2.out W (ga.trans h)
         have MC3 := Lib.hid fun W h => MC2.out W (ga.trans h)
         obtain ⟨y3BA0, y3BA1, _, _⟩ := bx (BA3.out _ (grownBy_refl _ _))
         clear ga g))
    go_cut [12, 13, 14, 15, 16, 17, 18, 19, 20, 21, 22, 23, 24, 25] from 79 to 158 (fun u12 u13 u14 u15 u16 u17 u18 u19 u20 u21 u22 u23 u24 u25 wx => w.grownBy wx none)
    case first =>
      cases b
      · go_wp2_with fail
        go_meet
        exact G3.out _ (grownBy_refl _ _)
      · obtain ⟨hmb, hc', hK⟩ := HY.out rfl
        obtain rfl : c' = cb := hc'
        obtain ⟨X, Y, Z, hmy⟩ := mr_yes hmb
        obtain ⟨e1, e2, e3, d1, d2, d3, hda⟩ := det_ans hmb SLA.out SLB.out (by rw [← hK]; exact SK.out)
        rw [← hK] at hmy hda
        obtain ⟨sZ, t1, t2, t3, t4⟩ := hmy
        obtain ⟨k1, k2, k3, hrel⟩ := hda
        unfold mxV at t1 t2 t3 t4 k1 k2 k3
        have T1H := Lib.hid t1; have T2H := Lib.hid t2; have T3H := Lib.hid t3; have T4H := Lib.hid t4; have K1H := Lib.hid k1; have K2H := Lib.hid k2; have K3H := Lib.hid k3; have HREL := Lib.hid hrel; have SZ := Lib.hid sZ
        clear hmb hK t1 t2 t3 t4 k1 k2 k3 hrel sZ
        go_wp2_with (first
          | (go_at_call 63
             with_reducible refine (T1H.out _ _ (T3.out _ (grownBy_refl _ _)) (MA3.out _ (grownBy_refl _ _))).mono ?_
             rintro e v4 ⟨o4, rfl, hm, g⟩
             obtain ⟨xa4, xc4, rfl⟩ := hm.shape
             have ga := g.trans (grownBy_alloc v4 (.cells #[.int .i64 L.length, .slice xa4 X.length xc4] 39) none)
             have T4 := Lib.hid fun W h => T3.out W (ga.trans h)
             have G4 := Lib.hid fun W h => G3.out W (ga.trans h)
             have MA4 := Lib.hid fun W h => MA3.out W (ga.trans h)
             have MB4 := Lib.hid fun W h => MB3.out W (ga.trans h)
             have BA4 := Lib.hid fun W h => BA3.out W (ga.trans h)
             have BB4 := Lib.hid fun W h => BB3.out W (ga.trans h)
             have BC4 := Lib.hid fun W h => BC3.out W (ga.trans h)
             have MC4 := Lib.hid fun W h => MC3.out W (ga.trans h)
             have BX4 := Lib.hid fun W (h : (v4.alloc (.cells #[.int .i64 L.length, .slice xa4 X.length xc4] 39)).grownBy W none) => bx_on (alloc_heap_new v4 (.cells #[.int .i64 L.length, .slice xa4 X.length xc4] 39)) h
             have MX4 := Lib.hid fun W (h : (v4.alloc (.cells #[.int .i64 L.length, .slice xa4 X.length xc4] 39)).grownBy W none) => hm.carry ((grownBy_alloc v4 (.cells #[.int .i64 L.length, .slice xa4 X.length xc4] 39) none).trans h)
             obtain ⟨y4BB0, y4BB1, _, _⟩ := bx (BB4.out _ (grownBy_refl _ _))
             clear ga g hm)
          | (go_at_call 63
             with_reducible refine (T2H.out _ _ (T4.out _ (grownBy_refl _ _)) (MB4.out _ (grownBy_refl _ _))).mono ?_
             rintro e v5 ⟨o5, rfl, hm, g⟩
             obtain ⟨xa5, xc5, rfl⟩ := hm.shape
             have ga := g.trans (grownBy_alloc v5 (.cells #[.int .i64 M.length, .slice xa5 Y.length xc5] 39) none)
             have T5 := Lib.hid fun W h => T4.out W (ga.trans h)
             have G5 := Lib.hid fun W h => G4.out W (ga.trans h)
             have MA5 := Lib.hid fun W h => MA4.out W (ga.trans h)
             have MB5 := Lib.hid fun W h => MB4.out W (ga.trans h)
             have BA5 := Lib.hid fun W h => BA4.out W (ga.trans h)
             have BB5 := Lib.hid fun W h => BB4.out W (ga.trans h)
             have BC5 := Lib.hid fun W h => BC4.out W (ga.trans h)
             have MC5 := Lib.hid fun W h => MC4.out W (ga.trans h)
             have BX5 := Lib.hid fun W h => BX4.out W (ga.trans h)
             have MX5 := Lib.hid fun W h => MX4.out W (ga.trans h)
             have BY5 := Lib.hid fun W (h : (v5.alloc (.cells #[.int .i64 M.length, .slice xa5 Y.length xc5] 39)).grownBy W none) => bx_on (alloc_heap_new v5 (.cells #[.int .i64 M.length, .slice xa5 Y.length xc5] 39)) h
             have MY5 := Lib.hid fun W (h : (v5.alloc (.cells #[.int .i64 M.length, .slice xa5 Y.length xc5] 39)).grownBy W none) => hm.carry ((grownBy_alloc v5 (.cells #[.int .i64 M.length, .slice xa5 Y.length xc5] 39) none).trans h)
             obtain ⟨y5BY0, y5BY1, _, _⟩ := bx (BY5.out _ (grownBy_refl _ _))
             obtain ⟨y5BX0, y5BX1, _, _⟩ := bx (BX5.out _ (grownBy_refl _ _))
             clear ga g hm)
          | (go_at_call 29
             with_reducible refine (T3H.out _ _ _ (T5.out _ (grownBy_refl _ _)) (MY5.out _ (grownBy_refl _ _)) (MX5.out _ (grownBy_refl _ _))).mono ?_
             rintro e v6 ⟨o6, rfl, hm, g⟩
             obtain ⟨xa6, xc6, rfl⟩ := hm.shape
             have ga := g.trans (grownBy_alloc v6 (.cells #[.int .i64 L.length, .slice xa6 Z.length xc6] 39) none)
             have T6 := Lib.hid fun W h => T5.out W (ga.trans h)
             have G6 := Lib.hid fun W h => G5.out W (ga.trans h)
             have MA6 := Lib.hid fun W h => MA5.out W (ga.trans h)
             have MB6 := Lib.hid fun W h => MB5.out W (ga.trans h)
             have BA6 := Lib.hid fun W h => BA5.out W (ga.trans h)
             have BB6 := Lib.hid fun W h => BB5.out W (ga.trans h)
             have BC6 := Lib.hid fun W h => BC5.out W (ga.trans h)
             have MC6 := Lib.hid fun W h => MC5.out W (ga.trans h)
             have BZ6 := Lib.hid fun W (h : (v6.alloc (.cells #[.int .i64 L.length, .slice xa6 Z.length xc6] 39)).grownBy W none) => bx_on (alloc_heap_new v6 (.cells #[.int .i64 L.length, .slice xa6 Z.length xc6] 39)) h
             have MZ6 := Lib.hid fun W (h : (v6.alloc (.cells #[.int .i64 L.length, .slice xa6 Z.length xc6] 39)).grownBy W none) => hm.carry ((grownBy_alloc v6 (.cells #[.int .i64 L.length, .slice xa6 Z.length xc6] 39) none).trans h)
             obtain ⟨y6BC0, y6BC1, _, _⟩ := bx (BC6.out _ (grownBy_refl _ _))
             clear ga g hm)
          | (go_at_call 63
             with_reducible refine (T4H.out _ _ (T6.out _ (grownBy_refl _ _)) (MC6.out _ (grownBy_refl _ _))).mono ?_
             rintro e v7 ⟨o7, rfl, hm, g⟩
             obtain ⟨xa7, xc7, rfl⟩ := hm.shape
             have ga := g.trans (grownBy_alloc v7 (.cells #[.int .i64 L.length, .slice xa7 Z.length xc7] 39) none)
             have T7 := Lib.hid fun W h => T6.out W (ga.trans h)
             have G7 := Lib.hid fun W h => G6.out W (ga.trans h)
             have MA7 := Lib.hid fun W h => MA6.out W (ga.trans h)
             have MB7 := Lib.hid fun W h => MB6.out W (ga.trans h)
             have BA7 := Lib.hid fun W h => BA6.out W (ga.trans h)
             have BB7 := Lib.hid fun W h => BB6.out W (ga.trans h)
             have BC7 := Lib.hid fun W h => BC6.out W (ga.trans h)
             have MC7 := Lib.hid fun W h => MC6.out W (ga.trans h)
             have BZ7 := Lib.hid fun W h => BZ6.out W (ga.trans h)
             have MZ7 := Lib.hid fun W h => MZ6.out W (ga.trans h)
             have BT7 := Lib.hid fun W (h : (v7.alloc (.cells #[.int .i64 L.length, .slice xa7 Z.length xc7] 39)).grownBy W none) => bx_on (alloc_heap_new v7 (.cells #[.int .i64 L.length, .slice xa7 Z.length xc7] 39)) h
             have MT7 := Lib.hid fun W (h : (v7.alloc (.cells #[.int .i64 L.length, .slice xa7 Z.length xc7] 39)).grownBy W none) => hm.carry ((grownBy_alloc v7 (.cells #[.int .i64 L.length, .slice xa7 Z.length xc7] 39) none).trans h)
             obtain ⟨y7BZ0, y7BZ1, _, _⟩ := bx (BZ7.out _ (grownBy_refl _ _))
             obtain ⟨y7BT0, y7BT1, _, _⟩ := bx (BT7.out _ (grownBy_refl _ _))
             clear ga g hm)
          | (go_at_call 28
             with_reducible refine (pSame_m _ _ _ _ (MZ7.out _ (grownBy_refl _ _)) (MT7.out _ (grownBy_refl _ _)) SZ.out).mono ?_
             rintro e v8 ⟨rfl, g⟩
             have ga := g
             have T8 := Lib.hid fun W h => T7.out W (ga.trans h)
             have G8 := Lib.hid fun W h => G7.out W (ga.trans h)
             have MA8 := Lib.hid fun W h => MA7.out W (ga.trans h)
             have MB8 := Lib.hid fun W h => MB7.out W (ga.trans h)
             have BA8 := Lib.hid fun W h => BA7.out W (ga.trans h)
             have BB8 := Lib.hid fun W h => BB7.out W (ga.trans h)
             have BC8 := Lib.hid fun W h => BC7.out W (ga.trans h)
             have MC8 := Lib.hid fun W h => MC7.out W (ga.trans h)
             obtain ⟨y8BA0, y8BA1, _, _⟩ := bx (BA8.out _ (grownBy_refl _ _))
             clear ga g)
          | (go_at_call 64
             with_reducible refine (K1H.out _ _ (T8.out _ (grownBy_refl _ _)) (MA8.out _ (grownBy_refl _ _))).mono ?_
             rintro e v9 ⟨rfl, g⟩
             have ga := g
             have T9 := Lib.hid fun W h => T8.out W (ga.trans h)
             have G9 := Lib.hid fun W h => G8.out W (ga.trans h)
             have MA9 := Lib.hid fun W h => MA8.out W (ga.trans h)
             have MB9 := Lib.hid fun W h => MB8.out W (ga.trans h)
             have BA9 := Lib.hid fun W h => BA8.out W (ga.trans h)
             have BB9 := Lib.hid fun W h => BB8.out W (ga.trans h)
             have BC9 := Lib.hid fun W h => BC8.out W (ga.trans h)
             have MC9 := Lib.hid fun W h => MC8.out W (ga.trans h)
             obtain ⟨y9BB0, y9BB1, _, _⟩ := bx (BB9.out _ (grownBy_refl _ _))
             clear ga g)
          | (go_at_call 64
             with_reducible refine (K2H.out _ _ (T9.out _ (grownBy_refl _ _)) (MB9.out _ (grownBy_refl _ _))).mono ?_
             rintro e v10 ⟨rfl, g⟩
             have ga := g
             have T10 := Lib.hid fun W h => T9.out W (ga.trans h)
             have G10 := Lib.hid fun W h => G9.out W (ga.trans h)
             have MA10 := Lib.hid fun W h => MA9.out W (ga.trans h)
             have MB10 := Lib.hid fun W h => MB9.out W (ga.trans h)
             have BA10 := Lib.hid fun W h => BA9.out W (ga.trans h)
             have BB10 := Lib.hid fun W h => BB9.out W (ga.trans h)
             have BC10 := Lib.hid fun W h => BC9.out W (ga.trans h)
             have MC10 := Lib.hid fun W h => MC9.out W (ga.trans h)
             obtain ⟨y10BC0, y10BC1, _, _⟩ := bx (BC10.out _ (grownBy_refl _ _))
             clear ga g))
        have hc := K3H.out _ _ (T10.out _ (grownBy_refl _ _)) (MC10.out _ (grownBy_refl _ _))
        with_reducible refine hc.mono ?_
        rintro e v11 ⟨rfl, g⟩
        have ga := g
        have T11 := Lib.hid fun W h => T10.out W (ga.trans h)
        have G11 := Lib.hid fun W h => G10.out W (ga.trans h)
        have MA11 := Lib.hid fun W h => MA10.out W (ga.trans h)
        have MB11 := Lib.hid fun W h => MB10.out W (ga.trans h)
        have BA11 := Lib.hid fun W h => BA10.out W (ga.trans h)
        have BB11 := Lib.hid fun W h => BB10.out W (ga.trans h)
        have BC11 := Lib.hid fun W h => BC10.out W (ga.trans h)
        have MC11 := Lib.hid fun W h => MC10.out W (ga.trans h)
        clear ga g
        clear hc
        rcases HREL.out with rfl | ⟨rfl, rfl⟩ | ⟨rfl, rfl, rfl, f1, f2, f3, f4, f5, rfl⟩
        · go_wp2_with fail
          go_meet
          exact G11.out _ (grownBy_refl _ _)
        · go_wp2_with fail
          go_meet
          exact G11.out _ (grownBy_refl _ _)
        · have hmul := mul_bd2 (a := d1) (b := d2) (A := 97) (B := 97) (by omega) (by omega) (by omega) (by omega)
          have hmul0 := Int.mul_nonneg f1 f3
          have htm : (d1 * d2).tmod p = (d1 * d2) % p := Int.tmod_eq_emod_of_nonneg hmul0
          have hwr : IntKind.i64.wrap (d1 * d2) = d1 * d2 := by
            generalize d1 * d2 = dd at *
            rw [IntKind.wrap_i64]; omega
          have hp0 : ((p : Int) == 0) = false := by rw [beq_eq_false_iff_ne]; omega
          have hp0' : (p : Int) ≠ 0 := by omega
          have hmd0 := Int.emod_nonneg (d1 * d2) hp0'
          have hmd1 := Int.emod_lt_of_pos (d1 * d2) (show (0 : Int) < p by omega)
          have hwr2 : IntKind.i64.wrap ((d1 * d2) % p) = (d1 * d2) % p := by
            generalize (d1 * d2) % (p : Int) = dd at *
            rw [IntKind.wrap_i64]; omega
          go_wp2_with fail
          go_meet
          exact G11.out _ (grownBy_refl _ _)
    case rest =>
      have HW := Lib.hid hcut
      clear hcut T0 G0 MA0 MB0 BA0 BB0 HI HSP HY SK SLA SLB y0A0 y0A1 y0B0 y0B1
      go_wp2_with fail
      have hcm := HM.out.carry HW.out
      refine (drawMatrixPower_any _ _ hcm).mono ?_
      rintro e z1 ⟨q, c2, o2, vs2, N2, n2, rfl, hq2, hq97, ho, hN, hn0, hn1, sg⟩
      obtain ⟨oa2, oc2, hoe, _, _⟩ := own_form ho
      subst hoe
      obtain ⟨b2, c2', K2, sK2, himpl, hspec, hstep⟩ := pow_both (q : Int) c2 N2 n2 hN (by omega) (by omega)
      have SK2 := Lib.hid (small_up sK2); have HST := Lib.hid hstep
      unfold mxV at himpl hspec ⊢
      have HI2 := Lib.hid himpl; have HSP2 := Lib.hid hspec
      have hga := grownBy_alloc z1 (.cells #[.int .i64 c2, .slice oa2 N2.length oc2] 39) none
      have T20 := Lib.hid fun W (h : (z1.alloc (.cells #[.int .i64 c2, .slice oa2 N2.length oc2] 39)).grownBy W none) => HT.out.grown (((HW.out.trans sg).trans hga).trans h)
      have G20 := Lib.hid fun W (h : (z1.alloc (.cells #[.int .i64 c2, .slice oa2 N2.length oc2] 39)).grownBy W none) => ((HW.out.trans sg).trans hga).trans h
      have MQ20 := Lib.hid fun W (h : (z1.alloc (.cells #[.int .i64 c2, .slice oa2 N2.length oc2] 39)).grownBy W none) => ho.read.carry (hga.trans h)
      have BQ20 := Lib.hid fun W (h : (z1.alloc (.cells #[.int .i64 c2, .slice oa2 N2.length oc2] 39)).grownBy W none) => bx_on (alloc_heap_new z1 (.cells #[.int .i64 c2, .slice oa2 N2.length oc2] 39)) h
      clear ho hN sg hga himpl hspec hstep sK2 hcm
      go_wp2_with fail
      generalize z1.alloc (.cells #[.int .i64 c2, .slice oa2 N2.length oc2] 39) = Z2 at *
      obtain ⟨y20Q0, y20Q1, _, _⟩ := bx (BQ20.out _ (grownBy_refl _ _))
      cases b2
      · go_wp2_with (first
          | (go_at_call 66
             with_reducible refine (HI2.out _ _ (T20.out _ (grownBy_refl _ _)) (MQ20.out _ (grownBy_refl _ _))).mono ?_
             rintro e v21 ⟨o21, rfl, hm, g⟩
             obtain ⟨xa21, xc21, rfl⟩ := hm.shape
             have ga := g.trans (grownBy_alloc v21 (.cells #[.int .i64 c2', .slice xa21 K2.length xc21] 39) none)
             have T21 := Lib.hid fun W h => T20.out W (ga.trans h)
             have G21 := Lib.hid fun W h => G20.out W (ga.trans h)
             have MQ21 := Lib.hid fun W h => MQ20.out W (ga.trans h)
             have BQ21 := Lib.hid fun W h => BQ20.out W (ga.trans h)
             have BX21 := Lib.hid fun W (h : (v21.alloc (.cells #[.int .i64 c2', .slice xa21 K2.length xc21] 39)).grownBy W none) => bx_on (alloc_heap_new v21 (.cells #[.int .i64 c2', .slice xa21 K2.length xc21] 39)) h
             have MX21 := Lib.hid fun W (h : (v21.alloc (.cells #[.int .i64 c2', .slice xa21 K2.length xc21] 39)).grownBy W none) => hm.carry ((grownBy_alloc v21 (.cells #[.int .i64 c2', .slice xa21 K2.length xc21] 39) none).trans h)
             obtain ⟨y21BQ0, y21BQ1, _, _⟩ := bx (BQ21.out _ (grownBy_refl _ _))
             clear ga g hm)
          | (go_at_call 67
             with_reducible refine (HSP2.out _ _ (MQ21.out _ (grownBy_refl _ _))).mono ?_
             rintro e v22 ⟨o22, rfl, hm, g⟩
             obtain ⟨xa22, xc22, rfl⟩ := hm.shape
             have ga := g.trans (grownBy_alloc v22 (.cells #[.int .i64 c2', .slice xa22 K2.length xc22] 39) none)
             have T22 := Lib.hid fun W h => T21.out W (ga.trans h)
             have G22 := Lib.hid fun W h => G21.out W (ga.trans h)
             have MQ22 := Lib.hid fun W h => MQ21.out W (ga.trans h)
             have BQ22 := Lib.hid fun W h => BQ21.out W (ga.trans h)
             have BX22 := Lib.hid fun W h => BX21.out W (ga.trans h)
             have MX22 := Lib.hid fun W h => MX21.out W (ga.trans h)
             have BP22 := Lib.hid fun W (h : (v22.alloc (.cells #[.int .i64 c2', .slice xa22 K2.length xc22] 39)).grownBy W none) => bx_on (alloc_heap_new v22 (.cells #[.int .i64 c2', .slice xa22 K2.length xc22] 39)) h
             have MP22 := Lib.hid fun W (h : (v22.alloc (.cells #[.int .i64 c2', .slice xa22 K2.length xc22] 39)).grownBy W none) => hm.carry ((grownBy_alloc v22 (.cells #[.int .i64 c2', .slice xa22 K2.length xc22] 39) none).trans h)
             obtain ⟨y22BX0, y22BX1, _, _⟩ := bx (BX22.out _ (grownBy_refl _ _))
             obtain ⟨y22BP0, y22BP1, _, _⟩ := bx (BP22.out _ (grownBy_refl _ _))
             clear ga g hm)
          | (go_at_call 28
             with_reducible refine (pSame_m _ _ _ _ (MX22.out _ (grownBy_refl _ _)) (MP22.out _ (grownBy_refl _ _)) SK2.out).mono ?_
             rintro e v23 ⟨rfl, g⟩
             have ga := g
             have T23 := Lib.hid fun W h => T22.out W (ga.trans h)
             have G23 := Lib.hid fun W h => G22.out W (ga.trans h)
             have MQ23 := Lib.hid fun W h => MQ22.out W (ga.trans h)
             have BQ23 := Lib.hid fun W h => BQ22.out W (ga.trans h)
             have BX23 := Lib.hid fun W h => BX22.out W (ga.trans h)
             have MX23 := Lib.hid fun W h => MX22.out W (ga.trans h)
             obtain ⟨y23BQ0, y23BQ1, _, _⟩ := bx (BQ23.out _ (grownBy_refl _ _))
             clear ga g))
        have hcc := HC.out.carry (G23.out _ (grownBy_refl _ _))
        refine (drawSolveLinear_any _ _ hcc).mono ?_
        rintro e x1 ⟨r, c3, o3, vs3, S, v3, zs, rfl, hr2, hr97, ho, hS, hv, hz, sg⟩
        obtain ⟨oa3, oc3, hoe, _, _⟩ := own_form ho
        subst hoe
        obtain ⟨va3, vc3, rfl⟩ := own_shape hv
        obtain ⟨b3, K3, hans⟩ := slv_both (r : Int) c3 S zs hS (by omega) (by omega) (by omega)
        have HANS := Lib.hid hans
        have hK3 := hans.small
        have himpl := hans.impl
        have hspec := hans.spec
        have HLZ := Lib.hid hz
        unfold mxV at himpl hspec ⊢
        have HI3 := Lib.hid himpl; have HSP3 := Lib.hid hspec
        have hga := grownBy_alloc x1 (.cells #[.int .i64 c3, .slice oa3 S.length oc3] 39) none
        have T24 := Lib.hid fun W (h : (x1.alloc (.cells #[.int .i64 c3, .slice oa3 S.length oc3] 39)).grownBy W none) => T23.out W ((sg.trans hga).trans h)
        have G24 := Lib.hid fun W (h : (x1.alloc (.cells #[.int .i64 c3, .slice oa3 S.length oc3] 39)).grownBy W none) => G23.out W ((sg.trans hga).trans h)
        have MS24 := Lib.hid fun W (h : (x1.alloc (.cells #[.int .i64 c3, .slice oa3 S.length oc3] 39)).grownBy W none) => ho.read.carry (hga.trans h)
        have IV24 := Lib.hid fun W (h : (x1.alloc (.cells #[.int .i64 c3, .slice oa3 S.length oc3] 39)).grownBy W none) => hv.read.carry (hga.trans h)
        have BS24 := Lib.hid fun W (h : (x1.alloc (.cells #[.int .i64 c3, .slice oa3 S.length oc3] 39)).grownBy W none) => bx_on (alloc_heap_new x1 (.cells #[.int .i64 c3, .slice oa3 S.length oc3] 39)) h
        clear ho hS hv hz sg hga himpl hspec hcc hans
        go_wp2_with fail
        generalize x1.alloc (.cells #[.int .i64 c3, .slice oa3 S.length oc3] 39) = X2 at *
        obtain ⟨y24S0, y24S1, _, _⟩ := bx (BS24.out _ (grownBy_refl _ _))
        cases b3
        · go_wp2_with (first
            | (go_at_call 69
               with_reducible refine (HI3.out _ _ _ (T24.out _ (grownBy_refl _ _)) (MS24.out _ (grownBy_refl _ _)) (IV24.out _ (grownBy_refl _ _))).mono ?_
               rintro e v25 ⟨o25, rfl, hi, g⟩
               obtain ⟨ia25, ic25, hie, _⟩ := id hi
               subst hie
               have ga := g
               have T25 := Lib.hid fun W h => T24.out W (ga.trans h)
               have G25 := Lib.hid fun W h => G24.out W (ga.trans h)
               have MS25 := Lib.hid fun W h => MS24.out W (ga.trans h)
               have IV25 := Lib.hid fun W h => IV24.out W (ga.trans h)
               have BS25 := Lib.hid fun W h => BS24.out W (ga.trans h)
               have IA25 := Lib.hid fun W (h : v25.grownBy W none) => hi.carry h
               obtain ⟨y25BS0, y25BS1, _, _⟩ := bx (BS25.out _ (grownBy_refl _ _))
               clear ga g hi)
            | (go_at_call 70
               with_reducible refine (HSP3.out _ _ _ (MS25.out _ (grownBy_refl _ _)) (IV25.out _ (grownBy_refl _ _))).mono ?_
               rintro e v26 ⟨o26, rfl, hi, g⟩
               obtain ⟨ia26, ic26, hie, _⟩ := id hi
               subst hie
               have ga := g
               have T26 := Lib.hid fun W h => T25.out W (ga.trans h)
               have G26 := Lib.hid fun W h => G25.out W (ga.trans h)
               have MS26 := Lib.hid fun W h => MS25.out W (ga.trans h)
               have IV26 := Lib.hid fun W h => IV25.out W (ga.trans h)
               have BS26 := Lib.hid fun W h => BS25.out W (ga.trans h)
               have IA26 := Lib.hid fun W h => IA25.out W (ga.trans h)
               have IB26 := Lib.hid fun W (h : v26.grownBy W none) => hi.carry h
               clear ga g hi)
            | (go_at_call 17
               with_reducible refine (same_self _ _ _ _ (IA26.out _ (grownBy_refl _ _)) (IB26.out _ (grownBy_refl _ _)) (by omega)).mono ?_
               rintro e v27 ⟨rfl, g⟩
               have ga := g
               have T27 := Lib.hid fun W h => T26.out W (ga.trans h)
               have G27 := Lib.hid fun W h => G26.out W (ga.trans h)
               have MS27 := Lib.hid fun W h => MS26.out W (ga.trans h)
               have IV27 := Lib.hid fun W h => IV26.out W (ga.trans h)
               have BS27 := Lib.hid fun W h => BS26.out W (ga.trans h)
               have IA27 := Lib.hid fun W h => IA26.out W (ga.trans h)
               obtain ⟨y27BS0, y27BS1, _, _⟩ := bx (BS27.out _ (grownBy_refl _ _))
               clear ga g))
          go_ret
          exact ⟨rfl, G27.out _ (grownBy_refl _ _)⟩
        · have hmul := slv_mul HANS.out
          unfold mxV at hmul
          have HMU := Lib.hid hmul
          clear hmul
          go_wp2_with (first
            | (go_at_call 69
               with_reducible refine (HI3.out _ _ _ (T24.out _ (grownBy_refl _ _)) (MS24.out _ (grownBy_refl _ _)) (IV24.out _ (grownBy_refl _ _))).mono ?_
               rintro e v25 ⟨o25, rfl, hi, g⟩
               obtain ⟨ia25, ic25, hie, _⟩ := id hi
               subst hie
               have ga := g
               have T25 := Lib.hid fun W h => T24.out W (ga.trans h)
               have G25 := Lib.hid fun W h => G24.out W (ga.trans h)
               have MS25 := Lib.hid fun W h => MS24.out W (ga.trans h)
               have IV25 := Lib.hid fun W h => IV24.out W (ga.trans h)
               have BS25 := Lib.hid fun W h => BS24.out W (ga.trans h)
               have IA25 := Lib.hid fun W (h : v25.grownBy W none) => hi.carry h
               obtain ⟨y25BS0, y25BS1, _, _⟩ := bx (BS25.out _ (grownBy_refl _ _))
               clear ga g hi)
            | (go_at_call 70
               with_reducible refine (HSP3.out _ _ _ (MS25.out _ (grownBy_refl _ _)) (IV25.out _ (grownBy_refl _ _))).mono ?_
               rintro e v26 ⟨o26, rfl, hi, g⟩
               obtain ⟨ia26, ic26, hie, _⟩ := id hi
               subst hie
               have ga := g
               have T26 := Lib.hid fun W h => T25.out W (ga.trans h)
               have G26 := Lib.hid fun W h => G25.out W (ga.trans h)
               have MS26 := Lib.hid fun W h => MS25.out W (ga.trans h)
               have IV26 := Lib.hid fun W h => IV25.out W (ga.trans h)
               have BS26 := Lib.hid fun W h => BS25.out W (ga.trans h)
               have IA26 := Lib.hid fun W h => IA25.out W (ga.trans h)
               have IB26 := Lib.hid fun W (h : v26.grownBy W none) => hi.carry h
               clear ga g hi)
            | (go_at_call 17
               with_reducible refine (same_self _ _ _ _ (IA26.out _ (grownBy_refl _ _)) (IB26.out _ (grownBy_refl _ _)) (by omega)).mono ?_
               rintro e v27 ⟨rfl, g⟩
               have ga := g
               have T27 := Lib.hid fun W h => T26.out W (ga.trans h)
               have G27 := Lib.hid fun W h => G26.out W (ga.trans h)
               have MS27 := Lib.hid fun W h => MS26.out W (ga.trans h)
               have IV27 := Lib.hid fun W h => IV26.out W (ga.trans h)
               have BS27 := Lib.hid fun W h => BS26.out W (ga.trans h)
               have IA27 := Lib.hid fun W h => IA26.out W (ga.trans h)
               obtain ⟨y27BS0, y27BS1, _, _⟩ := bx (BS27.out _ (grownBy_refl _ _))
               clear ga g
               have yal0 := fun o => cell_alloc y27BS0 o
               have yal1 := fun o => cell_alloc y27BS1 o)
            | (go_at_call 29
               have hgl := grownBy_alloc v27 (.cells #[.slice ia25 K3.length ic25] 24) none
               with_reducible refine (HMU.out _ _ _ (T27.out _ hgl) (mat_one (IA27.out _ (grownBy_refl _ _))) (MS27.out _ hgl)).mono ?_
               rintro e v28 ⟨o28, rfl, hm, g⟩
               obtain ⟨bb, ob, cap, ml, rr, rc, hve, hcell, hrow⟩ := hm.rowD (i := 0) (by simp)
               obtain ⟨za, zc, hze⟩ := hm.shape
               have hml : ml = 1 := by rw [hve] at hze; injection hze
               subst hml
               subst hve
               clear hze
               have hcell : v28.cell? ⟨bb, ob + 0, none⟩ = some (.slice rr zs.length rc) := hcell
               have hrow : IntsV v28 (.slice rr zs.length rc) zs := hrow
               have ga := (hgl.trans g).trans (grownBy_alloc v28 (.cells #[.int .i64 c3, .slice (some ⟨bb, ob, none⟩) 1 cap] 39) none)
               have hcell2 := cell_alloc hcell (.cells #[.int .i64 c3, .slice (some ⟨bb, ob, none⟩) 1 cap] 39)
               have hcell3 : (v28.alloc (.cells #[.int .i64 c3, .slice (some ⟨bb, ob, none⟩) 1 cap] 39)).cell? ⟨bb, ob, none⟩ = some (.slice rr zs.length rc) := hcell2
               have HS9 := Lib.hid (same_self (.slice rr zs.length rc) (.slice va3 zs.length vc3) zs (v28.alloc (.cells #[.int .i64 c3, .slice (some ⟨bb, ob, none⟩) 1 cap] 39)) (hrow.carry (grownBy_alloc _ _ none)) (IV27.out _ ga) (by have := HLZ.out; omega))
               have G28 := Lib.hid (G27.out _ ga)
               obtain ⟨yz0, yz1, _, _⟩ := bx (alloc_heap_new v28 (.cells #[.int .i64 c3, .slice (some ⟨bb, ob, none⟩) 1 cap] 39))
               clear hm g ga hgl hcell hcell2 hrow)
            | (go_at_call 17
               with_reducible refine HS9.out.mono ?_
               rintro e v29 ⟨rfl, g⟩
               have G29 := Lib.hid (G28.out.trans g)
               clear g))
          go_ret
          exact ⟨rfl, G29.out⟩
      · by_cases h0 : 0 < n2
        · obtain ⟨K1, hc2, p1, p2⟩ := HST.out rfl h0
          obtain rfl : c2' = c2 := hc2
          unfold mxV at p1 p2
          have P1 := Lib.hid p1; have P2 := Lib.hid p2
          have hwn : IntKind.i64.wrap (n2 - 1) = n2 - 1 := by rw [IntKind.wrap_i64]; omega
          clear p1 p2
          go_wp2_with (first
            | (go_at_call 66
               with_reducible refine (HI2.out _ _ (T20.out _ (grownBy_refl _ _)) (MQ20.out _ (grownBy_refl _ _))).mono ?_
               rintro e v21 ⟨o21, rfl, hm, g⟩
               obtain ⟨xa21, xc21, rfl⟩ := hm.shape
               have ga := g.trans (grownBy_alloc v21 (.cells #[.int .i64 c2', .slice xa21 K2.length xc21] 39) none)
               have T21 := Lib.hid fun W h => T20.out W (ga.trans h)
               have G21 := Lib.hid fun W h => G20.out W (ga.trans h)
               have MQ21 := Lib.hid fun W h => MQ20.out W (ga.trans h)
               have BQ21 := Lib.hid fun W h => BQ20.out W (ga.trans h)
               have BX21 := Lib.hid fun W (h : (v21.alloc (.cells #[.int .i64 c2', .slice xa21 K2.length xc21] 39)).grownBy W none) => bx_on (alloc_heap_new v21 (.cells #[.int .i64 c2', .slice xa21 K2.length xc21] 39)) h
               have MX21 := Lib.hid fun W (h : (v21.alloc (.cells #[.int .i64 c2', .slice xa21 K2.length xc21] 39)).grownBy W none) => hm.carry ((grownBy_alloc v21 (.cells #[.int .i64 c2', .slice xa21 K2.length xc21] 39) none).trans h)
               obtain ⟨y21BQ0, y21BQ1, _, _⟩ := bx (BQ21.out _ (grownBy_refl _ _))
               clear ga g hm)
            | (go_at_call 67
               with_reducible refine (HSP2.out _ _ (MQ21.out _ (grownBy_refl _ _))).mono ?_
               rintro e v22 ⟨o22, rfl, hm, g⟩
               obtain ⟨xa22, xc22, rfl⟩ := hm.shape
               have ga := g.trans (grownBy_alloc v22 (.cells #[.int .i64 c2', .slice xa22 K2.length xc22] 39) none)
               have T22 := Lib.hid fun W h => T21.out W (ga.trans h)
               have G22 := Lib.hid fun W h => G21.out W (ga.trans h)
               have MQ22 := Lib.hid fun W h => MQ21.out W (ga.trans h)
               have BQ22 := Lib.hid fun W h => BQ21.out W (ga.trans h)
               have BX22 := Lib.hid fun W h => BX21.out W (ga.trans h)
               have MX22 := Lib.hid fun W h => MX21.out W (ga.trans h)
               have BP22 := Lib.hid fun W (h : (v22.alloc (.cells #[.int .i64 c2', .slice xa22 K2.length xc22] 39)).grownBy W none) => bx_on (alloc_heap_new v22 (.cells #[.int .i64 c2', .slice xa22 K2.length xc22] 39)) h
               have MP22 := Lib.hid fun W (h : (v22.alloc (.cells #[.int .i64 c2', .slice xa22 K2.length xc22] 39)).grownBy W none) => hm.carry ((grownBy_alloc v22 (.cells #[.int .i64 c2', .slice xa22 K2.length xc22] 39) none).trans h)
               obtain ⟨y22BX0, y22BX1, _, _⟩ := bx (BX22.out _ (grownBy_refl _ _))
               obtain ⟨y22BP0, y22BP1, _, _⟩ := bx (BP22.out _ (grownBy_refl _ _))
               clear ga g hm)
            | (go_at_call 28
               with_reducible refine (pSame_m _ _ _ _ (MX22.out _ (grownBy_refl _ _)) (MP22.out _ (grownBy_refl _ _)) SK2.out).mono ?_
               rintro e v23 ⟨rfl, g⟩
               have ga := g
               have T23 := Lib.hid fun W h => T22.out W (ga.trans h)
               have G23 := Lib.hid fun W h => G22.out W (ga.trans h)
               have MQ23 := Lib.hid fun W h => MQ22.out W (ga.trans h)
               have BQ23 := Lib.hid fun W h => BQ22.out W (ga.trans h)
               have BX23 := Lib.hid fun W h => BX22.out W (ga.trans h)
               have MX23 := Lib.hid fun W h => MX22.out W (ga.trans h)
               obtain ⟨y23BQ0, y23BQ1, _, _⟩ := bx (BQ23.out _ (grownBy_refl _ _))
               clear ga g)
            | (go_at_call 66
               with_reducible refine (P1.out _ _ (T23.out _ (grownBy_refl _ _)) (MQ23.out _ (grownBy_refl _ _))).mono ?_
               rintro e v24 ⟨o24, rfl, hm, g⟩
               obtain ⟨xa24, xc24, rfl⟩ := hm.shape
               have ga := g.trans (grownBy_alloc v24 (.cells #[.int .i64 c2', .slice xa24 K1.length xc24] 39) none)
               have T24 := Lib.hid fun W h => T23.out W (ga.trans h)
               have G24 := Lib.hid fun W h => G23.out W (ga.trans h)
               have MQ24 := Lib.hid fun W h => MQ23.out W (ga.trans h)
               have BQ24 := Lib.hid fun W h => BQ23.out W (ga.trans h)
               have BX24 := Lib.hid fun W h => BX23.out W (ga.trans h)
               have MX24 := Lib.hid fun W h => MX23.out W (ga.trans h)
               have BY24 := Lib.hid fun W (h : (v24.alloc (.cells #[.int .i64 c2', .slice xa24 K1.length xc24] 39)).grownBy W none) => bx_on (alloc_heap_new v24 (.cells #[.int .i64 c2', .slice xa24 K1.length xc24] 39)) h
               have MY24 := Lib.hid fun W (h : (v24.alloc (.cells #[.int .i64 c2', .slice xa24 K1.length xc24] 39)).grownBy W none) => hm.carry ((grownBy_alloc v24 (.cells #[.int .i64 c2', .slice xa24 K1.length xc24] 39) none).trans h)
               obtain ⟨y24BY0, y24BY1, _, _⟩ := bx (BY24.out _ (grownBy_refl _ _))
               obtain ⟨y24BQ0, y24BQ1, _, _⟩ := bx (BQ24.out _ (grownBy_refl _ _))
               clear ga g hm)
            | (go_at_call 29
               with_reducible refine (P2.out _ _ _ (T24.out _ (grownBy_refl _ _)) (MY24.out _ (grownBy_refl _ _)) (MQ24.out _ (grownBy_refl _ _))).mono ?_
               rintro e v25 ⟨o25, rfl, hm, g⟩
               obtain ⟨xa25, xc25, rfl⟩ := hm.shape
               have ga := g.trans (grownBy_alloc v25 (.cells #[.int .i64 c2', .slice xa25 K2.length xc25] 39) none)
               have T25 := Lib.hid fun W h => T24.out W (ga.trans h)
               have G25 := Lib.hid fun W h => G24.out W (ga.trans h)
               have MQ25 := Lib.hid fun W h => MQ24.out W (ga.trans h)
               have BQ25 := Lib.hid fun W h => BQ24.out W (ga.trans h)
               have BX25 := Lib.hid fun W h => BX24.out W (ga.trans h)
               have MX25 := Lib.hid fun W h => MX24.out W (ga.trans h)
               have BZ25 := Lib.hid fun W (h : (v25.alloc (.cells #[.int .i64 c2', .slice xa25 K2.length xc25] 39)).grownBy W none) => bx_on (alloc_heap_new v25 (.cells #[.int .i64 c2', .slice xa25 K2.length xc25] 39)) h
               have MZ25 := Lib.hid fun W (h : (v25.alloc (.cells #[.int .i64 c2', .slice xa25 K2.length xc25] 39)).grownBy W none) => hm.carry ((grownBy_alloc v25 (.cells #[.int .i64 c2', .slice xa25 K2.length xc25] 39) none).trans h)
               obtain ⟨y25BZ0, y25BZ1, _, _⟩ := bx (BZ25.out _ (grownBy_refl _ _))
               obtain ⟨y25BX0, y25BX1, _, _⟩ := bx (BX25.out _ (grownBy_refl _ _))
               clear ga g hm)
            | (go_at_call 28
               with_reducible refine (pSame_m _ _ _ _ (MZ25.out _ (grownBy_refl _ _)) (MX25.out _ (grownBy_refl _ _)) SK2.out).mono ?_
               rintro e v26 ⟨rfl, g⟩
               have ga := g
               have T26 := Lib.hid fun W h => T25.out W (ga.trans h)
               have G26 := Lib.hid fun W h => G25.out W (ga.trans h)
               clear ga g))
          have hcc := HC.out.carry (G26.out _ (grownBy_refl _ _))
          refine (drawSolveLinear_any _ _ hcc).mono ?_
          rintro e x1 ⟨r, c3, o3, vs3, S, v3, zs, rfl, hr2, hr97, ho, hS, hv, hz, sg⟩
          obtain ⟨oa3, oc3, hoe, _, _⟩ := own_form ho
          subst hoe
          obtain ⟨va3, vc3, rfl⟩ := own_shape hv
          obtain ⟨b3, K3, hans⟩ := slv_both (r : Int) c3 S zs hS (by omega) (by omega) (by omega)
          have HANS := Lib.hid hans
          have hK3 := hans.small
          have himpl := hans.impl
          have hspec := hans.spec
          have HLZ := Lib.hid hz
          unfold mxV at himpl hspec ⊢
          have HI3 := Lib.hid himpl; have HSP3 := Lib.hid hspec
          have hga := grownBy_alloc x1 (.cells #[.int .i64 c3, .slice oa3 S.length oc3] 39) none
          have T27 := Lib.hid fun W (h : (x1.alloc (.cells #[.int .i64 c3, .slice oa3 S.length oc3] 39)).grownBy W none) => T26.out W ((sg.trans hga).trans h)
          have G27 := Lib.hid fun W (h : (x1.alloc (.cells #[.int .i64 c3, .slice oa3 S.length oc3] 39)).grownBy W none) => G26.out W ((sg.trans hga).trans h)
          have MS27 := Lib.hid fun W (h : (x1.alloc (.cells #[.int .i64 c3, .slice oa3 S.length oc3] 39)).grownBy W none) => ho.read.carry (hga.trans h)
          have IV27 := Lib.hid fun W (h : (x1.alloc (.cells #[.int .i64 c3, .slice oa3 S.length oc3] 39)).grownBy W none) => hv.read.carry (hga.trans h)
          have BS27 := Lib.hid fun W (h : (x1.alloc (.cells #[.int .i64 c3, .slice oa3 S.length oc3] 39)).grownBy W none) => bx_on (alloc_heap_new x1 (.cells #[.int .i64 c3, .slice oa3 S.length oc3] 39)) h
          clear ho hS hv hz sg hga himpl hspec hcc hans
          go_wp2_with fail
          generalize x1.alloc (.cells #[.int .i64 c3, .slice oa3 S.length oc3] 39) = X2 at *
          obtain ⟨y27S0, y27S1, _, _⟩ := bx (BS27.out _ (grownBy_refl _ _))
          cases b3
          · go_wp2_with (first
              | (go_at_call 69
                 with_reducible refine (HI3.out _ _ _ (T27.out _ (grownBy_refl _ _)) (MS27.out _ (grownBy_refl _ _)) (IV27.out _ (grownBy_refl _ _))).mono ?_
                 rintro e v28 ⟨o28, rfl, hi, g⟩
                 obtain ⟨ia28, ic28, hie, _⟩ := id hi
                 subst hie
                 have ga := g
                 have T28 := Lib.hid fun W h => T27.out W (ga.trans h)
                 have G28 := Lib.hid fun W h => G27.out W (ga.trans h)
                 have MS28 := Lib.hid fun W h => MS27.out W (ga.trans h)
                 have IV28 := Lib.hid fun W h => IV27.out W (ga.trans h)
                 have BS28 := Lib.hid fun W h => BS27.out W (ga.trans h)
                 have IA28 := Lib.hid fun W (h : v28.grownBy W none) => hi.carry h
                 obtain ⟨y28BS0, y28BS1, _, _⟩ := bx (BS28.out _ (grownBy_refl _ _))
                 clear ga g hi)
              | (go_at_call 70
                 with_reducible refine (HSP3.out _ _ _ (MS28.out _ (grownBy_refl _ _)) (IV28.out _ (grownBy_refl _ _))).mono ?_
                 rintro e v29 ⟨o29, rfl, hi, g⟩
                 obtain ⟨ia29, ic29, hie, _⟩ := id hi
                 subst hie
                 have ga := g
                 have T29 := Lib.hid fun W h => T28.out W (ga.trans h)
                 have G29 := Lib.hid fun W h => G28.out W (ga.trans h)
                 have MS29 := Lib.hid fun W h => MS28.out W (ga.trans h)
                 have IV29 := Lib.hid fun W h => IV28.out W (ga.trans h)
                 have BS29 := Lib.hid fun W h => BS28.out W (ga.trans h)
                 have IA29 := Lib.hid fun W h => IA28.out W (ga.trans h)
                 have IB29 := Lib.hid fun W (h : v29.grownBy W none) => hi.carry h
                 clear ga g hi)
              | (go_at_call 17
                 with_reducible refine (same_self _ _ _ _ (IA29.out _ (grownBy_refl _ _)) (IB29.out _ (grownBy_refl _ _)) (by omega)).mono ?_
                 rintro e v30 ⟨rfl, g⟩
                 have ga := g
                 have T30 := Lib.hid fun W h => T29.out W (ga.trans h)
                 have G30 := Lib.hid fun W h => G29.out W (ga.trans h)
                 have MS30 := Lib.hid fun W h => MS29.out W (ga.trans h)
                 have IV30 := Lib.hid fun W h => IV29.out W (ga.trans h)
                 have BS30 := Lib.hid fun W h => BS29.out W (ga.trans h)
                 have IA30 := Lib.hid fun W h => IA29.out W (ga.trans h)
                 obtain ⟨y30BS0, y30BS1, _, _⟩ := bx (BS30.out _ (grownBy_refl _ _))
                 clear ga g))
            go_ret
            exact ⟨rfl, G30.out _ (grownBy_refl _ _)⟩
          · have hmul := slv_mul HANS.out
            unfold mxV at hmul
            have HMU := Lib.hid hmul
            clear hmul
            go_wp2_with (first
              | (go_at_call 69
                 with_reducible refine (HI3.out _ _ _ (T27.out _ (grownBy_refl _ _)) (MS27.out _ (grownBy_refl _ _)) (IV27.out _ (grownBy_refl _ _))).mono ?_
                 rintro e v28 ⟨o28, rfl, hi, g⟩
                 obtain ⟨ia28, ic28, hie, _⟩ := id hi
                 subst hie
                 have ga := g
                 have T28 := Lib.hid fun W h => T27.out W (ga.trans h)
                 have G28 := Lib.hid fun W h => G27.out W (ga.trans h)
                 have MS28 := Lib.hid fun W h => MS27.out W (ga.trans h)
                 have IV28 := Lib.hid fun W h => IV27.out W (ga.trans h)
                 have BS28 := Lib.hid fun W h => BS27.out W (ga.trans h)
                 have IA28 := Lib.hid fun W (h : v28.grownBy W none) => hi.carry h
                 obtain ⟨y28BS0, y28BS1, _, _⟩ := bx (BS28.out _ (grownBy_refl _ _))
                 clear ga g hi)
              | (go_at_call 70
                 with_reducible refine (HSP3.out _ _ _ (MS28.out _ (grownBy_refl _ _)) (IV28.out _ (grownBy_refl _ _))).mono ?_
                 rintro e v29 ⟨o29, rfl, hi, g⟩
                 obtain ⟨ia29, ic29, hie, _⟩ := id hi
                 subst hie
                 have ga := g
                 have T29 := Lib.hid fun W h => T28.out W (ga.trans h)
                 have G29 := Lib.hid fun W h => G28.out W (ga.trans h)
                 have MS29 := Lib.hid fun W h => MS28.out W (ga.trans h)
                 have IV29 := Lib.hid fun W h => IV28.out W (ga.trans h)
                 have BS29 := Lib.hid fun W h => BS28.out W (ga.trans h)
                 have IA29 := Lib.hid fun W h => IA28.out W (ga.trans h)
                 have IB29 := Lib.hid fun W (h : v29.grownBy W none) => hi.carry h
                 clear ga g hi)
              | (go_at_call 17
                 with_reducible refine (same_self _ _ _ _ (IA29.out _ (grownBy_refl _ _)) (IB29.out _ (grownBy_refl _ _)) (by omega)).mono ?_
                 rintro e v30 ⟨rfl, g⟩
                 have ga := g
                 have T30 := Lib.hid fun W h => T29.out W (ga.trans h)
                 have G30 := Lib.hid fun W h => G29.out W (ga.trans h)
                 have MS30 := Lib.hid fun W h => MS29.out W (ga.trans h)
                 have IV30 := Lib.hid fun W h => IV29.out W (ga.trans h)
                 have BS30 := Lib.hid fun W h => BS29.out W (ga.trans h)
                 have IA30 := Lib.hid fun W h => IA29.out W (ga.trans h)
                 obtain ⟨y30BS0, y30BS1, _, _⟩ := bx (BS30.out _ (grownBy_refl _ _))
                 clear ga g
                 have yal0 := fun o => cell_alloc y30BS0 o
                 have yal1 := fun o => cell_alloc y30BS1 o)
              | (go_at_call 29
                 have hgl := grownBy_alloc v30 (.cells #[.slice ia28 K3.length ic28] 24) none
                 with_reducible refine (HMU.out _ _ _ (T30.out _ hgl) (mat_one (IA30.out _ (grownBy_refl _ _))) (MS30.out _ hgl)).mono ?_
                 rintro e v31 ⟨o31, rfl, hm, g⟩
                 obtain ⟨bb, ob, cap, ml, rr, rc, hve, hcell, hrow⟩ := hm.rowD (i := 0) (by simp)
                 obtain ⟨za, zc, hze⟩ := hm.shape
                 have hml : ml = 1 := by rw [hve] at hze; injection hze
                 subst hml
                 subst hve
                 clear hze
                 have hcell : v31.cell? ⟨bb, ob + 0, none⟩ = some (.slice rr zs.length rc) := hcell
                 have hrow : IntsV v31 (.slice rr zs.length rc) zs := hrow
                 have ga := (hgl.trans g).trans (grownBy_alloc v31 (.cells #[.int .i64 c3, .slice (some ⟨bb, ob, none⟩) 1 cap] 39) none)
                 have hcell2 := cell_alloc hcell (.cells #[.int .i64 c3, .slice (some ⟨bb, ob, none⟩) 1 cap] 39)
                 have hcell3 : (v31.alloc (.cells #[.int .i64 c3, .slice (some ⟨bb, ob, none⟩) 1 cap] 39)).cell? ⟨bb, ob, none⟩ = some (.slice rr zs.length rc) := hcell2
                 have HS9 := Lib.hid (same_self (.slice rr zs.length rc) (.slice va3 zs.length vc3) zs (v31.alloc (.cells #[.int .i64 c3, .slice (some ⟨bb, ob, none⟩) 1 cap] 39)) (hrow.carry (grownBy_alloc _ _ none)) (IV30.out _ ga) (by have := HLZ.out; omega))
                 have G31 := Lib.hid (G30.out _ ga)
                 obtain ⟨yz0, yz1, _, _⟩ := bx (alloc_heap_new v31 (.cells #[.int .i64 c3, .slice (some ⟨bb, ob, none⟩) 1 cap] 39))
                 clear hm g ga hgl hcell hcell2 hrow)
              | (go_at_call 17
                 with_reducible refine HS9.out.mono ?_
                 rintro e v32 ⟨rfl, g⟩
                 have G32 := Lib.hid (G31.out.trans g)
                 clear g))
            go_ret
            exact ⟨rfl, G32.out⟩
        · go_wp2_with (first
            | (go_at_call 66
               with_reducible refine (HI2.out _ _ (T20.out _ (grownBy_refl _ _)) (MQ20.out _ (grownBy_refl _ _))).mono ?_
               rintro e v21 ⟨o21, rfl, hm, g⟩
               obtain ⟨xa21, xc21, rfl⟩ := hm.shape
               have ga := g.trans (grownBy_alloc v21 (.cells #[.int .i64 c2', .slice xa21 K2.length xc21] 39) none)
               have T21 := Lib.hid fun W h => T20.out W (ga.trans h)
               have G21 := Lib.hid fun W h => G20.out W (ga.trans h)
               have MQ21 := Lib.hid fun W h => MQ20.out W (ga.trans h)
               have BQ21 := Lib.hid fun W h => BQ20.out W (ga.trans h)
               have BX21 := Lib.hid fun W (h : (v21.alloc (.cells #[.int .i64 c2', .slice xa21 K2.length xc21] 39)).grownBy W none) => bx_on (alloc_heap_new v21 (.cells #[.int .i64 c2', .slice xa21 K2.length xc21] 39)) h
               have MX21 := Lib.hid fun W (h : (v21.alloc (.cells #[.int .i64 c2', .slice xa21 K2.length xc21] 39)).grownBy W none) => hm.carry ((grownBy_alloc v21 (.cells #[.int .i64 c2', .slice xa21 K2.length xc21] 39) none).trans h)
               obtain ⟨y21BQ0, y21BQ1, _, _⟩ := bx (BQ21.out _ (grownBy_refl _ _))
               clear ga g hm)
            | (go_at_call 67
               with_reducible refine (HSP2.out _ _ (MQ21.out _ (grownBy_refl _ _))).mono ?_
               rintro e v22 ⟨o22, rfl, hm, g⟩
               obtain ⟨xa22, xc22, rfl⟩ := hm.shape
               have ga := g.trans (grownBy_alloc v22 (.cells #[.int .i64 c2', .slice xa22 K2.length xc22] 39) none)
               have T22 := Lib.hid fun W h => T21.out W (ga.trans h)
               have G22 := Lib.hid fun W h => G21.out W (ga.trans h)
               have MQ22 := Lib.hid fun W h => MQ21.out W (ga.trans h)
               have BQ22 := Lib.hid fun W h => BQ21.out W (ga.trans h)
               have BX22 := Lib.hid fun W h => BX21.out W (ga.trans h)
               have MX22 := Lib.hid fun W h => MX21.out W (ga.trans h)
               have BP22 := Lib.hid fun W (h : (v22.alloc (.cells #[.int .i64 c2', .slice xa22 K2.length xc22] 39)).grownBy W none) => bx_on (alloc_heap_new v22 (.cells #[.int .i64 c2', .slice xa22 K2.length xc22] 39)) h
               have MP22 := Lib.hid fun W (h : (v22.alloc (.cells #[.int .i64 c2', .slice xa22 K2.length xc22] 39)).grownBy W none) => hm.carry ((grownBy_alloc v22 (.cells #[.int .i64 c2', .slice xa22 K2.length xc22] 39) none).trans h)
               obtain ⟨y22BX0, y22BX1, _, _⟩ := bx (BX22.out _ (grownBy_refl _ _))
               obtain ⟨y22BP0, y22BP1, _, _⟩ := bx (BP22.out _ (grownBy_refl _ _))
               clear ga g hm)
            | (go_at_call 28
               with_reducible refine (pSame_m _ _ _ _ (MX22.out _ (grownBy_refl _ _)) (MP22.out _ (grownBy_refl _ _)) SK2.out).mono ?_
               rintro e v23 ⟨rfl, g⟩
               have ga := g
               have T23 := Lib.hid fun W h => T22.out W (ga.trans h)
               have G23 := Lib.hid fun W h => G22.out W (ga.trans h)
               have MQ23 := Lib.hid fun W h => MQ22.out W (ga.trans h)
               have BQ23 := Lib.hid fun W h => BQ22.out W (ga.trans h)
               have BX23 := Lib.hid fun W h => BX22.out W (ga.trans h)
               have MX23 := Lib.hid fun W h => MX22.out W (ga.trans h)
               obtain ⟨y23BQ0, y23BQ1, _, _⟩ := bx (BQ23.out _ (grownBy_refl _ _))
               clear ga g))
          have hcc := HC.out.carry (G23.out _ (grownBy_refl _ _))
          refine (drawSolveLinear_any _ _ hcc).mono ?_
          rintro e x1 ⟨r, c3, o3, vs3, S, v3, zs, rfl, hr2, hr97, ho, hS, hv, hz, sg⟩
          obtain ⟨oa3, oc3, hoe, _, _⟩ := own_form ho
          subst hoe
          obtain ⟨va3, vc3, rfl⟩ := own_shape hv
          obtain ⟨b3, K3, hans⟩ := slv_both (r : Int) c3 S zs hS (by omega) (by omega) (by omega)
          have HANS := Lib.hid hans
          have hK3 := hans.small
          have himpl := hans.impl
          have hspec := hans.spec
          have HLZ := Lib.hid hz
          unfold mxV at himpl hspec ⊢
          have HI3 := Lib.hid himpl; have HSP3 := Lib.hid hspec
          have hga := grownBy_alloc x1 (.cells #[.int .i64 c3, .slice oa3 S.length oc3] 39) none
          have T24 := Lib.hid fun W (h : (x1.alloc (.cells #[.int .i64 c3, .slice oa3 S.length oc3] 39)).grownBy W none) => T23.out W ((sg.trans hga).trans h)
          have G24 := Lib.hid fun W (h : (x1.alloc (.cells #[.int .i64 c3, .slice oa3 S.length oc3] 39)).grownBy W none) => G23.out W ((sg.trans hga).trans h)
          have MS24 := Lib.hid fun W (h : (x1.alloc (.cells #[.int .i64 c3, .slice oa3 S.length oc3] 39)).grownBy W none) => ho.read.carry (hga.trans h)
          have IV24 := Lib.hid fun W (h : (x1.alloc (.cells #[.int .i64 c3, .slice oa3 S.length oc3] 39)).grownBy W none) => hv.read.carry (hga.trans h)
          have BS24 := Lib.hid fun W (h : (x1.alloc (.cells #[.int .i64 c3, .slice oa3 S.length oc3] 39)).grownBy W none) => bx_on (alloc_heap_new x1 (.cells #[.int .i64 c3, .slice oa3 S.length oc3] 39)) h
          clear ho hS hv hz sg hga himpl hspec hcc hans
          go_wp2_with fail
          generalize x1.alloc (.cells #[.int .i64 c3, .slice oa3 S.length oc3] 39) = X2 at *
          obtain ⟨y24S0, y24S1, _, _⟩ := bx (BS24.out _ (grownBy_refl _ _))
          cases b3
          · go_wp2_with (first
              | (go_at_call 69
                 with_reducible refine (HI3.out _ _ _ (T24.out _ (grownBy_refl _ _)) (MS24.out _ (grownBy_refl _ _)) (IV24.out _ (grownBy_refl _ _))).mono ?_
                 rintro e v25 ⟨o25, rfl, hi, g⟩
                 obtain ⟨ia25, ic25, hie, _⟩ := id hi
                 subst hie
                 have ga := g
                 have T25 := Lib.hid fun W h => T24.out W (ga.trans h)
                 have G25 := Lib.hid fun W h => G24.out W (ga.trans h)
                 have MS25 := Lib.hid fun W h => MS24.out W (ga.trans h)
                 have IV25 := Lib.hid fun W h => IV24.out W (ga.trans h)
                 have BS25 := Lib.hid fun W h => BS24.out W (ga.trans h)
                 have IA25 := Lib.hid fun W (h : v25.grownBy W none) => hi.carry h
                 obtain ⟨y25BS0, y25BS1, _, _⟩ := bx (BS25.out _ (grownBy_refl _ _))
                 clear ga g hi)
              | (go_at_call 70
                 with_reducible refine (HSP3.out _ _ _ (MS25.out _ (grownBy_refl _ _)) (IV25.out _ (grownBy_refl _ _))).mono ?_
                 rintro e v26 ⟨o26, rfl, hi, g⟩
                 obtain ⟨ia26, ic26, hie, _⟩ := id hi
                 subst hie
                 have ga := g
                 have T26 := Lib.hid fun W h => T25.out W (ga.trans h)
                 have G26 := Lib.hid fun W h => G25.out W (ga.trans h)
                 have MS26 := Lib.hid fun W h => MS25.out W (ga.trans h)
                 have IV26 := Lib.hid fun W h => IV25.out W (ga.trans h)
                 have BS26 := Lib.hid fun W h => BS25.out W (ga.trans h)
                 have IA26 := Lib.hid fun W h => IA25.out W (ga.trans h)
                 have IB26 := Lib.hid fun W (h : v26.grownBy W none) => hi.carry h
                 clear ga g hi)
              | (go_at_call 17
                 with_reducible refine (same_self _ _ _ _ (IA26.out _ (grownBy_refl _ _)) (IB26.out _ (grownBy_refl _ _)) (by omega)).mono ?_
                 rintro e v27 ⟨rfl, g⟩
                 have ga := g
                 have T27 := Lib.hid fun W h => T26.out W (ga.trans h)
                 have G27 := Lib.hid fun W h => G26.out W (ga.trans h)
                 have MS27 := Lib.hid fun W h => MS26.out W (ga.trans h)
                 have IV27 := Lib.hid fun W h => IV26.out W (ga.trans h)
                 have BS27 := Lib.hid fun W h => BS26.out W (ga.trans h)
                 have IA27 := Lib.hid fun W h => IA26.out W (ga.trans h)
                 obtain ⟨y27BS0, y27BS1, _, _⟩ := bx (BS27.out _ (grownBy_refl _ _))
                 clear ga g))
            go_ret
            exact ⟨rfl, G27.out _ (grownBy_refl _ _)⟩
          · have hmul := slv_mul HANS.out
            unfold mxV at hmul
            have HMU := Lib.hid hmul
            clear hmul
            go_wp2_with (first
              | (go_at_call 69
                 with_reducible refine (HI3.out _ _ _ (T24.out _ (grownBy_refl _ _)) (MS24.out _ (grownBy_refl _ _)) (IV24.out _ (grownBy_refl _ _))).mono ?_
                 rintro e v25 ⟨o25, rfl, hi, g⟩
                 obtain ⟨ia25, ic25, hie, _⟩ := id hi
                 subst hie
                 have ga := g
                 have T25 := Lib.hid fun W h => T24.out W (ga.trans h)
                 have G25 := Lib.hid fun W h => G24.out W (ga.trans h)
                 have MS25 := Lib.hid fun W h => MS24.out W (ga.trans h)
                 have IV25 := Lib.hid fun W h => IV24.out W (ga.trans h)
                 have BS25 := Lib.hid fun W h => BS24.out W (ga.trans h)
                 have IA25 := Lib.hid fun W (h : v25.grownBy W none) => hi.carry h
                 obtain ⟨y25BS0, y25BS1, _, _⟩ := bx (BS25.out _ (grownBy_refl _ _))
                 clear ga g hi)
              | (go_at_call 70
                 with_reducible refine (HSP3.out _ _ _ (MS25.out _ (grownBy_refl _ _)) (IV25.out _ (grownBy_refl _ _))).mono ?_
                 rintro e v26 ⟨o26, rfl, hi, g⟩
                 obtain ⟨ia26, ic26, hie, _⟩ := id hi
                 subst hie
                 have ga := g
                 have T26 := Lib.hid fun W h => T25.out W (ga.trans h)
                 have G26 := Lib.hid fun W h => G25.out W (ga.trans h)
                 have MS26 := Lib.hid fun W h => MS25.out W (ga.trans h)
                 have IV26 := Lib.hid fun W h => IV25.out W (ga.trans h)
                 have BS26 := Lib.hid fun W h => BS25.out W (ga.trans h)
                 have IA26 := Lib.hid fun W h => IA25.out W (ga.trans h)
                 have IB26 := Lib.hid fun W (h : v26.grownBy W none) => hi.carry h
                 clear ga g hi)
              | (go_at_call 17
                 with_reducible refine (same_self _ _ _ _ (IA26.out _ (grownBy_refl _ _)) (IB26.out _ (grownBy_refl _ _)) (by omega)).mono ?_
                 rintro e v27 ⟨rfl, g⟩
                 have ga := g
                 have T27 := Lib.hid fun W h => T26.out W (ga.trans h)
                 have G27 := Lib.hid fun W h => G26.out W (ga.trans h)
                 have MS27 := Lib.hid fun W h => MS26.out W (ga.trans h)
                 have IV27 := Lib.hid fun W h => IV26.out W (ga.trans h)
                 have BS27 := Lib.hid fun W h => BS26.out W (ga.trans h)
                 have IA27 := Lib.hid fun W h => IA26.out W (ga.trans h)
                 obtain ⟨y27BS0, y27BS1, _, _⟩ := bx (BS27.out _ (grownBy_refl _ _))
                 clear ga g
                 have yal0 := fun o => cell_alloc y27BS0 o
                 have yal1 := fun o => cell_alloc y27BS1 o)
              | (go_at_call 29
                 have hgl := grownBy_alloc v27 (.cells #[.slice ia25 K3.length ic25] 24) none
                 with_reducible refine (HMU.out _ _ _ (T27.out _ hgl) (mat_one (IA27.out _ (grownBy_refl _ _))) (MS27.out _ hgl)).mono ?_
                 rintro e v28 ⟨o28, rfl, hm, g⟩
                 obtain ⟨bb, ob, cap, ml, rr, rc, hve, hcell, hrow⟩ := hm.rowD (i := 0) (by simp)
                 obtain ⟨za, zc, hze⟩ := hm.shape
                 have hml : ml = 1 := by rw [hve] at hze; injection hze
                 subst hml
                 subst hve
                 clear hze
                 have hcell : v28.cell? ⟨bb, ob + 0, none⟩ = some (.slice rr zs.length rc) := hcell
                 have hrow : IntsV v28 (.slice rr zs.length rc) zs := hrow
                 have ga := (hgl.trans g).trans (grownBy_alloc v28 (.cells #[.int .i64 c3, .slice (some ⟨bb, ob, none⟩) 1 cap] 39) none)
                 have hcell2 := cell_alloc hcell (.cells #[.int .i64 c3, .slice (some ⟨bb, ob, none⟩) 1 cap] 39)
                 have hcell3 : (v28.alloc (.cells #[.int .i64 c3, .slice (some ⟨bb, ob, none⟩) 1 cap] 39)).cell? ⟨bb, ob, none⟩ = some (.slice rr zs.length rc) := hcell2
                 have HS9 := Lib.hid (same_self (.slice rr zs.length rc) (.slice va3 zs.length vc3) zs (v28.alloc (.cells #[.int .i64 c3, .slice (some ⟨bb, ob, none⟩) 1 cap] 39)) (hrow.carry (grownBy_alloc _ _ none)) (IV27.out _ ga) (by have := HLZ.out; omega))
                 have G28 := Lib.hid (G27.out _ ga)
                 obtain ⟨yz0, yz1, _, _⟩ := bx (alloc_heap_new v28 (.cells #[.int .i64 c3, .slice (some ⟨bb, ob, none⟩) 1 cap] 39))
                 clear hm g ga hgl hcell hcell2 hrow)
              | (go_at_call 17
                 with_reducible refine HS9.out.mono ?_
                 rintro e v29 ⟨rfl, g⟩
                 have G29 := Lib.hid (G28.out.trans g)
                 clear g))
            go_ret
            exact ⟨rfl, G29.out⟩
end Go.Proofs.YtpeaeminjbjlnaaDoor

/-
 The two sides of a rule, in the reference. Conditions: lengths are small.
-/
import Derived.Test.YtjagjhchnpmngaaGreatCz06
import Derived.Test.YtjagjhchnpmngaaGreatCz05
import Derived.Test.YtjagjhchnpmngaaGreatCz04
import Derived.Test.YtjagjhchnpmngaaGreatCz03
import Derived.Test.YtjagjhchnpmngaaGreatCz02
import Derived.Test.YtjagjhchnpmngaaGreatCz01
import Derived.Test.YtjagjhchnpmngaaGreatCz00
import Derived.Test.YtjagjhchnpmngaaGreatCz25
import Derived.Test.YtjagjhchnpmngaaGreatCz27
set_option linter.unusedVariables false
set_option linter.unusedSimpArgs false
set_option maxRecDepth 100000
namespace Go.Proofs.YtjagjhchnpmngaaGreat
open Go.RowKit
theorem tmType_no (nv : Value) (ns : List Nd) (w : World) (hn : RdR nodeE w nv ns) (hl : ns.length ≤ 2000000) (hb : tmB ns = false) :
 Calls Tryz.prog 98 #[.agg #[nv]] w fun e w' => e = .returned (.tuple #[.int .i64 0, .int .i64 0, .bool false]) ∧ w.grownBy w' none := by
 have HT := qd fun W (hW : w.grownBy W none) => tmScan_any nv ns W (hn.carry hW) hl
 obtain ⟨na, nc, rfl⟩ := hn.shape
 rw [hb] at HT
 generalize ns.length = n at *
 have HS0 := qd ((Sep.start w).boxAt w.heap.size rfl #[.slice na n nc] 44)
 have HK0 := qd (show w.grownBy _ none from HS0.out.tl.hd)
 have x0 := bs1 HS0.out.hd
 unfold ScanR at HT
 clear hn hl hb
 go_enter Tryz.func98, Tryz.ntmps98
 go_wp2_with (
  go_at_call 125
  with_reducible refine (HT.out _ HK0.out).mono ?_
  rintro e w3 ⟨fa, fn, fc, ia, inn, ic, oa, on, oc, rfl, hq, hg⟩
  have HS4 := qd ((HS0.out.grown hg).boxAt w3.heap.size rfl #[.slice fa fn fc, .slice ia inn ic, .slice oa on oc] 162)
  have HKF := qd (show w.grownBy _ none from HS4.out.tl.tl.hd)
  clear hg hq x0)
 refine bodyPost_ret_by (v := .tuple #[.int .i64 0, .int .i64 0, .bool false]) ?_ rfl ⟨rfl, HKF.out⟩
 simp [results, go_sem, *]
theorem tmTy_any (nv : Value) (ns : List Nd) (w : World) (hn : RdR nodeE w nv ns) (hl : ns.length ≤ 2000000) :
 Calls Tryz.prog 98 #[.agg #[nv]] w fun e w' => (∃ q : Int × Int, e = .returned (.tuple #[.int .i64 q.1, .int .i64 q.2, .bool (tmB ns)]) ∧ (tmB ns = true → q = tmT ns)) ∧ w.grownBy w' none := by
 cases hb : tmB ns
 ·refine (tmType_no nv ns w hn hl hb).mono ?_
  rintro e w' ⟨rfl, hg⟩
  exact ⟨⟨(0, 0), rfl, fun h => by cases h⟩, hg⟩
 ·refine (tmType_any nv ns w hn hl hb).mono ?_
  rintro e w' ⟨rfl, hg⟩
  exact ⟨⟨tmT ns, rfl, fun _ => rfl⟩, hg⟩
def SdR (b : Bool) (K1 K2 : Gr) (w : World) (e : Ending) (w' : World) : Prop :=
 ∃ (G1 G2 : Gr) (a1 b1 c1 d1 e1 f1 : Option Addr) (s1 t1 u1 v1 q1 r1 : Nat) (xs ys : List XE), (b = true → G1 = K1 ∧ G2 = K2) ∧
  e = .returned (.tuple #[.agg #[.int .i64 G1.n, .slice a1 G1.es.length s1, .slice b1 G1.i.length t1, .slice c1 G1.o.length u1], .agg #[.int .i64 G2.n, .slice d1 G2.es.length v1, .slice e1 G2.i.length q1, .slice f1 G2.o.length r1], .bool b]) ∧ (eds xs = G1.es ∧ eds ys = G2.es) ∧
  Sep w' [OX3 (.slice a1 G1.es.length s1) xs (.slice b1 G1.i.length t1) G1.i (.slice c1 G1.o.length u1) G1.o, OX3 (.slice d1 G2.es.length v1) ys (.slice e1 G2.i.length q1) G2.i (.slice f1 G2.o.length r1) G2.o, KeepA w]
theorem SdR.zero {K1 K2 : Gr} {w w' : World} (h : w.grownBy w' none) : SdR false K1 K2 w (.returned (.tuple #[.agg #[.int .i64 0, .slice none 0 0, .slice none 0 0, .slice none 0 0], .agg #[.int .i64 0, .slice none 0 0, .slice none 0 0, .slice none 0 0], .bool false])) w' := by
 refine ⟨gr0, gr0, none, none, none, none, none, none, 0, 0, 0, 0, 0, 0, [], [], (fun h => by cases h), rfl, ⟨rfl, rfl⟩, ?_⟩
 have h1 := Sep.bag (l := [_, _, _]) (Sep.nilGT ((Sep.start w).grown h))
 exact Sep.bag (l := [_, _, _]) (Sep.nilGT h1)
set_option maxHeartbeats 8000000 in
theorem rwSides_any (s : ByteArray) (x y : List Nd) (xa ya : Option Addr) (xc yc : Nat) (w : World) (hx : RdR nodeE w (.slice xa x.length xc) x) (hxc : x.length ≤ xc) (hy : RdR nodeE w (.slice ya y.length yc) y) (hyc : y.length ≤ yc) (hxl : x.length ≤ 2000000) (hyl : y.length ≤ 2000000) (hs : s.size ≤ 1000000000000) :
 Calls Tryz.prog 56 #[.agg #[.string s, .slice xa x.length xc, .slice ya y.length yc]] w (SdR (rlB s x y) (grT x) (grT y) w) := by
 have HTX := qd fun W (hW : w.grownBy W none) => tmTy_any (.slice xa x.length xc) x W (hx.carry hW) hxl
 have HTY := qd fun W (hW : w.grownBy W none) => tmTy_any (.slice ya y.length yc) y W (hy.carry hW) hyl
 have HNM := qd fun W => lbName_any s W hs
 have HGX := qd fun (hb : tmB x = true) W (hW : w.grownBy W none) => show Calls Tryz.prog 100 #[.agg #[.slice xa x.length xc]] W (MadeR (okT x) (grT x) W) from by
  obtain ⟨⟨b1, b2⟩, t, hok, hno, hp⟩ := tmB_tree hb
  obtain ⟨e1, e2, _⟩ := tree_eq hp
  rw [e1, e2]
  subst hno
  exact hgMade_any t xa xc W hok (by rw [← t.nodes_len]; exact b2) (hx.carry hW) hxc
 have HGY := qd fun (hb : tmB y = true) W (hW : w.grownBy W none) => show Calls Tryz.prog 100 #[.agg #[.slice ya y.length yc]] W (MadeR (okT y) (grT y) W) from by
  obtain ⟨⟨b1, b2⟩, t, hok, hno, hp⟩ := tmB_tree hb
  obtain ⟨e1, e2, _⟩ := tree_eq hp
  rw [e1, e2]
  subst hno
  exact hgMade_any t ya yc W hok (by rw [← t.nodes_len]; exact b2) (hy.carry hW) hyc
 generalize x.length = n at *
 generalize y.length = m at *
 obtain ⟨⟨pa, pb⟩, hp⟩ : ∃ q, tmT x = q := ⟨_, rfl⟩
 obtain ⟨⟨qa, qb⟩, hq⟩ : ∃ q, tmT y = q := ⟨_, rfl⟩
 have HRL := qd (show rlB s x y = ((tmB x && tmB y) && (decide ((pa, pb) = (qa, qb)) && (nameB s && (okT x && okT y)))) from by unfold rlB; rw [hp, hq])
 rw [hp] at HTX
 rw [hq] at HTY
 generalize rlB s x y = rb at *
 clear hp hq hx hy hxl hyl hs hxc hyc
 have HS0 := qd ((((Sep.start w).boxAt w.heap.size rfl #[.string s, .slice xa n xc, .slice ya m yc] 46).boxAt (w.heap.size + 1) (by simp) #[.int .i64 0, .slice none 0 0, .slice none 0 0, .slice none 0 0] 38).boxAt (w.heap.size + 2) (by simp) #[.int .i64 0, .slice none 0 0, .slice none 0 0, .slice none 0 0] 38)
 have HK0 := qd (show w.grownBy _ none from HS0.out.tl.tl.tl.hd)
 obtain ⟨x0, x1, x2⟩ := bw3 HS0.out.tl.tl.hd
 have HTX1 := qd (HTX.out _ HK0.out)
 clear HTX
 cases h1 : tmB x
 ·rw [h1] at HTX1
  cases h4 : nameB s
  ·rw [h4] at HNM
   obtain rfl : rb = false := by rw [HRL.out, h1]; simp
   clear h1 h4
   go_enter Tryz.func56, Tryz.ntmps56
   go_upto_region 4 with (first
    |(go_at_call 98
      with_reducible refine HTX1.out.mono ?_
      rintro e w3 ⟨⟨⟨ta, tb⟩, rfl, ht⟩, hg⟩
      have HTA := qd ht
      have HS1 := qd (HS0.out.grown hg)
      clear hg ht
      clear x0 x1 x2
      obtain ⟨x0, x1, x2⟩ := bw3 HS1.out.tl.tl.hd
      have HK1 := qd (show w.grownBy _ none from HS1.out.tl.tl.tl.hd))
    |(go_at_call 98
      with_reducible refine (HTY.out _ HK1.out).mono ?_
      rintro e w4 ⟨⟨⟨tc, td⟩, rfl, ht⟩, hg⟩
      have HTB := qd ht
      have HS2 := qd (HS1.out.grown hg)
      clear hg ht
      clear x0 x1 x2
      obtain ⟨x0, x1, x2⟩ := bw3 HS2.out.tl.tl.hd
      have HK2 := qd (show w.grownBy _ none from HS2.out.tl.tl.tl.hd))
    |(go_at_call 99
      with_reducible refine (HNM.out _).mono ?_
      rintro e w5 ⟨rfl, hg⟩
      have HS3 := qd (HS2.out.grown hg)
      clear hg
      clear x0 x1 x2
      obtain ⟨x0, x1, x2⟩ := bw3 HS3.out.tl.tl.hd
      have HK3 := qd (show w.grownBy _ none from HS3.out.tl.tl.tl.hd)))
   have hz0 := Sep.blk (A := [_]) (B := [_]) HS3.out
   obtain ⟨y0, y1, y2, y3, f0, f1, f2, f3⟩ := gq4 hz0.hd
   have hz1 := Sep.blk (A := [_]) (B := [_]) ((((hz0.setB 0 (.int .i64 0)).setB 1 (.slice none 0 0)).setB 2 (.slice none 0 0)).setB 3 (.slice none 0 0))
   obtain ⟨z0, z1, z2, z3, g0, g1, g2, g3⟩ := gq4 hz1.hd
   have hz2 := ((((hz1.setB 0 (.int .i64 0)).setB 1 (.slice none 0 0)).setB 2 (.slice none 0 0)).setB 3 (.slice none 0 0))
   have HZA := qd (gq4 hz2.hd)
   have HZB := qd (gq4 hz2.tl.hd)
   have HKF := qd (show w.grownBy _ none from hz2.tl.tl.tl.hd)
   clear hz0 hz1 hz2
   go_wp2_with fail
   obtain ⟨k0, k1, k2, k3, _⟩ := HZA.out
   obtain ⟨j0, j1, j2, j3, _⟩ := HZB.out
   refine bodyPost_ret_by (v := .tuple #[.agg #[.int .i64 0, .slice none 0 0, .slice none 0 0, .slice none 0 0], .agg #[.int .i64 0, .slice none 0 0, .slice none 0 0, .slice none 0 0], .bool false]) ?_ rfl (SdR.zero HKF.out)
   simp [results, go_sem, *]
  ·rw [h4] at HNM
   obtain rfl : rb = false := by rw [HRL.out, h1]; simp
   clear h1 h4
   go_enter Tryz.func56, Tryz.ntmps56
   go_upto_region 4 with (first
    |(go_at_call 98
      with_reducible refine HTX1.out.mono ?_
      rintro e w3 ⟨⟨⟨ta, tb⟩, rfl, ht⟩, hg⟩
      have HTA := qd ht
      have HS1 := qd (HS0.out.grown hg)
      clear hg ht
      clear x0 x1 x2
      obtain ⟨x0, x1, x2⟩ := bw3 HS1.out.tl.tl.hd
      have HK1 := qd (show w.grownBy _ none from HS1.out.tl.tl.tl.hd))
    |(go_at_call 98
      with_reducible refine (HTY.out _ HK1.out).mono ?_
      rintro e w4 ⟨⟨⟨tc, td⟩, rfl, ht⟩, hg⟩
      have HTB := qd ht
      have HS2 := qd (HS1.out.grown hg)
      clear hg ht
      clear x0 x1 x2
      obtain ⟨x0, x1, x2⟩ := bw3 HS2.out.tl.tl.hd
      have HK2 := qd (show w.grownBy _ none from HS2.out.tl.tl.tl.hd))
    |(go_at_call 99
      with_reducible refine (HNM.out _).mono ?_
      rintro e w5 ⟨rfl, hg⟩
      have HS3 := qd (HS2.out.grown hg)
      clear hg
      clear x0 x1 x2
      obtain ⟨x0, x1, x2⟩ := bw3 HS3.out.tl.tl.hd
      have HK3 := qd (show w.grownBy _ none from HS3.out.tl.tl.tl.hd)))
   have hz0 := Sep.blk (A := [_]) (B := [_]) HS3.out
   obtain ⟨y0, y1, y2, y3, f0, f1, f2, f3⟩ := gq4 hz0.hd
   have hz1 := Sep.blk (A := [_]) (B := [_]) ((((hz0.setB 0 (.int .i64 0)).setB 1 (.slice none 0 0)).setB 2 (.slice none 0 0)).setB 3 (.slice none 0 0))
   obtain ⟨z0, z1, z2, z3, g0, g1, g2, g3⟩ := gq4 hz1.hd
   have hz2 := ((((hz1.setB 0 (.int .i64 0)).setB 1 (.slice none 0 0)).setB 2 (.slice none 0 0)).setB 3 (.slice none 0 0))
   have HZA := qd (gq4 hz2.hd)
   have HZB := qd (gq4 hz2.tl.hd)
   have HKF := qd (show w.grownBy _ none from hz2.tl.tl.tl.hd)
   clear hz0 hz1 hz2
   go_wp2_with fail
   obtain ⟨k0, k1, k2, k3, _⟩ := HZA.out
   obtain ⟨j0, j1, j2, j3, _⟩ := HZB.out
   refine bodyPost_ret_by (v := .tuple #[.agg #[.int .i64 0, .slice none 0 0, .slice none 0 0, .slice none 0 0], .agg #[.int .i64 0, .slice none 0 0, .slice none 0 0, .slice none 0 0], .bool false]) ?_ rfl (SdR.zero HKF.out)
   simp [results, go_sem, *]
 ·cases h2 : tmB y
  ·rw [h1] at HTX1
   rw [h2] at HTY
   cases h4 : nameB s
   ·rw [h4] at HNM
    obtain rfl : rb = false := by rw [HRL.out, h2]; simp
    clear h1 h2 h4
    go_enter Tryz.func56, Tryz.ntmps56
    go_upto_region 4 with (first
     |(go_at_call 98
       with_reducible refine HTX1.out.mono ?_
       rintro e w3 ⟨⟨⟨ta, tb⟩, rfl, ht⟩, hg⟩
       have HTA := qd ht
       have HS1 := qd (HS0.out.grown hg)
       clear hg ht
       clear x0 x1 x2
       obtain ⟨x0, x1, x2⟩ := bw3 HS1.out.tl.tl.hd
       have HK1 := qd (show w.grownBy _ none from HS1.out.tl.tl.tl.hd))
     |(go_at_call 98
       with_reducible refine (HTY.out _ HK1.out).mono ?_
       rintro e w4 ⟨⟨⟨tc, td⟩, rfl, ht⟩, hg⟩
       have HTB := qd ht
       have HS2 := qd (HS1.out.grown hg)
       clear hg ht
       clear x0 x1 x2
       obtain ⟨x0, x1, x2⟩ := bw3 HS2.out.tl.tl.hd
       have HK2 := qd (show w.grownBy _ none from HS2.out.tl.tl.tl.hd))
     |(go_at_call 99
       with_reducible refine (HNM.out _).mono ?_
       rintro e w5 ⟨rfl, hg⟩
       have HS3 := qd (HS2.out.grown hg)
       clear hg
       clear x0 x1 x2
       obtain ⟨x0, x1, x2⟩ := bw3 HS3.out.tl.tl.hd
       have HK3 := qd (show w.grownBy _ none from HS3.out.tl.tl.tl.hd)))
    have hz0 := Sep.blk (A := [_]) (B := [_]) HS3.out
    obtain ⟨y0, y1, y2, y3, f0, f1, f2, f3⟩ := gq4 hz0.hd
    have hz1 := Sep.blk (A := [_]) (B := [_]) ((((hz0.setB 0 (.int .i64 0)).setB 1 (.slice none 0 0)).setB 2 (.slice none 0 0)).setB 3 (.slice none 0 0))
    obtain ⟨z0, z1, z2, z3, g0, g1, g2, g3⟩ := gq4 hz1.hd
    have hz2 := ((((hz1.setB 0 (.int .i64 0)).setB 1 (.slice none 0 0)).setB 2 (.slice none 0 0)).setB 3 (.slice none 0 0))
    have HZA := qd (gq4 hz2.hd)
    have HZB := qd (gq4 hz2.tl.hd)
    have HKF := qd (show w.grownBy _ none from hz2.tl.tl.tl.hd)
    clear hz0 hz1 hz2
    go_wp2_with fail
    obtain ⟨k0, k1, k2, k3, _⟩ := HZA.out
    obtain ⟨j0, j1, j2, j3, _⟩ := HZB.out
    refine bodyPost_ret_by (v := .tuple #[.agg #[.int .i64 0, .slice none 0 0, .slice none 0 0, .slice none 0 0], .agg #[.int .i64 0, .slice none 0 0, .slice none 0 0, .slice none 0 0], .bool false]) ?_ rfl (SdR.zero HKF.out)
    simp [results, go_sem, *]
   ·rw [h4] at HNM
    obtain rfl : rb = false := by rw [HRL.out, h2]; simp
    clear h1 h2 h4
    go_enter Tryz.func56, Tryz.ntmps56
    go_upto_region 4 with (first
     |(go_at_call 98
       with_reducible refine HTX1.out.mono ?_
       rintro e w3 ⟨⟨⟨ta, tb⟩, rfl, ht⟩, hg⟩
       have HTA := qd ht
       have HS1 := qd (HS0.out.grown hg)
       clear hg ht
       clear x0 x1 x2
       obtain ⟨x0, x1, x2⟩ := bw3 HS1.out.tl.tl.hd
       have HK1 := qd (show w.grownBy _ none from HS1.out.tl.tl.tl.hd))
     |(go_at_call 98
       with_reducible refine (HTY.out _ HK1.out).mono ?_
       rintro e w4 ⟨⟨⟨tc, td⟩, rfl, ht⟩, hg⟩
       have HTB := qd ht
       have HS2 := qd (HS1.out.grown hg)
       clear hg ht
       clear x0 x1 x2
       obtain ⟨x0, x1, x2⟩ := bw3 HS2.out.tl.tl.hd
       have HK2 := qd (show w.grownBy _ none from HS2.out.tl.tl.tl.hd))
     |(go_at_call 99
       with_reducible refine (HNM.out _).mono ?_
       rintro e w5 ⟨rfl, hg⟩
       have HS3 := qd (HS2.out.grown hg)
       clear hg
       clear x0 x1 x2
       obtain ⟨x0, x1, x2⟩ := bw3 HS3.out.tl.tl.hd
       have HK3 := qd (show w.grownBy _ none from HS3.out.tl.tl.tl.hd)))
    have hz0 := Sep.blk (A := [_]) (B := [_]) HS3.out
    obtain ⟨y0, y1, y2, y3, f0, f1, f2, f3⟩ := gq4 hz0.hd
    have hz1 := Sep.blk (A := [_]) (B := [_]) ((((hz0.setB 0 (.int .i64 0)).setB 1 (.slice none 0 0)).setB 2 (.slice none 0 0)).setB 3 (.slice none 0 0))
    obtain ⟨z0, z1, z2, z3, g0, g1, g2, g3⟩ := gq4 hz1.hd
    have hz2 := ((((hz1.setB 0 (.int .i64 0)).setB 1 (.slice none 0 0)).setB 2 (.slice none 0 0)).setB 3 (.slice none 0 0))
    have HZA := qd (gq4 hz2.hd)
    have HZB := qd (gq4 hz2.tl.hd)
    have HKF := qd (show w.grownBy _ none from hz2.tl.tl.tl.hd)
    clear hz0 hz1 hz2
    go_wp2_with fail
    obtain ⟨k0, k1, k2, k3, _⟩ := HZA.out
    obtain ⟨j0, j1, j2, j3, _⟩ := HZB.out
    refine bodyPost_ret_by (v := .tuple #[.agg #[.int .i64 0, .slice none 0 0, .slice none 0 0, .slice none 0 0], .agg #[.int .i64 0, .slice none 0 0, .slice none 0 0, .slice none 0 0], .bool false]) ?_ rfl (SdR.zero HKF.out)
    simp [results, go_sem, *]
  ·rw [h1] at HTX1
   rw [h2] at HTY
   have HGX2 := qd (HGX.out h1)
   have HGY2 := qd (HGY.out h2)
   rw [h1, h2] at HRL
   clear h1 h2 HGX HGY
   cases h4 : nameB s
   ·rw [h4] at HNM
    obtain rfl : rb = false := by rw [HRL.out, h4]; simp
    clear h4
    go_enter Tryz.func56, Tryz.ntmps56
    go_upto_region 4 with (first
     |(go_at_call 98
       with_reducible refine HTX1.out.mono ?_
       rintro e w3 ⟨⟨⟨ta, tb⟩, rfl, ht⟩, hg⟩
       have HTA := qd ht
       have HS1 := qd (HS0.out.grown hg)
       clear hg ht
       clear x0 x1 x2
       obtain ⟨x0, x1, x2⟩ := bw3 HS1.out.tl.tl.hd
       have HK1 := qd (show w.grownBy _ none from HS1.out.tl.tl.tl.hd))
     |(go_at_call 98
       with_reducible refine (HTY.out _ HK1.out).mono ?_
       rintro e w4 ⟨⟨⟨tc, td⟩, rfl, ht⟩, hg⟩
       have HTB := qd ht
       have HS2 := qd (HS1.out.grown hg)
       clear hg ht
       clear x0 x1 x2
       obtain ⟨x0, x1, x2⟩ := bw3 HS2.out.tl.tl.hd
       have HK2 := qd (show w.grownBy _ none from HS2.out.tl.tl.tl.hd))
     |(go_at_call 99
       with_reducible refine (HNM.out _).mono ?_
       rintro e w5 ⟨rfl, hg⟩
       have HS3 := qd (HS2.out.grown hg)
       clear hg
       clear x0 x1 x2
       obtain ⟨x0, x1, x2⟩ := bw3 HS3.out.tl.tl.hd
       have HK3 := qd (show w.grownBy _ none from HS3.out.tl.tl.tl.hd)))
    have hz0 := Sep.blk (A := [_]) (B := [_]) HS3.out
    obtain ⟨y0, y1, y2, y3, f0, f1, f2, f3⟩ := gq4 hz0.hd
    have hz1 := Sep.blk (A := [_]) (B := [_]) ((((hz0.setB 0 (.int .i64 0)).setB 1 (.slice none 0 0)).setB 2 (.slice none 0 0)).setB 3 (.slice none 0 0))
    obtain ⟨z0, z1, z2, z3, g0, g1, g2, g3⟩ := gq4 hz1.hd
    have hz2 := ((((hz1.setB 0 (.int .i64 0)).setB 1 (.slice none 0 0)).setB 2 (.slice none 0 0)).setB 3 (.slice none 0 0))
    have HZA := qd (gq4 hz2.hd)
    have HZB := qd (gq4 hz2.tl.hd)
    have HKF := qd (show w.grownBy _ none from hz2.tl.tl.tl.hd)
    clear hz0 hz1 hz2
    go_wp2_with fail
    obtain ⟨k0, k1, k2, k3, _⟩ := HZA.out
    obtain ⟨j0, j1, j2, j3, _⟩ := HZB.out
    refine bodyPost_ret_by (v := .tuple #[.agg #[.int .i64 0, .slice none 0 0, .slice none 0 0, .slice none 0 0], .agg #[.int .i64 0, .slice none 0 0, .slice none 0 0, .slice none 0 0], .bool false]) ?_ rfl (SdR.zero HKF.out)
    simp [results, go_sem, *]
   ·by_cases h5 : pa = qa
    ·by_cases h6 : pb = qb
     ·subst h5 h6
      rw [decide_eq_true rfl, h4] at HRL
      rw [h4] at HNM
      clear h4
      obtain ⟨o1, ho1⟩ : ∃ o, okT x = o := ⟨_, rfl⟩
      obtain ⟨o2, ho2⟩ : ∃ o, okT y = o := ⟨_, rfl⟩
      rw [ho1] at HGX2 HRL
      rw [ho2] at HGY2 HRL
      have HRB := qd (show rb = (o1 && o2) from by rw [HRL.out]; simp)
      generalize grT x = K1 at *
      generalize grT y = K2 at *
      clear ho1 ho2 HRL
      go_enter Tryz.func56, Tryz.ntmps56
      go_upto_region 3 with (first
       |(go_at_call 98
         with_reducible refine HTX1.out.mono ?_
         rintro e w3 ⟨⟨⟨ta, tb⟩, rfl, ht⟩, hg⟩
         have HTA := qd ht
         have HS1 := qd (HS0.out.grown hg)
         clear hg ht
         clear x0 x1 x2
         obtain ⟨x0, x1, x2⟩ := bw3 HS1.out.tl.tl.hd
         have HK1 := qd (show w.grownBy _ none from HS1.out.tl.tl.tl.hd))
       |(go_at_call 98
         with_reducible refine (HTY.out _ HK1.out).mono ?_
         rintro e w4 ⟨⟨⟨tc, td⟩, rfl, ht⟩, hg⟩
         have HTB := qd ht
         have HS2 := qd (HS1.out.grown hg)
         clear hg ht
         clear x0 x1 x2
         obtain ⟨x0, x1, x2⟩ := bw3 HS2.out.tl.tl.hd
         have HK2 := qd (show w.grownBy _ none from HS2.out.tl.tl.tl.hd)))
      have h9 := HTA.out
      simp at h9
      obtain ⟨e1, e2⟩ := h9
      have e1 := e1.symm; have e2 := e2.symm
      subst e1 e2
      have h8 := HTB.out
      simp at h8
      obtain ⟨e3, e4⟩ := h8
      have e3 := e3.symm; have e4 := e4.symm
      subst e3 e4
      have hnf : (pa != pa) = false := by simp
      have hng : (pb != pb) = false := by simp
      go_upto_region 5 with (first
       |(go_at_call 99
         with_reducible refine (HNM.out _).mono ?_
         rintro e w5 ⟨rfl, hg⟩
         have HS3 := qd (HS2.out.grown hg)
         clear hg
         clear x0 x1 x2
         obtain ⟨x0, x1, x2⟩ := bw3 HS3.out.tl.tl.hd
         have HK3 := qd (show w.grownBy _ none from HS3.out.tl.tl.tl.hd)))
      have HM1 := qd (HGX2.out _ HK3.out)
      go_upto_region 6 with (
       (go_at_call 100
        with_reducible refine HM1.out.mono ?_
        rintro e w6 hmd
        obtain ⟨G1, a1, b1, c1, s1, t1, u1, xs, hG, rfl, hxs, hsg⟩ := made_parts hmd
        have HG1 := qd hG; have HXG1 := qd hxs
        have HS4 := qd ((HS3.out.graft1 hsg OX3_own).boxAt w6.heap.size rfl #[.int .i64 G1.n, .slice a1 G1.es.length s1, .slice b1 G1.i.length t1, .slice c1 G1.o.length u1] 38)
        clear hmd hG hxs hsg x0 x1 x2))
      generalize w6.alloc (.cells #[.int .i64 G1.n, .slice a1 G1.es.length s1, .slice b1 G1.i.length t1, .slice c1 G1.o.length u1] 38) = w7 at *
      generalize w6.heap.size = gb at *
      obtain ⟨x0, x1, x2⟩ := bw3 HS4.out.tl.tl.tl.tl.hd
      have HM2 := qd (HGY2.out _ (show w.grownBy _ none from HS4.out.tl.tl.tl.tl.tl.hd))
      go_upto_region 7 with (
       (go_at_call 100
        with_reducible refine HM2.out.mono ?_
        rintro e w8 hmd
        obtain ⟨G2, d1, e1, f1, v1, q1, r1, ys, hG, rfl, hxs, hsg⟩ := made_parts hmd
        have HG2 := qd hG; have HXG2 := qd hxs
        have HS5 := qd ((HS4.out.graft1 hsg OX3_own).boxAt w8.heap.size rfl #[.int .i64 G2.n, .slice d1 G2.es.length v1, .slice e1 G2.i.length q1, .slice f1 G2.o.length r1] 38)
        clear hmd hG hxs hsg x0 x1 x2))
      generalize w8.alloc (.cells #[.int .i64 G2.n, .slice d1 G2.es.length v1, .slice e1 G2.i.length q1, .slice f1 G2.o.length r1] 38) = w9 at *
      generalize w8.heap.size = hb at *
      have HSD := qd HS5.out.dr
      clear HS0 HS1 HS2 HS3 HS4 HM1 HM2 HGX2 HGY2 HTY HTX1 HNM
      have HBM := qd fun (W1 : World) (L : List Asrt) (h : Sep W1 L) (h1 : BxA gb #[.int .i64 G1.n, .slice a1 G1.es.length s1, .slice b1 G1.i.length t1, .slice c1 G1.o.length u1] 38 ∈ L) (h2 : BxA hb #[.int .i64 G2.n, .slice d1 G2.es.length v1, .slice e1 G2.i.length q1, .slice f1 G2.o.length r1] 38 ∈ L) => show (W1.cell? ⟨gb, 0, none⟩ = some (.int .i64 G1.n) ∧ W1.cell? ⟨gb, 1, none⟩ = some (.slice a1 G1.es.length s1) ∧ W1.cell? ⟨gb, 2, none⟩ = some (.slice b1 G1.i.length t1) ∧ W1.cell? ⟨gb, 3, none⟩ = some (.slice c1 G1.o.length u1)) ∧ W1.cell? ⟨hb, 0, none⟩ = some (.int .i64 G2.n) ∧ W1.cell? ⟨hb, 1, none⟩ = some (.slice d1 G2.es.length v1) ∧ W1.cell? ⟨hb, 2, none⟩ = some (.slice e1 G2.i.length q1) ∧ W1.cell? ⟨hb, 3, none⟩ = some (.slice f1 G2.o.length r1) from by
       obtain ⟨p0, p1, p2, p3, _⟩ := gq4 (show W1.heap[gb]? = some (.cells #[.int .i64 G1.n, .slice a1 G1.es.length s1, .slice b1 G1.i.length t1, .slice c1 G1.o.length u1] 38 (0, 0)) from Sep.all h _ h1)
       obtain ⟨p4, p5, p6, p7, _⟩ := gq4 (show W1.heap[hb]? = some (.cells #[.int .i64 G2.n, .slice d1 G2.es.length v1, .slice e1 G2.i.length q1, .slice f1 G2.o.length r1] 38 (0, 0)) from Sep.all h _ h2)
       exact ⟨⟨p0, p1, p2, p3⟩, p4, p5, p6, p7⟩
      cases o1
      ·have X0 := qd (HBM.out _ _ HSD.out (by simp) (by simp))
       refine AnyL.start (fun W1 => (W1.cell? ⟨gb, 0, none⟩ = some (.int .i64 G1.n) ∧ W1.cell? ⟨gb, 1, none⟩ = some (.slice a1 G1.es.length s1) ∧ W1.cell? ⟨gb, 2, none⟩ = some (.slice b1 G1.i.length t1) ∧ W1.cell? ⟨gb, 3, none⟩ = some (.slice c1 G1.o.length u1)) ∧ W1.cell? ⟨hb, 0, none⟩ = some (.int .i64 G2.n) ∧ W1.cell? ⟨hb, 1, none⟩ = some (.slice d1 G2.es.length v1) ∧ W1.cell? ⟨hb, 2, none⟩ = some (.slice e1 G2.i.length q1) ∧ W1.cell? ⟨hb, 3, none⟩ = some (.slice f1 G2.o.length r1)) (fun _ => True) 99 (by kernel_rfl) ?_
       generalize w9.drew = wd at *
       refine AnyL.tT 0 (by exact HBM.out _ _ HSD.out (by simp) (by simp)) ?_
       refine AnyL.tT 1 (by exact HBM.out _ _ HSD.out (by simp) (by simp)) ?_
       refine AnyL.tT 2 (by exact HBM.out _ _ HSD.out (by simp) (by simp)) ?_
       refine AnyL.tT 3 (by exact HBM.out _ _ HSD.out (by simp) (by simp)) ?_
       refine AnyL.skip (i := 4) (by rfl) (by kernel_rfl) (by kernel_rfl) (by kernel_rfl) rfl (by exact fun _ _ _ h => h) (by rfl) (by exact ⟨HBM.out _ _ HSD.out (by simp) (by simp), fun _ => trivial⟩) ?_
       try simp only [Act.put, List.setIfInBounds_toArray, List.set_cons_zero, List.set_cons_succ]
       refine AnyL.tT 5 (by exact HBM.out _ _ HSD.out (by simp) (by simp)) ?_
       have h6 := Sep.blk (A := [_, _, _, _, _]) (B := [_]) HSD.out
       obtain ⟨y0, y1, y2, y3, g0, g1, g2, g3⟩ := gq4 h6.hd
       have HS6 := qd ((((h6.setB 0 (.int .i64 G1.n)).setB 1 (.slice a1 G1.es.length s1)).setB 2 (.slice b1 G1.i.length t1)).setB 3 (.slice c1 G1.o.length u1))
       clear h6
       refine AnyL.step (i := 6) (by kernel_rfl) (by rfl) (fun KK hKK => ?_)
       go_simp
       refine shutNx hKK ((((wd.setCell ⟨w.heap.size + 1, 0, none⟩ (.int .i64 G1.n)).setCell ⟨w.heap.size + 1, 1, none⟩ (.slice a1 G1.es.length s1)).setCell ⟨w.heap.size + 1, 2, none⟩ (.slice b1 G1.i.length t1)).setCell ⟨w.heap.size + 1, 3, none⟩ (.slice c1 G1.o.length u1)) (by exact HBM.out _ _ HS6.out (by simp) (by simp)) (by exact fun _ => trivial) ?_
       clear hKK KK
       clear y0 y1 y2 y3 g0 g1 g2 g3
       generalize ((((wd.setCell ⟨w.heap.size + 1, 0, none⟩ (.int .i64 G1.n)).setCell ⟨w.heap.size + 1, 1, none⟩ (.slice a1 G1.es.length s1)).setCell ⟨w.heap.size + 1, 2, none⟩ (.slice b1 G1.i.length t1)).setCell ⟨w.heap.size + 1, 3, none⟩ (.slice c1 G1.o.length u1)) = we at *
       have h7 := Sep.blk (A := [_, _, _, _, _]) (B := [_]) HS6.out
       obtain ⟨y0, y1, y2, y3, g0, g1, g2, g3⟩ := gq4 h7.hd
       have HS7 := qd ((((h7.setB 0 (.int .i64 G2.n)).setB 1 (.slice d1 G2.es.length v1)).setB 2 (.slice e1 G2.i.length q1)).setB 3 (.slice f1 G2.o.length r1))
       clear h7
       refine AnyL.step (i := 7) (by kernel_rfl) (by rfl) (fun KK hKK => ?_)
       go_simp
       refine shutNx hKK ((((we.setCell ⟨w.heap.size + 2, 0, none⟩ (.int .i64 G2.n)).setCell ⟨w.heap.size + 2, 1, none⟩ (.slice d1 G2.es.length v1)).setCell ⟨w.heap.size + 2, 2, none⟩ (.slice e1 G2.i.length q1)).setCell ⟨w.heap.size + 2, 3, none⟩ (.slice f1 G2.o.length r1)) (by exact HBM.out _ _ HS7.out (by simp) (by simp)) (by exact fun _ => trivial) ?_
       clear hKK KK
       clear y0 y1 y2 y3 g0 g1 g2 g3
       generalize ((((we.setCell ⟨w.heap.size + 2, 0, none⟩ (.int .i64 G2.n)).setCell ⟨w.heap.size + 2, 1, none⟩ (.slice d1 G2.es.length v1)).setCell ⟨w.heap.size + 2, 2, none⟩ (.slice e1 G2.i.length q1)).setCell ⟨w.heap.size + 2, 3, none⟩ (.slice f1 G2.o.length r1)) = wf at *
       refine AnyL.tT 8 (by exact HBM.out _ _ HS7.out (by simp) (by simp)) ?_
       refine AnyL.done (by kernel_rfl) ?_ _
       have HZA := qd (gq4 HS7.out.hd)
       have HZB := qd (gq4 HS7.out.tl.hd)
       have HSF := qd (Sep.blk (A := [_]) (B := [_]) (Sep.cutA (X := [_, _]) (A := [_]) (Sep.cutA (X := [_]) (A := [_]) (Sep.cutA (X := []) (A := [_]) HS7.out.tl.tl))))
       go_wp2_with fail
       obtain ⟨k0, k1, k2, k3, _⟩ := HZA.out
       obtain ⟨j0, j1, j2, j3, _⟩ := HZB.out
       refine bodyPost_ret_by (v := .tuple #[.agg #[.int .i64 G1.n, .slice a1 G1.es.length s1, .slice b1 G1.i.length t1, .slice c1 G1.o.length u1], .agg #[.int .i64 G2.n, .slice d1 G2.es.length v1, .slice e1 G2.i.length q1, .slice f1 G2.o.length r1], .bool rb]) ?_ rfl ⟨G1, G2, a1, b1, c1, d1, e1, f1, s1, t1, u1, v1, q1, r1, xs, ys, ?_, rfl, ⟨HXG1.out, HXG2.out⟩, HSF.out⟩
       ·have hrb := HRB.out
        simp only [Bool.false_and] at hrb
        subst hrb
        simp [results, go_sem, *]
       ·intro h; rw [HRB.out] at h; cases h
      ·have X0 := qd (HBM.out _ _ HSD.out (by simp) (by simp))
       refine AnyL.start (fun W1 => (W1.cell? ⟨gb, 0, none⟩ = some (.int .i64 G1.n) ∧ W1.cell? ⟨gb, 1, none⟩ = some (.slice a1 G1.es.length s1) ∧ W1.cell? ⟨gb, 2, none⟩ = some (.slice b1 G1.i.length t1) ∧ W1.cell? ⟨gb, 3, none⟩ = some (.slice c1 G1.o.length u1)) ∧ W1.cell? ⟨hb, 0, none⟩ = some (.int .i64 G2.n) ∧ W1.cell? ⟨hb, 1, none⟩ = some (.slice d1 G2.es.length v1) ∧ W1.cell? ⟨hb, 2, none⟩ = some (.slice e1 G2.i.length q1) ∧ W1.cell? ⟨hb, 3, none⟩ = some (.slice f1 G2.o.length r1)) (fun _ => True) 99 (by kernel_rfl) ?_
       generalize w9.drew = wd at *
       refine AnyL.tT 0 (by exact HBM.out _ _ HSD.out (by simp) (by simp)) ?_
       refine AnyL.tT 1 (by exact HBM.out _ _ HSD.out (by simp) (by simp)) ?_
       refine AnyL.tT 2 (by exact HBM.out _ _ HSD.out (by simp) (by simp)) ?_
       refine AnyL.tT 3 (by exact HBM.out _ _ HSD.out (by simp) (by simp)) ?_
       refine AnyL.tT 4 (by exact HBM.out _ _ HSD.out (by simp) (by simp)) ?_
       refine AnyL.tT 5 (by exact HBM.out _ _ HSD.out (by simp) (by simp)) ?_
       have h6 := Sep.blk (A := [_, _, _, _, _]) (B := [_]) HSD.out
       obtain ⟨y0, y1, y2, y3, g0, g1, g2, g3⟩ := gq4 h6.hd
       have HS6 := qd ((((h6.setB 0 (.int .i64 G1.n)).setB 1 (.slice a1 G1.es.length s1)).setB 2 (.slice b1 G1.i.length t1)).setB 3 (.slice c1 G1.o.length u1))
       clear h6
       refine AnyL.step (i := 6) (by kernel_rfl) (by rfl) (fun KK hKK => ?_)
       go_simp
       refine shutNx hKK ((((wd.setCell ⟨w.heap.size + 1, 0, none⟩ (.int .i64 G1.n)).setCell ⟨w.heap.size + 1, 1, none⟩ (.slice a1 G1.es.length s1)).setCell ⟨w.heap.size + 1, 2, none⟩ (.slice b1 G1.i.length t1)).setCell ⟨w.heap.size + 1, 3, none⟩ (.slice c1 G1.o.length u1)) (by exact HBM.out _ _ HS6.out (by simp) (by simp)) (by exact fun _ => trivial) ?_
       clear hKK KK
       clear y0 y1 y2 y3 g0 g1 g2 g3
       generalize ((((wd.setCell ⟨w.heap.size + 1, 0, none⟩ (.int .i64 G1.n)).setCell ⟨w.heap.size + 1, 1, none⟩ (.slice a1 G1.es.length s1)).setCell ⟨w.heap.size + 1, 2, none⟩ (.slice b1 G1.i.length t1)).setCell ⟨w.heap.size + 1, 3, none⟩ (.slice c1 G1.o.length u1)) = we at *
       have h7 := Sep.blk (A := [_, _, _, _, _]) (B := [_]) HS6.out
       obtain ⟨y0, y1, y2, y3, g0, g1, g2, g3⟩ := gq4 h7.hd
       have HS7 := qd ((((h7.setB 0 (.int .i64 G2.n)).setB 1 (.slice d1 G2.es.length v1)).setB 2 (.slice e1 G2.i.length q1)).setB 3 (.slice f1 G2.o.length r1))
       clear h7
       refine AnyL.step (i := 7) (by kernel_rfl) (by rfl) (fun KK hKK => ?_)
       go_simp
       refine shutNx hKK ((((we.setCell ⟨w.heap.size + 2, 0, none⟩ (.int .i64 G2.n)).setCell ⟨w.heap.size + 2, 1, none⟩ (.slice d1 G2.es.length v1)).setCell ⟨w.heap.size + 2, 2, none⟩ (.slice e1 G2.i.length q1)).setCell ⟨w.heap.size + 2, 3, none⟩ (.slice f1 G2.o.length r1)) (by exact HBM.out _ _ HS7.out (by simp) (by simp)) (by exact fun _ => trivial) ?_
       clear hKK KK
       clear y0 y1 y2 y3 g0 g1 g2 g3
       generalize ((((we.setCell ⟨w.heap.size + 2, 0, none⟩ (.int .i64 G2.n)).setCell ⟨w.heap.size + 2, 1, none⟩ (.slice d1 G2.es.length v1)).setCell ⟨w.heap.size + 2, 2, none⟩ (.slice e1 G2.i.length q1)).setCell ⟨w.heap.size + 2, 3, none⟩ (.slice f1 G2.o.length r1)) = wf at *
       refine AnyL.tT 8 (by exact HBM.out _ _ HS7.out (by simp) (by simp)) ?_
       refine AnyL.done (by kernel_rfl) ?_ _
       have HZA := qd (gq4 HS7.out.hd)
       have HZB := qd (gq4 HS7.out.tl.hd)
       have HSF := qd (Sep.blk (A := [_]) (B := [_]) (Sep.cutA (X := [_, _]) (A := [_]) (Sep.cutA (X := [_]) (A := [_]) (Sep.cutA (X := []) (A := [_]) HS7.out.tl.tl))))
       go_wp2_with fail
       obtain ⟨k0, k1, k2, k3, _⟩ := HZA.out
       obtain ⟨j0, j1, j2, j3, _⟩ := HZB.out
       refine bodyPost_ret_by (v := .tuple #[.agg #[.int .i64 G1.n, .slice a1 G1.es.length s1, .slice b1 G1.i.length t1, .slice c1 G1.o.length u1], .agg #[.int .i64 G2.n, .slice d1 G2.es.length v1, .slice e1 G2.i.length q1, .slice f1 G2.o.length r1], .bool rb]) ?_ rfl ⟨G1, G2, a1, b1, c1, d1, e1, f1, s1, t1, u1, v1, q1, r1, xs, ys, ?_, rfl, ⟨HXG1.out, HXG2.out⟩, HSF.out⟩
       ·have hrb := HRB.out
        simp only [Bool.true_and] at hrb
        subst hrb
        simp [results, go_sem, *]
       ·intro h
        have h2 := HRB.out
        rw [h, Bool.true_and] at h2
        have g1 : G1 = K1 := by simpa using HG1.out
        have g2 : G2 = K2 := by have h3 := HG2.out; rw [if_pos h2.symm] at h3; exact h3
        exact ⟨g1, g2⟩
     ·rw [h4] at HNM
      clear h4
      subst h5
      have HNE := qd (show (pb != qb) = true from by simpa using h6)
      obtain rfl : rb = false := by rw [HRL.out, decide_eq_false (show ¬ (pa, pb) = (pa, qb) from fun h => h6 (by injection h))]; simp
      clear h6
      go_enter Tryz.func56, Tryz.ntmps56
      go_upto_region 3 with (first
       |(go_at_call 98
         with_reducible refine HTX1.out.mono ?_
         rintro e w3 ⟨⟨⟨ta, tb⟩, rfl, ht⟩, hg⟩
         have HTA := qd ht
         have HS1 := qd (HS0.out.grown hg)
         clear hg ht
         clear x0 x1 x2
         obtain ⟨x0, x1, x2⟩ := bw3 HS1.out.tl.tl.hd
         have HK1 := qd (show w.grownBy _ none from HS1.out.tl.tl.tl.hd))
       |(go_at_call 98
         with_reducible refine (HTY.out _ HK1.out).mono ?_
         rintro e w4 ⟨⟨⟨tc, td⟩, rfl, ht⟩, hg⟩
         have HTB := qd ht
         have HS2 := qd (HS1.out.grown hg)
         clear hg ht
         clear x0 x1 x2
         obtain ⟨x0, x1, x2⟩ := bw3 HS2.out.tl.tl.hd
         have HK2 := qd (show w.grownBy _ none from HS2.out.tl.tl.tl.hd)))
      have h9 := HTA.out
      simp at h9
      obtain ⟨e1, e2⟩ := h9
      have e1 := e1.symm; have e2 := e2.symm
      subst e1 e2
      have h8 := HTB.out
      simp at h8
      obtain ⟨e3, e4⟩ := h8
      have e3 := e3.symm; have e4 := e4.symm
      subst e3 e4
      have hne := HNE.out
      have hnf : (pa != pa) = false := by simp
      go_upto_region 4 with (first
       |(go_at_call 99
         with_reducible refine (HNM.out _).mono ?_
         rintro e w5 ⟨rfl, hg⟩
         have HS3 := qd (HS2.out.grown hg)
         clear hg
         clear x0 x1 x2
         obtain ⟨x0, x1, x2⟩ := bw3 HS3.out.tl.tl.hd
         have HK3 := qd (show w.grownBy _ none from HS3.out.tl.tl.tl.hd)))
      have hz0 := Sep.blk (A := [_]) (B := [_]) HS3.out
      obtain ⟨y0, y1, y2, y3, f0, f1, f2, f3⟩ := gq4 hz0.hd
      have hz1 := Sep.blk (A := [_]) (B := [_]) ((((hz0.setB 0 (.int .i64 0)).setB 1 (.slice none 0 0)).setB 2 (.slice none 0 0)).setB 3 (.slice none 0 0))
      obtain ⟨z0, z1, z2, z3, g0, g1, g2, g3⟩ := gq4 hz1.hd
      have hz2 := ((((hz1.setB 0 (.int .i64 0)).setB 1 (.slice none 0 0)).setB 2 (.slice none 0 0)).setB 3 (.slice none 0 0))
      have HZA := qd (gq4 hz2.hd)
      have HZB := qd (gq4 hz2.tl.hd)
      have HKF := qd (show w.grownBy _ none from hz2.tl.tl.tl.hd)
      clear hz0 hz1 hz2
      go_wp2_with fail
      obtain ⟨k0, k1, k2, k3, _⟩ := HZA.out
      obtain ⟨j0, j1, j2, j3, _⟩ := HZB.out
      refine bodyPost_ret_by (v := .tuple #[.agg #[.int .i64 0, .slice none 0 0, .slice none 0 0, .slice none 0 0], .agg #[.int .i64 0, .slice none 0 0, .slice none 0 0, .slice none 0 0], .bool false]) ?_ rfl (SdR.zero HKF.out)
      simp [results, go_sem, *]
    ·rw [h4] at HNM
     clear h4
     have HNE := qd (show (pa != qa) = true from by simpa using h5)
     obtain rfl : rb = false := by rw [HRL.out, decide_eq_false (show ¬ (pa, pb) = (qa, qb) from fun h => h5 (by injection h))]; simp
     clear h5
     go_enter Tryz.func56, Tryz.ntmps56
     go_upto_region 3 with (first
      |(go_at_call 98
        with_reducible refine HTX1.out.mono ?_
        rintro e w3 ⟨⟨⟨ta, tb⟩, rfl, ht⟩, hg⟩
        have HTA := qd ht
        have HS1 := qd (HS0.out.grown hg)
        clear hg ht
        clear x0 x1 x2
        obtain ⟨x0, x1, x2⟩ := bw3 HS1.out.tl.tl.hd
        have HK1 := qd (show w.grownBy _ none from HS1.out.tl.tl.tl.hd))
      |(go_at_call 98
        with_reducible refine (HTY.out _ HK1.out).mono ?_
        rintro e w4 ⟨⟨⟨tc, td⟩, rfl, ht⟩, hg⟩
        have HTB := qd ht
        have HS2 := qd (HS1.out.grown hg)
        clear hg ht
        clear x0 x1 x2
        obtain ⟨x0, x1, x2⟩ := bw3 HS2.out.tl.tl.hd
        have HK2 := qd (show w.grownBy _ none from HS2.out.tl.tl.tl.hd)))
     have h9 := HTA.out
     simp at h9
     obtain ⟨e1, e2⟩ := h9
     have e1 := e1.symm; have e2 := e2.symm
     subst e1 e2
     have h8 := HTB.out
     simp at h8
     obtain ⟨e3, e4⟩ := h8
     have e3 := e3.symm; have e4 := e4.symm
     subst e3 e4
     have hne := HNE.out
     go_upto_region 4 with (first
      |(go_at_call 99
        with_reducible refine (HNM.out _).mono ?_
        rintro e w5 ⟨rfl, hg⟩
        have HS3 := qd (HS2.out.grown hg)
        clear hg
        clear x0 x1 x2
        obtain ⟨x0, x1, x2⟩ := bw3 HS3.out.tl.tl.hd
        have HK3 := qd (show w.grownBy _ none from HS3.out.tl.tl.tl.hd)))
     have hz0 := Sep.blk (A := [_]) (B := [_]) HS3.out
     obtain ⟨y0, y1, y2, y3, f0, f1, f2, f3⟩ := gq4 hz0.hd
     have hz1 := Sep.blk (A := [_]) (B := [_]) ((((hz0.setB 0 (.int .i64 0)).setB 1 (.slice none 0 0)).setB 2 (.slice none 0 0)).setB 3 (.slice none 0 0))
     obtain ⟨z0, z1, z2, z3, g0, g1, g2, g3⟩ := gq4 hz1.hd
     have hz2 := ((((hz1.setB 0 (.int .i64 0)).setB 1 (.slice none 0 0)).setB 2 (.slice none 0 0)).setB 3 (.slice none 0 0))
     have HZA := qd (gq4 hz2.hd)
     have HZB := qd (gq4 hz2.tl.hd)
     have HKF := qd (show w.grownBy _ none from hz2.tl.tl.tl.hd)
     clear hz0 hz1 hz2
     go_wp2_with fail
     obtain ⟨k0, k1, k2, k3, _⟩ := HZA.out
     obtain ⟨j0, j1, j2, j3, _⟩ := HZB.out
     refine bodyPost_ret_by (v := .tuple #[.agg #[.int .i64 0, .slice none 0 0, .slice none 0 0, .slice none 0 0], .agg #[.int .i64 0, .slice none 0 0, .slice none 0 0, .slice none 0 0], .bool false]) ?_ rfl (SdR.zero HKF.out)
     simp [results, go_sem, *]
end Go.Proofs.YtjagjhchnpmngaaGreat

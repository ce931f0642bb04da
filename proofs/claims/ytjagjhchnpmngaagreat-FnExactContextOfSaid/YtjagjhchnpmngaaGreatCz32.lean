/-
 Can a graph be rewritten with a rule? The program's writing. Conditions: lengths are small.
-/
import Derived.Test.YtjagjhchnpmngaaGreatCz06
import Derived.Test.YtjagjhchnpmngaaGreatCz05
import Derived.Test.YtjagjhchnpmngaaGreatCz04
import Derived.Test.YtjagjhchnpmngaaGreatCz03
import Derived.Test.YtjagjhchnpmngaaGreatCz02
import Derived.Test.YtjagjhchnpmngaaGreatCz01
import Derived.Test.YtjagjhchnpmngaaGreatCz00
import Derived.Test.YtjagjhchnpmngaaGreatCz25
import Derived.Test.YtjagjhchnpmngaaGreatCz13
import Derived.Test.YtjagjhchnpmngaaGreatCz15
import Derived.Test.YtjagjhchnpmngaaGreatCz07
import Derived.Test.YtjagjhchnpmngaaGreatCz28
import Derived.Test.YtjagjhchnpmngaaGreatCz31
import Derived.Test.YtjagjhchnpmngaaGreatCz29
set_option linter.unusedVariables false
set_option linter.unusedSimpArgs false
set_option maxRecDepth 100000
namespace Go.Proofs.YtjagjhchnpmngaaGreat
open Go.RowKit
noncomputable def canB (g : Gr) (s : ByteArray) (x y : List Nd) : Bool := (grB g && monB g) && rlB s x y
theorem canRewrite_any (g : Gr) (s : ByteArray) (x y : List Nd) (gev giv gov xv yv : Value) (w : World) (he : RdE edgeE w gev g.es) (hi : IntsV w giv g.i) (ho : IntsV w gov g.o) (l0 : g.es.length ≤ 2000000) (l1 : g.i.length ≤ 2000000) (l2 : g.o.length ≤ 2000000)
 (hx : RdR nodeE w xv x) (hy : RdR nodeE w yv y) (hxl : x.length ≤ 2000000) (hyl : y.length ≤ 2000000) (hs : s.size ≤ 1000000000000) :
 Calls Tryz.prog 36 #[grV g.n gev giv gov, ruleV s xv yv] w fun e w' => e = .returned (.bool (canB g s x y)) ∧ w.grownBy w' none := by
 have HM := qd fun W (hW : w.grownBy W none) => isMonogamous_any gev giv gov g W (he.carry hW) (hi.carry hW) (ho.carry hW) l0 l1 l2
 have HR := qd fun W (hW : w.grownBy W none) => isRule_any s x y xv yv W (hx.carry hW) (hy.carry hW) hxl hyl hs
 have HC := qd (show canB g s x y = ((grB g && monB g) && rlB s x y) from rfl)
 obtain ⟨a0, c0, rfl⟩ := he.shape
 obtain ⟨a1, c1, rfl⟩ := hi.shape
 obtain ⟨a2, c2, rfl⟩ := ho.shape
 obtain ⟨xa, xc, rfl⟩ := hx.shape
 obtain ⟨ya, yc, rfl⟩ := hy.shape
 clear he hi ho hx hy l0 l1 l2 hxl hyl hs
 generalize canB g s x y = cb at *
 generalize (grB g && monB g) = b1 at *
 generalize rlB s x y = b2 at *
 unfold grV ruleV at *
 generalize g.n = n at *
 generalize g.es.length = ne at *
 generalize g.i.length = ni at *
 generalize g.o.length = no at *
 generalize x.length = lx at *
 generalize y.length = ly at *
 have HS0 := qd (((Sep.start w).boxAt w.heap.size rfl #[.int .i64 n, .slice a0 ne c0, .slice a1 ni c1, .slice a2 no c2] 38).boxAt (w.heap.size + 1) (by simp) #[.string s, .slice xa lx xc, .slice ya ly yc] 46)
 have HK0 := qd (show w.grownBy _ none from HS0.out.tl.tl.hd)
 obtain ⟨x0, x1, x2, x3, _⟩ := gq4 HS0.out.tl.hd
 obtain ⟨y0, y1, y2⟩ := bw3 HS0.out.hd
 cases b1
 ·go_enter Tryz.func36, Tryz.ntmps36
  go_wp2_with (
   go_at_call 66
   with_reducible refine (HM.out _ HK0.out).mono ?_
   rintro e w3 ⟨rfl, hg⟩
   have HK1 := qd (grownBy_trans HK0.out hg)
   clear hg)
  go_ret
  exact ⟨by rw [HC.out]; rfl, HK1.out⟩
 ·go_enter Tryz.func36, Tryz.ntmps36
  go_wp2_with (first
   |(go_at_call 66
     with_reducible refine (HM.out _ HK0.out).mono ?_
     rintro e w3 ⟨rfl, hg⟩
     have HS1 := qd (HS0.out.grown hg)
     clear hg y0 y1 y2 x0 x1 x2 x3
     obtain ⟨y0, y1, y2⟩ := bw3 HS1.out.hd
     have HK1 := qd (show w.grownBy _ none from HS1.out.tl.tl.hd))
   |(go_at_call 67
     with_reducible refine (HR.out _ HK1.out).mono ?_
     rintro e w4 ⟨rfl, hg⟩
     have HK2 := qd (grownBy_trans HK1.out hg)
     clear hg))
  go_ret
  exact ⟨by rw [HC.out]; simp, HK2.out⟩
theorem cnt_perm {P : List Int} {m : Nat} (hr : ∀ x ∈ P, 0 ≤ x ∧ x < (m : Int)) : ((cntL m P).all fun n => decide (1 ≤ n ∧ n ≤ 1)) = permB P m := by
 have h := perm_count hr
 have hb : rngB m P = true := rngB_iff.2 hr
 rw [Bool.eq_iff_iff]
 unfold permB cntL
 rw [hb]
 simp only [List.all_eq_true, List.mem_map, List.mem_range, Bool.and_eq_true, decide_eq_true_iff]
 constructor
 ·intro hh
  have := h.2 (fun w hw => by
   have := hh ((P.count (w : Int) : Nat) : Int) ⟨w, hw, rfl⟩
   omega)
  exact ⟨⟨by omega, trivial⟩, this.2⟩
 ·rintro ⟨⟨h1, _⟩, h2⟩ x ⟨w, hw, rfl⟩
  have := h.1 ⟨by omega, h2⟩ w hw
  omega
theorem wires_len {g : Gr} (h1 : g.es.length ≤ 60) (h2 : ∀ e ∈ g.es, e.i.length ≤ 2 ∧ e.o.length ≤ 2) : (outE g.es).length ≤ 120 ∧ (inE g.es).length ≤ 120 := by
 have a := flat_small (fun e => e.o) g.es (fun e he => (h2 e he).2)
 have b := flat_small (fun e => e.i) g.es (fun e he => (h2 e he).1)
 unfold outE inE
 omega
theorem hgMono_any (ev iv ov : Value) (g : Gr) (w : World) (he : RdE edgeE w ev g.es) (hi : IntsV w iv g.i) (ho : IntsV w ov g.o) (hg : grB g = true) :
 Calls Tryz.prog 57 #[grV g.n ev iv ov] w fun e w' => e = .returned (.bool (monB g)) ∧ w.grownBy w' none := by
 obtain ⟨m, hm, hm1, hg1, hg2, hg3, hg4, hg5, _⟩ := grB_n hg
 have hw := wires_len hg1 hg5
 have HCN := qd fun W (h : w.grownBy W none) => hgCounts_any ev iv ov g m W (he.carry h) (hi.carry h) (ho.carry h) hm (by omega) hg4 (by omega) (by omega) (by omega) (by omega) (by omega)
 have hfr : ∀ x ∈ fromL g, 0 ≤ x ∧ x < (m : Int) := fun x hx => by rw [← hm]; exact rngB_iff.1 hg4 x (mem_wires.2 (Or.inl hx))
 have hto : ∀ x ∈ toL g, 0 ≤ x ∧ x < (m : Int) := fun x hx => by rw [← hm]; exact rngB_iff.1 hg4 x (mem_wires.2 (Or.inr hx))
 have HLA := qd fun v W (h : IntsV W v (cntL m (fromL g))) => l1All_any 1 1 v _ W h (by rw [cntL_len]; omega)
 have HLB := qd fun v W (h : IntsV W v (cntL m (toL g))) => l1All_any 1 1 v _ W h (by rw [cntL_len]; omega)
 rw [cnt_perm hfr] at HLA
 rw [cnt_perm hto] at HLB
 rw [show monB g = (permB (fromL g) m && permB (toL g) m) by unfold monB; rw [hm]]
 generalize permB (fromL g) m = b1 at *
 generalize permB (toL g) m = b2 at *
 generalize cntL m (fromL g) = q1 at *
 generalize cntL m (toL g) = q2 at *
 unfold grV at *
 obtain ⟨ea, ec, rfl⟩ := he.shape
 obtain ⟨ia, ic, rfl⟩ := hi.shape
 obtain ⟨oa, oc, rfl⟩ := ho.shape
 clear he hi ho hg hfr hto hg1 hg2 hg3 hg4 hg5 hw hm
 generalize g.n = n at *
 generalize g.es.length = m0 at *
 generalize g.i.length = m1 at *
 generalize g.o.length = m2 at *
 have HK0 := qd fun o => gr1 w o
 cases b1
 ·go_enter Tryz.func57, Tryz.ntmps57
  go_wp2_with (first
   |(go_at_call 94
     with_reducible refine (HCN.out _ (HK0.out _)).mono ?_
     rintro e w2 ⟨v1, v2, rfl, hs⟩
     have H1 := qd (HLA.out v1 w2 (OwnInts.read (show OwnInts 0 w2 v1 _ from hs.hd)))
     have H2 := qd (HLB.out v2 w2 (OwnInts.read (show OwnInts 0 w2 v2 _ from hs.tl.hd)))
     obtain ⟨s1, r1, rfl⟩ := own_shape (show OwnInts 0 w2 v1 _ from hs.hd)
     obtain ⟨s2, r2, rfl⟩ := own_shape (show OwnInts 0 w2 v2 _ from hs.tl.hd)
     have HK := qd (grownBy_trans (HK0.out _) hs.tl.tl.hd)
     clear hs)
   |(go_at_call 92; with_reducible refine H1.out.mono ?_; rintro e w3 ⟨rfl, rfl⟩))
  go_ret
  exact ⟨rfl, HK.out⟩
 ·go_enter Tryz.func57, Tryz.ntmps57
  go_wp2_with (first
   |(go_at_call 94
     with_reducible refine (HCN.out _ (HK0.out _)).mono ?_
     rintro e w2 ⟨v1, v2, rfl, hs⟩
     have H1 := qd (HLA.out v1 w2 (OwnInts.read (show OwnInts 0 w2 v1 _ from hs.hd)))
     have H2 := qd (HLB.out v2 w2 (OwnInts.read (show OwnInts 0 w2 v2 _ from hs.tl.hd)))
     obtain ⟨s1, r1, rfl⟩ := own_shape (show OwnInts 0 w2 v1 _ from hs.hd)
     obtain ⟨s2, r2, rfl⟩ := own_shape (show OwnInts 0 w2 v2 _ from hs.tl.hd)
     have HK := qd (grownBy_trans (HK0.out _) hs.tl.tl.hd)
     clear hs)
   |(go_at_call 92; with_reducible refine H1.out.mono ?_; rintro e w3 ⟨rfl, rfl⟩)
   |(go_at_call 92; with_reducible refine H2.out.mono ?_; rintro e w4 ⟨rfl, rfl⟩))
  go_ret
  exact ⟨rfl, HK.out⟩
noncomputable def askB (g : Gr) (s : ByteArray) (x y : List Nd) (W E : List Int) : Bool := rlB s x y && (grB g && (monB g && tst (IsMt g (grT x) ⟨W, E⟩)))
theorem rlB_grT {s : ByteArray} {x y : List Nd} (h : rlB s x y = true) : grB (grT x) = true ∧ grB (grT y) = true := by
 unfold rlB at h
 simp only [Bool.and_eq_true] at h
 exact ⟨(grT_okB h.1.1 h.2.2.2.1).1, (grT_okB h.1.2 h.2.2.2.2).1⟩
theorem pat_rng {p : Gr} (h : grB p = true) : 0 ≤ p.n ∧ p.es.length ≤ 1000000 ∧ ∀ e ∈ p.es, (∀ x ∈ e.i, 0 ≤ x ∧ x < p.n) ∧ (∀ x ∈ e.o, 0 ≤ x ∧ x < p.n) ∧ e.i.length ≤ 1000000 ∧ e.o.length ≤ 1000000 := by
 obtain ⟨m, hm, hm1, a1, a2, a3, a4, a5, _⟩ := grB_n h
 have hr := rngB_iff.1 a4
 refine ⟨by omega, by omega, fun e he => ⟨fun x hx => hr x (mem_wiresG.2 (Or.inr (Or.inr ⟨e, he, Or.inl hx⟩))), fun x hx => hr x (mem_wiresG.2 (Or.inr (Or.inr ⟨e, he, Or.inr hx⟩))), ?_, ?_⟩⟩
 ·have := a5 e he; omega
 ·have := a5 e he; omega
set_option maxHeartbeats 8000000 in
theorem rwAsk_any (g : Gr) (s : ByteArray) (x y : List Nd) (W E : List Int) (gev giv gov : Value) (xa ya wa ea : Option Addr) (xc yc wc ec : Nat) (w : World) (he : RdE edgeE w gev g.es) (hi : IntsV w giv g.i) (ho : IntsV w gov g.o) (l0 : g.es.length ≤ 2000000) (l1 : g.i.length ≤ 2000000) (l2 : g.o.length ≤ 2000000)
 (hx : RdR nodeE w (.slice xa x.length xc) x) (hxc : x.length ≤ xc) (hy : RdR nodeE w (.slice ya y.length yc) y) (hyc : y.length ≤ yc) (hxl : x.length ≤ 2000000) (hyl : y.length ≤ 2000000) (hs : s.size ≤ 1000000000000) (hw : IntsV w (.slice wa W.length wc) W) (hwc : W.length ≤ wc) (hE : IntsV w (.slice ea E.length ec) E) (hec : E.length ≤ ec) (hWl : W.length ≤ 2000000) (hEl : E.length ≤ 2000000) :
 Calls Tryz.prog 29 #[grV g.n gev giv gov, .agg #[.string s, .slice xa x.length xc, .slice ya y.length yc], .agg #[.slice wa W.length wc, .slice ea E.length ec]] w (SdR (askB g s x y W E) (grT x) (grT y) w) := by
 have HSD := qd fun W1 (hW : w.grownBy W1 none) => rwSides_any s x y xa ya xc yc W1 (hx.carry hW) hxc (hy.carry hW) hyc hxl hyl hs
 have HVA := qd fun W1 (hW : w.grownBy W1 none) => hgValid_any gev giv gov g W1 (he.carry hW) (hi.carry hW) (ho.carry hW) (by omega) l1 l2
 have HMO := qd fun (hg : grB g = true) W1 (hW : w.grownBy W1 none) => hgMono_any gev giv gov g W1 (he.carry hW) (hi.carry hW) (ho.carry hW) hg
 have HMT := qd fun (hg : grB g = true) (hr : rlB s x y = true) W1 (hW : w.grownBy W1 none) u0 u1 u2 (h0 : RdX W1 (grT x) u0 u1 u2) => show Calls Tryz.prog 58 #[grV g.n gev giv gov, grV (grT x).n u0 u1 u2, .agg #[.slice wa W.length wc, .slice ea E.length ec]] W1 (fun z w' => z = .returned (.bool (tst (IsMt g (grT x) ⟨W, E⟩))) ∧ W1.grownBy w' none) from by
  obtain ⟨m, hm, hm1, b1, b2, b3, b4, b5, _⟩ := grB_n hg
  obtain ⟨q1, q2, q3⟩ := pat_rng (rlB_grT hr).1
  exact mtIs_any g (grT x) m hm (by omega) q1 q3 W E gev giv gov u0 u1 u2 wa ea wc ec W1 (he.carry hW) (hi.carry hW) (ho.carry hW) (by omega) (fun e h => by have := b5 e h; omega) h0.1 h0.2.1 h0.2.2 q2 (hw.carry hW) hwc (hE.carry hW) hec hWl hEl
 have HAB := qd (show askB g s x y W E = (rlB s x y && (grB g && (monB g && tst (IsMt g (grT x) ⟨W, E⟩)))) from rfl)
 obtain ⟨a0, c0, rfl⟩ := he.shape
 obtain ⟨a1, c1, rfl⟩ := hi.shape
 obtain ⟨a2, c2, rfl⟩ := ho.shape
 clear he hi ho hx hy l0 l1 l2 hxl hyl hs hxc hyc hw hwc hE hec hWl hEl
 generalize askB g s x y W E = ab at *
 generalize tst (IsMt g (grT x) ⟨W, E⟩) = b4 at *
 obtain ⟨b1, hb1⟩ : ∃ b, rlB s x y = b := ⟨_, rfl⟩
 obtain ⟨b2, hb2⟩ : ∃ b, grB g = b := ⟨_, rfl⟩
 generalize monB g = b3 at *
 rw [hb1] at HSD HMT HAB
 rw [hb2] at HVA HMO HMT HAB
 clear hb1 hb2
 unfold grV at *
 generalize g.n = n at *
 generalize g.es.length = ne at *
 generalize g.i.length = ni at *
 generalize g.o.length = no at *
 generalize x.length = lx at *
 generalize y.length = ly at *
 generalize W.length = lw at *
 generalize E.length = le at *
 generalize grT x = P1 at *
 generalize grT y = P2 at *
 have HS0 := qd (((((Sep.start w).boxAt w.heap.size rfl #[.int .i64 n, .slice a0 ne c0, .slice a1 ni c1, .slice a2 no c2] 38).boxAt (w.heap.size + 1) (by simp) #[.string s, .slice xa lx xc, .slice ya ly yc] 46).boxAt (w.heap.size + 2) (by simp) #[.slice wa lw wc, .slice ea le ec] 48).boxAt (w.heap.size + 3) (by simp) #[.int .i64 0, .slice none 0 0, .slice none 0 0, .slice none 0 0] 38 |>.boxAt (w.heap.size + 4) (by simp) #[.int .i64 0, .slice none 0 0, .slice none 0 0, .slice none 0 0] 38)
 have HK0 := qd (show w.grownBy _ none from HS0.out.tl.tl.tl.tl.tl.hd)
 obtain ⟨y0, y1, y2⟩ := bw3 HS0.out.tl.tl.tl.hd
 go_enter Tryz.func29, Tryz.ntmps29
 go_upto_region 2 with (
  go_at_call 56
  with_reducible refine (HSD.out _ HK0.out).mono ?_
  rintro e w3 ⟨G1, G2, a1_, b1_, c1_, d1, e1, f1, s1, t1, u1, v1, q1, r1, xs, ys, hGG, rfl, hxy, hsg⟩
  have HGG := qd hGG; have HXY := qd hxy
  have HS3 := qd (((HS0.out.graft2 hsg OX3_own OX3_own).boxAt w3.heap.size rfl #[.int .i64 G1.n, .slice a1_ G1.es.length s1, .slice b1_ G1.i.length t1, .slice c1_ G1.o.length u1] 38).boxAt (w3.heap.size + 1) (by simp) #[.int .i64 G2.n, .slice d1 G2.es.length v1, .slice e1 G2.i.length q1, .slice f1 G2.o.length r1] 38)
  clear hsg hGG hxy y0 y1 y2)
 generalize (w3.alloc (.cells #[.int .i64 G1.n, .slice a1_ G1.es.length s1, .slice b1_ G1.i.length t1, .slice c1_ G1.o.length u1] 38)).alloc (.cells #[.int .i64 G2.n, .slice d1 G2.es.length v1, .slice e1 G2.i.length q1, .slice f1 G2.o.length r1] 38) = w4 at *
 generalize w3.heap.size = nb at *
 have HK3 := qd (show w.grownBy _ none from HS3.out.tl.tl.tl.tl.tl.tl.tl.tl.tl.hd)
 obtain ⟨n0, n1, n2, n3, _⟩ := gq4 HS3.out.tl.hd
 obtain ⟨m0, m1, _⟩ := bw2 HS3.out.tl.tl.tl.tl.tl.tl.hd
 obtain ⟨g0, g1, g2, g3, _⟩ := gq4 HS3.out.tl.tl.tl.tl.tl.tl.tl.tl.hd
 cases b1
 ·obtain rfl : ab = false := by rw [HAB.out]; rfl
  have hz0 := Sep.blk (A := [_, _, _, _, _]) (B := [_]) HS3.out
  obtain ⟨y0, y1, y2, y3, f0, f1_, f2, f3⟩ := gq4 hz0.hd
  have hz1 := Sep.blk (A := [_, _, _, _, _]) (B := [_]) ((((hz0.setB 0 (.int .i64 0)).setB 1 (.slice none 0 0)).setB 2 (.slice none 0 0)).setB 3 (.slice none 0 0))
  obtain ⟨z0, z1, z2, z3, j0, j1, j2, j3⟩ := gq4 hz1.hd
  have hz2 := ((((hz1.setB 0 (.int .i64 0)).setB 1 (.slice none 0 0)).setB 2 (.slice none 0 0)).setB 3 (.slice none 0 0))
  have HZA := qd (gq4 hz2.hd)
  have HZB := qd (gq4 hz2.tl.hd)
  have HKF := qd (show w.grownBy _ none from Sep.all hz2 (KeepA w) (by simp))
  clear hz0 hz1 hz2 n0 n1 n2 n3 m0 m1 g0 g1 g2 g3
  go_wp2_with fail
  obtain ⟨k0, k1, k2, k3, _⟩ := HZA.out
  obtain ⟨i0, i1, i2, i3, _⟩ := HZB.out
  refine bodyPost_ret_by (v := .tuple #[.agg #[.int .i64 0, .slice none 0 0, .slice none 0 0, .slice none 0 0], .agg #[.int .i64 0, .slice none 0 0, .slice none 0 0, .slice none 0 0], .bool false]) ?_ rfl (SdR.zero HKF.out)
  simp [results, go_sem, *]
 ·obtain ⟨hg1, hg2⟩ := HGG.out rfl
  subst hg1 hg2
  cases b2
  ·obtain rfl : ab = false := by rw [HAB.out]; rfl
   go_upto_region 3 with (first
    |(go_at_call 52
      with_reducible refine (HVA.out _ HK3.out).mono ?_
      rintro e wx4 ⟨rfl, hg⟩
      have HS4 := qd (HS3.out.grown hg)
      clear hg
      clear n0 n1 n2 n3 m0 m1 g0 g1 g2 g3
      obtain ⟨n0, n1, n2, n3, _⟩ := gq4 HS4.out.tl.hd
      obtain ⟨m0, m1, _⟩ := bw2 HS4.out.tl.tl.tl.tl.tl.tl.hd
      obtain ⟨g0, g1, g2, g3, _⟩ := gq4 HS4.out.tl.tl.tl.tl.tl.tl.tl.tl.hd
      have HK4 := qd (show w.grownBy _ none from HS4.out.tl.tl.tl.tl.tl.tl.tl.tl.tl.hd)))
   have hz0 := Sep.blk (A := [_, _, _, _, _]) (B := [_]) HS4.out
   obtain ⟨y0, y1, y2, y3, f0, f1_, f2, f3⟩ := gq4 hz0.hd
   have hz1 := Sep.blk (A := [_, _, _, _, _]) (B := [_]) ((((hz0.setB 0 (.int .i64 0)).setB 1 (.slice none 0 0)).setB 2 (.slice none 0 0)).setB 3 (.slice none 0 0))
   obtain ⟨z0, z1, z2, z3, j0, j1, j2, j3⟩ := gq4 hz1.hd
   have hz2 := ((((hz1.setB 0 (.int .i64 0)).setB 1 (.slice none 0 0)).setB 2 (.slice none 0 0)).setB 3 (.slice none 0 0))
   have HZA := qd (gq4 hz2.hd)
   have HZB := qd (gq4 hz2.tl.hd)
   have HKF := qd (show w.grownBy _ none from Sep.all hz2 (KeepA w) (by simp))
   clear hz0 hz1 hz2 n0 n1 n2 n3 m0 m1 g0 g1 g2 g3
   go_wp2_with fail
   obtain ⟨k0, k1, k2, k3, _⟩ := HZA.out
   obtain ⟨i0, i1, i2, i3, _⟩ := HZB.out
   refine bodyPost_ret_by (v := .tuple #[.agg #[.int .i64 0, .slice none 0 0, .slice none 0 0, .slice none 0 0], .agg #[.int .i64 0, .slice none 0 0, .slice none 0 0, .slice none 0 0], .bool false]) ?_ rfl (SdR.zero HKF.out)
   simp [results, go_sem, *]
  ·have HMO2 := qd (HMO.out rfl)
   cases b3
   ·obtain rfl : ab = false := by rw [HAB.out]; rfl
    go_upto_region 3 with (first
     |(go_at_call 52
       with_reducible refine (HVA.out _ HK3.out).mono ?_
       rintro e wx4 ⟨rfl, hg⟩
       have HS4 := qd (HS3.out.grown hg)
       clear hg
       clear n0 n1 n2 n3 m0 m1 g0 g1 g2 g3
       obtain ⟨n0, n1, n2, n3, _⟩ := gq4 HS4.out.tl.hd
       obtain ⟨m0, m1, _⟩ := bw2 HS4.out.tl.tl.tl.tl.tl.tl.hd
       obtain ⟨g0, g1, g2, g3, _⟩ := gq4 HS4.out.tl.tl.tl.tl.tl.tl.tl.tl.hd
       have HK4 := qd (show w.grownBy _ none from HS4.out.tl.tl.tl.tl.tl.tl.tl.tl.tl.hd))
     |(go_at_call 57
       with_reducible refine (HMO2.out _ HK4.out).mono ?_
       rintro e wx5 ⟨rfl, hg⟩
       have HS5 := qd (HS4.out.grown hg)
       clear hg
       clear n0 n1 n2 n3 m0 m1 g0 g1 g2 g3
       obtain ⟨n0, n1, n2, n3, _⟩ := gq4 HS5.out.tl.hd
       obtain ⟨m0, m1, _⟩ := bw2 HS5.out.tl.tl.tl.tl.tl.tl.hd
       obtain ⟨g0, g1, g2, g3, _⟩ := gq4 HS5.out.tl.tl.tl.tl.tl.tl.tl.tl.hd
       have HK5 := qd (show w.grownBy _ none from HS5.out.tl.tl.tl.tl.tl.tl.tl.tl.tl.hd)))
    have hz0 := Sep.blk (A := [_, _, _, _, _]) (B := [_]) HS5.out
    obtain ⟨y0, y1, y2, y3, f0, f1_, f2, f3⟩ := gq4 hz0.hd
    have hz1 := Sep.blk (A := [_, _, _, _, _]) (B := [_]) ((((hz0.setB 0 (.int .i64 0)).setB 1 (.slice none 0 0)).setB 2 (.slice none 0 0)).setB 3 (.slice none 0 0))
    obtain ⟨z0, z1, z2, z3, j0, j1, j2, j3⟩ := gq4 hz1.hd
    have hz2 := ((((hz1.setB 0 (.int .i64 0)).setB 1 (.slice none 0 0)).setB 2 (.slice none 0 0)).setB 3 (.slice none 0 0))
    have HZA := qd (gq4 hz2.hd)
    have HZB := qd (gq4 hz2.tl.hd)
    have HKF := qd (show w.grownBy _ none from Sep.all hz2 (KeepA w) (by simp))
    clear hz0 hz1 hz2 n0 n1 n2 n3 m0 m1 g0 g1 g2 g3
    go_wp2_with fail
    obtain ⟨k0, k1, k2, k3, _⟩ := HZA.out
    obtain ⟨i0, i1, i2, i3, _⟩ := HZB.out
    refine bodyPost_ret_by (v := .tuple #[.agg #[.int .i64 0, .slice none 0 0, .slice none 0 0, .slice none 0 0], .agg #[.int .i64 0, .slice none 0 0, .slice none 0 0, .slice none 0 0], .bool false]) ?_ rfl (SdR.zero HKF.out)
    simp [results, go_sem, *]
   ·have HMT2 := qd (HMT.out rfl rfl)
    have HRX := qd trivial
    cases b4
    ·obtain rfl : ab = false := by rw [HAB.out]; rfl
     go_upto_region 3 with (first
      |(go_at_call 52
        with_reducible refine (HVA.out _ HK3.out).mono ?_
        rintro e wx4 ⟨rfl, hg⟩
        have HS4 := qd (HS3.out.grown hg)
        clear hg
        clear n0 n1 n2 n3 m0 m1 g0 g1 g2 g3
        obtain ⟨n0, n1, n2, n3, _⟩ := gq4 HS4.out.tl.hd
        obtain ⟨m0, m1, _⟩ := bw2 HS4.out.tl.tl.tl.tl.tl.tl.hd
        obtain ⟨g0, g1, g2, g3, _⟩ := gq4 HS4.out.tl.tl.tl.tl.tl.tl.tl.tl.hd
        have HK4 := qd (show w.grownBy _ none from HS4.out.tl.tl.tl.tl.tl.tl.tl.tl.tl.hd))
      |(go_at_call 57
        with_reducible refine (HMO2.out _ HK4.out).mono ?_
        rintro e wx5 ⟨rfl, hg⟩
        have HS5 := qd (HS4.out.grown hg)
        clear hg
        clear n0 n1 n2 n3 m0 m1 g0 g1 g2 g3
        obtain ⟨n0, n1, n2, n3, _⟩ := gq4 HS5.out.tl.hd
        obtain ⟨m0, m1, _⟩ := bw2 HS5.out.tl.tl.tl.tl.tl.tl.hd
        obtain ⟨g0, g1, g2, g3, _⟩ := gq4 HS5.out.tl.tl.tl.tl.tl.tl.tl.tl.hd
        have HK5 := qd (show w.grownBy _ none from HS5.out.tl.tl.tl.tl.tl.tl.tl.tl.tl.hd))
      |(go_at_call 58
        with_reducible refine (HMT2.out _ HK5.out _ _ _ (OX3.read (g := G1) HS5.out.tl.tl.hd HXY.out.1)).mono ?_
        rintro e wx6 ⟨rfl, hg⟩
        have HS6 := qd (HS5.out.grown hg)
        clear hg
        clear n0 n1 n2 n3 m0 m1 g0 g1 g2 g3
        obtain ⟨n0, n1, n2, n3, _⟩ := gq4 HS6.out.tl.hd
        obtain ⟨m0, m1, _⟩ := bw2 HS6.out.tl.tl.tl.tl.tl.tl.hd
        obtain ⟨g0, g1, g2, g3, _⟩ := gq4 HS6.out.tl.tl.tl.tl.tl.tl.tl.tl.hd
        have HK6 := qd (show w.grownBy _ none from HS6.out.tl.tl.tl.tl.tl.tl.tl.tl.tl.hd)))
     have hz0 := Sep.blk (A := [_, _, _, _, _]) (B := [_]) HS6.out
     obtain ⟨y0, y1, y2, y3, f0, f1_, f2, f3⟩ := gq4 hz0.hd
     have hz1 := Sep.blk (A := [_, _, _, _, _]) (B := [_]) ((((hz0.setB 0 (.int .i64 0)).setB 1 (.slice none 0 0)).setB 2 (.slice none 0 0)).setB 3 (.slice none 0 0))
     obtain ⟨z0, z1, z2, z3, j0, j1, j2, j3⟩ := gq4 hz1.hd
     have hz2 := ((((hz1.setB 0 (.int .i64 0)).setB 1 (.slice none 0 0)).setB 2 (.slice none 0 0)).setB 3 (.slice none 0 0))
     have HZA := qd (gq4 hz2.hd)
     have HZB := qd (gq4 hz2.tl.hd)
     have HKF := qd (show w.grownBy _ none from Sep.all hz2 (KeepA w) (by simp))
     clear hz0 hz1 hz2 n0 n1 n2 n3 m0 m1 g0 g1 g2 g3
     go_wp2_with fail
     obtain ⟨k0, k1, k2, k3, _⟩ := HZA.out
     obtain ⟨i0, i1, i2, i3, _⟩ := HZB.out
     refine bodyPost_ret_by (v := .tuple #[.agg #[.int .i64 0, .slice none 0 0, .slice none 0 0, .slice none 0 0], .agg #[.int .i64 0, .slice none 0 0, .slice none 0 0, .slice none 0 0], .bool false]) ?_ rfl (SdR.zero HKF.out)
     simp [results, go_sem, *]
    ·obtain rfl : ab = true := by rw [HAB.out]; rfl
     go_upto_region 4 with (first
      |(go_at_call 52
        with_reducible refine (HVA.out _ HK3.out).mono ?_
        rintro e wx4 ⟨rfl, hg⟩
        have HS4 := qd (HS3.out.grown hg)
        clear hg
        clear n0 n1 n2 n3 m0 m1 g0 g1 g2 g3
        obtain ⟨n0, n1, n2, n3, _⟩ := gq4 HS4.out.tl.hd
        obtain ⟨m0, m1, _⟩ := bw2 HS4.out.tl.tl.tl.tl.tl.tl.hd
        obtain ⟨g0, g1, g2, g3, _⟩ := gq4 HS4.out.tl.tl.tl.tl.tl.tl.tl.tl.hd
        have HK4 := qd (show w.grownBy _ none from HS4.out.tl.tl.tl.tl.tl.tl.tl.tl.tl.hd))
      |(go_at_call 57
        with_reducible refine (HMO2.out _ HK4.out).mono ?_
        rintro e wx5 ⟨rfl, hg⟩
        have HS5 := qd (HS4.out.grown hg)
        clear hg
        clear n0 n1 n2 n3 m0 m1 g0 g1 g2 g3
        obtain ⟨n0, n1, n2, n3, _⟩ := gq4 HS5.out.tl.hd
        obtain ⟨m0, m1, _⟩ := bw2 HS5.out.tl.tl.tl.tl.tl.tl.hd
        obtain ⟨g0, g1, g2, g3, _⟩ := gq4 HS5.out.tl.tl.tl.tl.tl.tl.tl.tl.hd
        have HK5 := qd (show w.grownBy _ none from HS5.out.tl.tl.tl.tl.tl.tl.tl.tl.tl.hd))
      |(go_at_call 58
        with_reducible refine (HMT2.out _ HK5.out _ _ _ (OX3.read (g := G1) HS5.out.tl.tl.hd HXY.out.1)).mono ?_
        rintro e wx6 ⟨rfl, hg⟩
        have HS6 := qd (HS5.out.grown hg)
        clear hg
        clear n0 n1 n2 n3 m0 m1 g0 g1 g2 g3
        obtain ⟨n0, n1, n2, n3, _⟩ := gq4 HS6.out.tl.hd
        obtain ⟨m0, m1, _⟩ := bw2 HS6.out.tl.tl.tl.tl.tl.tl.hd
        obtain ⟨g0, g1, g2, g3, _⟩ := gq4 HS6.out.tl.tl.tl.tl.tl.tl.tl.tl.hd
        have HK6 := qd (show w.grownBy _ none from HS6.out.tl.tl.tl.tl.tl.tl.tl.tl.tl.hd)))
     clear n0 n1 n2 n3 m0 m1 g0 g1 g2 g3
     clear HSD HVA HMO HMT HMO2 HMT2 HS0 HS3 HS4 HS5 HK0 HK3 HK4 HK5
     have HSD := qd HS6.out.dr
     have HBM := qd fun (W1 : World) (L : List Asrt) (h : Sep W1 L) (h1 : BxA nb #[.int .i64 G1.n, .slice a1_ G1.es.length s1, .slice b1_ G1.i.length t1, .slice c1_ G1.o.length u1] 38 ∈ L) (h2 : BxA (nb + 1) #[.int .i64 G2.n, .slice d1 G2.es.length v1, .slice e1 G2.i.length q1, .slice f1 G2.o.length r1] 38 ∈ L) => show (W1.cell? ⟨nb, 0, none⟩ = some (.int .i64 G1.n) ∧ W1.cell? ⟨nb, 1, none⟩ = some (.slice a1_ G1.es.length s1) ∧ W1.cell? ⟨nb, 2, none⟩ = some (.slice b1_ G1.i.length t1) ∧ W1.cell? ⟨nb, 3, none⟩ = some (.slice c1_ G1.o.length u1)) ∧ W1.cell? ⟨nb + 1, 0, none⟩ = some (.int .i64 G2.n) ∧ W1.cell? ⟨nb + 1, 1, none⟩ = some (.slice d1 G2.es.length v1) ∧ W1.cell? ⟨nb + 1, 2, none⟩ = some (.slice e1 G2.i.length q1) ∧ W1.cell? ⟨nb + 1, 3, none⟩ = some (.slice f1 G2.o.length r1) from by
      obtain ⟨p0, p1, p2, p3, _⟩ := gq4 (show W1.heap[nb]? = some (.cells #[.int .i64 G1.n, .slice a1_ G1.es.length s1, .slice b1_ G1.i.length t1, .slice c1_ G1.o.length u1] 38 (0, 0)) from Sep.all h _ h1)
      obtain ⟨p4, p5, p6, p7, _⟩ := gq4 (show W1.heap[nb + 1]? = some (.cells #[.int .i64 G2.n, .slice d1 G2.es.length v1, .slice e1 G2.i.length q1, .slice f1 G2.o.length r1] 38 (0, 0)) from Sep.all h _ h2)
      exact ⟨⟨p0, p1, p2, p3⟩, p4, p5, p6, p7⟩
     have X0 := qd (HBM.out _ _ HSD.out (by simp) (by simp))
     refine AnyL.start (fun W1 => (W1.cell? ⟨nb, 0, none⟩ = some (.int .i64 G1.n) ∧ W1.cell? ⟨nb, 1, none⟩ = some (.slice a1_ G1.es.length s1) ∧ W1.cell? ⟨nb, 2, none⟩ = some (.slice b1_ G1.i.length t1) ∧ W1.cell? ⟨nb, 3, none⟩ = some (.slice c1_ G1.o.length u1)) ∧ W1.cell? ⟨nb + 1, 0, none⟩ = some (.int .i64 G2.n) ∧ W1.cell? ⟨nb + 1, 1, none⟩ = some (.slice d1 G2.es.length v1) ∧ W1.cell? ⟨nb + 1, 2, none⟩ = some (.slice e1 G2.i.length q1) ∧ W1.cell? ⟨nb + 1, 3, none⟩ = some (.slice f1 G2.o.length r1)) (fun _ => True) 99 (by kernel_rfl) ?_
     generalize wx6.drew = wd at *
     refine AnyL.tT 0 (by exact X0.out) ?_
     refine AnyL.tT 1 (by exact X0.out) ?_
     have h6 := Sep.blk (A := [_, _, _, _, _]) (B := [_]) HSD.out
     obtain ⟨y0, y1, y2, y3, j0, j1, j2, j3⟩ := gq4 h6.hd
     have HSA := qd ((((h6.setB 0 (.int .i64 G1.n)).setB 1 (.slice a1_ G1.es.length s1)).setB 2 (.slice b1_ G1.i.length t1)).setB 3 (.slice c1_ G1.o.length u1))
     clear h6
     refine AnyL.step (i := 2) (by kernel_rfl) (by rfl) (fun KK hKK => ?_)
     go_simp
     refine shutNx hKK ((((wd.setCell ⟨w.heap.size + 3, 0, none⟩ (.int .i64 G1.n)).setCell ⟨w.heap.size + 3, 1, none⟩ (.slice a1_ G1.es.length s1)).setCell ⟨w.heap.size + 3, 2, none⟩ (.slice b1_ G1.i.length t1)).setCell ⟨w.heap.size + 3, 3, none⟩ (.slice c1_ G1.o.length u1)) (by exact HBM.out _ _ HSA.out (by simp) (by simp)) (by exact fun _ => trivial) ?_
     clear hKK KK
     clear y0 y1 y2 y3 j0 j1 j2 j3
     generalize ((((wd.setCell ⟨w.heap.size + 3, 0, none⟩ (.int .i64 G1.n)).setCell ⟨w.heap.size + 3, 1, none⟩ (.slice a1_ G1.es.length s1)).setCell ⟨w.heap.size + 3, 2, none⟩ (.slice b1_ G1.i.length t1)).setCell ⟨w.heap.size + 3, 3, none⟩ (.slice c1_ G1.o.length u1)) = we at *
     have h7 := Sep.blk (A := [_, _, _, _, _]) (B := [_]) HSA.out
     obtain ⟨y0, y1, y2, y3, j0, j1, j2, j3⟩ := gq4 h7.hd
     have HSB := qd ((((h7.setB 0 (.int .i64 G2.n)).setB 1 (.slice d1 G2.es.length v1)).setB 2 (.slice e1 G2.i.length q1)).setB 3 (.slice f1 G2.o.length r1))
     clear h7
     refine AnyL.step (i := 3) (by kernel_rfl) (by rfl) (fun KK hKK => ?_)
     go_simp
     refine shutNx hKK ((((we.setCell ⟨w.heap.size + 4, 0, none⟩ (.int .i64 G2.n)).setCell ⟨w.heap.size + 4, 1, none⟩ (.slice d1 G2.es.length v1)).setCell ⟨w.heap.size + 4, 2, none⟩ (.slice e1 G2.i.length q1)).setCell ⟨w.heap.size + 4, 3, none⟩ (.slice f1 G2.o.length r1)) (by exact HBM.out _ _ HSB.out (by simp) (by simp)) (by exact fun _ => trivial) ?_
     clear hKK KK
     clear y0 y1 y2 y3 j0 j1 j2 j3
     generalize ((((we.setCell ⟨w.heap.size + 4, 0, none⟩ (.int .i64 G2.n)).setCell ⟨w.heap.size + 4, 1, none⟩ (.slice d1 G2.es.length v1)).setCell ⟨w.heap.size + 4, 2, none⟩ (.slice e1 G2.i.length q1)).setCell ⟨w.heap.size + 4, 3, none⟩ (.slice f1 G2.o.length r1)) = wf at *
     refine AnyL.tT 4 (by exact HBM.out _ _ HSB.out (by simp) (by simp)) ?_
     refine AnyL.done (by kernel_rfl) ?_ _
     have HZA := qd (gq4 HSB.out.hd)
     have HZB := qd (gq4 HSB.out.tl.hd)
     have HSF := qd (Sep.cutA (X := [_, _]) (A := [_, _, _]) HSB.out.tl.tl.tl.tl)
     go_wp2_with fail
     obtain ⟨k0, k1, k2, k3, _⟩ := HZA.out
     obtain ⟨i0, i1, i2, i3, _⟩ := HZB.out
     refine bodyPost_ret_by (v := .tuple #[.agg #[.int .i64 G1.n, .slice a1_ G1.es.length s1, .slice b1_ G1.i.length t1, .slice c1_ G1.o.length u1], .agg #[.int .i64 G2.n, .slice d1 G2.es.length v1, .slice e1 G2.i.length q1, .slice f1 G2.o.length r1], .bool true]) ?_ rfl ⟨G1, G2, a1_, b1_, c1_, d1, e1, f1, s1, t1, u1, v1, q1, r1, xs, ys, fun _ => ⟨rfl, rfl⟩, rfl, HXY.out, HSF.out⟩
     simp [results, go_sem, *]
def dstF (T : List Int) (base : Int) (w : Int) : Int := if w ∈ T then base + (T.idxOf w : Int) else w
def tabD (n : Nat) (T : List Int) (base : Int) : List Int := (List.range n).map fun v : Nat => dstF T base v
theorem tabD_len (n : Nat) (T : List Int) (base : Int) : (tabD n T base).length = n := by simp [tabD]
theorem dstF_nil (base w : Int) : dstF [] base w = w := by simp [dstF]
theorem tabD_nil (n : Nat) (base : Int) : tabD n [] base = upL n := by
 unfold tabD upL
 exact List.map_congr_left fun v _ => dstF_nil base v
theorem dstF_push {T : List Int} {base u : Int} (hu : u ∉ T) (w : Int) : dstF (T ++ [u]) base w = if w = u then base + (T.length : Int) else dstF T base w := by
 unfold dstF
 rw [List.idxOf_append]
 by_cases hw : w = u
 ·subst hw
  rw [if_pos (by simp), if_pos rfl, if_neg hu]
  simp
 ·rw [if_neg hw]
  by_cases hm : w ∈ T
  ·rw [if_pos (by simp [hm]), if_pos hm, if_pos hm]
  ·rw [if_neg (by simp [hm, hw]), if_neg hm]
theorem tabD_push {n u : Nat} {T : List Int} {base : Int} (hu : (u : Int) ∉ T) : (tabD n T base).set u (base + (T.length : Int)) = tabD n (T ++ [(u : Int)]) base := by
 unfold tabD
 refine List.ext_getElem (by simp) fun i h1 h2 => ?_
 rw [List.getElem_set, List.getElem_map, List.getElem_range, List.getElem_map, List.getElem_range, dstF_push hu]
 by_cases e : u = i
 ·subst e; rw [if_pos rfl, if_pos rfl]
 ·rw [if_neg e, if_neg (by omega)]
theorem ofL_tabD {n : Nat} {T : List Int} {base w : Int} (h0 : 0 ≤ w) (h1 : w < (n : Int)) : ofL (tabD n T base) w = dstF T base w := by
 unfold ofL tabD
 rw [List.getD_eq_getElem?_getD, List.getElem?_map, List.getElem?_range (by omega)]
 show dstF T base ((w.toNat : Nat) : Int) = _
 rw [show ((w.toNat : Nat) : Int) = w by omega]
theorem dstF_rng {T : List Int} {base w : Int} (h0 : 0 ≤ w) (h1 : w < base) : 0 ≤ dstF T base w ∧ dstF T base w < base + (T.length : Int) := by
 unfold dstF
 by_cases h : w ∈ T
 ·rw [if_pos h]
  have := List.idxOf_lt_length_of_mem h
  omega
 ·rw [if_neg h]; omega
def thruL (p : Gr) (W : List Int) (k : Nat) : List Int := ((p.i.take k).filter fun w => decide (w ∈ p.o)).map (ofL W)
theorem thruL_succ {p : Gr} {W : List Int} {k : Nat} (hk : k < p.i.length) : thruL p W (k + 1) = if p.i.getD k 0 ∈ p.o then thruL p W k ++ [ofL W (p.i.getD k 0)] else thruL p W k := by
 unfold thruL
 rw [take_snocI hk, List.filter_append]
 generalize p.i.getD k 0 = a
 by_cases h : a ∈ p.o
 ·rw [if_pos h, List.filter_cons_of_pos (by simpa using h), List.filter_nil, List.map_append]; rfl
 ·rw [if_neg h, List.filter_cons_of_neg (by simpa using h), List.filter_nil, List.append_nil]
def thru (p : Gr) (W : List Int) : List Int := thruL p W p.i.length
theorem thru_len (p : Gr) (W : List Int) (k : Nat) : (thruL p W k).length ≤ p.i.length := by
 unfold thruL
 rw [List.length_map]
 exact Nat.le_trans (List.length_filter_le _ _) (by rw [List.length_take]; omega)
theorem of_inj {W : List Int} {n : Nat} (hl : W.length = n) (hd : W.Nodup) {a b : Int} (ha : 0 ≤ a ∧ a < (n : Int)) (hb : 0 ≤ b ∧ b < (n : Int)) (h : ofL W a = ofL W b) : a = b := by
 unfold ofL at h
 have := (List.getD_inj (by omega) (by omega) hd).1 h
 omega
theorem thru_new {p : Gr} {W : List Int} {n k : Nat} (hl : W.length = n) (hd : W.Nodup) (hr : ∀ x ∈ p.i, 0 ≤ x ∧ x < (n : Int)) (hi : p.i.Nodup) (hk : k < p.i.length) : ofL W (p.i.getD k 0) ∉ thruL p W k := by
 unfold thruL
 intro h
 obtain ⟨y, hy, e⟩ := List.mem_map.1 h
 have hy2 := (List.mem_filter.1 hy).1
 have hg := getD_mem' (zs := p.i) hk
 have := of_inj hl hd (hr y (List.mem_of_mem_take hy2)) (hr _ hg) e
 subst this
 obtain ⟨j, hj, ej⟩ := List.mem_iff_getElem.1 hy2
 rw [List.length_take] at hj
 rw [List.getElem_take] at ej
 have e3 : p.i.getD j 0 = p.i.getD k 0 := by rw [List.getD_eq_getElem?_getD, List.getElem?_eq_getElem (by omega)]; exact ej
 have := (List.getD_inj (by omega) hk hi).1 e3
 omega
def leftE (T : List Int) (base : Int) (e : Ed) : Ed := ⟨e.k, e.v, e.i.map (dstF T base), e.o⟩
def keptN (E : List Int) (k : Nat) : List Nat := (List.range k).filter fun i => decide (((i : Nat) : Int) ∉ E)
theorem keptN_succ (E : List Int) (k : Nat) : keptN E (k + 1) = if (k : Int) ∈ E then keptN E k else keptN E k ++ [k] := by
 unfold keptN
 rw [List.range_succ, List.filter_append]
 by_cases h : (k : Int) ∈ E
 ·rw [if_pos h, List.filter_cons_of_neg (by simpa using h), List.filter_nil, List.append_nil]
 ·rw [if_neg h, List.filter_cons_of_pos (by simpa using h), List.filter_nil]
def cutEs (g : Gr) (E T : List Int) (base : Int) (k : Nat) : List Ed := (keptN E k).map fun i => leftE T base (g.es.getD i e0)
theorem cutEs_yes {g : Gr} {E T : List Int} {base : Int} {k : Nat} (h : (k : Int) ∈ E) : cutEs g E T base (k + 1) = cutEs g E T base k := by
 unfold cutEs; rw [keptN_succ, if_pos h]
theorem cutEs_no {g : Gr} {E T : List Int} {base : Int} {k : Nat} (h : (k : Int) ∉ E) : cutEs g E T base (k + 1) = cutEs g E T base k ++ [leftE T base (g.es.getD k e0)] := by
 unfold cutEs; rw [keptN_succ, if_neg h, List.map_append]; rfl
theorem cutEs_len (g : Gr) (E T : List Int) (base : Int) (k : Nat) : (cutEs g E T base k).length = (keptN E k).length := by unfold cutEs; rw [List.length_map]
theorem keptN_len (E : List Int) (k : Nat) : (keptN E k).length ≤ k := by
 unfold keptN
 exact Nat.le_trans (List.length_filter_le _ _) (by rw [List.length_range]; omega)
def insL (p : Gr) (W : List Int) : List Int := p.i.map (ofL W)
def outsL (p : Gr) (W : List Int) (base : Int) : List Int := p.o.map fun w => dstF (thru p W) base (ofL W w)
def ctxG (g p : Gr) (W E : List Int) (base : Int) : Gr := ⟨base + ((thru p W).length : Int), cutEs g E (thru p W) base g.es.length, g.i ++ outsL p W base, g.o.map (dstF (thru p W) base) ++ insL p W⟩
theorem cut_mem {g : Gr} {E T : List Int} {base : Int} {e : Ed} {k : Nat} (hk : k ≤ g.es.length) (h : e ∈ cutEs g E T base k) : ∃ f ∈ g.es, e = leftE T base f := by
 obtain ⟨i, hi, rfl⟩ := List.mem_map.1 h
 have h2 := List.mem_range.1 (List.mem_filter.1 hi).1
 refine ⟨_, ?_, rfl⟩
 rw [List.getD_eq_getElem?_getD, List.getElem?_eq_getElem (by omega)]
 exact List.getElem_mem _
theorem ctx_ok {g p : Gr} {W E : List Int} {n r : Nat} (hg : grB g = true) (hp : grB p = true) (hM : IsMt g p ⟨W, E⟩) (hn : g.n = n) (hr : r ≤ 200) : GlueOk (n + r + (thru p W).length) [] (ctxG g p W E ((n + r : Nat) : Int)) := by
 obtain ⟨n', hn', a1, a2, a3, a4, a5, a6, _⟩ := grB_n hg
 obtain ⟨m, hm, b1, b2, b3, b4, b5, b6, _⟩ := grB_n hp
 have e1 : n' = n := by omega
 subst e1
 have ra := rngB_iff.1 a5
 have rb := rngB_iff.1 b5
 rw [hn] at ra
 rw [hm] at rb
 have ht := thru_len p W p.i.length
 have hW : ∀ x, 0 ≤ x → x < (m : Int) → 0 ≤ ofL W x ∧ ofL W x < (n' : Int) := by
  intro x h0 h1
  have hl := hM.lw
  simp only at hl
  have := hM.rw (W.getD x.toNat 0) (getD_mem' (by rw [hl]; omega))
  rw [hn] at this
  exact this
 have hd : ∀ x, 0 ≤ x → x < (n' : Int) → 0 ≤ dstF (thru p W) ((n' + r : Nat) : Int) x ∧ dstF (thru p W) ((n' + r : Nat) : Int) x < ((n' + r + (thru p W).length : Nat) : Int) := by
  intro x h0 h1
  have := dstF_rng (T := thru p W) (base := ((n' + r : Nat) : Int)) h0 (by omega)
  omega
 refine ⟨by show ((n' + r : Nat) : Int) + ((thru p W).length : Int) = _; omega, by unfold thru; omega, ?_, ?_, ?_, ?_, ?_, by simp, by simp⟩
 ·show (cutEs _ _ _ _ _).length ≤ _
  rw [cutEs_len]
  have := keptN_len E g.es.length
  omega
 ·show (g.i ++ outsL p W _).length ≤ _
  unfold outsL
  rw [List.length_append, List.length_map]; omega
 ·show (g.o.map _ ++ insL p W).length ≤ _
  unfold insL
  rw [List.length_append, List.length_map, List.length_map]; omega
 ·intro e he
  obtain ⟨f, hf, rfl⟩ := cut_mem (Nat.le_refl _) he
  have := a6 f hf
  simp only [leftE, List.length_map]
  exact this
 ·intro x hx
  rcases mem_wiresG.1 hx with hx | hx | ⟨e, he, hx⟩
  ·rcases List.mem_append.1 (show x ∈ g.i ++ outsL p W _ from hx) with hx | hx
   ·have := ra x (mem_wiresG.2 (Or.inl hx)); omega
   ·obtain ⟨y, hy, rfl⟩ := List.mem_map.1 (show x ∈ p.o.map _ from hx)
    have h1 := rb y (mem_wiresG.2 (Or.inr (Or.inl hy)))
    have h2 := hW y h1.1 h1.2
    exact hd _ h2.1 h2.2
  ·rcases List.mem_append.1 (show x ∈ g.o.map _ ++ insL p W from hx) with hx | hx
   ·obtain ⟨y, hy, rfl⟩ := List.mem_map.1 hx
    have h1 := ra y (mem_wiresG.2 (Or.inr (Or.inl hy)))
    exact hd _ h1.1 h1.2
   ·obtain ⟨y, hy, rfl⟩ := List.mem_map.1 (show x ∈ p.i.map _ from hx)
    have h1 := rb y (mem_wiresG.2 (Or.inl hy))
    have h2 := hW y h1.1 h1.2
    omega
  ·obtain ⟨f, hf, rfl⟩ := cut_mem (Nat.le_refl _) he
   simp only [leftE] at hx
   rcases hx with hx | hx
   ·obtain ⟨y, hy, rfl⟩ := List.mem_map.1 hx
    have h1 := ra y (mem_wiresG.2 (Or.inr (Or.inr ⟨f, hf, Or.inl hy⟩)))
    exact hd _ h1.1 h1.2
   ·have h1 := ra x (mem_wiresG.2 (Or.inr (Or.inr ⟨f, hf, Or.inr hx⟩)))
    omega
end Go.Proofs.YtjagjhchnpmngaaGreat

/-
 What ContextOf's closure does: it lays what is left around a match into a variable, or panics where no match is given. Conditions: the graph is valid; both sides of the rule have graphs.
-/
import Derived.Test.YtjagjhchnpmngaaGreatCz06
import Derived.Test.YtjagjhchnpmngaaGreatCz05
import Derived.Test.YtjagjhchnpmngaaGreatCz04
import Derived.Test.YtjagjhchnpmngaaGreatCz03
import Derived.Test.YtjagjhchnpmngaaGreatCz02
import Derived.Test.YtjagjhchnpmngaaGreatCz01
import Derived.Test.YtjagjhchnpmngaaGreatCz00
import Derived.Test.YtjagjhchnpmngaaGreatCz37
import Derived.Test.YtjagjhchnpmngaaGreatCz38
import Derived.Test.YtjagjhchnpmngaaGreatCz35
import Derived.Test.YtjagjhchnpmngaaGreatCz20
import Derived.Test.YtjagjhchnpmngaaGreatCz15
set_option linter.unusedVariables false
set_option linter.unusedSimpArgs false
set_option maxRecDepth 100000
namespace Go.Proofs.YtjagjhchnpmngaaGreat
open Go.RowKit
def CxGood (w : World) (K : Gr) (l : List Asrt) : Prop := ∃ (a1 a2 a3 : Option Addr) (c1 c2 c3 l1 : Nat) (xs : List XE), (eds xs = K.es ∧ xs.length = l1) ∧ l = [BxA (w.heap.size + 4) #[.int .i64 K.n, .slice a1 l1 c1, .slice a2 K.i.length c2, .slice a3 K.o.length c3] 38, OE (.slice a1 l1 c1) xs, OI (.slice a2 K.i.length c2) K.i, OI (.slice a3 K.o.length c3) K.o, BxA (w.heap.size + 3) #[.int .i64 0, .slice none 0 0, .slice none 0 0, .slice none 0 0] 38, KeepA w]
theorem cx1_panic (g : Gr) (s : ByteArray) (x y : List Nd) (W E : List Int) (N rN : Nat) (hg : grB g = true) (hmx : tmB x = true) (hkx : okT x = true) (hmy : tmB y = true) (hky : okT y = true) (hM : tst (IsMt g (grT x) ⟨W, E⟩) = false) (hgn : g.n = N) (hrn : (grT y).n = rN) (ga gi go_ xa ya wa ea : Option Addr) (gc gd ge xc yc wcp ec : Nat) (w : World)
 (hge : RdE edgeE w (.slice ga g.es.length gc) g.es) (hgi : IntsV w (.slice gi g.i.length gd) g.i) (hgo : IntsV w (.slice go_ g.o.length ge) g.o) (hx : RdR nodeE w (.slice xa x.length xc) x) (hy : RdR nodeE w (.slice ya y.length yc) y) (hw : IntsV w (.slice wa W.length wcp) W) (he : IntsV w (.slice ea E.length ec) E) (hWl : W.length ≤ 2000000) (hEl : E.length ≤ 2000000)
 (W1 : World) (r : Asrt) (hs : Sep W1 (r :: [BxA (w.heap.size + 4) #[.int .i64 0, .slice none 0 0, .slice none 0 0, .slice none 0 0] 38, BxA (w.heap.size + 3) #[.int .i64 0, .slice none 0 0, .slice none 0 0, .slice none 0 0] 38, BxA (w.heap.size + 2) #[.slice wa W.length wcp, .slice ea E.length ec] 48, BxA (w.heap.size + 1) #[.string s, .slice xa x.length xc, .slice ya y.length yc] 46, BxA w.heap.size #[.int .i64 g.n, .slice ga g.es.length gc, .slice gi g.i.length gd, .slice go_ g.o.length ge] 38, KeepA w])) :
 Calls Tryz.prog 38 #[.pointer (some ⟨w.heap.size, 0, none⟩), .pointer (some ⟨w.heap.size + 1, 0, none⟩), .pointer (some ⟨w.heap.size + 2, 0, none⟩), .pointer (some ⟨w.heap.size + 4, 0, none⟩)] W1 fun e w' => e = .panicked [{ v := .iface 112 (.agg #[]), recovered := false }] ∧ ∃ l', l' = [BxA (w.heap.size + 4) #[.int .i64 0, .slice none 0 0, .slice none 0 0, .slice none 0 0] 38, BxA (w.heap.size + 3) #[.int .i64 0, .slice none 0 0, .slice none 0 0, .slice none 0 0] 38, BxA (w.heap.size + 2) #[.slice wa W.length wcp, .slice ea E.length ec] 48, BxA (w.heap.size + 1) #[.string s, .slice xa x.length xc, .slice ya y.length yc] 46, BxA w.heap.size #[.int .i64 g.n, .slice ga g.es.length gc, .slice gi g.i.length gd, .slice go_ g.o.length ge] 38, KeepA w] ∧ Sep w' (r :: l') := by
 have HOP := qd fun W2 (hW : w.grownBy W2 none) => open_panic g s x y W E N rN hg hmx hkx hmy hky hM hgn hrn (.slice ga g.es.length gc) (.slice gi g.i.length gd) (.slice go_ g.o.length ge) (.slice xa x.length xc) (.slice ya y.length yc) wa ea wcp ec W2 (hge.carry hW) (hgi.carry hW) (hgo.carry hW) (hx.carry hW) (hy.carry hW) (hw.carry hW) (he.carry hW) hWl hEl
 unfold NoRw grV ruleV at HOP
 have HS := qd hs
 clear hs hge hgi hgo hx hy hw he hWl hEl hM hg hmx hkx hmy hky hrn hgn
 generalize g.n = n at *
 generalize g.es.length = ne at *
 generalize g.i.length = ni at *
 generalize g.o.length = no at *
 generalize x.length = lx at *
 generalize y.length = ly at *
 generalize W.length = lw at *
 generalize E.length = le at *
 have hk1 : w.grownBy W1 none := HS.out.tl.tl.tl.tl.tl.tl.hd
 obtain ⟨g0, g1, g2, g3, _⟩ := gq4 HS.out.tl.tl.tl.tl.tl.hd
 obtain ⟨y0, y1, y2⟩ := bw3 HS.out.tl.tl.tl.tl.hd
 obtain ⟨m0, m1, _⟩ := bw2 HS.out.tl.tl.tl.hd
 go_enter Tryz.func38, Tryz.ntmps38
 go_wp2_with (
  go_at_call 39
  with_reducible refine (HOP.out W1 hk1).mono ?_
  rintro e w2 ⟨rfl, hgr⟩
  have HS2 := qd (HS.out.grown hgr)
  clear hgr)
 exact ⟨rfl, rfl, _, rfl, HS2.out⟩
set_option maxHeartbeats 16000000 in
theorem cx1_ret (g : Gr) (s : ByteArray) (x y : List Nd) (W E : List Int) (N rN : Nat) (hg : grB g = true) (hmx : tmB x = true) (hkx : okT x = true) (hmy : tmB y = true) (hky : okT y = true) (hM : IsMt g (grT x) ⟨W, E⟩) (hdi : (grT x).i.Nodup) (hgn : g.n = N) (hrn : (grT y).n = rN) (ga gi go_ xa ya wa ea : Option Addr) (gc gd ge xc yc wcp ec : Nat) (w : World)
 (hge : RdE edgeE w (.slice ga g.es.length gc) g.es) (hgi : IntsV w (.slice gi g.i.length gd) g.i) (hgo : IntsV w (.slice go_ g.o.length ge) g.o) (hx : RdR nodeE w (.slice xa x.length xc) x) (hy : RdR nodeE w (.slice ya y.length yc) y) (hw : IntsV w (.slice wa W.length wcp) W) (he : IntsV w (.slice ea E.length ec) E) 
 (W1 : World) (r : Asrt) (hs : Sep W1 (r :: [BxA (w.heap.size + 4) #[.int .i64 0, .slice none 0 0, .slice none 0 0, .slice none 0 0] 38, BxA (w.heap.size + 3) #[.int .i64 0, .slice none 0 0, .slice none 0 0, .slice none 0 0] 38, BxA (w.heap.size + 2) #[.slice wa W.length wcp, .slice ea E.length ec] 48, BxA (w.heap.size + 1) #[.string s, .slice xa x.length xc, .slice ya y.length yc] 46, BxA w.heap.size #[.int .i64 g.n, .slice ga g.es.length gc, .slice gi g.i.length gd, .slice go_ g.o.length ge] 38, KeepA w])) :
 Calls Tryz.prog 38 #[.pointer (some ⟨w.heap.size, 0, none⟩), .pointer (some ⟨w.heap.size + 1, 0, none⟩), .pointer (some ⟨w.heap.size + 2, 0, none⟩), .pointer (some ⟨w.heap.size + 4, 0, none⟩)] W1 fun e w' => e = .returned (.tuple #[]) ∧ ∃ l', CxGood w (ctxK g (grT x) W E) l' ∧ Sep w' (r :: l') := by
 have HOP := qd fun W2 (hW : w.grownBy W2 none) => open_any g s x y W E N rN hg hmx hkx hmy hky hM hdi hgn hrn (.slice ga g.es.length gc) (.slice gi g.i.length gd) (.slice go_ g.o.length ge) (.slice xa x.length xc) (.slice ya y.length yc) wa ea wcp ec W2 (hge.carry hW) (hgi.carry hW) (hgo.carry hW) (hx.carry hW) (hy.carry hW) (hw.carry hW) (he.carry hW)
 have hp := (grT_okB hmx hkx).1
 obtain ⟨n3, hn3, hn3b, _⟩ := grB_n (grT_okB hmy hky).1
 have hrr : rN ≤ 100 := by omega
 have hok := ctx_ok (r := rN) hg hp hM hgn (by omega)
 have hKe : ctxK g (grT x) W E = glueG (classOf (N + rN + (thru (grT x) W).length) []) (ctxG g (grT x) W E ((N + rN : Nat) : Int)) := by unfold ctxK; rw [hgn]; exact (ctx_glue hg hp hM hgn (by omega)).symm
 have HGL := qd fun u0 u1 u2 W2 (h1 : RdE edgeE W2 u0 (ctxG g (grT x) W E ((N + rN : Nat) : Int)).es) (h2 : IntsV W2 u1 (ctxG g (grT x) W E ((N + rN : Nat) : Int)).i) (h3 : IntsV W2 u2 (ctxG g (grT x) W E ((N + rN : Nat) : Int)).o) => glue_any u0 u1 u2 (ctxG g (grT x) W E ((N + rN : Nat) : Int)) (N + rN + (thru (grT x) W).length) (.slice none 0 0) [] W2 h1 h2 h3 (RdR.nil pairE W2) hok.hm hok.m1 hok.e hok.i hok.o hok.le hok.w hok.p hok.l
 rw [← hKe] at HGL
 have hbi := hok.i; have hbo := hok.o
 have HJ := qd fun (v1 v2 : Value) (z1 z2 : List Int) (hl : z1.length + z2.length ≤ 1000) => (show ∀ W2 v, RdL W2 v [⟨v1, z1⟩, ⟨v2, z2⟩] → Calls Tryz.prog 40 #[v] W2 fun e w' => ∃ u, e = .returned u ∧ Sep w' [OI u (z1 ++ z2), KeepA W2] from fun W2 v hv => by
  have h := joined_any v [⟨v1, z1⟩, ⟨v2, z2⟩] W2 hv (by simp) (by rw [joinL_twoT, List.length_append]; omega)
  rw [joinL_twoT] at h
  exact h)
 have htl : (thru (grT x) W).length ≤ 12 := by have := thru_len (grT x) W (grT x).i.length; obtain ⟨_, _, _, _, c3, _⟩ := grB_n hp; unfold thru; omega
 have hgi12 : g.i.length ≤ 12 := by obtain ⟨_, _, _, _, c3, _⟩ := grB_n hg; omega
 unfold OpenR grV ruleV at HOP
 unfold grV at HGL
 rw [show (ctxG g (grT x) W E ((N + rN : Nat) : Int)).es = cutEs g E (thru (grT x) W) ((N + rN : Nat) : Int) g.es.length from rfl, show (ctxG g (grT x) W E ((N + rN : Nat) : Int)).i = g.i ++ outsL (grT x) W ((N + rN : Nat) : Int) from rfl, show (ctxG g (grT x) W E ((N + rN : Nat) : Int)).o = g.o.map (dstF (thru (grT x) W) ((N + rN : Nat) : Int)) ++ insL (grT x) W from rfl, show (ctxG g (grT x) W E ((N + rN : Nat) : Int)).n = ((N + rN : Nat) : Int) + ((thru (grT x) W).length : Int) from rfl] at HGL
 obtain ⟨n9, hn9⟩ : ∃ z : Int, ((N + rN : Nat) : Int) + ((thru (grT x) W).length : Int) = z := ⟨_, rfl⟩
 rw [hn9] at HOP HGL
 clear hn9
 have hl9 : g.i.length + (outsL (grT x) W ((N + rN : Nat) : Int)).length ≤ 40 ∧ (g.o.map (dstF (thru (grT x) W) ((N + rN : Nat) : Int))).length + (insL (grT x) W).length ≤ 40 := by rw [← List.length_append, ← List.length_append]; exact ⟨hbi, hbo⟩
 have HL9 := qd hl9
 generalize outsL (grT x) W ((N + rN : Nat) : Int) = OL at *
 generalize insL (grT x) W = IL at *
 generalize g.o.map (dstF (thru (grT x) W) ((N + rN : Nat) : Int)) = GO at *
 generalize cutEs g E (thru (grT x) W) ((N + rN : Nat) : Int) g.es.length = CE at *
 generalize keptI E g.es.length = ET at *
 generalize ctxK g (grT x) W E = K at *
 generalize grT y = Q at *
 have HS := qd hs
 clear hs hge hgi hgo hx hy hw he hM hg hmx hkx hmy hky hgn hrn hdi hp hn3 hn3b hrr hok hKe hbi hbo htl hl9
 unfold CxGood
 generalize Q.n = rq at *
 generalize g.n = n at *
 generalize g.es.length = ne at *
 generalize hni : g.i.length = ni at *
 generalize g.o.length = no at *
 generalize x.length = lx at *
 generalize y.length = ly at *
 generalize W.length = lw at *
 generalize E.length = le at *
 have HNI := qd hni
 clear hni
 have hfd : ∀ (a b c d e : Value) (W : World), (Instr.field 79 (.agg #[a, b, c, d, e]) 0).run Tryz.prog W = .ok (.agg #[a, b, c, d]) W := fun _ _ _ _ _ _ => by kernel_rfl
 have hk1 : w.grownBy W1 none := HS.out.tl.tl.tl.tl.tl.tl.hd
 obtain ⟨g0, g1, g2, g3, _⟩ := gq4 HS.out.tl.tl.tl.tl.tl.hd
 obtain ⟨y0, y1, y2⟩ := bw3 HS.out.tl.tl.tl.tl.hd
 obtain ⟨m0, m1, _⟩ := bw2 HS.out.tl.tl.tl.hd
 go_enter Tryz.func38, Tryz.ntmps38
 go_upto_region 1 with (
  go_at_call 39
  with_reducible refine (HOP.out W1 hk1).mono ?_
  rintro e w2 ⟨k0, zs, k1, k2, pn, a1, a2, a3, b1, b2, b3, l1, c1, l2, c2, l3, c3, m1_, d1, m2, d2, m3, d3, ys, k3, k4, k5, rfl, ⟨hz, _⟩, hsg⟩
  have HZ := qd hz
  obtain ⟨s0, r0, rfl⟩ := OE.shape hsg.hd
  obtain ⟨h1, j1, rfl⟩ := own_shape hsg.tl.hd
  obtain ⟨h2, j2, rfl⟩ := own_shape hsg.tl.tl.hd
  obtain ⟨h3, j3, rfl⟩ := own_shape hsg.tl.tl.tl.tl.hd
  obtain ⟨h4, j4, rfl⟩ := own_shape hsg.tl.tl.tl.tl.tl.hd
  obtain ⟨h5, j5, rfl⟩ := own_shape hsg.tl.tl.tl.tl.tl.tl.hd
  generalize hlz : zs.length = lz at *
  generalize hlo : GO.length = lo at *
  generalize hlf : IL.length = lf at *
  generalize hlt_ : OL.length = lt at *
  generalize ET.length = ld at *
  have HLZ := qd (And.intro hlo (And.intro hlf hlt_))
  clear hlo hlf hlt_ hlz
  try rw [HNI.out]
  try rw [HNI.out] at hsg
  have hs4 := Sep.graftN (l := [_, _, _, _, _, _, _]) HS.out hsg (by simp only [List.mem_cons, List.not_mem_nil, or_false, forall_eq_or_imp, forall_eq]; exact ⟨OE_own, OI_own, OI_own, OX3_own, OI_own, OI_own, OI_own⟩)
  have HS4 := qd (hs4.boxAt w2.heap.size rfl #[.int .i64 n9, .slice s0 lz r0, .slice h1 ni j1, .slice h2 lo j2, .int .i64 pn, .slice a1 l1 c1, .slice a2 l2 c2, .slice a3 l3 c3, .int .i64 rq, .slice b1 m1_ d1, .slice b2 m2 d2, .slice b3 m3 d3, .slice h3 lf j3, .slice h4 lt j4, .slice h5 ld j5] 75)
  clear hsg hs4 hz g0 g1 g2 g3 y0 y1 y2 m0 m1)
 generalize w2.alloc (.cells #[.int .i64 n9, .slice s0 lz r0, .slice h1 ni j1, .slice h2 lo j2, .int .i64 pn, .slice a1 l1 c1, .slice a2 l2 c2, .slice a3 l3 c3, .int .i64 rq, .slice b1 m1_ d1, .slice b2 m2 d2, .slice b3 m3 d3, .slice h3 lf j3, .slice h4 lt j4, .slice h5 ld j5] 75) = w3 at *
 generalize w2.heap.size = ob at *
 clear HS hk1 HOP
 go_cut [4] from 9 to 27 (fun t4 wx => ∃ (v1 v2 : Option Addr) (e1 f1 li lo2 : Nat), t4 = .pointer (some ⟨ob, 0, none⟩) ∧ Sep wx [BxA ob #[.int .i64 n9, .slice s0 lz r0, .slice v1 li e1, .slice v2 lo2 f1, .int .i64 pn, .slice a1 l1 c1, .slice a2 l2 c2, .slice a3 l3 c3, .int .i64 rq, .slice b1 m1_ d1, .slice b2 m2 d2, .slice b3 m3 d3, .slice h3 lf j3, .slice h4 lt j4, .slice h5 ld j5] 75, OI (.slice v2 lo2 f1) (GO ++ IL), OI (.slice v1 li e1) (g.i ++ OL), OE (.slice s0 lz r0) zs, r, BxA (w.heap.size + 4) #[.int .i64 0, .slice none 0 0, .slice none 0 0, .slice none 0 0] 38, BxA (w.heap.size + 3) #[.int .i64 0, .slice none 0 0, .slice none 0 0, .slice none 0 0] 38, KeepA w])
 case first =>
  have HBM := qd fun (W1 : World) (L : List Asrt) (uI uO : Value) (h : Sep W1 L) (hm1 : BxA ob #[.int .i64 n9, .slice s0 lz r0, uI, uO, .int .i64 pn, .slice a1 l1 c1, .slice a2 l2 c2, .slice a3 l3 c3, .int .i64 rq, .slice b1 m1_ d1, .slice b2 m2 d2, .slice b3 m3 d3, .slice h3 lf j3, .slice h4 lt j4, .slice h5 ld j5] 75 ∈ L) => show W1.cell? ⟨ob, 12, none⟩ = some (.slice h3 lf j3) ∧ W1.cell? ⟨ob, 13, none⟩ = some (.slice h4 lt j4) from by
   obtain ⟨_, _, _, _, _, _, _, _, _, _, _, _, p12, p13, _⟩ := rq15 (show W1.heap[ob]? = some (.cells #[.int .i64 n9, .slice s0 lz r0, uI, uO, .int .i64 pn, .slice a1 l1 c1, .slice a2 l2 c2, .slice a3 l3 c3, .int .i64 rq, .slice b1 m1_ d1, .slice b2 m2 d2, .slice b3 m3 d3, .slice h3 lf j3, .slice h4 lt j4, .slice h5 ld j5] 75 (0, 0)) from Sep.all h _ hm1)
   exact ⟨p12, p13⟩
  have HBA := qd fun (W1 : World) (L : List Asrt) (h : Sep W1 L) (hm1 : BxA ob #[.int .i64 n9, .slice s0 lz r0, .slice h1 ni j1, .slice h2 lo j2, .int .i64 pn, .slice a1 l1 c1, .slice a2 l2 c2, .slice a3 l3 c3, .int .i64 rq, .slice b1 m1_ d1, .slice b2 m2 d2, .slice b3 m3 d3, .slice h3 lf j3, .slice h4 lt j4, .slice h5 ld j5] 75 ∈ L) => show W1.cell? ⟨ob, 2, none⟩ = some (.slice h1 ni j1) ∧ W1.cell? ⟨ob, 3, none⟩ = some (.slice h2 lo j2) from by
   obtain ⟨_, _, p2, p3, _⟩ := rq15 (show W1.heap[ob]? = some (.cells #[.int .i64 n9, .slice s0 lz r0, .slice h1 ni j1, .slice h2 lo j2, .int .i64 pn, .slice a1 l1 c1, .slice a2 l2 c2, .slice a3 l3 c3, .int .i64 rq, .slice b1 m1_ d1, .slice b2 m2 d2, .slice b3 m3 d3, .slice h3 lf j3, .slice h4 lt j4, .slice h5 ld j5] 75 (0, 0)) from Sep.all h _ hm1)
   exact ⟨p2, p3⟩
  have HSD := qd HS4.out.dr
  have X0 := qd (HBM.out _ _ (.slice h1 ni j1) (.slice h2 lo j2) HSD.out (by simp)); have Y0 := qd (HBA.out _ _ HSD.out (by simp))
  refine AnyL.start (fun W1 => W1.cell? ⟨ob, 12, none⟩ = some (.slice h3 lf j3) ∧ W1.cell? ⟨ob, 13, none⟩ = some (.slice h4 lt j4)) (fun W1 => W1.cell? ⟨ob, 2, none⟩ = some (.slice h1 ni j1) ∧ W1.cell? ⟨ob, 3, none⟩ = some (.slice h2 lo j2)) 16 (by kernel_rfl) ?_
  generalize w3.drew = wd at *
  refine AnyL.tk 0 (by exact ⟨X0.out, fun _ => Y0.out⟩) ?_
  refine AnyL.tk 1 (by exact ⟨X0.out, fun _ => Y0.out⟩) ?_
  refine AnyL.tkA 2 (by exact ⟨X0.out, fun _ => Y0.out⟩) ?_
  refine AnyL.tk 3 (by exact ⟨X0.out, fun _ => Y0.out⟩) ?_
  refine AnyL.tk 4 (by exact ⟨X0.out, fun _ => Y0.out⟩) ?_
  refine AnyL.tk 7 (by exact ⟨X0.out, fun _ => Y0.out⟩) ?_
  refine AnyL.tk 8 (by exact ⟨X0.out, fun _ => Y0.out⟩) ?_
  refine AnyL.tkA 9 (by exact ⟨X0.out, fun _ => Y0.out⟩) ?_
  refine AnyL.tk 10 (by exact ⟨X0.out, fun _ => Y0.out⟩) ?_
  refine AnyL.tk 11 (by exact ⟨X0.out, fun _ => Y0.out⟩) ?_
  refine AnyL.twoM (i := 5) (j := 12) (by kernel_rfl) (by rfl) (by rfl) (fun K hK => ?_) (fun K hK => ?_)
  ·have HLxb11 := qd (rdL_twoT (v1 := .slice h1 ni j1) (v2 := .slice h4 lt j4) (OwnInts.read (show OwnInts 0 wd (.slice h1 ni j1) g.i from HSD.out.tl.tl.hd)) (OwnInts.read (show OwnInts 0 wd (.slice h4 lt j4) OL from HSD.out.tl.tl.tl.tl.tl.tl.hd)))
   have HSxb1 := qd (HSD.out.al (.cells #[.slice h1 ni j1, .slice h4 lt j4] 23))
   go_simp
   refine shutNx hK (wd.alloc (.cells #[.slice h1 ni j1, .slice h4 lt j4] 23)) (by exact HBM.out _ _ (.slice h1 ni j1) (.slice h2 lo j2) HSxb1.out (by simp)) (by exact fun _ => HBA.out _ _ HSxb1.out (by simp)) ?_
   clear hK K
   generalize wd.alloc (.cells #[.slice h1 ni j1, .slice h4 lt j4] 23) = wxb1 at *
   refine AnyL.twoM (i := 6) (j := 12) (by kernel_rfl) (by rfl) (by rfl) (fun K hK => ?_) (fun K hK => ?_)
   ·go_simp
    have HCC := qd (HJ.out (.slice h1 ni j1) (.slice h4 lt j4) g.i OL (by have := HL9.out; have := HLZ.out; have := HNI.out; omega) _ _ HLxb11.out)
    go_at_call 40
    with_reducible refine HCC.out.mono ?_
    rintro e wxb1j1 ⟨u1, rfl, hsg⟩
    obtain ⟨v1, e1_, rfl⟩ := own_shape hsg.hd
    generalize (g.i ++ OL).length = q1 at *
    have HSxb1j1 := qd (HSxb1.out.graft1 hsg OI_own)
    clear hsg HCC
    refine shutNx hK _ (by exact HBM.out _ _ (.slice h1 ni j1) (.slice h2 lo j2) HSxb1j1.out (by simp)) (by exact fun _ => HBA.out _ _ HSxb1j1.out (by simp)) ?_
    clear hK K
    refine AnyL.tk 14 (by exact ⟨HBM.out _ _ (.slice h1 ni j1) (.slice h2 lo j2) HSxb1j1.out (by simp), fun _ => HBA.out _ _ HSxb1j1.out (by simp)⟩) ?_
    refine AnyL.tk 15 (by exact ⟨HBM.out _ _ (.slice h1 ni j1) (.slice h2 lo j2) HSxb1j1.out (by simp), fun _ => HBA.out _ _ HSxb1j1.out (by simp)⟩) ?_
    refine AnyL.step (i := 12) (by kernel_rfl) (by rfl) (fun K hK => ?_)
    have HLxb1j1b22 := qd (rdL_twoT (v1 := .slice h2 lo j2) (v2 := .slice h3 lf j3) (OwnInts.read (show OwnInts 0 wxb1j1 (.slice h2 lo j2) GO from HSxb1j1.out.tl.tl.tl.tl.hd)) (OwnInts.read (show OwnInts 0 wxb1j1 (.slice h3 lf j3) IL from HSxb1j1.out.tl.tl.tl.tl.tl.tl.hd)))
    have HSxb1j1b2 := qd (HSxb1j1.out.al (.cells #[.slice h2 lo j2, .slice h3 lf j3] 23))
    go_simp
    refine shutNx hK (wxb1j1.alloc (.cells #[.slice h2 lo j2, .slice h3 lf j3] 23)) (by exact HBM.out _ _ (.slice h1 ni j1) (.slice h2 lo j2) HSxb1j1b2.out (by simp)) (by exact fun _ => HBA.out _ _ HSxb1j1b2.out (by simp)) ?_
    clear hK K
    generalize wxb1j1.alloc (.cells #[.slice h2 lo j2, .slice h3 lf j3] 23) = wxb1j1b2 at *
    refine AnyL.step (i := 13) (by kernel_rfl) (by rfl) (fun K hK => ?_)
    go_simp
    have HCC := qd (HJ.out (.slice h2 lo j2) (.slice h3 lf j3) GO IL (by have := HL9.out; have := HLZ.out; have := HNI.out; omega) _ _ HLxb1j1b22.out)
    go_at_call 40
    with_reducible refine HCC.out.mono ?_
    rintro e wxb1j1b2j2 ⟨u2, rfl, hsg⟩
    obtain ⟨v2, e2_, rfl⟩ := own_shape hsg.hd
    generalize (GO ++ IL).length = q2 at *
    have HSxb1j1b2j2 := qd (HSxb1j1b2.out.graft1 hsg OI_own)
    clear hsg HCC
    refine shutNx hK _ (by exact HBM.out _ _ (.slice h1 ni j1) (.slice h2 lo j2) HSxb1j1b2j2.out (by simp)) (by exact fun _ => HBA.out _ _ HSxb1j1b2j2.out (by simp)) ?_
    clear hK K
    have hz := Sep.blk3 (X := []) (A := [_, _]) (B := [_]) HSxb1j1b2j2.out
    try simp only [List.nil_append, List.cons_append, List.append_eq] at hz
    have hz2 := hz.setB 2 (.slice v1 q1 e1_)
    simp only [List.setIfInBounds_toArray, List.set_cons_zero, List.set_cons_succ] at hz2
    have hz3 := hz2.setB 3 (.slice v2 q2 e2_)
    simp only [List.setIfInBounds_toArray, List.set_cons_zero, List.set_cons_succ] at hz3
    have hf2 := (rf15 hz.hd).2.2.1
    have hf3 := (rf15 hz2.hd).2.2.2.1
    obtain ⟨_, _, ck2, _⟩ := rq15 hz.hd
    obtain ⟨_, _, _, ck3, _⟩ := rq15 hz2.hd
    have hy1 := Sep.cutA (X := [_, _, _, _]) (A := [_, _, _, _, _, _]) hz3
    have hz9 := Sep.cutA (X := [_, _, _, _, _, _, _]) (A := [_, _, _]) hy1
    try simp only [List.nil_append, List.cons_append, List.append_eq] at hz9
    clear hy1
    have HZ9 := qd hz9
    have HZA := qd hz2
    have HZB := qd hz3
    clear hz hz2 hz3 hz9
    refine AnyL.step (i := 16) (by kernel_rfl) (by rfl) (fun K hK => ?_)
    go_simp
    refine shutNx hK (wxb1j1b2j2.setCell ⟨ob, 2, none⟩ (.slice v1 q1 e1_)) (by exact HBM.out _ _ (.slice v1 q1 e1_) (.slice h2 lo j2) HZA.out (by simp)) (by exact fun h => noTF (by kernel_rfl) h) ?_
    clear hK K
    refine AnyL.tk 17 (by exact ⟨HBM.out _ _ (.slice v1 q1 e1_) (.slice h2 lo j2) HZA.out (by simp), fun h => noTF (by kernel_rfl) h⟩) ?_
    refine AnyL.tk 18 (by exact ⟨HBM.out _ _ (.slice v1 q1 e1_) (.slice h2 lo j2) HZA.out (by simp), fun h => noTF (by kernel_rfl) h⟩) ?_
    refine AnyL.step (i := 19) (by kernel_rfl) (by rfl) (fun K hK => ?_)
    go_simp
    refine shutNx hK ((wxb1j1b2j2.setCell ⟨ob, 2, none⟩ (.slice v1 q1 e1_)).setCell ⟨ob, 3, none⟩ (.slice v2 q2 e2_)) (by exact HBM.out _ _ (.slice v1 q1 e1_) (.slice v2 q2 e2_) HZB.out (by simp)) (by exact fun h => noTF (by kernel_rfl) h) ?_
    clear hK K
    refine AnyL.done (by kernel_rfl) ?_ _
    go_wp2_with fail
    go_meet
    exact ⟨v1, v2, e1_, e2_, q1, q2, rfl, HZ9.out⟩
   ·have HLxb1b22 := qd (rdL_twoT (v1 := .slice h2 lo j2) (v2 := .slice h3 lf j3) (OwnInts.read (show OwnInts 0 wxb1 (.slice h2 lo j2) GO from HSxb1.out.tl.tl.tl.hd)) (OwnInts.read (show OwnInts 0 wxb1 (.slice h3 lf j3) IL from HSxb1.out.tl.tl.tl.tl.tl.hd)))
    have HLxb1b21 := qd (HLxb11.out.carry (grownBy_alloc wxb1 (.cells #[.slice h2 lo j2, .slice h3 lf j3] 23) none))
    have HSxb1b2 := qd (HSxb1.out.al (.cells #[.slice h2 lo j2, .slice h3 lf j3] 23))
    go_simp
    refine shutNx hK (wxb1.alloc (.cells #[.slice h2 lo j2, .slice h3 lf j3] 23)) (by exact HBM.out _ _ (.slice h1 ni j1) (.slice h2 lo j2) HSxb1b2.out (by simp)) (by exact fun _ => HBA.out _ _ HSxb1b2.out (by simp)) ?_
    clear hK K
    generalize wxb1.alloc (.cells #[.slice h2 lo j2, .slice h3 lf j3] 23) = wxb1b2 at *
    refine AnyL.step (i := 6) (by kernel_rfl) (by rfl) (fun K hK => ?_)
    go_simp
    have HCC := qd (HJ.out (.slice h1 ni j1) (.slice h4 lt j4) g.i OL (by have := HL9.out; have := HLZ.out; have := HNI.out; omega) _ _ HLxb1b21.out)
    go_at_call 40
    with_reducible refine HCC.out.mono ?_
    rintro e wxb1b2j1 ⟨u1, rfl, hsg⟩
    obtain ⟨v1, e1_, rfl⟩ := own_shape hsg.hd
    generalize (g.i ++ OL).length = q1 at *
    have HLxb1b2j12 := qd (HLxb1b22.out.carry (show wxb1b2.grownBy wxb1b2j1 none from hsg.tl.hd))
    have HSxb1b2j1 := qd (HSxb1b2.out.graft1 hsg OI_own)
    clear hsg HCC
    refine shutNx hK _ (by exact HBM.out _ _ (.slice h1 ni j1) (.slice h2 lo j2) HSxb1b2j1.out (by simp)) (by exact fun _ => HBA.out _ _ HSxb1b2j1.out (by simp)) ?_
    clear hK K
    refine AnyL.tk 14 (by exact ⟨HBM.out _ _ (.slice h1 ni j1) (.slice h2 lo j2) HSxb1b2j1.out (by simp), fun _ => HBA.out _ _ HSxb1b2j1.out (by simp)⟩) ?_
    refine AnyL.tk 15 (by exact ⟨HBM.out _ _ (.slice h1 ni j1) (.slice h2 lo j2) HSxb1b2j1.out (by simp), fun _ => HBA.out _ _ HSxb1b2j1.out (by simp)⟩) ?_
    refine AnyL.step (i := 13) (by kernel_rfl) (by rfl) (fun K hK => ?_)
    go_simp
    have HCC := qd (HJ.out (.slice h2 lo j2) (.slice h3 lf j3) GO IL (by have := HL9.out; have := HLZ.out; have := HNI.out; omega) _ _ HLxb1b2j12.out)
    go_at_call 40
    with_reducible refine HCC.out.mono ?_
    rintro e wxb1b2j1j2 ⟨u2, rfl, hsg⟩
    obtain ⟨v2, e2_, rfl⟩ := own_shape hsg.hd
    generalize (GO ++ IL).length = q2 at *
    have HSxb1b2j1j2 := qd (HSxb1b2j1.out.graft1 hsg OI_own)
    clear hsg HCC
    refine shutNx hK _ (by exact HBM.out _ _ (.slice h1 ni j1) (.slice h2 lo j2) HSxb1b2j1j2.out (by simp)) (by exact fun _ => HBA.out _ _ HSxb1b2j1j2.out (by simp)) ?_
    clear hK K
    have hz := Sep.blk3 (X := []) (A := [_, _]) (B := [_]) HSxb1b2j1j2.out
    try simp only [List.nil_append, List.cons_append, List.append_eq] at hz
    have hz2 := hz.setB 2 (.slice v1 q1 e1_)
    simp only [List.setIfInBounds_toArray, List.set_cons_zero, List.set_cons_succ] at hz2
    have hz3 := hz2.setB 3 (.slice v2 q2 e2_)
    simp only [List.setIfInBounds_toArray, List.set_cons_zero, List.set_cons_succ] at hz3
    have hf2 := (rf15 hz.hd).2.2.1
    have hf3 := (rf15 hz2.hd).2.2.2.1
    obtain ⟨_, _, ck2, _⟩ := rq15 hz.hd
    obtain ⟨_, _, _, ck3, _⟩ := rq15 hz2.hd
    have hy1 := Sep.cutA (X := [_, _, _, _]) (A := [_, _, _, _, _, _]) hz3
    have hz9 := Sep.cutA (X := [_, _, _, _, _, _, _]) (A := [_, _, _]) hy1
    try simp only [List.nil_append, List.cons_append, List.append_eq] at hz9
    clear hy1
    have HZ9 := qd hz9
    have HZA := qd hz2
    have HZB := qd hz3
    clear hz hz2 hz3 hz9
    refine AnyL.step (i := 16) (by kernel_rfl) (by rfl) (fun K hK => ?_)
    go_simp
    refine shutNx hK (wxb1b2j1j2.setCell ⟨ob, 2, none⟩ (.slice v1 q1 e1_)) (by exact HBM.out _ _ (.slice v1 q1 e1_) (.slice h2 lo j2) HZA.out (by simp)) (by exact fun h => noTF (by kernel_rfl) h) ?_
    clear hK K
    refine AnyL.tk 17 (by exact ⟨HBM.out _ _ (.slice v1 q1 e1_) (.slice h2 lo j2) HZA.out (by simp), fun h => noTF (by kernel_rfl) h⟩) ?_
    refine AnyL.tk 18 (by exact ⟨HBM.out _ _ (.slice v1 q1 e1_) (.slice h2 lo j2) HZA.out (by simp), fun h => noTF (by kernel_rfl) h⟩) ?_
    refine AnyL.step (i := 19) (by kernel_rfl) (by rfl) (fun K hK => ?_)
    go_simp
    refine shutNx hK ((wxb1b2j1j2.setCell ⟨ob, 2, none⟩ (.slice v1 q1 e1_)).setCell ⟨ob, 3, none⟩ (.slice v2 q2 e2_)) (by exact HBM.out _ _ (.slice v1 q1 e1_) (.slice v2 q2 e2_) HZB.out (by simp)) (by exact fun h => noTF (by kernel_rfl) h) ?_
    clear hK K
    refine AnyL.done (by kernel_rfl) ?_ _
    go_wp2_with fail
    go_meet
    exact ⟨v1, v2, e1_, e2_, q1, q2, rfl, HZ9.out⟩
  ·have HLxb22 := qd (rdL_twoT (v1 := .slice h2 lo j2) (v2 := .slice h3 lf j3) (OwnInts.read (show OwnInts 0 wd (.slice h2 lo j2) GO from HSD.out.tl.tl.tl.hd)) (OwnInts.read (show OwnInts 0 wd (.slice h3 lf j3) IL from HSD.out.tl.tl.tl.tl.tl.hd)))
   have HSxb2 := qd (HSD.out.al (.cells #[.slice h2 lo j2, .slice h3 lf j3] 23))
   go_simp
   refine shutNx hK (wd.alloc (.cells #[.slice h2 lo j2, .slice h3 lf j3] 23)) (by exact HBM.out _ _ (.slice h1 ni j1) (.slice h2 lo j2) HSxb2.out (by simp)) (by exact fun _ => HBA.out _ _ HSxb2.out (by simp)) ?_
   clear hK K
   generalize wd.alloc (.cells #[.slice h2 lo j2, .slice h3 lf j3] 23) = wxb2 at *
   refine AnyL.step (i := 5) (by kernel_rfl) (by rfl) (fun K hK => ?_)
   have HLxb2b11 := qd (rdL_twoT (v1 := .slice h1 ni j1) (v2 := .slice h4 lt j4) (OwnInts.read (show OwnInts 0 wxb2 (.slice h1 ni j1) g.i from HSxb2.out.tl.tl.hd)) (OwnInts.read (show OwnInts 0 wxb2 (.slice h4 lt j4) OL from HSxb2.out.tl.tl.tl.tl.tl.tl.hd)))
   have HLxb2b12 := qd (HLxb22.out.carry (grownBy_alloc wxb2 (.cells #[.slice h1 ni j1, .slice h4 lt j4] 23) none))
   have HSxb2b1 := qd (HSxb2.out.al (.cells #[.slice h1 ni j1, .slice h4 lt j4] 23))
   go_simp
   refine shutNx hK (wxb2.alloc (.cells #[.slice h1 ni j1, .slice h4 lt j4] 23)) (by exact HBM.out _ _ (.slice h1 ni j1) (.slice h2 lo j2) HSxb2b1.out (by simp)) (by exact fun _ => HBA.out _ _ HSxb2b1.out (by simp)) ?_
   clear hK K
   generalize wxb2.alloc (.cells #[.slice h1 ni j1, .slice h4 lt j4] 23) = wxb2b1 at *
   refine AnyL.step (i := 6) (by kernel_rfl) (by rfl) (fun K hK => ?_)
   go_simp
   have HCC := qd (HJ.out (.slice h1 ni j1) (.slice h4 lt j4) g.i OL (by have := HL9.out; have := HLZ.out; have := HNI.out; omega) _ _ HLxb2b11.out)
   go_at_call 40
   with_reducible refine HCC.out.mono ?_
   rintro e wxb2b1j1 ⟨u1, rfl, hsg⟩
   obtain ⟨v1, e1_, rfl⟩ := own_shape hsg.hd
   generalize (g.i ++ OL).length = q1 at *
   have HLxb2b1j12 := qd (HLxb2b12.out.carry (show wxb2b1.grownBy wxb2b1j1 none from hsg.tl.hd))
   have HSxb2b1j1 := qd (HSxb2b1.out.graft1 hsg OI_own)
   clear hsg HCC
   refine shutNx hK _ (by exact HBM.out _ _ (.slice h1 ni j1) (.slice h2 lo j2) HSxb2b1j1.out (by simp)) (by exact fun _ => HBA.out _ _ HSxb2b1j1.out (by simp)) ?_
   clear hK K
   refine AnyL.tk 14 (by exact ⟨HBM.out _ _ (.slice h1 ni j1) (.slice h2 lo j2) HSxb2b1j1.out (by simp), fun _ => HBA.out _ _ HSxb2b1j1.out (by simp)⟩) ?_
   refine AnyL.tk 15 (by exact ⟨HBM.out _ _ (.slice h1 ni j1) (.slice h2 lo j2) HSxb2b1j1.out (by simp), fun _ => HBA.out _ _ HSxb2b1j1.out (by simp)⟩) ?_
   refine AnyL.step (i := 13) (by kernel_rfl) (by rfl) (fun K hK => ?_)
   go_simp
   have HCC := qd (HJ.out (.slice h2 lo j2) (.slice h3 lf j3) GO IL (by have := HL9.out; have := HLZ.out; have := HNI.out; omega) _ _ HLxb2b1j12.out)
   go_at_call 40
   with_reducible refine HCC.out.mono ?_
   rintro e wxb2b1j1j2 ⟨u2, rfl, hsg⟩
   obtain ⟨v2, e2_, rfl⟩ := own_shape hsg.hd
   generalize (GO ++ IL).length = q2 at *
   have HSxb2b1j1j2 := qd (HSxb2b1j1.out.graft1 hsg OI_own)
   clear hsg HCC
   refine shutNx hK _ (by exact HBM.out _ _ (.slice h1 ni j1) (.slice h2 lo j2) HSxb2b1j1j2.out (by simp)) (by exact fun _ => HBA.out _ _ HSxb2b1j1j2.out (by simp)) ?_
   clear hK K
   have hz := Sep.blk3 (X := []) (A := [_, _]) (B := [_]) HSxb2b1j1j2.out
   try simp only [List.nil_append, List.cons_append, List.append_eq] at hz
   have hz2 := hz.setB 2 (.slice v1 q1 e1_)
   simp only [List.setIfInBounds_toArray, List.set_cons_zero, List.set_cons_succ] at hz2
   have hz3 := hz2.setB 3 (.slice v2 q2 e2_)
   simp only [List.setIfInBounds_toArray, List.set_cons_zero, List.set_cons_succ] at hz3
   have hf2 := (rf15 hz.hd).2.2.1
   have hf3 := (rf15 hz2.hd).2.2.2.1
   obtain ⟨_, _, ck2, _⟩ := rq15 hz.hd
   obtain ⟨_, _, _, ck3, _⟩ := rq15 hz2.hd
   have hy1 := Sep.cutA (X := [_, _, _, _]) (A := [_, _, _, _, _, _]) hz3
   have hz9 := Sep.cutA (X := [_, _, _, _, _, _, _]) (A := [_, _, _]) hy1
   try simp only [List.nil_append, List.cons_append, List.append_eq] at hz9
   clear hy1
   have HZ9 := qd hz9
   have HZA := qd hz2
   have HZB := qd hz3
   clear hz hz2 hz3 hz9
   refine AnyL.step (i := 16) (by kernel_rfl) (by rfl) (fun K hK => ?_)
   go_simp
   refine shutNx hK (wxb2b1j1j2.setCell ⟨ob, 2, none⟩ (.slice v1 q1 e1_)) (by exact HBM.out _ _ (.slice v1 q1 e1_) (.slice h2 lo j2) HZA.out (by simp)) (by exact fun h => noTF (by kernel_rfl) h) ?_
   clear hK K
   refine AnyL.tk 17 (by exact ⟨HBM.out _ _ (.slice v1 q1 e1_) (.slice h2 lo j2) HZA.out (by simp), fun h => noTF (by kernel_rfl) h⟩) ?_
   refine AnyL.tk 18 (by exact ⟨HBM.out _ _ (.slice v1 q1 e1_) (.slice h2 lo j2) HZA.out (by simp), fun h => noTF (by kernel_rfl) h⟩) ?_
   refine AnyL.step (i := 19) (by kernel_rfl) (by rfl) (fun K hK => ?_)
   go_simp
   refine shutNx hK ((wxb2b1j1j2.setCell ⟨ob, 2, none⟩ (.slice v1 q1 e1_)).setCell ⟨ob, 3, none⟩ (.slice v2 q2 e2_)) (by exact HBM.out _ _ (.slice v1 q1 e1_) (.slice v2 q2 e2_) HZB.out (by simp)) (by exact fun h => noTF (by kernel_rfl) h) ?_
   clear hK K
   refine AnyL.done (by kernel_rfl) ?_ _
   go_wp2_with fail
   go_meet
   exact ⟨v1, v2, e1_, e2_, q1, q2, rfl, HZ9.out⟩
 case rest =>
  obtain ⟨v1, v2, e1_, f1_, q1, q2, rfl, hs⟩ := hcut
  have HS5 := qd hs
  clear hs HS4
  obtain ⟨kb0, kb1, kb2, kb3, kb4, kb5, kb6, kb7, kb8, kb9, kb10, kb11, kb12, kb13, kb14⟩ := rq15 HS5.out.hd
  have HCG := qd (HGL.out _ _ _ _ (by rw [← HZ.out]; exact OE.read HS5.out.tl.tl.tl.hd) (OwnInts.read (show OwnInts 0 _ (.slice v1 q1 e1_) (g.i ++ OL) from HS5.out.tl.tl.hd)) (OwnInts.read (show OwnInts 0 _ (.slice v2 q2 f1_) (GO ++ IL) from HS5.out.tl.hd)))
  go_wp2_with (
   go_at_call 41
   with_reducible refine HCG.out.mono ?_
   rintro e wg ⟨u0, us, z1, z2, tt, rfl, hy, hsg⟩
   have HY := qd hy
   obtain ⟨t0, p0, rfl⟩ := OE.shape hsg.hd
   obtain ⟨t1, p1, rfl⟩ := own_shape hsg.tl.hd
   obtain ⟨t2, p2, rfl⟩ := own_shape hsg.tl.tl.hd
   generalize hul : us.length = lu at *
   have HUL := qd hul
   clear hul
   have hs1 := HS5.out.graft3 hsg OE_own OI_own OI_own
   have hp1 := Sep.cutA (X := [_, _, _]) (A := [_, _, _, _]) hs1
   have hs2 := Sep.blk3 (X := []) (A := [_, _, _, _]) (B := [_]) hp1
   try simp only [List.nil_append, List.cons_append, List.append_eq] at hs2
   clear hp1
   obtain ⟨_, _, _, _, y4, y5, y6, y7⟩ := gq4 hs2.hd
   have hs3 := ((((hs2.setB 0 (.int .i64 K.n)).setB 1 (.slice t0 lu p0)).setB 2 (.slice t1 K.i.length p1)).setB 3 (.slice t2 K.o.length p2))
   have hs4 := Sep.blk3 (X := []) (A := [_, _, _, _]) (B := [_]) hs3
   try simp only [List.nil_append, List.cons_append, List.append_eq] at hs4
   have HSF := qd hs4
   clear hsg hy hs1 hs2 hs3 hs4 kb0 kb1 kb2 kb3 kb4 kb5 kb6 kb7 kb8 kb9 kb10 kb11 kb12 kb13 kb14)
  exact Go.Great.bodyPost_end0 rfl rfl ⟨rfl, _, ⟨t0, t1, t2, p0, p1, p2, lu, us, ⟨HY.out, HUL.out⟩, rfl⟩, HSF.out⟩
end Go.Proofs.YtjagjhchnpmngaaGreat

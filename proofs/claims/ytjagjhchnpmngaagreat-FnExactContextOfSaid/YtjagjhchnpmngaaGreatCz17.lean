/-
 One graph beside another, in the program. Conditions: the graphs are valid.
-/
import Derived.Test.YtjagjhchnpmngaaGreatCz06
import Derived.Test.YtjagjhchnpmngaaGreatCz05
import Derived.Test.YtjagjhchnpmngaaGreatCz04
import Derived.Test.YtjagjhchnpmngaaGreatCz03
import Derived.Test.YtjagjhchnpmngaaGreatCz02
import Derived.Test.YtjagjhchnpmngaaGreatCz01
import Derived.Test.YtjagjhchnpmngaaGreatCz00
import Derived.Test.YtjagjhchnpmngaaGreatCz15
import Derived.Test.YtjagjhchnpmngaaGreatCz16
set_option linter.unusedVariables false
set_option linter.unusedSimpArgs false
set_option maxRecDepth 100000
namespace Go.Proofs.YtjagjhchnpmngaaGreat
open Go.RowKit
theorem Sep.joinE {w : World} {l : List Asrt} {v : Value} {xs ys : List XE} (h : Sep w (OR edgeE v (xs ++ ys) :: (rowsE xs ++ (rowsE ys ++ l)))) : Sep w (OE v (xs ++ ys) :: l) := by
 have e : rowsE (xs ++ ys) = rowsE xs ++ rowsE ys := by unfold rowsE; rw [List.flatMap_append]
 refine Sep.bag (l := OR edgeE v (xs ++ ys) :: rowsE (xs ++ ys)) ?_
 rw [e, List.cons_append, List.append_assoc]
 exact h
theorem gr_rng {g : Gr} {n : Nat} (hg : grB g = true) (hn : g.n = n) : ∀ x ∈ wiresL g, 0 ≤ x ∧ x < (n : Int) := by
 obtain ⟨m, hm, _, _, _, _, h5, _⟩ := grB_n hg
 intro x hx
 have := rngB_iff.1 h5 x hx
 rw [hn] at this
 exact this
theorem edge_oneT {w : World} {ys : List XE} (h : ∀ A ∈ rowsE ys, A.holds w) : ∀ y ∈ ys, ∀ u ∈ edgeE.cs y, u.oneCell' = true := by
 intro y hy
 obtain ⟨ed, iv, ov⟩ := y
 have m1 : OI iv ed.i ∈ rowsE ys := List.mem_flatMap.2 ⟨_, hy, by simp⟩
 have m2 : OI ov ed.o ∈ rowsE ys := List.mem_flatMap.2 ⟨_, hy, by simp⟩
 obtain ⟨a1, c1, e1⟩ := own_shape (show OwnInts 0 w iv ed.i from h _ m1)
 obtain ⟨a2, c2, e2⟩ := own_shape (show OwnInts 0 w ov ed.o from h _ m2)
 subst e1 e2
 exact edge_one ed a1 _ c1 a2 _ c2
def BesideR (a b : Gr) (w : World) (e : Ending) (w' : World) : Prop :=
 ∃ u0 xs, e = .returned (.agg #[.int .i64 (a.n + b.n), u0, .slice none 0 0, .slice none 0 0]) ∧ eds xs = a.es ++ b.es.map (mapE (shL a b)) ∧ Sep w' [OE u0 xs, KeepA w]
set_option maxHeartbeats 8000000 in
theorem beside_any (a b : Gr) (ev iv ov ev' iv' ov' : Value) (w : World) (he : RdE edgeE w ev a.es) (hi : IntsV w iv a.i) (ho : IntsV w ov a.o) (he' : RdE edgeE w ev' b.es) (hi' : IntsV w iv' b.i) (ho' : IntsV w ov' b.o) (hga : grB a = true) (hgb : grB b = true) :
 Calls Tryz.prog 151 #[grV a.n ev iv ov, grV b.n ev' iv' ov'] w (BesideR a b w) := by
 obtain ⟨n, hn, hn1, a1, a2, a3, a4, a5, _⟩ := grB_n hga
 obtain ⟨m, hm, hm1, b1, b2, b3, b4, b5, _⟩ := grB_n hgb
 have hra := gr_rng hga hn
 have hrb := gr_rng hgb hm
 have hsh : shL a b = frL n m := by unfold shL; rw [hn, hm]; rfl
 have HU := qd fun W => upTo_any n W (by omega)
 have HFR := qd fun W => from_any n m W (by omega) (by omega)
 have HM1 := qd fun tv W (hW : w.grownBy W none) (ht : IntsV W tv (upL n)) => (show Calls Tryz.prog 83 #[grV a.n ev iv ov, .int .i64 n, tv] W fun e w' => ∃ u0 xs u1 u2, e = .returned (grV n u0 u1 u2) ∧ eds xs = a.es ∧ Sep w' [OE u0 xs, OI u1 a.i, OI u2 a.o, KeepA W] from by
  have h := moved_any ev iv ov tv a n (upL n) W (he.carry hW) (hi.carry hW) (ho.carry hW) ht (by omega) (by omega) (by omega) (fun e h => by have := a5 e h; omega) (by rw [upL_len]; exact hra)
  rw [mapE_up hra, map_up (fun x hx => hra x (by unfold wiresL; simp [hx])), map_up (fun x hx => hra x (by unfold wiresL; simp [hx]))] at h
  exact h)
 have HM2 := qd fun tv W (hW : w.grownBy W none) (ht : IntsV W tv (frL n m)) => (show Calls Tryz.prog 83 #[grV b.n ev' iv' ov', .int .i64 m, tv] W fun e w' => ∃ u0 xs u1 u2, e = .returned (grV m u0 u1 u2) ∧ eds xs = b.es.map (mapE (frL n m)) ∧ Sep w' [OE u0 xs, OI u1 (b.i.map (ofL (frL n m))), OI u2 (b.o.map (ofL (frL n m))), KeepA W] from
  moved_any ev' iv' ov' tv b m (frL n m) W (he'.carry hW) (hi'.carry hW) (ho'.carry hW) ht (by omega) (by omega) (by omega) (fun e h => by have := b5 e h; omega) (by rw [frL_len]; exact hrb))
 unfold BesideR
 rw [hsh, hn, hm]
 rw [hn] at HM1
 rw [hm] at HM2
 unfold grV at *
 obtain ⟨ea, ec, rfl⟩ := he.shape
 obtain ⟨ia, ic, rfl⟩ := hi.shape
 obtain ⟨oa, oc, rfl⟩ := ho.shape
 obtain ⟨eb, fc, rfl⟩ := he'.shape
 obtain ⟨ib, gc, rfl⟩ := hi'.shape
 obtain ⟨ob, hc, rfl⟩ := ho'.shape
 obtain ⟨es1, hes1⟩ : ∃ x, a.es = x := ⟨_, rfl⟩
 obtain ⟨es2, hes2⟩ : ∃ x, b.es.map (mapE (frL n m)) = x := ⟨_, rfl⟩
 rw [hes1] at HM1 a1 ⊢
 rw [hes2] at HM2 ⊢
 have hl2 : es2.length ≤ 60 := by rw [← hes2, List.length_map]; exact b1
 have HEL := qd (show (∀ l, l = es1 → l.length ≤ 60) ∧ ∀ l, l = es2 → l.length ≤ 60 from ⟨fun l h => by rw [h]; exact a1, fun l h => by rw [h]; exact hl2⟩)
 generalize es1.length = ne at *
 generalize b.es.length = me at *
 generalize a.i.length = ni at *
 generalize a.o.length = no at *
 generalize b.i.length = mi at *
 generalize b.o.length = mo at *
 generalize a.i = zi at *
 generalize a.o = zo at *
 generalize b.i.map (ofL (frL n m)) = zi2 at *
 generalize b.o.map (ofL (frL n m)) = zo2 at *
 clear he hi ho he' hi' ho' hga hgb hra hrb hsh a1 a2 a3 a4 a5 b1 b2 b3 b4 b5 hl2 hes1 hes2 hn hm
 have hs0 := (((((Sep.start w).boxAt w.heap.size rfl #[.int .i64 n, .slice ea ne ec, .slice ia ni ic, .slice oa no oc] 38).boxAt (w.heap.size + 1) (by simp) #[.int .i64 m, .slice eb me fc, .slice ib mi gc, .slice ob mo hc] 38).boxAt (w.heap.size + 2) (by simp) #[.int .i64 0, .slice none 0 0, .slice none 0 0, .slice none 0 0] 38).boxAt (w.heap.size + 3) (by simp) #[.int .i64 ((n : Int) + m), .slice none 0 0, .slice none 0 0, .slice none 0 0] 38)
 have HS0 := qd hs0
 obtain ⟨x0, x1, x2, x3, _⟩ := gq4 hs0.tl.tl.tl.hd
 obtain ⟨y0, y1, y2, y3, _⟩ := gq4 hs0.tl.tl.hd
 clear hs0
 have hwr : IntKind.i64.wrap ((n : Int) + (m : Int)) = (n : Int) + (m : Int) := wrap_id (by omega) (by omega)
 go_enter Tryz.func151, Tryz.ntmps151
 go_upto_region 2 with fail
 clear x0 x1 x2 x3 y0 y1 y2 y3
 generalize (((w.alloc (.cells #[.int .i64 n, .slice ea ne ec, .slice ia ni ic, .slice oa no oc] 38)).alloc (.cells #[.int .i64 m, .slice eb me fc, .slice ib mi gc, .slice ob mo hc] 38)).alloc (.cells #[.int .i64 0, .slice none 0 0, .slice none 0 0, .slice none 0 0] 38)).alloc (.cells #[.int .i64 ((n : Int) + m), .slice none 0 0, .slice none 0 0, .slice none 0 0] 38) = w1 at *
 have HBM := qd fun (W1 : World) (L : List Asrt) (h : Sep W1 L) (h1 : BxA w.heap.size #[.int .i64 n, .slice ea ne ec, .slice ia ni ic, .slice oa no oc] 38 ∈ L) (h2 : BxA (w.heap.size + 1) #[.int .i64 m, .slice eb me fc, .slice ib mi gc, .slice ob mo hc] 38 ∈ L) => show (W1.cell? ⟨w.heap.size, 0, none⟩ = some (.int .i64 n) ∧ W1.cell? ⟨w.heap.size, 1, none⟩ = some (.slice ea ne ec) ∧ W1.cell? ⟨w.heap.size, 2, none⟩ = some (.slice ia ni ic) ∧ W1.cell? ⟨w.heap.size, 3, none⟩ = some (.slice oa no oc)) ∧ W1.cell? ⟨w.heap.size + 1, 0, none⟩ = some (.int .i64 m) ∧ W1.cell? ⟨w.heap.size + 1, 1, none⟩ = some (.slice eb me fc) ∧ W1.cell? ⟨w.heap.size + 1, 2, none⟩ = some (.slice ib mi gc) ∧ W1.cell? ⟨w.heap.size + 1, 3, none⟩ = some (.slice ob mo hc) from by
  obtain ⟨p0, p1, p2, p3, _⟩ := gq4 (show W1.heap[w.heap.size]? = some (.cells #[.int .i64 n, .slice ea ne ec, .slice ia ni ic, .slice oa no oc] 38 (0, 0)) from Sep.all h _ h1)
  obtain ⟨q0, q1, q2, q3, _⟩ := gq4 (show W1.heap[w.heap.size + 1]? = some (.cells #[.int .i64 m, .slice eb me fc, .slice ib mi gc, .slice ob mo hc] 38 (0, 0)) from Sep.all h _ h2)
  exact ⟨⟨p0, p1, p2, p3⟩, q0, q1, q2, q3⟩
 go_cut [6] from 14 to 20 (fun v6 wx => ∃ (f1 : Nat) (sa0 : Option Addr) (sc0 : Nat) (xs : List XE) (sa1 : Option Addr) (sc1 : Nat) (sa2 : Option Addr) (sc2 : Nat), v6 = .pointer (some ⟨f1, 0, none⟩) ∧ eds xs = es1 ∧ Sep wx [BxA f1 #[.int .i64 n, .slice sa0 xs.length sc0, .slice sa1 zi.length sc1, .slice sa2 zo.length sc2] 38, OE (.slice sa0 xs.length sc0) xs, BxA (w.heap.size + 3) #[.int .i64 ((n : Int) + m), .slice none 0 0, .slice none 0 0, .slice none 0 0] 38, BxA (w.heap.size + 2) #[.int .i64 0, .slice none 0 0, .slice none 0 0, .slice none 0 0] 38, BxA (w.heap.size + 1) #[.int .i64 m, .slice eb me fc, .slice ib mi gc, .slice ob mo hc] 38, BxA w.heap.size #[.int .i64 n, .slice ea ne ec, .slice ia ni ic, .slice oa no oc] 38, KeepA w])
 case first =>
  have HSA := qd HS0.out.dr
  have XA := qd (HBM.out _ _ HSA.out (by simp) (by simp))
  refine AnyL.start (fun W1 => (W1.cell? ⟨w.heap.size, 0, none⟩ = some (.int .i64 n) ∧ W1.cell? ⟨w.heap.size, 1, none⟩ = some (.slice ea ne ec) ∧ W1.cell? ⟨w.heap.size, 2, none⟩ = some (.slice ia ni ic) ∧ W1.cell? ⟨w.heap.size, 3, none⟩ = some (.slice oa no oc)) ∧ W1.cell? ⟨w.heap.size + 1, 0, none⟩ = some (.int .i64 m) ∧ W1.cell? ⟨w.heap.size + 1, 1, none⟩ = some (.slice eb me fc) ∧ W1.cell? ⟨w.heap.size + 1, 2, none⟩ = some (.slice ib mi gc) ∧ W1.cell? ⟨w.heap.size + 1, 3, none⟩ = some (.slice ob mo hc)) (fun _ => True) 99 (by kernel_rfl) ?_
  generalize w1.drew = wd at *
  refine AnyL.tT 0 (by exact XA.out) ?_
  refine AnyL.tT 1 (by exact XA.out) ?_
  refine AnyL.tT 2 (by exact XA.out) ?_
  refine AnyL.tT 3 (by exact XA.out) ?_
  refine AnyL.tT 4 (by exact XA.out) ?_
  refine AnyL.twoM (i := 5) (j := 7) (by kernel_rfl) (by rfl) (by rfl) (fun K hK => ?_) (fun K hK => ?_)
  ·go_simp
   go_at_call 77
   with_reducible refine (HU.out _).mono ?_
   rintro e wc ⟨ug, uc, rfl, hsg⟩
   have HSc := qd (HSA.out.graft1 hsg OI_own)
   have HKV := qd (show w.grownBy wc none from Sep.all HSc.out (KeepA w) (by simp))
   have HUV := qd (show OwnInts 0 wc _ (upL n) from HSc.out.hd).read
   clear hsg
   refine shutNx hK _ (by exact HBM.out _ _ HSc.out (by simp) (by simp)) (by exact fun _ => trivial) ?_
   clear hK K
   refine AnyL.twoM (i := 6) (j := 7) (by kernel_rfl) (by rfl) (by rfl) (fun K hK => ?_) (fun K hK => ?_)
   ·go_simp
    have HCC := qd (HM1.out _ _ HKV.out HUV.out)
    go_at_call 83
    with_reducible refine HCC.out.mono ?_
    rintro e wcc ⟨u0, xs, u1, u2, rfl, hx, hsg⟩
    obtain ⟨sa0, sc0, rfl⟩ := OE.shape hsg.hd
    obtain ⟨sa1, sc1, rfl⟩ := own_shape (show OwnInts 0 _ u1 _ from hsg.tl.hd)
    obtain ⟨sa2, sc2, rfl⟩ := own_shape (show OwnInts 0 _ u2 _ from hsg.tl.tl.hd)
    have hq := Sep.cutA (X := [_]) (A := [_, _]) (HSc.out.graft3 hsg OE_own OI_own OI_own)
    have HScc := qd (Sep.cutA (X := [_]) (A := [_]) hq)
    have HX := qd hx
    clear hsg hx hq
    refine shutNx hK _ (by exact HBM.out _ _ HScc.out (by simp) (by simp)) (by exact fun _ => trivial) ?_
    clear hK K
    refine AnyL.step (i := 7) (by kernel_rfl) (by rfl) (fun K hK => ?_)
    go_simp
    have HSccz := qd (HScc.out.boxAt (wcc.heap.size) (by rfl) #[.int .i64 0, .slice none 0 0, .slice none 0 0, .slice none 0 0] 38)
    refine shutNx hK (wcc.alloc (.cells #[.int .i64 0, .slice none 0 0, .slice none 0 0, .slice none 0 0] 38)) (by exact HBM.out _ _ HSccz.out (by simp) (by simp)) (by exact fun _ => trivial) ?_
    clear hK K
    generalize wcc.alloc (.cells #[.int .i64 0, .slice none 0 0, .slice none 0 0, .slice none 0 0] 38) = wccz at *
    generalize wcc.heap.size = f1 at *
    have hz := HSccz.out
    obtain ⟨y0, y1, y2, y3, ff0, ff1, ff2, ff3⟩ := gq4 hz.hd
    have hz2 := (((hz.setB 0 (.int .i64 n)).setB 1 (.slice sa0 xs.length sc0)).setB 2 (.slice sa1 zi.length sc1)).setB 3 (.slice sa2 zo.length sc2)
    have HZ9 := qd hz2
    clear hz hz2
    refine AnyL.step (i := 8) (by kernel_rfl) (by rfl) (fun K hK => ?_)
    go_simp
    refine shutNx hK ((((wccz.setCell ⟨f1, 0, none⟩ (.int .i64 n)).setCell ⟨f1, 1, none⟩ (.slice sa0 xs.length sc0)).setCell ⟨f1, 2, none⟩ (.slice sa1 zi.length sc1)).setCell ⟨f1, 3, none⟩ (.slice sa2 zo.length sc2)) (by exact HBM.out _ _ HZ9.out (by simp) (by simp)) (by exact fun _ => trivial) ?_
    clear hK K
    refine AnyL.done (by kernel_rfl) ?_ _
    generalize (((wccz.setCell ⟨f1, 0, none⟩ (.int .i64 n)).setCell ⟨f1, 1, none⟩ (.slice sa0 xs.length sc0)).setCell ⟨f1, 2, none⟩ (.slice sa1 zi.length sc1)).setCell ⟨f1, 3, none⟩ (.slice sa2 zo.length sc2) = w9 at *
    clear y0 y1 y2 y3 ff0 ff1 ff2 ff3
    go_wp2_with fail
    go_meet
    exact ⟨f1, sa0, sc0, xs, sa1, sc1, sa2, sc2, rfl, HX.out, HZ9.out⟩
   ·go_simp
    have HScz := qd (HSc.out.boxAt (wc.heap.size) (by rfl) #[.int .i64 0, .slice none 0 0, .slice none 0 0, .slice none 0 0] 38)
    refine shutNx hK (wc.alloc (.cells #[.int .i64 0, .slice none 0 0, .slice none 0 0, .slice none 0 0] 38)) (by exact HBM.out _ _ HScz.out (by simp) (by simp)) (by exact fun _ => trivial) ?_
    clear hK K
    generalize wc.alloc (.cells #[.int .i64 0, .slice none 0 0, .slice none 0 0, .slice none 0 0] 38) = wcz at *
    generalize wc.heap.size = f1 at *
    refine AnyL.step (i := 6) (by kernel_rfl) (by rfl) (fun K hK => ?_)
    go_simp
    have HCC := qd (HM1.out _ _ (show w.grownBy wcz none from Sep.all HScz.out (KeepA w) (by simp)) (show OwnInts 0 wcz _ (upL n) from HScz.out.tl.hd).read)
    go_at_call 83
    with_reducible refine HCC.out.mono ?_
    rintro e wczc ⟨u0, xs, u1, u2, rfl, hx, hsg⟩
    obtain ⟨sa0, sc0, rfl⟩ := OE.shape hsg.hd
    obtain ⟨sa1, sc1, rfl⟩ := own_shape (show OwnInts 0 _ u1 _ from hsg.tl.hd)
    obtain ⟨sa2, sc2, rfl⟩ := own_shape (show OwnInts 0 _ u2 _ from hsg.tl.tl.hd)
    have hq := Sep.cutA (X := [_]) (A := [_, _]) (HScz.out.graft3 hsg OE_own OI_own OI_own)
    have HSczc := qd (Sep.cutA (X := [_, _]) (A := [_]) hq)
    have HX := qd hx
    clear hsg hx hq
    refine shutNx hK _ (by exact HBM.out _ _ HSczc.out (by simp) (by simp)) (by exact fun _ => trivial) ?_
    clear hK K
    have hz := Sep.blk (A := [_]) (B := [_]) HSczc.out
    obtain ⟨y0, y1, y2, y3, ff0, ff1, ff2, ff3⟩ := gq4 hz.hd
    have hz2 := (((hz.setB 0 (.int .i64 n)).setB 1 (.slice sa0 xs.length sc0)).setB 2 (.slice sa1 zi.length sc1)).setB 3 (.slice sa2 zo.length sc2)
    have HZ9 := qd hz2
    clear hz hz2
    refine AnyL.step (i := 8) (by kernel_rfl) (by rfl) (fun K hK => ?_)
    go_simp
    refine shutNx hK ((((wczc.setCell ⟨f1, 0, none⟩ (.int .i64 n)).setCell ⟨f1, 1, none⟩ (.slice sa0 xs.length sc0)).setCell ⟨f1, 2, none⟩ (.slice sa1 zi.length sc1)).setCell ⟨f1, 3, none⟩ (.slice sa2 zo.length sc2)) (by exact HBM.out _ _ HZ9.out (by simp) (by simp)) (by exact fun _ => trivial) ?_
    clear hK K
    refine AnyL.done (by kernel_rfl) ?_ _
    generalize (((wczc.setCell ⟨f1, 0, none⟩ (.int .i64 n)).setCell ⟨f1, 1, none⟩ (.slice sa0 xs.length sc0)).setCell ⟨f1, 2, none⟩ (.slice sa1 zi.length sc1)).setCell ⟨f1, 3, none⟩ (.slice sa2 zo.length sc2) = w9 at *
    clear y0 y1 y2 y3 ff0 ff1 ff2 ff3
    go_wp2_with fail
    go_meet
    exact ⟨f1, sa0, sc0, xs, sa1, sc1, sa2, sc2, rfl, HX.out, HZ9.out⟩
  ·go_simp
   have HSz := qd (HSA.out.boxAt (wd.heap.size) (by rfl) #[.int .i64 0, .slice none 0 0, .slice none 0 0, .slice none 0 0] 38)
   refine shutNx hK (wd.alloc (.cells #[.int .i64 0, .slice none 0 0, .slice none 0 0, .slice none 0 0] 38)) (by exact HBM.out _ _ HSz.out (by simp) (by simp)) (by exact fun _ => trivial) ?_
   clear hK K
   generalize wd.alloc (.cells #[.int .i64 0, .slice none 0 0, .slice none 0 0, .slice none 0 0] 38) = wz at *
   generalize wd.heap.size = f1 at *
   refine AnyL.step (i := 5) (by kernel_rfl) (by rfl) (fun K hK => ?_)
   go_simp
   go_at_call 77
   with_reducible refine (HU.out _).mono ?_
   rintro e wzc ⟨ug, uc, rfl, hsg⟩
   have HSzc := qd (HSz.out.graft1 hsg OI_own)
   have HKV := qd (show w.grownBy wzc none from Sep.all HSzc.out (KeepA w) (by simp))
   have HUV := qd (show OwnInts 0 wzc _ (upL n) from HSzc.out.hd).read
   clear hsg
   refine shutNx hK _ (by exact HBM.out _ _ HSzc.out (by simp) (by simp)) (by exact fun _ => trivial) ?_
   clear hK K
   refine AnyL.step (i := 6) (by kernel_rfl) (by rfl) (fun K hK => ?_)
   go_simp
   have HCC := qd (HM1.out _ _ HKV.out HUV.out)
   go_at_call 83
   with_reducible refine HCC.out.mono ?_
   rintro e wzcc ⟨u0, xs, u1, u2, rfl, hx, hsg⟩
   obtain ⟨sa0, sc0, rfl⟩ := OE.shape hsg.hd
   obtain ⟨sa1, sc1, rfl⟩ := own_shape (show OwnInts 0 _ u1 _ from hsg.tl.hd)
   obtain ⟨sa2, sc2, rfl⟩ := own_shape (show OwnInts 0 _ u2 _ from hsg.tl.tl.hd)
   have hq := Sep.cutA (X := [_]) (A := [_, _]) (HSzc.out.graft3 hsg OE_own OI_own OI_own)
   have HSzcc := qd (Sep.cutA (X := [_]) (A := [_]) hq)
   have HX := qd hx
   clear hsg hx hq
   refine shutNx hK _ (by exact HBM.out _ _ HSzcc.out (by simp) (by simp)) (by exact fun _ => trivial) ?_
   clear hK K
   have hz := Sep.blk (A := [_]) (B := [_]) HSzcc.out
   obtain ⟨y0, y1, y2, y3, ff0, ff1, ff2, ff3⟩ := gq4 hz.hd
   have hz2 := (((hz.setB 0 (.int .i64 n)).setB 1 (.slice sa0 xs.length sc0)).setB 2 (.slice sa1 zi.length sc1)).setB 3 (.slice sa2 zo.length sc2)
   have HZ9 := qd hz2
   clear hz hz2
   refine AnyL.step (i := 8) (by kernel_rfl) (by rfl) (fun K hK => ?_)
   go_simp
   refine shutNx hK ((((wzcc.setCell ⟨f1, 0, none⟩ (.int .i64 n)).setCell ⟨f1, 1, none⟩ (.slice sa0 xs.length sc0)).setCell ⟨f1, 2, none⟩ (.slice sa1 zi.length sc1)).setCell ⟨f1, 3, none⟩ (.slice sa2 zo.length sc2)) (by exact HBM.out _ _ HZ9.out (by simp) (by simp)) (by exact fun _ => trivial) ?_
   clear hK K
   refine AnyL.done (by kernel_rfl) ?_ _
   generalize (((wzcc.setCell ⟨f1, 0, none⟩ (.int .i64 n)).setCell ⟨f1, 1, none⟩ (.slice sa0 xs.length sc0)).setCell ⟨f1, 2, none⟩ (.slice sa1 zi.length sc1)).setCell ⟨f1, 3, none⟩ (.slice sa2 zo.length sc2) = w9 at *
   clear y0 y1 y2 y3 ff0 ff1 ff2 ff3
   go_wp2_with fail
   go_meet
   exact ⟨f1, sa0, sc0, xs, sa1, sc1, sa2, sc2, rfl, HX.out, HZ9.out⟩
 case rest =>
  obtain ⟨f1, sa0, sc0, xs, sa1, sc1, sa2, sc2, rfl, hx, hs⟩ := hcut
  have HX1 := qd hx
  have HS2 := qd hs
  clear hx hs HS0
  generalize wc = w2 at *
  go_upto_region 3 with fail
  go_cut [7] from 21 to 29 (fun v7 wx => ∃ (f2 : Nat) (sb0 : Option Addr) (sd0 : Nat) (ys : List XE) (sb1 : Option Addr) (sd1 : Nat) (sb2 : Option Addr) (sd2 : Nat), v7 = .pointer (some ⟨f2, 0, none⟩) ∧ eds ys = es2 ∧ Sep wx [BxA f2 #[.int .i64 m, .slice sb0 ys.length sd0, .slice sb1 zi2.length sd1, .slice sb2 zo2.length sd2] 38, OE (.slice sb0 ys.length sd0) ys, BxA f1 #[.int .i64 n, .slice sa0 xs.length sc0, .slice sa1 zi.length sc1, .slice sa2 zo.length sc2] 38, OE (.slice sa0 xs.length sc0) xs, BxA (w.heap.size + 3) #[.int .i64 ((n : Int) + m), .slice none 0 0, .slice none 0 0, .slice none 0 0] 38, BxA (w.heap.size + 2) #[.int .i64 0, .slice none 0 0, .slice none 0 0, .slice none 0 0] 38, BxA (w.heap.size + 1) #[.int .i64 m, .slice eb me fc, .slice ib mi gc, .slice ob mo hc] 38, BxA w.heap.size #[.int .i64 n, .slice ea ne ec, .slice ia ni ic, .slice oa no oc] 38, KeepA w])
  case first =>
   have HSA := qd HS2.out.dr
   have XA := qd (HBM.out _ _ HSA.out (by simp) (by simp))
   refine AnyL.start (fun W1 => (W1.cell? ⟨w.heap.size, 0, none⟩ = some (.int .i64 n) ∧ W1.cell? ⟨w.heap.size, 1, none⟩ = some (.slice ea ne ec) ∧ W1.cell? ⟨w.heap.size, 2, none⟩ = some (.slice ia ni ic) ∧ W1.cell? ⟨w.heap.size, 3, none⟩ = some (.slice oa no oc)) ∧ W1.cell? ⟨w.heap.size + 1, 0, none⟩ = some (.int .i64 m) ∧ W1.cell? ⟨w.heap.size + 1, 1, none⟩ = some (.slice eb me fc) ∧ W1.cell? ⟨w.heap.size + 1, 2, none⟩ = some (.slice ib mi gc) ∧ W1.cell? ⟨w.heap.size + 1, 3, none⟩ = some (.slice ob mo hc)) (fun _ => True) 99 (by kernel_rfl) ?_
   generalize w2.drew = wd at *
   refine AnyL.tT 0 (by exact XA.out) ?_
   refine AnyL.tT 1 (by exact XA.out) ?_
   refine AnyL.tT 2 (by exact XA.out) ?_
   refine AnyL.tT 3 (by exact XA.out) ?_
   refine AnyL.tT 4 (by exact XA.out) ?_
   refine AnyL.tT 5 (by exact XA.out) ?_
   refine AnyL.tT 6 (by exact XA.out) ?_
   refine AnyL.twoM (i := 7) (j := 9) (by kernel_rfl) (by rfl) (by rfl) (fun K hK => ?_) (fun K hK => ?_)
   ·go_simp
    go_at_call 124
    with_reducible refine (HFR.out _).mono ?_
    rintro e wc ⟨ug, uc, rfl, hsg⟩
    have HSc := qd (HSA.out.graft1 hsg OI_own)
    have HKV := qd (show w.grownBy wc none from Sep.all HSc.out (KeepA w) (by simp))
    have HUV := qd (show OwnInts 0 wc _ (frL n m) from HSc.out.hd).read
    clear hsg
    refine shutNx hK _ (by exact HBM.out _ _ HSc.out (by simp) (by simp)) (by exact fun _ => trivial) ?_
    clear hK K
    refine AnyL.twoM (i := 8) (j := 9) (by kernel_rfl) (by rfl) (by rfl) (fun K hK => ?_) (fun K hK => ?_)
    ·go_simp
     have HCC := qd (HM2.out _ _ HKV.out HUV.out)
     go_at_call 83
     with_reducible refine HCC.out.mono ?_
     rintro e wcc ⟨u0, ys, u1, u2, rfl, hx, hsg⟩
     obtain ⟨sb0, sd0, rfl⟩ := OE.shape hsg.hd
     obtain ⟨sb1, sd1, rfl⟩ := own_shape (show OwnInts 0 _ u1 _ from hsg.tl.hd)
     obtain ⟨sb2, sd2, rfl⟩ := own_shape (show OwnInts 0 _ u2 _ from hsg.tl.tl.hd)
     have hq := Sep.cutA (X := [_]) (A := [_, _]) (HSc.out.graft3 hsg OE_own OI_own OI_own)
     have HScc := qd (Sep.cutA (X := [_]) (A := [_]) hq)
     have HX := qd hx
     clear hsg hx hq
     refine shutNx hK _ (by exact HBM.out _ _ HScc.out (by simp) (by simp)) (by exact fun _ => trivial) ?_
     clear hK K
     refine AnyL.step (i := 9) (by kernel_rfl) (by rfl) (fun K hK => ?_)
     go_simp
     have HSccz := qd (HScc.out.boxAt (wcc.heap.size) (by rfl) #[.int .i64 0, .slice none 0 0, .slice none 0 0, .slice none 0 0] 38)
     refine shutNx hK (wcc.alloc (.cells #[.int .i64 0, .slice none 0 0, .slice none 0 0, .slice none 0 0] 38)) (by exact HBM.out _ _ HSccz.out (by simp) (by simp)) (by exact fun _ => trivial) ?_
     clear hK K
     generalize wcc.alloc (.cells #[.int .i64 0, .slice none 0 0, .slice none 0 0, .slice none 0 0] 38) = wccz at *
     generalize wcc.heap.size = f2 at *
     have hz := HSccz.out
     obtain ⟨y0, y1, y2, y3, ff0, ff1, ff2, ff3⟩ := gq4 hz.hd
     have hz2 := (((hz.setB 0 (.int .i64 m)).setB 1 (.slice sb0 ys.length sd0)).setB 2 (.slice sb1 zi2.length sd1)).setB 3 (.slice sb2 zo2.length sd2)
     have HZ9 := qd hz2
     clear hz hz2
     refine AnyL.step (i := 10) (by kernel_rfl) (by rfl) (fun K hK => ?_)
     go_simp
     refine shutNx hK ((((wccz.setCell ⟨f2, 0, none⟩ (.int .i64 m)).setCell ⟨f2, 1, none⟩ (.slice sb0 ys.length sd0)).setCell ⟨f2, 2, none⟩ (.slice sb1 zi2.length sd1)).setCell ⟨f2, 3, none⟩ (.slice sb2 zo2.length sd2)) (by exact HBM.out _ _ HZ9.out (by simp) (by simp)) (by exact fun _ => trivial) ?_
     clear hK K
     refine AnyL.done (by kernel_rfl) ?_ _
     generalize (((wccz.setCell ⟨f2, 0, none⟩ (.int .i64 m)).setCell ⟨f2, 1, none⟩ (.slice sb0 ys.length sd0)).setCell ⟨f2, 2, none⟩ (.slice sb1 zi2.length sd1)).setCell ⟨f2, 3, none⟩ (.slice sb2 zo2.length sd2) = w9 at *
     clear y0 y1 y2 y3 ff0 ff1 ff2 ff3
     go_wp2_with fail
     go_meet
     exact ⟨f2, sb0, sd0, ys, sb1, sd1, sb2, sd2, rfl, HX.out, HZ9.out⟩
    ·go_simp
     have HScz := qd (HSc.out.boxAt (wc.heap.size) (by rfl) #[.int .i64 0, .slice none 0 0, .slice none 0 0, .slice none 0 0] 38)
     refine shutNx hK (wc.alloc (.cells #[.int .i64 0, .slice none 0 0, .slice none 0 0, .slice none 0 0] 38)) (by exact HBM.out _ _ HScz.out (by simp) (by simp)) (by exact fun _ => trivial) ?_
     clear hK K
     generalize wc.alloc (.cells #[.int .i64 0, .slice none 0 0, .slice none 0 0, .slice none 0 0] 38) = wcz at *
     generalize wc.heap.size = f2 at *
     refine AnyL.step (i := 8) (by kernel_rfl) (by rfl) (fun K hK => ?_)
     go_simp
     have HCC := qd (HM2.out _ _ (show w.grownBy wcz none from Sep.all HScz.out (KeepA w) (by simp)) (show OwnInts 0 wcz _ (frL n m) from HScz.out.tl.hd).read)
     go_at_call 83
     with_reducible refine HCC.out.mono ?_
     rintro e wczc ⟨u0, ys, u1, u2, rfl, hx, hsg⟩
     obtain ⟨sb0, sd0, rfl⟩ := OE.shape hsg.hd
     obtain ⟨sb1, sd1, rfl⟩ := own_shape (show OwnInts 0 _ u1 _ from hsg.tl.hd)
     obtain ⟨sb2, sd2, rfl⟩ := own_shape (show OwnInts 0 _ u2 _ from hsg.tl.tl.hd)
     have hq := Sep.cutA (X := [_]) (A := [_, _]) (HScz.out.graft3 hsg OE_own OI_own OI_own)
     have HSczc := qd (Sep.cutA (X := [_, _]) (A := [_]) hq)
     have HX := qd hx
     clear hsg hx hq
     refine shutNx hK _ (by exact HBM.out _ _ HSczc.out (by simp) (by simp)) (by exact fun _ => trivial) ?_
     clear hK K
     have hz := Sep.blk (A := [_]) (B := [_]) HSczc.out
     obtain ⟨y0, y1, y2, y3, ff0, ff1, ff2, ff3⟩ := gq4 hz.hd
     have hz2 := (((hz.setB 0 (.int .i64 m)).setB 1 (.slice sb0 ys.length sd0)).setB 2 (.slice sb1 zi2.length sd1)).setB 3 (.slice sb2 zo2.length sd2)
     have HZ9 := qd hz2
     clear hz hz2
     refine AnyL.step (i := 10) (by kernel_rfl) (by rfl) (fun K hK => ?_)
     go_simp
     refine shutNx hK ((((wczc.setCell ⟨f2, 0, none⟩ (.int .i64 m)).setCell ⟨f2, 1, none⟩ (.slice sb0 ys.length sd0)).setCell ⟨f2, 2, none⟩ (.slice sb1 zi2.length sd1)).setCell ⟨f2, 3, none⟩ (.slice sb2 zo2.length sd2)) (by exact HBM.out _ _ HZ9.out (by simp) (by simp)) (by exact fun _ => trivial) ?_
     clear hK K
     refine AnyL.done (by kernel_rfl) ?_ _
     generalize (((wczc.setCell ⟨f2, 0, none⟩ (.int .i64 m)).setCell ⟨f2, 1, none⟩ (.slice sb0 ys.length sd0)).setCell ⟨f2, 2, none⟩ (.slice sb1 zi2.length sd1)).setCell ⟨f2, 3, none⟩ (.slice sb2 zo2.length sd2) = w9 at *
     clear y0 y1 y2 y3 ff0 ff1 ff2 ff3
     go_wp2_with fail
     go_meet
     exact ⟨f2, sb0, sd0, ys, sb1, sd1, sb2, sd2, rfl, HX.out, HZ9.out⟩
   ·go_simp
    have HSz := qd (HSA.out.boxAt (wd.heap.size) (by rfl) #[.int .i64 0, .slice none 0 0, .slice none 0 0, .slice none 0 0] 38)
    refine shutNx hK (wd.alloc (.cells #[.int .i64 0, .slice none 0 0, .slice none 0 0, .slice none 0 0] 38)) (by exact HBM.out _ _ HSz.out (by simp) (by simp)) (by exact fun _ => trivial) ?_
    clear hK K
    generalize wd.alloc (.cells #[.int .i64 0, .slice none 0 0, .slice none 0 0, .slice none 0 0] 38) = wz at *
    generalize wd.heap.size = f2 at *
    refine AnyL.step (i := 7) (by kernel_rfl) (by rfl) (fun K hK => ?_)
    go_simp
    go_at_call 124
    with_reducible refine (HFR.out _).mono ?_
    rintro e wzc ⟨ug, uc, rfl, hsg⟩
    have HSzc := qd (HSz.out.graft1 hsg OI_own)
    have HKV := qd (show w.grownBy wzc none from Sep.all HSzc.out (KeepA w) (by simp))
    have HUV := qd (show OwnInts 0 wzc _ (frL n m) from HSzc.out.hd).read
    clear hsg
    refine shutNx hK _ (by exact HBM.out _ _ HSzc.out (by simp) (by simp)) (by exact fun _ => trivial) ?_
    clear hK K
    refine AnyL.step (i := 8) (by kernel_rfl) (by rfl) (fun K hK => ?_)
    go_simp
    have HCC := qd (HM2.out _ _ HKV.out HUV.out)
    go_at_call 83
    with_reducible refine HCC.out.mono ?_
    rintro e wzcc ⟨u0, ys, u1, u2, rfl, hx, hsg⟩
    obtain ⟨sb0, sd0, rfl⟩ := OE.shape hsg.hd
    obtain ⟨sb1, sd1, rfl⟩ := own_shape (show OwnInts 0 _ u1 _ from hsg.tl.hd)
    obtain ⟨sb2, sd2, rfl⟩ := own_shape (show OwnInts 0 _ u2 _ from hsg.tl.tl.hd)
    have hq := Sep.cutA (X := [_]) (A := [_, _]) (HSzc.out.graft3 hsg OE_own OI_own OI_own)
    have HSzcc := qd (Sep.cutA (X := [_]) (A := [_]) hq)
    have HX := qd hx
    clear hsg hx hq
    refine shutNx hK _ (by exact HBM.out _ _ HSzcc.out (by simp) (by simp)) (by exact fun _ => trivial) ?_
    clear hK K
    have hz := Sep.blk (A := [_]) (B := [_]) HSzcc.out
    obtain ⟨y0, y1, y2, y3, ff0, ff1, ff2, ff3⟩ := gq4 hz.hd
    have hz2 := (((hz.setB 0 (.int .i64 m)).setB 1 (.slice sb0 ys.length sd0)).setB 2 (.slice sb1 zi2.length sd1)).setB 3 (.slice sb2 zo2.length sd2)
    have HZ9 := qd hz2
    clear hz hz2
    refine AnyL.step (i := 10) (by kernel_rfl) (by rfl) (fun K hK => ?_)
    go_simp
    refine shutNx hK ((((wzcc.setCell ⟨f2, 0, none⟩ (.int .i64 m)).setCell ⟨f2, 1, none⟩ (.slice sb0 ys.length sd0)).setCell ⟨f2, 2, none⟩ (.slice sb1 zi2.length sd1)).setCell ⟨f2, 3, none⟩ (.slice sb2 zo2.length sd2)) (by exact HBM.out _ _ HZ9.out (by simp) (by simp)) (by exact fun _ => trivial) ?_
    clear hK K
    refine AnyL.done (by kernel_rfl) ?_ _
    generalize (((wzcc.setCell ⟨f2, 0, none⟩ (.int .i64 m)).setCell ⟨f2, 1, none⟩ (.slice sb0 ys.length sd0)).setCell ⟨f2, 2, none⟩ (.slice sb1 zi2.length sd1)).setCell ⟨f2, 3, none⟩ (.slice sb2 zo2.length sd2) = w9 at *
    clear y0 y1 y2 y3 ff0 ff1 ff2 ff3
    go_wp2_with fail
    go_meet
    exact ⟨f2, sb0, sd0, ys, sb1, sd1, sb2, sd2, rfl, HX.out, HZ9.out⟩
  case rest =>
   obtain ⟨f2, sb0, sd0, ys, sb1, sd1, sb2, sd2, rfl, hx, hs⟩ := hcut
   have HX2 := qd hx
   generalize wc = w3 at *
   have HS3 := qd hs
   clear hx HS2
   obtain ⟨_, x1, _⟩ := gq4 hs.hd
   obtain ⟨_, y1, _⟩ := gq4 hs.tl.tl.hd
   clear hs
   have hE := Sep.unbag (l := OR edgeE (.slice sa0 xs.length sc0) xs :: rowsE xs) (Sep.blk (A := [_, _, _]) (B := [_]) HS3.out)
   have HE := qd (show Sep w3 (OR edgeE (.slice sa0 xs.length sc0) xs :: (rowsE xs ++ [BxA f2 #[.int .i64 m, .slice sb0 ys.length sd0, .slice sb1 zi2.length sd1, .slice sb2 zo2.length sd2] 38, OE (.slice sb0 ys.length sd0) ys, BxA f1 #[.int .i64 n, .slice sa0 xs.length sc0, .slice sa1 zi.length sc1, .slice sa2 zo.length sc2] 38, BxA (w.heap.size + 3) #[.int .i64 ((n : Int) + m), .slice none 0 0, .slice none 0 0, .slice none 0 0] 38, BxA (w.heap.size + 2) #[.int .i64 0, .slice none 0 0, .slice none 0 0, .slice none 0 0] 38, BxA (w.heap.size + 1) #[.int .i64 m, .slice eb me fc, .slice ib mi gc, .slice ob mo hc] 38, BxA w.heap.size #[.int .i64 n, .slice ea ne ec, .slice ia ni ic, .slice oa no oc] 38, KeepA w])) from hE)
   have HRD := qd (OwnR.read (show OwnR edgeE 0 w3 (.slice sb0 ys.length sd0) ys from (Sep.unbag (l := OR edgeE (.slice sb0 ys.length sd0) ys :: rowsE ys) HS3.out.tl).hd))
   clear hE
   have HONE := qd (edge_oneT (w := w3) (ys := ys) (fun A hA => Sep.all (Sep.unbag (l := OR edgeE (.slice sb0 ys.length sd0) ys :: rowsE ys) HS3.out.tl).tl A (List.mem_append_left _ hA)))
   have HLS := qd (show xs.length + ys.length ≤ 10000000 from by have h1 := HEL.out.1 _ HX1.out; have h2 := HEL.out.2 _ HX2.out; rw [eds_len] at h1 h2; omega)
   go_wp2_with (
    at_builtin
    go_loud (
    refine app_RsG (E := edgeE) info_edge rfl (by decide) Tryz.underlying36 HONE.out rfl (.tmp 31) (.tmp 33) rfl rfl rfl HE.out HRD.out HLS.out ?_
    intro v4 w4 h4
    have k1 : Sep w4 ([BxA f2 #[.int .i64 m, .slice sb0 ys.length sd0, .slice sb1 zi2.length sd1, .slice sb2 zo2.length sd2] 38, OE (.slice sb0 ys.length sd0) ys] ++ ((OR edgeE v4 (xs ++ ys) :: rowsE xs) ++ [BxA f1 #[.int .i64 n, .slice sa0 xs.length sc0, .slice sa1 zi.length sc1, .slice sa2 zo.length sc2] 38, BxA (w.heap.size + 3) #[.int .i64 ((n : Int) + m), .slice none 0 0, .slice none 0 0, .slice none 0 0] 38, BxA (w.heap.size + 2) #[.int .i64 0, .slice none 0 0, .slice none 0 0, .slice none 0 0] 38, BxA (w.heap.size + 1) #[.int .i64 m, .slice eb me fc, .slice ib mi gc, .slice ob mo hc] 38, BxA w.heap.size #[.int .i64 n, .slice ea ne ec, .slice ia ni ic, .slice oa no oc] 38, KeepA w])) := Sep.blk (A := OR edgeE v4 (xs ++ ys) :: rowsE xs) (B := [BxA f2 #[.int .i64 m, .slice sb0 ys.length sd0, .slice sb1 zi2.length sd1, .slice sb2 zo2.length sd2] 38, OE (.slice sb0 ys.length sd0) ys]) (r := [BxA f1 #[.int .i64 n, .slice sa0 xs.length sc0, .slice sa1 zi.length sc1, .slice sa2 zo.length sc2] 38, BxA (w.heap.size + 3) #[.int .i64 ((n : Int) + m), .slice none 0 0, .slice none 0 0, .slice none 0 0] 38, BxA (w.heap.size + 2) #[.int .i64 0, .slice none 0 0, .slice none 0 0, .slice none 0 0] 38, BxA (w.heap.size + 1) #[.int .i64 m, .slice eb me fc, .slice ib mi gc, .slice ob mo hc] 38, BxA w.heap.size #[.int .i64 n, .slice ea ne ec, .slice ia ni ic, .slice oa no oc] 38, KeepA w]) h4
    have k3 : Sep w4 ((OR edgeE (.slice sb0 ys.length sd0) ys :: rowsE ys) ++ ((OR edgeE v4 (xs ++ ys) :: rowsE xs) ++ [BxA f1 #[.int .i64 n, .slice sa0 xs.length sc0, .slice sa1 zi.length sc1, .slice sa2 zo.length sc2] 38, BxA (w.heap.size + 3) #[.int .i64 ((n : Int) + m), .slice none 0 0, .slice none 0 0, .slice none 0 0] 38, BxA (w.heap.size + 2) #[.int .i64 0, .slice none 0 0, .slice none 0 0, .slice none 0 0] 38, BxA (w.heap.size + 1) #[.int .i64 m, .slice eb me fc, .slice ib mi gc, .slice ob mo hc] 38, BxA w.heap.size #[.int .i64 n, .slice ea ne ec, .slice ia ni ic, .slice oa no oc] 38, KeepA w])) := Sep.unbag (l := OR edgeE (.slice sb0 ys.length sd0) ys :: rowsE ys) k1.tl
    have k4 : Sep w4 (rowsE ys ++ ((OR edgeE v4 (xs ++ ys) :: rowsE xs) ++ [BxA f1 #[.int .i64 n, .slice sa0 xs.length sc0, .slice sa1 zi.length sc1, .slice sa2 zo.length sc2] 38, BxA (w.heap.size + 3) #[.int .i64 ((n : Int) + m), .slice none 0 0, .slice none 0 0, .slice none 0 0] 38, BxA (w.heap.size + 2) #[.int .i64 0, .slice none 0 0, .slice none 0 0, .slice none 0 0] 38, BxA (w.heap.size + 1) #[.int .i64 m, .slice eb me fc, .slice ib mi gc, .slice ob mo hc] 38, BxA w.heap.size #[.int .i64 n, .slice ea ne ec, .slice ia ni ic, .slice oa no oc] 38, KeepA w])) := k3.tl
    have k5 : Sep w4 (OE v4 (xs ++ ys) :: [BxA f1 #[.int .i64 n, .slice sa0 xs.length sc0, .slice sa1 zi.length sc1, .slice sa2 zo.length sc2] 38, BxA (w.heap.size + 3) #[.int .i64 ((n : Int) + m), .slice none 0 0, .slice none 0 0, .slice none 0 0] 38, BxA (w.heap.size + 2) #[.int .i64 0, .slice none 0 0, .slice none 0 0, .slice none 0 0] 38, BxA (w.heap.size + 1) #[.int .i64 m, .slice eb me fc, .slice ib mi gc, .slice ob mo hc] 38, BxA w.heap.size #[.int .i64 n, .slice ea ne ec, .slice ia ni ic, .slice oa no oc] 38, KeepA w]) := Sep.joinE (Sep.blk (A := rowsE ys) (B := OR edgeE v4 (xs ++ ys) :: rowsE xs) (r := [BxA f1 #[.int .i64 n, .slice sa0 xs.length sc0, .slice sa1 zi.length sc1, .slice sa2 zo.length sc2] 38, BxA (w.heap.size + 3) #[.int .i64 ((n : Int) + m), .slice none 0 0, .slice none 0 0, .slice none 0 0] 38, BxA (w.heap.size + 2) #[.int .i64 0, .slice none 0 0, .slice none 0 0, .slice none 0 0] 38, BxA (w.heap.size + 1) #[.int .i64 m, .slice eb me fc, .slice ib mi gc, .slice ob mo hc] 38, BxA w.heap.size #[.int .i64 n, .slice ea ne ec, .slice ia ni ic, .slice oa no oc] 38, KeepA w]) k4)
    obtain ⟨ga, gcc, rfl⟩ := OE.shape k5.hd
    obtain ⟨q, hq⟩ : ∃ q, (xs ++ ys).length = q := ⟨_, rfl⟩
    rw [hq] at k5 ⊢
    have HQL := qd hq
    clear hq
    have k6 := Sep.blk (A := [_]) (B := [_]) (Sep.cutA (X := [_]) (A := [_]) k5)
    obtain ⟨_, _, _, _, _, o1, _⟩ := gq4 k6.hd
    have k7 := k6.setB 1 (.slice ga q gcc)
    obtain ⟨p0, p1, p2, p3, _⟩ := gq4 k7.hd
    have k8 := Sep.blk (A := [_, _]) (B := [_]) k7
    obtain ⟨_, _, _, _, f0, f1_, f2_, f3⟩ := gq4 k8.hd
    have k9 := (((k8.setB 0 (.int .i64 ((n : Int) + m))).setB 1 (.slice ga q gcc)).setB 2 (.slice none 0 0)).setB 3 (.slice none 0 0)
    obtain ⟨t0, t1, t2, t3, _⟩ := gq4 k9.hd
    have HFIN := qd (Sep.cutA (X := [_]) (A := [_, _]) k9.tl.tl)
    clear k1 k3 k4 k5 k6 k7 k8 k9 h4 x1 y1))
   refine bodyPost_ret_by (v := .agg #[.int .i64 ((n : Int) + m), .slice ga q gcc, .slice none 0 0, .slice none 0 0]) ?_ rfl ⟨_, xs ++ ys, rfl, by unfold eds; rw [List.map_append]; show eds xs ++ eds ys = _; rw [HX1.out, HX2.out], HFIN.out⟩
   simp [results, go_sem, *]
end Go.Proofs.YtjagjhchnpmngaaGreat

/-
  One graph beside another, in the program. Conditions: the graphs are valid.
-/
import Derived.Test.YtjagjhchnpmngaaGreatDoorYx03
import Derived.Test.YtjagjhchnpmngaaGreatDoorYx04
namespace Go.Proofs.YtjagjhchnpmngaaGreatDoor
open Go.RowKit
set_option linter.unusedVariables false
set_option linter.unusedSimpArgs false
set_option maxRecDepth 100000

/-- Two lists of edges as one. -/
theorem Sep.joinE {w : World} {l : List Asrt} {v : Value} {xs ys : List XE} (h : Sep w (OR edgeE v (xs ++ ys) :: (rowsE xs ++ (rowsE ys ++ l)))) : Sep w (OE v (xs ++ ys) :: l) := by
  have e : rowsE (xs ++ ys) = rowsE xs ++ rowsE ys := by unfold rowsE; rw [List.flatMap_append]
  refine Sep.bag (l := OR edgeE v (xs ++ ys) :: rowsE (xs ++ ys)) ?_
  rw [e, List.cons_append, List.append_assoc]
  exact h
/-- A valid graph's wires. -/
theorem gr_rng {g : Gr} {n : Nat} (hg : grB g = true) (hn : g.n = n) : ∀ x ∈ wiresL g, 0 ≤ x ∧ x < (n : Int) := by
  obtain ⟨m, hm, _, _, _, _, h5, _⟩ := grB_n hg
  intro x hx
  have := rngB_iff.1 h5 x hx
  rw [hn] at this
  exact this
theorem edge_oneT {w : World} {ys : List XE} (h : ∀ A ∈ rowsE ys, A.holds w) : ∀ y ∈ ys, ∀ u ∈ edgeE.cs y, u.oneCell' = true := by
  intro y hy
  obtain ⟨ed, iv, ov⟩ := y
  have m1 : OI iv ed.i ∈ rowsE ys := List.mem_flatMap.2 ⟨_, hy, by simp⟩
  have m2 : OI ov ed.o ∈ rowsE ys := List.mem_flatMap.2 ⟨_, hy, by simp⟩
  obtain ⟨a1, c1, e1⟩ := own_shape (show OwnInts 0 w iv ed.i from h _ m1)
  obtain ⟨a2, c2, e2⟩ := own_shape (show OwnInts 0 w ov ed.o from h _ m2)
  subst e1 e2
  exact edge_one ed a1 _ c1 a2 _ c2
def BesideR (a b : Gr) (w : World) (e : Ending) (w' : World) : Prop :=
  ∃ u0 xs, e = .returned (.agg #[.int .i64 (a.n + b.n), u0, .slice none 0 0, .slice none 0 0]) ∧ eds xs = a.es ++ b.es.map (mapE (shL a b)) ∧ Sep w' [OE u0 xs, KeepA w]
set_option maxHeartbeats 8000000 in
theorem beside_any (a b : Gr) (ev iv ov ev' iv' ov' : Value) (w : World) (he : RdE edgeE w ev a.es) (hi : IntsV w iv a.i) (ho : IntsV w ov a.o) (he' : RdE edgeE w ev' b.es) (hi' : IntsV w iv' b.i) (ho' : IntsV w ov' b.o) (hga : grB a = true) (hgb : grB b = true) :
    Calls Tryz.prog 68 #[grV a.n ev iv ov, grV b.n ev' iv' ov'] w (BesideR a b w) := by
  obtain ⟨n, hn, hn1, a1, a2, a3, a4, a5, _⟩ := grB_n hga
  obtain ⟨m, hm, hm1, b1, b2, b3, b4, b5, _⟩ := grB_n hgb
  have hra := gr_rng hga hn
  have hrb := gr_rng hgb hm
  have hsh : shL a b = frL n m := by unfold shL; rw [hn, hm]; rfl
  have HU := Lib.hid fun W => upTo_any n W (by omega)
  have HFR := Lib.hid fun W => from_any n m W (by omega) (by omega)
  have HM1 := Lib.hid fun tv W (hW : w.grownBy W none) (ht : IntsV W tv (upL n)) => (show Calls Tryz.prog 93 #[grV a.n ev iv ov, .int .i64 n, tv] W fun e w' => ∃ u0 xs u1 u2, e = .returned (grV n u0 u1 u2) ∧ eds xs = a.es ∧ Sep w' [OE u0 xs, OI u1 a.i, OI u2 a.o, KeepA W] from by
    have h := moved_any ev iv ov tv a n (upL n) W (he.carry hW) (hi.carry hW) (ho.carry hW) ht (by omega) (by omega) (by omega) (fun e h => by have := a5 e h; omega) (by rw [upL_len]; exact hra)
    rw [mapE_up hra, map_up (fun x hx => hra x (by unfold wiresL; simp [hx])), map_up (fun x hx => hra x (by unfold wiresL; simp [hx]))] at h
    exact h)
  have HM2 := Lib.hid fun tv W (hW : w.grownBy W none) (ht : IntsV W tv (frL n m)) => (show Calls Tryz.prog 93 #[grV b.n ev' iv' ov', .int .i64 m, tv] W fun e w' => ∃ u0 xs u1 u2, e = .returned (grV m u0 u1 u2) ∧ eds xs = b.es.map (mapE (frL n m)) ∧ Sep w' [OE u0 xs, OI u1 (b.i.map (ofL (frL n m))), OI u2 (b.o.map (ofL (frL n m))), KeepA W] from
    moved_any ev' iv' ov' tv b m (frL n m) W (he'.carry hW) (hi'.carry hW) (ho'.carry hW) ht (by omega) (by omega) (by omega) (fun e h => by have := b5 e h; omega) (by rw [frL_len]; exact hrb))
  unfold BesideR
  rw [hsh, hn, hm]
  rw [hn] at HM1
  rw [hm] at HM2
  unfold grV at *
  obtain ⟨ea, ec, rfl⟩ := he.shape
  obtain ⟨ia, ic, rfl⟩ := hi.shape
  obtain ⟨oa, oc, rfl⟩ := ho.shape
  obtain ⟨eb, fc, rfl⟩ := he'.shape
  obtain ⟨ib, gc, rfl⟩ := hi'.shape
  obtain ⟨ob, hc, rfl⟩ := ho'.shape
  obtain ⟨es1, hes1⟩ : ∃ x, a.es = x := ⟨_, rfl⟩
  obtain ⟨es2, hes2⟩ : ∃ x, b.es.map (mapE (frL n m)) = x := ⟨_, rfl⟩
  rw [hes1] at HM1 a1 ⊢
  rw [hes2] at HM2 ⊢
  have hl2 : es2.length ≤ 60 := by rw [← hes2, List.length_map]; exact b1
  have HEL := Lib.hid (show (∀ l, l = es1 → l.length ≤ 60) ∧ ∀ l, l = es2 → l.length ≤ 60 from ⟨fun l h => by rw [h]; exact a1, fun l h => by rw [h]; exact hl2⟩)
  generalize es1.length = ne at *
  generalize b.es.length = me at *
  generalize a.i.length = ni at *
  generalize a.o.length = no at *
  generalize b.i.length = mi at *
  generalize b.o.length = mo at *
  generalize a.i = zi at *
  generalize a.o = zo at *
  generalize b.i.map (ofL (frL n m)) = zi2 at *
  generalize b.o.map (ofL (frL n m)) = zo2 at *
  clear he hi ho he' hi' ho' hga hgb hra hrb hsh a1 a2 a3 a4 a5 b1 b2 b3 b4 b5 hl2 hes1 hes2 hn hm
  have hs0 := (((((Sep.start w).boxAt w.heap.size rfl #[.int .i64 n, .slice ea ne ec, .slice ia ni ic, .slice oa no oc] 30).boxAt (w.heap.size + 1) (by simp) #[.int .i64 m, .slice eb me fc, .slice ib mi gc, .slice ob mo hc] 30).boxAt (w.heap.size + 2) (by simp) #[.int .i64 0, .slice none 0 0, .slice none 0 0, .slice none 0 0] 30).boxAt (w.heap.size + 3) (by simp) #[.int .i64 ((n : Int) + m), .slice none 0 0, .slice none 0 0, .slice none 0 0] 30)
  have HS0 := Lib.hid hs0
  obtain ⟨x0, x1, x2, x3, _⟩ := gq4 hs0.tl.tl.tl.hd
  obtain ⟨y0, y1, y2, y3, _⟩ := gq4 hs0.tl.tl.hd
  clear hs0
  have hwr : IntKind.i64.wrap ((n : Int) + (m : Int)) = (n : Int) + (m : Int) := wrap_id (by omega) (by omega)
  go_enter Tryz.func68, Tryz.ntmps68
  go_upto_region 2 with fail
  clear x0 x1 x2 x3 y0 y1 y2 y3
  generalize (((w.alloc (.cells #[.int .i64 n, .slice ea ne ec, .slice ia ni ic, .slice oa no oc] 30)).alloc (.cells #[.int .i64 m, .slice eb me fc, .slice ib mi gc, .slice ob mo hc] 30)).alloc (.cells #[.int .i64 0, .slice none 0 0, .slice none 0 0, .slice none 0 0] 30)).alloc (.cells #[.int .i64 ((n : Int) + m), .slice none 0 0, .slice none 0 0, .slice none 0 0] 30) = w1 at *
  have HBM := Lib.hid fun (W1 : World) (L : List Asrt) (h : Sep W1 L) (h1 : BxA w.heap.size #[.int .i64 n, .slice ea ne ec, .slice ia ni ic, .slice oa no oc] 30 ∈ L) (h2 : BxA (w.heap.size + 1) #[.int .i64 m, .slice eb me fc, .slice ib mi gc, .slice ob mo hc] 30 ∈ L) => show (W1.cell? ⟨w.heap.size, 0, none⟩ = some (.int .i64 n) ∧ W1.cell? ⟨w.heap.size, 1, none⟩ = some (.slice ea ne ec) ∧ W1.cell? ⟨w.heap.size, 2, none⟩ = some (.slice ia ni ic) ∧ W1.cell? ⟨w.heap.size, 3, none⟩ = some (.slice oa no oc)) ∧ W1.cell? ⟨w.heap.size + 1, 0, none⟩ = some (.int .i64 m) ∧ W1.cell? ⟨w.heap.size + 1, 1, none⟩ = some (.slice eb me fc) ∧ W1.cell? ⟨w.heap.size + 1, 2, none⟩ = some (.slice ib mi gc) ∧ W1.cell? ⟨w.heap.size + 1, 3, none⟩ = some (.slice ob mo hc) from by
    obtain ⟨p0, p1, p2, p3, _⟩ := gq4 (show W1.heap[w.heap.size]? = some (.cells #[.int .i64 n, .slice ea ne ec, .slice ia ni ic, .slice oa no oc] 30 (0, 0)) from Sep.all h _ h1)
    obtain ⟨q0, q1, q2, q3, _⟩ := gq4 (show W1.heap[w.heap.size + 1]? = some (.cells #[.int .i64 m, .slice eb me fc, .slice ib mi gc, .slice ob mo hc] 30 (0, 0)) from Sep.all h _ h2)
    exact ⟨⟨p0, p1, p2, p3⟩, q0, q1, q2, q3⟩
  go_cut [6] from 14 to 20 (fun v6 wx => ∃ (f1 : Nat) (sa0 : Option Addr) (sc0 : Nat) (xs : List XE) (sa1 : Option Addr) (sc1 : Nat) (sa2 : Option Addr) (sc2 : Nat), v6 = .pointer (some ⟨f1, 0, none⟩) ∧ eds xs = es1 ∧ Sep wx [BxA f1 #[.int .i64 n, .slice sa0 xs.length sc0, .slice sa1 zi.length sc1, .slice sa2 zo.length sc2] 30, OE (.slice sa0 xs.length sc0) xs, BxA (w.heap.size + 3) #[.int .i64 ((n : Int) + m), .slice none 0 0, .slice none 0 0, .slice none 0 0] 30, BxA (w.heap.size + 2) #[.int .i64 0, .slice none 0 0, .slice none 0 0, .slice none 0 0] 30, BxA (w.heap.size + 1) #[.int .i64 m, .slice eb me fc, .slice ib mi gc, .slice ob mo hc] 30, BxA w.heap.size #[.int .i64 n, .slice ea ne ec, .slice ia ni ic, .slice oa no oc] 30, KeepA w])
  case first =>
    have HSA := Lib.hid HS0.out.dr
    have XA := Lib.hid (HBM.out _ _ HSA.out (by simp) (by simp))
    refine AnyL.start (fun W1 => (W1.cell? ⟨w.heap.size, 0, none⟩ = some (.int .i64 n) ∧ W1.cell? ⟨w.heap.size, 1, none⟩ = some (.slice ea ne ec) ∧ W1.cell? ⟨w.heap.size, 2, none⟩ = some (.slice ia ni ic) ∧ W1.cell? ⟨w.heap.size, 3, none⟩ = some (.slice oa no oc)) ∧ W1.cell? ⟨w.heap.size + 1, 0, none⟩ = some (.int .i64 m) ∧ W1.cell? ⟨w.heap.size + 1, 1, none⟩ = some (.slice eb me fc) ∧ W1.cell? ⟨w.heap.size + 1, 2, none⟩ = some (.slice ib mi gc) ∧ W1.cell? ⟨w.heap.size + 1, 3, none⟩ = some (.slice ob mo hc)) (fun _ => True) 99 (by kernel_rfl) ?_
    generalize w1.drew = wd at *
    refine AnyL.take (i := 0) (v := ?vx1) (by rfl) (by kernel_rfl) (by kernel_rfl) (by kernel_rfl) rfl (by exact fun _ _ _ h => h) (by rfl) ?hyx1 (by exact ⟨XA.out, fun _ => trivial⟩) ?restx1
    case hyx1 => intro W hSW; (try dsimp only at hSW); first | (go_simp; done) | (go_simp; with_reducible rfl)
    try simp only [Act.put, List.setIfInBounds_toArray, List.set_cons_zero, List.set_cons_succ]
    refine AnyL.take (i := 1) (v := ?vx2) (by rfl) (by kernel_rfl) (by kernel_rfl) (by kernel_rfl) rfl (by exact fun _ _ _ h => h) (by rfl) ?hyx2 (by exact ⟨XA.out, fun _ => trivial⟩) ?restx2
    case hyx2 => intro W hSW; (try dsimp only at hSW); first | (go_simp; done) | (go_simp; with_reducible rfl)
    try simp only [Act.put, List.setIfInBounds_toArray, List.set_cons_zero, List.set_cons_succ]
    refine AnyL.take (i := 2) (v := ?vx3) (by rfl) (by kernel_rfl) (by kernel_rfl) (by kernel_rfl) rfl (by exact fun _ _ _ h => h) (by rfl) ?hyx3 (by exact ⟨XA.out, fun _ => trivial⟩) ?restx3
    case hyx3 => intro W hSW; (try dsimp only at hSW); first | (go_simp; done) | (go_simp; with_reducible rfl)
    try simp only [Act.put, List.setIfInBounds_toArray, List.set_cons_zero, List.set_cons_succ]
    refine AnyL.take (i := 3) (v := ?vx4) (by rfl) (by kernel_rfl) (by kernel_rfl) (by kernel_rfl) rfl (by exact fun _ _ _ h => h) (by rfl) ?hyx4 (by exact ⟨XA.out, fun _ => trivial⟩) ?restx4
    case hyx4 => intro W hSW; (try dsimp only at hSW); first | (go_simp; done) | (go_simp; with_reducible rfl)
    try simp only [Act.put, List.setIfInBounds_toArray, List.set_cons_zero, List.set_cons_succ]
    refine AnyL.take (i := 4) (v := ?vx5) (by rfl) (by kernel_rfl) (by kernel_rfl) (by kernel_rfl) rfl (by exact fun _ _ _ h => h) (by rfl) ?hyx5 (by exact ⟨XA.out, fun _ => trivial⟩) ?restx5
    case hyx5 => intro W hSW; (try dsimp only at hSW); first | (go_simp; done) | (go_simp; with_reducible rfl)
    try simp only [Act.put, List.setIfInBounds_toArray, List.set_cons_zero, List.set_cons_succ]
    refine AnyL.twoM (i := 5) (j := 7) (by kernel_rfl) (by rfl) (by rfl) (fun K hK => ?_) (fun K hK => ?_)
    · go_simp
      go_at_call 76
      with_reducible refine (HU.out _).mono ?_
      rintro e wc ⟨ug, uc, rfl, hsg⟩
      have HSc := Lib.hid (HSA.out.graft1 hsg OI_own)
      have HKV := Lib.hid (show w.grownBy wc none from Sep.all HSc.out (KeepA w) (by simp))
      have HUV := Lib.hid (show OwnInts 0 wc _ (upL n) from HSc.out.hd).read
      clear hsg
      refine hK.out _ _ (by exact HBM.out _ _ HSc.out (by simp) (by simp)) (by exact fun _ => trivial) ?_
      clear hK K
      try simp only [Act.put, List.setIfInBounds_toArray, List.set_cons_zero, List.set_cons_succ]
      refine AnyL.twoM (i := 6) (j := 7) (by kernel_rfl) (by rfl) (by rfl) (fun K hK => ?_) (fun K hK => ?_)
      · go_simp
        have HCC := Lib.hid (HM1.out _ _ HKV.out HUV.out)
        go_at_call 93
        with_reducible refine HCC.out.mono ?_
        rintro e wcc ⟨u0, xs, u1, u2, rfl, hx, hsg⟩
        obtain ⟨sa0, sc0, rfl⟩ := OE.shape hsg.hd
        obtain ⟨sa1, sc1, rfl⟩ := own_shape (show OwnInts 0 _ u1 _ from hsg.tl.hd)
        obtain ⟨sa2, sc2, rfl⟩ := own_shape (show OwnInts 0 _ u2 _ from hsg.tl.tl.hd)
        have hq := Sep.cutA (X := [_]) (A := [_, _]) (HSc.out.graft3 hsg OE_own OI_own OI_own)
        have HScc := Lib.hid (Sep.cutA (X := [_]) (A := [_]) hq)
        have HX := Lib.hid hx
        clear hsg hx hq
        refine hK.out _ _ (by exact HBM.out _ _ HScc.out (by simp) (by simp)) (by exact fun _ => trivial) ?_
        clear hK K
        try simp only [Act.put, List.setIfInBounds_toArray, List.set_cons_zero, List.set_cons_succ]
        refine AnyL.step (i := 7) (by kernel_rfl) (by rfl) (fun K hK => ?_)
        go_simp
        have HSccz := Lib.hid (HScc.out.boxAt (wcc.heap.size) (by rfl) #[.int .i64 0, .slice none 0 0, .slice none 0 0, .slice none 0 0] 30)
        refine hK.out _ (wcc.alloc (.cells #[.int .i64 0, .slice none 0 0, .slice none 0 0, .slice none 0 0] 30)) (by exact HBM.out _ _ HSccz.out (by simp) (by simp)) (by exact fun _ => trivial) ?_
        clear hK K
        try simp only [Act.put, List.setIfInBounds_toArray, List.set_cons_zero, List.set_cons_succ]
        generalize wcc.alloc (.cells #[.int .i64 0, .slice none 0 0, .slice none 0 0, .slice none 0 0] 30) = wccz at *
        generalize wcc.heap.size = f1 at *
        have hz := HSccz.out
        obtain ⟨y0, y1, y2, y3, ff0, ff1, ff2, ff3⟩ := gq4 hz.hd
        have hz2 := (((hz.setB 0 (.int .i64 n)).setB 1 (.slice sa0 xs.length sc0)).setB 2 (.slice sa1 zi.length sc1)).setB 3 (.slice sa2 zo.length sc2)
        have HZ9 := Lib.hid hz2
        clear hz hz2
        refine AnyL.step (i := 8) (by kernel_rfl) (by rfl) (fun K hK => ?_)
        go_simp
        refine hK.out _ ((((wccz.setCell ⟨f1, 0, none⟩ (.int .i64 n)).setCell ⟨f1, 1, none⟩ (.slice sa0 xs.length sc0)).setCell ⟨f1, 2, none⟩ (.slice sa1 zi.length sc1)).setCell ⟨f1, 3, none⟩ (.slice sa2 zo.length sc2)) (by exact HBM.out _ _ HZ9.out (by simp) (by simp)) (by exact fun _ => trivial) ?_
        clear hK K
        try simp only [Act.put, List.setIfInBounds_toArray, List.set_cons_zero, List.set_cons_succ]
        refine AnyL.done (by kernel_rfl) ?_ _
        generalize (((wccz.setCell ⟨f1, 0, none⟩ (.int .i64 n)).setCell ⟨f1, 1, none⟩ (.slice sa0 xs.length sc0)).setCell ⟨f1, 2, none⟩ (.slice sa1 zi.length sc1)).setCell ⟨f1, 3, none⟩ (.slice sa2 zo.length sc2) = w9 at *
        clear y0 y1 y2 y3 ff0 ff1 ff2 ff3
        go_wp2_with fail
        go_meet
        exact ⟨f1, sa0, sc0, xs, sa1, sc1, sa2, sc2, rfl, HX.out, HZ9.out⟩
      · go_simp
        have HScz := Lib.hid (HSc.out.boxAt (wc.heap.size) (by rfl) #[.int .i64 0, .slice none 0 0, .slice none 0 0, .slice none 0 0] 30)
        refine hK.out _ (wc.alloc (.cells #[.int .i64 0, .slice none 0 0, .slice none 0 0, .slice none 0 0] 30)) (by exact HBM.out _ _ HScz.out (by simp) (by simp)) (by exact fun _ => trivial) ?_
        clear hK K
        try simp only [Act.put, List.setIfInBounds_toArray, List.set_cons_zero, List.set_cons_succ]
        generalize wc.alloc (.cells #[.int .i64 0, .slice none 0 0, .slice none 0 0, .slice none 0 0] 30) = wcz at *
        generalize wc.heap.size = f1 at *
        refine AnyL.step (i := 6) (by kernel_rfl) (by rfl) (fun K hK => ?_)
        go_simp
        have HCC := Lib.hid (HM1.out _ _ (show w.grownBy wcz none from Sep.all HScz.out (KeepA w) (by simp)) (show OwnInts 0 wcz _ (upL n) from HScz.out.tl.hd).read)
        go_at_call 93
        with_reducible refine HCC.out.mono ?_
        rintro e wczc ⟨u0, xs, u1, u2, rfl, hx, hsg⟩
        obtain ⟨sa0, sc0, rfl⟩ := OE.shape hsg.hd
        obtain ⟨sa1, sc1, rfl⟩ := own_shape (show OwnInts 0 _ u1 _ from hsg.tl.hd)
        obtain ⟨sa2, sc2, rfl⟩ := own_shape (show OwnInts 0 _ u2 _ from hsg.tl.tl.hd)
        have hq := Sep.cutA (X := [_]) (A := [_, _]) (HScz.out.graft3 hsg OE_own OI_own OI_own)
        have HSczc := Lib.hid (Sep.cutA (X := [_, _]) (A := [_]) hq)
        have HX := Lib.hid hx
        clear hsg hx hq
        refine hK.out _ _ (by exact HBM.out _ _ HSczc.out (by simp) (by simp)) (by exact fun _ => trivial) ?_
        clear hK K
        try simp only [Act.put, List.setIfInBounds_toArray, List.set_cons_zero, List.set_cons_succ]
        have hz := Sep.blk (A := [_]) (B := [_]) HSczc.out
        obtain ⟨y0, y1, y2, y3, ff0, ff1, ff2, ff3⟩ := gq4 hz.hd
        have hz2 := (((hz.setB 0 (.int .i64 n)).setB 1 (.slice sa0 xs.length sc0)).setB 2 (.slice sa1 zi.length sc1)).setB 3 (.slice sa2 zo.length sc2)
        have HZ9 := Lib.hid hz2
        clear hz hz2
        refine AnyL.step (i := 8) (by kernel_rfl) (by rfl) (fun K hK => ?_)
        go_simp
        refine hK.out _ ((((wczc.setCell ⟨f1, 0, none⟩ (.int .i64 n)).setCell ⟨f1, 1, none⟩ (.slice sa0 xs.length sc0)).setCell ⟨f1, 2, none⟩ (.slice sa1 zi.length sc1)).setCell ⟨f1, 3, none⟩ (.slice sa2 zo.length sc2)) (by exact HBM.out _ _ HZ9.out (by simp) (by simp)) (by exact fun _ => trivial) ?_
        clear hK K
        try simp only [Act.put, List.setIfInBounds_toArray, List.set_cons_zero, List.set_cons_succ]
        refine AnyL.done (by kernel_rfl) ?_ _
        generalize (((wczc.setCell ⟨f1, 0, none⟩ (.int .i64 n)).setCell ⟨f1, 1, none⟩ (.slice sa0 xs.length sc0)).setCell ⟨f1, 2, none⟩ (.slice sa1 zi.length sc1)).setCell ⟨f1, 3, none⟩ (.slice sa2 zo.length sc2) = w9 at *
        clear y0 y1 y2 y3 ff0 ff1 ff2 ff3
        go_wp2_with fail
        go_meet
        exact ⟨f1, sa0, sc0, xs, sa1, sc1, sa2, sc2, rfl, HX.out, HZ9.out⟩
    · go_simp
      have HSz := Lib.hid (HSA.out.boxAt (wd.heap.size) (by rfl) #[.int .i64 0, .slice none 0 0, .slice none 0 0, .slice none 0 0] 30)
      refine hK.out _ (wd.alloc (.cells #[.int .i64 0, .slice none 0 0, .slice none 0 0, .slice none 0 0] 30)) (by exact HBM.out _ _ HSz.out (by simp) (by simp)) (by exact fun _ => trivial) ?_
      clear hK K
      try simp only [Act.put, List.setIfInBounds_toArray, List.set_cons_zero, List.set_cons_succ]
      generalize wd.alloc (.cells #[.int .i64 0, .slice none 0 0, .slice none 0 0, .slice none 0 0] 30) = wz at *
      generalize wd.heap.size = f1 at *
      refine AnyL.step (i := 5) (by kernel_rfl) (by rfl) (fun K hK => ?_)
      go_simp
      go_at_call 76
      with_reducible refine (HU.out _).mono ?_
      rintro e wzc ⟨ug, uc, rfl, hsg⟩
      have HSzc := Lib.hid (HSz.out.graft1 hsg OI_own)
      have HKV := Lib.hid (show w.grownBy wzc none from Sep.all HSzc.out (KeepA w) (by simp))
      have HUV := Lib.hid (show OwnInts 0 wzc _ (upL n) from HSzc.out.hd).read
      clear hsg
      refine hK.out _ _ (by exact HBM.out _ _ HSzc.out (by simp) (by simp)) (by exact fun _ => trivial) ?_
      clear hK K
      try simp only [Act.put, List.setIfInBounds_toArray, List.set_cons_zero, List.set_cons_succ]
      refine AnyL.step (i := 6) (by kernel_rfl) (by rfl) (fun K hK => ?_)
      go_simp
      have HCC := Lib.hid (HM1.out _ _ HKV.out HUV.out)
      go_at_call 93
      with_reducible refine HCC.out.mono ?_
      rintro e wzcc ⟨u0, xs, u1, u2, rfl, hx, hsg⟩
      obtain ⟨sa0, sc0, rfl⟩ := OE.shape hsg.hd
      obtain ⟨sa1, sc1, rfl⟩ := own_shape (show OwnInts 0 _ u1 _ from hsg.tl.hd)
      obtain ⟨sa2, sc2, rfl⟩ := own_shape (show OwnInts 0 _ u2 _ from hsg.tl.tl.hd)
      have hq := Sep.cutA (X := [_]) (A := [_, _]) (HSzc.out.graft3 hsg OE_own OI_own OI_own)
      have HSzcc := Lib.hid (Sep.cutA (X := [_]) (A := [_]) hq)
      have HX := Lib.hid hx
      clear hsg hx hq
      refine hK.out _ _ (by exact HBM.out _ _ HSzcc.out (by simp) (by simp)) (by exact fun _ => trivial) ?_
      clear hK K
      try simp only [Act.put, List.setIfInBounds_toArray, List.set_cons_zero, List.set_cons_succ]
      have hz := Sep.blk (A := [_]) (B := [_]) HSzcc.out
      obtain ⟨y0, y1, y2, y3, ff0, ff1, ff2, ff3⟩ := gq4 hz.hd
      have hz2 := (((hz.setB 0 (.int .i64 n)).setB 1 (.slice sa0 xs.length sc0)).setB 2 (.slice sa1 zi.length sc1)).setB 3 (.slice sa2 zo.length sc2)
      have HZ9 := Lib.hid hz2
      clear hz hz2
      refine AnyL.step (i := 8) (by kernel_rfl) (by rfl) (fun K hK => ?_)
      go_simp
      refine hK.out _ ((((wzcc.setCell ⟨f1, 0, none⟩ (.int .i64 n)).setCell ⟨f1, 1, none⟩ (.slice sa0 xs.length sc0)).setCell ⟨f1, 2, none⟩ (.slice sa1 zi.length sc1)).setCell ⟨f1, 3, none⟩ (.slice sa2 zo.length sc2)) (by exact HBM.out _ _ HZ9.out (by simp) (by simp)) (by exact fun _ => trivial) ?_
      clear hK K
      try simp only [Act.put, List.setIfInBounds_toArray, List.set_cons_zero, List.set_cons_succ]
      refine AnyL.done (by kernel_rfl) ?_ _
      generalize (((wzcc.setCell ⟨f1, 0, none⟩ (.int .i64 n)).setCell ⟨f1, 1, none⟩ (.slice sa0 xs.length sc0)).setCell ⟨f1, 2, none⟩ (.slice sa1 zi.length sc1)).setCell ⟨f1, 3, none⟩ (.slice sa2 zo.length sc2) = w9 at *
      clear y0 y1 y2 y3 ff0 ff1 ff2 ff3
      go_wp2_with fail
      go_meet
      exact ⟨f1, sa0, sc0, xs, sa1, sc1, sa2, sc2, rfl, HX.out, HZ9.out⟩
  case rest =>
    obtain ⟨f1, sa0, sc0, xs, sa1, sc1, sa2, sc2, rfl, hx, hs⟩ := hcut
    have HX1 := Lib.hid hx
    have HS2 := Lib.hid hs
    clear hx hs HS0
    generalize wc = w2 at *
    go_upto_region 3 with fail
    go_cut [7] from 21 to 29 (fun v7 wx => ∃ (f2 : Nat) (sb0 : Option Addr) (sd0 : Nat) (ys : List XE) (sb1 : Option Addr) (sd1 : Nat) (sb2 : Option Addr) (sd2 : Nat), v7 = .pointer (some ⟨f2, 0, none⟩) ∧ eds ys = es2 ∧ Sep wx [BxA f2 #[.int .i64 m, .slice sb0 ys.length sd0, .slice sb1 zi2.length sd1, .slice sb2 zo2.length sd2] 30, OE (.slice sb0 ys.length sd0) ys, BxA f1 #[.int .i64 n, .slice sa0 xs.length sc0, .slice sa1 zi.length sc1, .slice sa2 zo.length sc2] 30, OE (.slice sa0 xs.length sc0) xs, BxA (w.heap.size + 3) #[.int .i64 ((n : Int) + m), .slice none 0 0, .slice none 0 0, .slice none 0 0] 30, BxA (w.heap.size + 2) #[.int .i64 0, .slice none 0 0, .slice none 0 0, .slice none 0 0] 30, BxA (w.heap.size + 1) #[.int .i64 m, .slice eb me fc, .slice ib mi gc, .slice ob mo hc] 30, BxA w.heap.size #[.int .i64 n, .slice ea ne ec, .slice ia ni ic, .slice oa no oc] 30, KeepA w])
    case first =>
      have HSA := Lib.hid HS2.out.dr
      have XA := Lib.hid (HBM.out _ _ HSA.out (by simp) (by simp))
      refine AnyL.start (fun W1 => (W1.cell? ⟨w.heap.size, 0, none⟩ = some (.int .i64 n) ∧ W1.cell? ⟨w.heap.size, 1, none⟩ = some (.slice ea ne ec) ∧ W1.cell? ⟨w.heap.size, 2, none⟩ = some (.slice ia ni ic) ∧ W1.cell? ⟨w.heap.size, 3, none⟩ = some (.slice oa no oc)) ∧ W1.cell? ⟨w.heap.size + 1, 0, none⟩ = some (.int .i64 m) ∧ W1.cell? ⟨w.heap.size + 1, 1, none⟩ = some (.slice eb me fc) ∧ W1.cell? ⟨w.heap.size + 1, 2, none⟩ = some (.slice ib mi gc) ∧ W1.cell? ⟨w.heap.size + 1, 3, none⟩ = some (.slice ob mo hc)) (fun _ => True) 99 (by kernel_rfl) ?_
      generalize w2.drew = wd at *
      refine AnyL.take (i := 0) (v := ?vx6) (by rfl) (by kernel_rfl) (by kernel_rfl) (by kernel_rfl) rfl (by exact fun _ _ _ h => h) (by rfl) ?hyx6 (by exact ⟨XA.out, fun _ => trivial⟩) ?restx6
      case hyx6 => intro W hSW; (try dsimp only at hSW); first | (go_simp; done) | (go_simp; with_reducible rfl)
      try simp only [Act.put, List.setIfInBounds_toArray, List.set_cons_zero, List.set_cons_succ]
      refine AnyL.take (i := 1) (v := ?vx7) (by rfl) (by kernel_rfl) (by kernel_rfl) (by kernel_rfl) rfl (by exact fun _ _ _ h => h) (by rfl) ?hyx7 (by exact ⟨XA.out, fun _ => trivial⟩) ?restx7
      case hyx7 => intro W hSW; (try dsimp only at hSW); first | (go_simp; done) | (go_simp; with_reducible rfl)
      try simp only [Act.put, List.setIfInBounds_toArray, List.set_cons_zero, List.set_cons_succ]
      refine AnyL.take (i := 2) (v := ?vx8) (by rfl) (by kernel_rfl) (by kernel_rfl) (by kernel_rfl) rfl (by exact fun _ _ _ h => h) (by rfl) ?hyx8 (by exact ⟨XA.out, fun _ => trivial⟩) ?restx8
      case hyx8 => intro W hSW; (try dsimp only at hSW); first | (go_simp; done) | (go_simp; with_reducible rfl)
      try simp only [Act.put, List.setIfInBounds_toArray, List.set_cons_zero, List.set_cons_succ]
      refine AnyL.take (i := 3) (v := ?vx9) (by rfl) (by kernel_rfl) (by kernel_rfl) (by kernel_rfl) rfl (by exact fun _ _ _ h => h) (by rfl) ?hyx9 (by exact ⟨XA.out, fun _ => trivial⟩) ?restx9
      case hyx9 => intro W hSW; (try dsimp only at hSW); first | (go_simp; done) | (go_simp; with_reducible rfl)
      try simp only [Act.put, List.setIfInBounds_toArray, List.set_cons_zero, List.set_cons_succ]
      refine AnyL.take (i := 4) (v := ?vx10) (by rfl) (by kernel_rfl) (by kernel_rfl) (by kernel_rfl) rfl (by exact fun _ _ _ h => h) (by rfl) ?hyx10 (by exact ⟨XA.out, fun _ => trivial⟩) ?restx10
      case hyx10 => intro W hSW; (try dsimp only at hSW); first | (go_simp; done) | (go_simp; with_reducible rfl)
      try simp only [Act.put, List.setIfInBounds_toArray, List.set_cons_zero, List.set_cons_succ]
      refine AnyL.take (i := 5) (v := ?vx11) (by rfl) (by kernel_rfl) (by kernel_rfl) (by kernel_rfl) rfl (by exact fun _ _ _ h => h) (by rfl) ?hyx11 (by exact ⟨XA.out, fun _ => trivial⟩) ?restx11
      case hyx11 => intro W hSW; (try dsimp only at hSW); first | (go_simp; done) | (go_simp; with_reducible rfl)
      try simp only [Act.put, List.setIfInBounds_toArray, List.set_cons_zero, List.set_cons_succ]
      refine AnyL.take (i := 6) (v := ?vx12) (by rfl) (by kernel_rfl) (by kernel_rfl) (by kernel_rfl) rfl (by exact fun _ _ _ h => h) (by rfl) ?hyx12 (by exact ⟨XA.out, fun _ => trivial⟩) ?restx12
      case hyx12 => intro W hSW; (try dsimp only at hSW); first | (go_simp; done) | (go_simp; with_reducible rfl)
      try simp only [Act.put, List.setIfInBounds_toArray, List.set_cons_zero, List.set_cons_succ]
      refine AnyL.twoM (i := 7) (j := 9) (by kernel_rfl) (by rfl) (by rfl) (fun K hK => ?_) (fun K hK => ?_)
      · go_simp
        go_at_call 71
        with_reducible refine (HFR.out _).mono ?_
        rintro e wc ⟨ug, uc, rfl, hsg⟩
        have HSc := Lib.hid (HSA.out.graft1 hsg OI_own)
        have HKV := Lib.hid (show w.grownBy wc none from Sep.all HSc.out (KeepA w) (by simp))
        have HUV := Lib.hid (show OwnInts 0 wc _ (frL n m) from HSc.out.hd).read
        clear hsg
        refine hK.out _ _ (by exact HBM.out _ _ HSc.out (by simp) (by simp)) (by exact fun _ => trivial) ?_
        clear hK K
        try simp only [Act.put, List.setIfInBounds_toArray, List.set_cons_zero, List.set_cons_succ]
        refine AnyL.twoM (i := 8) (j := 9) (by kernel_rfl) (by rfl) (by rfl) (fun K hK => ?_) (fun K hK => ?_)
        · go_simp
          have HCC := Lib.hid (HM2.out _ _ HKV.out HUV.out)
          go_at_call 93
          with_reducible refine HCC.out.mono ?_
          rintro e wcc ⟨u0, ys, u1, u2, rfl, hx, hsg⟩
          obtain ⟨sb0, sd0, rfl⟩ := OE.shape hsg.hd
          obtain ⟨sb1, sd1, rfl⟩ := own_shape (show OwnInts 0 _ u1 _ from hsg.tl.hd)
          obtain ⟨sb2, sd2, rfl⟩ := own_shape (show OwnInts 0 _ u2 _ from hsg.tl.tl.hd)
          have hq := Sep.cutA (X := [_]) (A := [_, _]) (HSc.out.graft3 hsg OE_own OI_own OI_own)
          have HScc := Lib.hid (Sep.cutA (X := [_]) (A := [_]) hq)
          have HX := Lib.hid hx
          clear hsg hx hq
          refine hK.out _ _ (by exact HBM.out _ _ HScc.out (by simp) (by simp)) (by exact fun _ => trivial) ?_
          clear hK K
          try simp only [Act.put, List.setIfInBounds_toArray, List.set_cons_zero, List.set_cons_succ]
          refine AnyL.step (i := 9) (by kernel_rfl) (by rfl) (fun K hK => ?_)
          go_simp
          have HSccz := Lib.hid (HScc.out.boxAt (wcc.heap.size) (by rfl) #[.int .i64 0, .slice none 0 0, .slice none 0 0, .slice none 0 0] 30)
          refine hK.out _ (wcc.alloc (.cells #[.int .i64 0, .slice none 0 0, .slice none 0 0, .slice none 0 0] 30)) (by exact HBM.out _ _ HSccz.out (by simp) (by simp)) (by exact fun _ => trivial) ?_
          clear hK K
          try simp only [Act.put, List.setIfInBounds_toArray, List.set_cons_zero, List.set_cons_succ]
          generalize wcc.alloc (.cells #[.int .i64 0, .slice none 0 0, .slice none 0 0, .slice none 0 0] 30) = wccz at *
          generalize wcc.heap.size = f2 at *
          have hz := HSccz.out
          obtain ⟨y0, y1, y2, y3, ff0, ff1, ff2, ff3⟩ := gq4 hz.hd
          have hz2 := (((hz.setB 0 (.int .i64 m)).setB 1 (.slice sb0 ys.length sd0)).setB 2 (.slice sb1 zi2.length sd1)).setB 3 (.slice sb2 zo2.length sd2)
          have HZ9 := Lib.hid hz2
          clear hz hz2
          refine AnyL.step (i := 10) (by kernel_rfl) (by rfl) (fun K hK => ?_)
          go_simp
          refine hK.out _ ((((wccz.setCell ⟨f2, 0, none⟩ (.int .i64 m)).setCell ⟨f2, 1, none⟩ (.slice sb0 ys.length sd0)).setCell ⟨f2, 2, none⟩ (.slice sb1 zi2.length sd1)).setCell ⟨f2, 3, none⟩ (.slice sb2 zo2.length sd2)) (by exact HBM.out _ _ HZ9.out (by simp) (by simp)) (by exact fun _ => trivial) ?_
          clear hK K
          try simp only [Act.put, List.setIfInBounds_toArray, List.set_cons_zero, List.set_cons_succ]
          refine AnyL.done (by kernel_rfl) ?_ _
          generalize (((wccz.setCell ⟨f2, 0, none⟩ (.int .i64 m)).setCell ⟨f2, 1, none⟩ (.slice sb0 ys.length sd0)).setCell ⟨f2, 2, none⟩ (.slice sb1 zi2.length sd1)).setCell ⟨f2, 3, none⟩ (.slice sb2 zo2.length sd2) = w9 at *
          clear y0 y1 y2 y3 ff0 ff1 ff2 ff3
          go_wp2_with fail
          go_meet
          exact ⟨f2, sb0, sd0, ys, sb1, sd1, sb2, sd2, rfl, HX.out, HZ9.out⟩
        · go_simp
          have HScz := Lib.hid (HSc.out.boxAt (wc.heap.size) (by rfl) #[.int .i64 0, .slice none 0 0, .slice none 0 0, .slice none 0 0] 30)
          refine hK.out _ (wc.alloc (.cells #[.int .i64 0, .slice none 0 0, .slice none 0 0, .slice none 0 0] 30)) (by exact HBM.out _ _ HScz.out (by simp) (by simp)) (by exact fun _ => trivial) ?_
          clear hK K
          try simp only [Act.put, List.setIfInBounds_toArray, List.set_cons_zero, List.set_cons_succ]
          generalize wc.alloc (.cells #[.int .i64 0, .slice none 0 0, .slice none 0 0, .slice none 0 0] 30) = wcz at *
          generalize wc.heap.size = f2 at *
          refine AnyL.step (i := 8) (by kernel_rfl) (by rfl) (fun K hK => ?_)
          go_simp
          have HCC := Lib.hid (HM2.out _ _ (show w.grownBy wcz none from Sep.all HScz.out (KeepA w) (by simp)) (show OwnInts 0 wcz _ (frL n m) from HScz.out.tl.hd).read)
          go_at_call 93
          with_reducible refine HCC.out.mono ?_
          rintro e wczc ⟨u0, ys, u1, u2, rfl, hx, hsg⟩
          obtain ⟨sb0, sd0, rfl⟩ := OE.shape hsg.hd
          obtain ⟨sb1, sd1, rfl⟩ := own_shape (show OwnInts 0 _ u1 _ from hsg.tl.hd)
          obtain ⟨sb2, sd2, rfl⟩ := own_shape (show OwnInts 0 _ u2 _ from hsg.tl.tl.hd)
          have hq := Sep.cutA (X := [_]) (A := [_, _]) (HScz.out.graft3 hsg OE_own OI_own OI_own)
          have HSczc := Lib.hid (Sep.cutA (X := [_, _]) (A := [_]) hq)
          have HX := Lib.hid hx
          clear hsg hx hq
          refine hK.out _ _ (by exact HBM.out _ _ HSczc.out (by simp) (by simp)) (by exact fun _ => trivial) ?_
          clear hK K
          try simp only [Act.put, List.setIfInBounds_toArray, List.set_cons_zero, List.set_cons_succ]
          have hz := Sep.blk (A := [_]) (B := [_]) HSczc.out
          obtain ⟨y0, y1, y2, y3, ff0, ff1, ff2, ff3⟩ := gq4 hz.hd
          have hz2 := (((hz.setB 0 (.int .i64 m)).setB 1 (.slice sb0 ys.length sd0)).setB 2 (.slice sb1 zi2.length sd1)).setB 3 (.slice sb2 zo2.length sd2)
          have HZ9 := Lib.hid hz2
          clear hz hz2
          refine AnyL.step (i := 10) (by kernel_rfl) (by rfl) (fun K hK => ?_)
          go_simp
          refine hK.out _ ((((wczc.setCell ⟨f2, 0, none⟩ (.int .i64 m)).setCell ⟨f2, 1, none⟩ (.slice sb0 ys.length sd0)).setCell ⟨f2, 2, none⟩ (.slice sb1 zi2.length sd1)).setCell ⟨f2, 3, none⟩ (.slice sb2 zo2.length sd2)) (by exact HBM.out _ _ HZ9.out (by simp) (by simp)) (by exact fun _ => trivial) ?_
          clear hK K
          try simp only [Act.put, List.setIfInBounds_toArray, List.set_cons_zero, List.set_cons_succ]
          refine AnyL.done (by kernel_rfl) ?_ _
          generalize (((wczc.setCell ⟨f2, 0, none⟩ (.int .i64 m)).setCell ⟨f2, 1, none⟩ (.slice sb0 ys.length sd0)).setCell ⟨f2, 2, none⟩ (.slice sb1 zi2.length sd1)).setCell ⟨f2, 3, none⟩ (.slice sb2 zo2.length sd2) = w9 at *
          clear y0 y1 y2 y3 ff0 ff1 ff2 ff3
          go_wp2_with fail
          go_meet
          exact ⟨f2, sb0, sd0, ys, sb1, sd1, sb2, sd2, rfl, HX.out, HZ9.out⟩
      · go_simp
        have HSz := Lib.hid (HSA.out.boxAt (wd.heap.size) (by rfl) #[.int .i64 0, .slice none 0 0, .slice none 0 0, .slice none 0 0] 30)
        refine hK.out _ (wd.alloc (.cells #[.int .i64 0, .slice none 0 0, .slice none 0 0, .slice none 0 0] 30)) (by exact HBM.out _ _ HSz.out (by simp) (by simp)) (by exact fun _ => trivial) ?_
        clear hK K
        try simp only [Act.put, List.setIfInBounds_toArray, List.set_cons_zero, List.set_cons_succ]
        generalize wd.alloc (.cells #[.int .i64 0, .slice none 0 0, .slice none 0 0, .slice none 0 0] 30) = wz at *
        generalize wd.heap.size = f2 at *
        refine AnyL.step (i := 7) (by kernel_rfl) (by rfl) (fun K hK => ?_)
        go_simp
        go_at_call 71
        with_reducible refine (HFR.out _).mono ?_
        rintro e wzc ⟨ug, uc, rfl, hsg⟩
        have HSzc := Lib.hid (HSz.out.graft1 hsg OI_own)
        have HKV := Lib.hid (show w.grownBy wzc none from Sep.all HSzc.out (KeepA w) (by simp))
        have HUV := Lib.hid (show OwnInts 0 wzc _ (frL n m) from HSzc.out.hd).read
        clear hsg
        refine hK.out _ _ (by exact HBM.out _ _ HSzc.out (by simp) (by simp)) (by exact fun _ => trivial) ?_
        clear hK K
        try simp only [Act.put, List.setIfInBounds_toArray, List.set_cons_zero, List.set_cons_succ]
        refine AnyL.step (i := 8) (by kernel_rfl) (by rfl) (fun K hK => ?_)
        go_simp
        have HCC := Lib.hid (HM2.out _ _ HKV.out HUV.out)
        go_at_call 93
        with_reducible refine HCC.out.mono ?_
        rintro e wzcc ⟨u0, ys, u1, u2, rfl, hx, hsg⟩
        obtain ⟨sb0, sd0, rfl⟩ := OE.shape hsg.hd
        obtain ⟨sb1, sd1, rfl⟩ := own_shape (show OwnInts 0 _ u1 _ from hsg.tl.hd)
        obtain ⟨sb2, sd2, rfl⟩ := own_shape (show OwnInts 0 _ u2 _ from hsg.tl.tl.hd)
        have hq := Sep.cutA (X := [_]) (A := [_, _]) (HSzc.out.graft3 hsg OE_own OI_own OI_own)
        have HSzcc := Lib.hid (Sep.cutA (X := [_]) (A := [_]) hq)
        have HX := Lib.hid hx
        clear hsg hx hq
        refine hK.out _ _ (by exact HBM.out _ _ HSzcc.out (by simp) (by simp)) (by exact fun _ => trivial) ?_
        clear hK K
        try simp only [Act.put, List.setIfInBounds_toArray, List.set_cons_zero, List.set_cons_succ]
        have hz := Sep.blk (A := [_]) (B := [_]) HSzcc.out
        obtain ⟨y0, y1, y2, y3, ff0, ff1, ff2, ff3⟩ := gq4 hz.hd
        have hz2 := (((hz.setB 0 (.int .i64 m)).setB 1 (.slice sb0 ys.length sd0)).setB 2 (.slice sb1 zi2.length sd1)).setB 3 (.slice sb2 zo2.length sd2)
        have HZ9 := Lib.hid hz2
        clear hz hz2
        refine AnyL.step (i := 10) (by kernel_rfl) (by rfl) (fun K hK => ?_)
        go_simp
        refine hK.out _ ((((wzcc.setCell ⟨f2, 0, none⟩ (.int .i64 m)).setCell ⟨f2, 1, none⟩ (.slice sb0 ys.length sd0)).setCell ⟨f2, 2, none⟩ (.slice sb1 zi2.length sd1)).setCell ⟨f2, 3, none⟩ (.slice sb2 zo2.length sd2)) (by exact HBM.out _ _ HZ9.out (by simp) (by simp)) (by exact fun _ => trivial) ?_
        clear hK K
        try simp only [Act.put, List.setIfInBounds_toArray, List.set_cons_zero, List.set_cons_succ]
        refine AnyL.done (by kernel_rfl) ?_ _
        generalize (((wzcc.setCell ⟨f2, 0, none⟩ (.int .i64 m)).setCell ⟨f2, 1, none⟩ (.slice sb0 ys.length sd0)).setCell ⟨f2, 2, none⟩ (.slice sb1 zi2.length sd1)).setCell ⟨f2, 3, none⟩ (.slice sb2 zo2.length sd2) = w9 at *
        clear y0 y1 y2 y3 ff0 ff1 ff2 ff3
        go_wp2_with fail
        go_meet
        exact ⟨f2, sb0, sd0, ys, sb1, sd1, sb2, sd2, rfl, HX.out, HZ9.out⟩
    case rest =>
      obtain ⟨f2, sb0, sd0, ys, sb1, sd1, sb2, sd2, rfl, hx, hs⟩ := hcut
      have HX2 := Lib.hid hx
      generalize wc = w3 at *
      have HS3 := Lib.hid hs
      clear hx HS2
      obtain ⟨_, x1, _⟩ := gq4 hs.hd
      obtain ⟨_, y1, _⟩ := gq4 hs.tl.tl.hd
      clear hs
      have hE := Sep.unbag (l := OR edgeE (.slice sa0 xs.length sc0) xs :: rowsE xs) (Sep.blk (A := [_, _, _]) (B := [_]) HS3.out)
      have HE := Lib.hid (show Sep w3 (OR edgeE (.slice sa0 xs.length sc0) xs :: (rowsE xs ++ [BxA f2 #[.int .i64 m, .slice sb0 ys.length sd0, .slice sb1 zi2.length sd1, .slice sb2 zo2.length sd2] 30, OE (.slice sb0 ys.length sd0) ys, BxA f1 #[.int .i64 n, .slice sa0 xs.length sc0, .slice sa1 zi.length sc1, .slice sa2 zo.length sc2] 30, BxA (w.heap.size + 3) #[.int .i64 ((n : Int) + m), .slice none 0 0, .slice none 0 0, .slice none 0 0] 30, BxA (w.heap.size + 2) #[.int .i64 0, .slice none 0 0, .slice none 0 0, .slice none 0 0] 30, BxA (w.heap.size + 1) #[.int .i64 m, .slice eb me fc, .slice ib mi gc, .slice ob mo hc] 30, BxA w.heap.size #[.int .i64 n, .slice ea ne ec, .slice ia ni ic, .slice oa no oc] 30, KeepA w])) from hE)
      have HRD := Lib.hid (OwnR.read (show OwnR edgeE 0 w3 (.slice sb0 ys.length sd0) ys from (Sep.unbag (l := OR edgeE (.slice sb0 ys.length sd0) ys :: rowsE ys) HS3.out.tl).hd))
      clear hE
      have HONE := Lib.hid (edge_oneT (w := w3) (ys := ys) (fun A hA => Sep.all (Sep.unbag (l := OR edgeE (.slice sb0 ys.length sd0) ys :: rowsE ys) HS3.out.tl).tl A (List.mem_append_left _ hA)))
      have HLS := Lib.hid (show xs.length + ys.length ≤ 10000000 from by have h1 := HEL.out.1 _ HX1.out; have h2 := HEL.out.2 _ HX2.out; rw [eds_len] at h1 h2; omega)
      go_wp2_with (
        at_builtin
        go_loud (
        refine app_RsG (E := edgeE) info_edge rfl (by decide) Tryz.underlying27 HONE.out rfl (.tmp 31) (.tmp 33) rfl rfl rfl HE.out HRD.out HLS.out ?_
        intro v4 w4 h4
        have k1 : Sep w4 ([BxA f2 #[.int .i64 m, .slice sb0 ys.length sd0, .slice sb1 zi2.length sd1, .slice sb2 zo2.length sd2] 30, OE (.slice sb0 ys.length sd0) ys] ++ ((OR edgeE v4 (xs ++ ys) :: rowsE xs) ++ [BxA f1 #[.int .i64 n, .slice sa0 xs.length sc0, .slice sa1 zi.length sc1, .slice sa2 zo.length sc2] 30, BxA (w.heap.size + 3) #[.int .i64 ((n : Int) + m), .slice none 0 0, .slice none 0 0, .slice none 0 0] 30, BxA (w.heap.size + 2) #[.int .i64 0, .slice none 0 0, .slice none 0 0, .slice none 0 0] 30, BxA (w.heap.size + 1) #[.int .i64 m, .slice eb me fc, .slice ib mi gc, .slice ob mo hc] 30, BxA w.heap.size #[.int .i64 n, .slice ea ne ec, .slice ia ni ic, .slice oa no oc] 30, KeepA w])) := Sep.blk (A := OR edgeE v4 (xs ++ ys) :: rowsE xs) (B := [BxA f2 #[.int .i64 m, .slice sb0 ys.length sd0, .slice sb1 zi2.length sd1, .slice sb2 zo2.length sd2] 30, OE (.slice sb0 ys.length sd0) ys]) (r := [BxA f1 #[.int .i64 n, .slice sa0 xs.length sc0, .slice sa1 zi.length sc1, .slice sa2 zo.length sc2] 30, BxA (w.heap.size + 3) #[.int .i64 ((n : Int) + m), .slice none 0 0, .slice none 0 0, .slice none 0 0] 30, BxA (w.heap.size + 2) #[.int .i64 0, .slice none 0 0, .slice none 0 0, .slice none 0 0] 30, BxA (w.heap.size + 1) #[.int .i64 m, .slice eb me fc, .slice ib mi gc, .slice ob mo hc] 30, BxA w.heap.size #[.int .i64 n, .slice ea ne ec, .slice ia ni ic, .slice oa no oc] 30, KeepA w]) h4
        have k3 : Sep w4 ((OR edgeE (.slice sb0 ys.length sd0) ys :: rowsE ys) ++ ((OR edgeE v4 (xs ++ ys) :: rowsE xs) ++ [BxA f1 #[.int .i64 n, .slice sa0 xs.length sc0, .slice sa1 zi.length sc1, .slice sa2 zo.length sc2] 30, BxA (w.heap.size + 3) #[.int .i64 ((n : Int) + m), .slice none 0 0, .slice none 0 0, .slice none 0 0] 30, BxA (w.heap.size + 2) #[.int .i64 0, .slice none 0 0, .slice none 0 0, .slice none 0 0] 30, BxA (w.heap.size + 1) #[.int .i64 m, .slice eb me fc, .slice ib mi gc, .slice ob mo hc] 30, BxA w.heap.size #[.int .i64 n, .slice ea ne ec, .slice ia ni ic, .slice oa no oc] 30, KeepA w])) := Sep.unbag (l := OR edgeE (.slice sb0 ys.length sd0) ys :: rowsE ys) k1.tl
        have k4 : Sep w4 (rowsE ys ++ ((OR edgeE v4 (xs ++ ys) :: rowsE xs) ++ [BxA f1 #[.int .i64 n, .slice sa0 xs.length sc0, .slice sa1 zi.length sc1, .slice sa2 zo.length sc2] 30, BxA (w.heap.size + 3) #[.int .i64 ((n : Int) + m), .slice none 0 0, .slice none 0 0, .slice none 0 0] 30, BxA (w.heap.size + 2) #[.int .i64 0, .slice none 0 0, .slice none 0 0, .slice none 0 0] 30, BxA (w.heap.size + 1) #[.int .i64 m, .slice eb me fc, .slice ib mi gc, .slice ob mo hc] 30, BxA w.heap.size #[.int .i64 n, .slice ea ne ec, .slice ia ni ic, .slice oa no oc] 30, KeepA w])) := k3.tl
        have k5 : Sep w4 (OE v4 (xs ++ ys) :: [BxA f1 #[.int .i64 n, .slice sa0 xs.length sc0, .slice sa1 zi.length sc1, .slice sa2 zo.length sc2] 30, BxA (w.heap.size + 3) #[.int .i64 ((n : Int) + m), .slice none 0 0, .slice none 0 0, .slice none 0 0] 30, BxA (w.heap.size + 2) #[.int .i64 0, .slice none 0 0, .slice none 0 0, .slice none 0 0] 30, BxA (w.heap.size + 1) #[.int .i64 m, .slice eb me fc, .slice ib mi gc, .slice ob mo hc] 30, BxA w.heap.size #[.int .i64 n, .slice ea ne ec, .slice ia ni ic, .slice oa no oc] 30, KeepA w]) := Sep.joinE (Sep.blk (A := rowsE ys) (B := OR edgeE v4 (xs ++ ys) :: rowsE xs) (r := [BxA f1 #[.int .i64 n, .slice sa0 xs.length sc0, .slice sa1 zi.length sc1, .slice sa2 zo.length sc2] 30, BxA (w.heap.size + 3) #[.int .i64 ((n : Int) + m), .slice none 0 0, .slice none 0 0, .slice none 0 0] 30, BxA (w.heap.size + 2) #[.int .i64 0, .slice none 0 0, .slice none 0 0, .slice none 0 0] 30, BxA (w.heap.size + 1) #[.int .i64 m, .slice eb me fc, .slice ib mi gc, .slice ob mo hc] 30, BxA w.heap.size #[.int .i64 n, .slice ea ne ec, .slice ia ni ic, .slice oa no oc] 30, KeepA w]) k4)
        obtain ⟨ga, gcc, rfl⟩ := OE.shape k5.hd
        obtain ⟨q, hq⟩ : ∃ q, (xs ++ ys).length = q := ⟨_, rfl⟩
        rw [hq] at k5 ⊢
        have HQL := Lib.hid hq
        clear hq
        have k6 := Sep.blk (A := [_]) (B := [_]) (Sep.cutA (X := [_]) (A := [_]) k5)
        obtain ⟨_, _, _, _, _, o1, _⟩ := gq4 k6.hd
        have k7 := k6.setB 1 (.slice ga q gcc)
        obtain ⟨p0, p1, p2, p3, _⟩ := gq4 k7.hd
        have k8 := Sep.blk (A := [_, _]) (B := [_]) k7
        obtain ⟨_, _, _, _, f0, f1_, f2_, f3⟩ := gq4 k8.hd
        have k9 := (((k8.setB 0 (.int .i64 ((n : Int) + m))).setB 1 (.slice ga q gcc)).setB 2 (.slice none 0 0)).setB 3 (.slice none 0 0)
        obtain ⟨t0, t1, t2, t3, _⟩ := gq4 k9.hd
        have HFIN := Lib.hid (Sep.cutA (X := [_]) (A := [_, _]) k9.tl.tl)
        clear k1 k3 k4 k5 k6 k7 k8 k9 h4 x1 y1))
      refine bodyPost_ret_by (v := .agg #[.int .i64 ((n : Int) + m), .slice ga q gcc, .slice none 0 0, .slice none 0 0]) ?_ rfl ⟨_, xs ++ ys, rfl, by unfold eds; rw [List.map_append]; show eds xs ++ eds ys = _; rw [HX1.out, HX2.out], HFIN.out⟩
      simp [results, go_sem, *]
end Go.Proofs.YtjagjhchnpmngaaGreatDoor

/-
  The graph of a leaf, in the program. Conditions: it is a leaf.
-/
namespace Go.Proofs.YtjagjhchnpmngaaGreatDoor
open Go.RowKit
set_option linter.unusedVariables false
set_option linter.unusedSimpArgs false
set_option maxRecDepth 100000

/-- A list of one item, just made. -/
theorem Sep.oneRT {α : Type} {w : World} {l : List Asrt} {E : Lay α} {y : α} {cs : Array Value} (h : Sep w l) (hc : cs.toList = E.cs y) (b : Nat) (hb : b = w.heap.size) : Sep (w.alloc (.cells cs E.ty)) (OR E (.slice (some ⟨b, 0, none⟩) 1 1) [y] :: l) := by
  subst hb
  refine h.new (grownBy_alloc _ _ none) ?_ fun k hk => ?_
  · refine ⟨by simp [E.len], Or.inr ⟨w.heap.size, 1, cs, rfl, Nat.zero_le _, alloc_heap_new w _, Nat.le_refl _, by decide, ?_, ?_⟩⟩
    · rw [← Array.length_toList, hc, E.len, Nat.one_mul]
    · rw [hc]
      simp only [List.length_cons, List.length_nil, Nat.zero_add, Nat.one_mul, List.flatMap_cons, List.flatMap_nil, List.append_nil]
      exact List.take_of_length_le (by rw [E.len]; exact Nat.le_refl _)
  · have : w.heap.size = k := by simpa [OR, Hits, Value.ownBlock] using hk
    omega
/-- Two integers, just laid. -/
theorem Sep.twoIT {w : World} {l : List Asrt} (h : Sep w l) (x y : Int) (b : Nat) (hb : b = w.heap.size) : Sep (w.alloc (.cells #[.int .i64 x, .int .i64 y] 3)) (OI (.slice (some ⟨b, 0, none⟩) 2 2) [x, y] :: l) := by
  subst hb
  refine h.new (grownBy_alloc _ _ none) ?_ fun k hk => ?_
  · exact ⟨rfl, Or.inr ⟨w.heap.size, 2, #[.int .i64 x, .int .i64 y], rfl, Nat.zero_le _, alloc_heap_new w _, Nat.le_refl _, by decide, rfl, rfl⟩⟩
  · have : w.heap.size = k := by simpa [OI, Hits, Value.ownBlock] using hk
    omega
theorem leafGr_one (n : Nat) (s : ByteArray) (w : World) (hn : n ≤ 12) : Calls Tryz.prog 49 #[.agg #[.int .i64 1, .int .i64 n, .string s]] w (OwnG ⟨(n : Int), [], upL n, upL n⟩ w) := by
  have HC := Lib.hid fun W => identG_any n W hn
  unfold OwnG grV at *
  obtain ⟨v, hv⟩ : ∃ v : Int, v = (n : Int) := ⟨_, rfl⟩
  have hs0 := ((Sep.start w).boxAt w.heap.size rfl #[.int .i64 1, .int .i64 n, .string s] 66).boxAt (w.heap.size + 1) (by simp) #[.int .i64 0, .slice none 0 0, .slice none 0 0, .slice none 0 0] 30
  have HS0 := Lib.hid hs0
  obtain ⟨x0, x1, x2⟩ := bw3 hs0.tl.hd
  clear hs0
  clear hv
  go_enter Tryz.func49, Tryz.ntmps49
  go_wp2_with (
    go_at_call 74
    with_reducible refine (HC.out _).mono ?_
    rintro e w3 ⟨u0, xs, u1, u2, rfl, hx, hsg⟩
    obtain ⟨t0, v0, rfl⟩ := OE.shape hsg.hd
    obtain ⟨t1, v1, rfl⟩ := own_shape (show OwnInts 0 w3 u1 (upL n) from hsg.tl.hd)
    obtain ⟨t2, v2, rfl⟩ := own_shape (show OwnInts 0 w3 u2 (upL n) from hsg.tl.tl.hd)
    obtain ⟨q0, hq0⟩ : ∃ q, xs.length = q := ⟨_, rfl⟩
    obtain ⟨q1, hq1⟩ : ∃ q, (upL n).length = q := ⟨_, rfl⟩
    rw [hq0, hq1] at hsg
    rw [hq0, hq1]
    have hs1 := Sep.blk (A := [_, _, _]) (B := [_]) (HS0.out.graft3 hsg OE_own OI_own OI_own)
    obtain ⟨k0, k1, k2, k3, k4, k5, k6, k7⟩ := gq4 hs1.hd
    have hs2 := (((hs1.setB 0 (.int .i64 n)).setB 1 (.slice t0 q0 v0)).setB 2 (.slice t1 q1 v1)).setB 3 (.slice t2 q1 v2)
    obtain ⟨l0, l1, l2, l3, _⟩ := gq4 hs2.hd
    have HSF := Lib.hid (Sep.cutA (X := [_, _, _]) (A := [_]) hs2.tl)
    have HXF := Lib.hid hx
    clear hsg hs1 hs2 hx hq0 hq1 x0 x1 x2)
  refine bodyPost_ret_by (v := .agg #[.int .i64 n, .slice t0 q0 v0, .slice t1 q1 v1, .slice t2 q1 v2]) ?_ rfl ⟨_, xs, _, _, rfl, HXF.out, HSF.out⟩
  simp [results, go_sem, *]
set_option maxHeartbeats 2000000 in
theorem leafGr_two (v : Int) (s : ByteArray) (w : World) : Calls Tryz.prog 49 #[.agg #[.int .i64 2, .int .i64 v, .string s]] w (OwnG ⟨2, [], [0, 1], [1, 0]⟩ w) := by
  unfold OwnG grV
  have hs0 := ((Sep.start w).boxAt w.heap.size rfl #[.int .i64 2, .int .i64 v, .string s] 66).boxAt (w.heap.size + 1) (by simp) #[.int .i64 0, .slice none 0 0, .slice none 0 0, .slice none 0 0] 30
  have HS0 := Lib.hid hs0
  obtain ⟨x0, x1, x2⟩ := bw3 hs0.tl.hd
  clear hs0
  have hs1 := ((((Sep.start w).boxAt w.heap.size rfl #[.int .i64 2, .int .i64 v, .string s] 66).boxAt (w.heap.size + 1) (by simp) #[.int .i64 2, .slice none 0 0, .slice (some ⟨w.heap.size + 1 + 1, 0, none⟩) 2 2, .slice (some ⟨w.heap.size + 1 + 1 + 1, 0, none⟩) 2 2] 30).twoIT 0 1 (w.heap.size + 1 + 1) (by simp)).twoIT 1 0 (w.heap.size + 1 + 1 + 1) (by simp)
  obtain ⟨l0, l1, l2, l3, _⟩ := gq4 hs1.tl.tl.hd
  have HSF := Lib.hid (Sep.bag (l := [OR edgeE nilS []]) (Sep.nilR edgeE (Sep.cutA (X := [_, _]) (A := [_, _]) hs1).s2))
  clear hs1
  go_enter Tryz.func49, Tryz.ntmps49
  go_wp2_with fail
  refine bodyPost_ret_by (v := .agg #[.int .i64 2, .slice none 0 0, .slice (some ⟨w.heap.size + 1 + 1, 0, none⟩) 2 2, .slice (some ⟨w.heap.size + 1 + 1 + 1, 0, none⟩) 2 2]) ?_ rfl ⟨_, [], _, _, rfl, rfl, HSF.out⟩
  simp [results, go_sem, *]
set_option maxHeartbeats 4000000 in
theorem leafGr_gen (k v : Int) (s : ByteArray) (w : World) (hk : inB k 3 14 = true) : Calls Tryz.prog 49 #[.agg #[.int .i64 k, .int .i64 v, .string s]] w (OwnG (genG k v (edW k).1 (edW k).2) w) := by
  have HG := Lib.hid fun W => generatorWires_any k W hk
  have hsm := edW_small k
  rw [inB_iff] at hk
  have h1 : (k == 1) = false := by simp; omega
  have h2 : (k == 2) = false := by simp; omega
  obtain ⟨a, ha⟩ : ∃ a : Nat, (edW k).1 = a := ⟨_, rfl⟩
  obtain ⟨c, hc⟩ : ∃ c : Nat, (edW k).2 = c := ⟨_, rfl⟩
  rw [ha, hc] at HG hsm ⊢
  have HU := Lib.hid fun W => upTo_any a W (by omega)
  have HFR := Lib.hid fun W => from_any a c W (by omega) (by omega)
  have hwr : IntKind.i64.wrap ((a : Int) + (c : Int)) = (a : Int) + (c : Int) := wrap_id (by omega) (by omega)
  have HCI := Lib.hid fun tv W (ht : IntsV W tv (upL a)) => cloneT_any tv (upL a) W ht (by rw [upL_len]; omega)
  have HCO := Lib.hid fun tv W (ht : IntsV W tv (frL a c)) => cloneT_any tv (frL a c) W ht (by rw [frL_len]; omega)
  rw [upL_len] at HCI
  rw [frL_len] at HCO
  unfold OwnG grV
  clear ha hc hsm hk
  have hs0 := ((Sep.start w).boxAt w.heap.size rfl #[.int .i64 k, .int .i64 v, .string s] 66).boxAt (w.heap.size + 1) (by simp) #[.int .i64 0, .slice none 0 0, .slice none 0 0, .slice none 0 0] 30
  have HS0 := Lib.hid hs0
  obtain ⟨x0, x1, x2⟩ := bw3 hs0.tl.hd
  clear hs0
  go_enter Tryz.func49, Tryz.ntmps49
  go_upto_region 7 with (
    go_at_call 75
    with_reducible refine (HG.out _).mono ?_
    rintro e w3 ⟨rfl, hg⟩
    have HS3 := Lib.hid ((HS0.out.grown hg).boxAt w3.heap.size rfl #[.int .i64 a, .int .i64 c] 95)
    clear hg x0 x1 x2)
  generalize w3.alloc (.cells #[.int .i64 a, .int .i64 c] 95) = w4 at *
  generalize w3.heap.size = xw at *
  have HBM := Lib.hid fun (W1 : World) (L : List Asrt) (h : Sep W1 L) (h1 : BxA xw #[.int .i64 a, .int .i64 c] 95 ∈ L) => show W1.cell? ⟨xw, 0, none⟩ = some (.int .i64 a) ∧ W1.cell? ⟨xw, 1, none⟩ = some (.int .i64 c) from by
    obtain ⟨p0, p1, _⟩ := bw2 (show W1.heap[xw]? = some (.cells #[.int .i64 a, .int .i64 c] 95 (0, 0)) from Sep.all h _ h1)
    exact ⟨p0, p1⟩
  have HSD := Lib.hid HS3.out.dr
  have X0 := Lib.hid (HBM.out _ _ HSD.out (by simp))
  refine AnyL.start (fun W1 => W1.cell? ⟨xw, 0, none⟩ = some (.int .i64 a) ∧ W1.cell? ⟨xw, 1, none⟩ = some (.int .i64 c)) (fun _ => True) 99 (by kernel_rfl) ?_
  generalize w4.drew = w5 at *
  refine AnyL.take (i := 0) (v := ?vx1) (by rfl) (by kernel_rfl) (by kernel_rfl) (by kernel_rfl) rfl (by exact fun _ _ _ h => h) (by rfl) ?hyx1 (by exact ⟨X0.out, fun _ => trivial⟩) ?restx1
  case hyx1 => intro W hSW; (try dsimp only at hSW); first | (go_simp; done) | (go_simp; with_reducible rfl)
  try simp only [Act.put, List.setIfInBounds_toArray, List.set_cons_zero, List.set_cons_succ]
  refine AnyL.take (i := 1) (v := ?vx2) (by rfl) (by kernel_rfl) (by kernel_rfl) (by kernel_rfl) rfl (by exact fun _ _ _ h => h) (by rfl) ?hyx2 (by exact ⟨X0.out, fun _ => trivial⟩) ?restx2
  case hyx2 => intro W hSW; (try dsimp only at hSW); first | (go_simp; done) | (go_simp; with_reducible rfl)
  try simp only [Act.put, List.setIfInBounds_toArray, List.set_cons_zero, List.set_cons_succ]
  refine AnyL.take (i := 3) (v := ?vx3) (by rfl) (by kernel_rfl) (by kernel_rfl) (by kernel_rfl) rfl (by exact fun _ _ _ h => h) (by rfl) ?hyx3 (by exact ⟨X0.out, fun _ => trivial⟩) ?restx3
  case hyx3 => intro W hSW; (try dsimp only at hSW); first | (go_simp; done) | (go_simp; with_reducible rfl)
  try simp only [Act.put, List.setIfInBounds_toArray, List.set_cons_zero, List.set_cons_succ]
  refine AnyL.take (i := 4) (v := ?vx4) (by rfl) (by kernel_rfl) (by kernel_rfl) (by kernel_rfl) rfl (by exact fun _ _ _ h => h) (by rfl) ?hyx4 (by exact ⟨X0.out, fun _ => trivial⟩) ?restx4
  case hyx4 => intro W hSW; (try dsimp only at hSW); first | (go_simp; done) | (go_simp; with_reducible rfl)
  try simp only [Act.put, List.setIfInBounds_toArray, List.set_cons_zero, List.set_cons_succ]
  refine AnyL.take (i := 5) (v := ?vx5) (by rfl) (by kernel_rfl) (by kernel_rfl) (by kernel_rfl) rfl (by exact fun _ _ _ h => h) (by rfl) ?hyx5 (by exact ⟨X0.out, fun _ => trivial⟩) ?restx5
  case hyx5 => intro W hSW; (try dsimp only at hSW); first | (go_simp; done) | (go_simp; with_reducible rfl)
  try simp only [Act.put, List.setIfInBounds_toArray, List.set_cons_zero, List.set_cons_succ]
  refine AnyL.take (i := 6) (v := ?vx6) (by rfl) (by kernel_rfl) (by kernel_rfl) (by kernel_rfl) rfl (by exact fun _ _ _ h => h) (by rfl) ?hyx6 (by exact ⟨X0.out, fun _ => trivial⟩) ?restx6
  case hyx6 => intro W hSW; (try dsimp only at hSW); first | (go_simp; done) | (go_simp; with_reducible rfl)
  try simp only [Act.put, List.setIfInBounds_toArray, List.set_cons_zero, List.set_cons_succ]
  refine AnyL.step (i := 2) (by kernel_rfl) (by rfl) (fun K hK => ?_)
  go_simp
  go_at_call 76
  with_reducible refine (HU.out _).mono ?_
  rintro e w6 ⟨gi, ci, rfl, hsg⟩
  have HS6 := Lib.hid (HSD.out.graft1 hsg OI_own)
  clear hsg
  refine hK.out _ _ (by exact HBM.out _ _ HS6.out (by simp)) (by exact fun _ => trivial) ?_
  clear hK K
  try simp only [Act.put, List.setIfInBounds_toArray, List.set_cons_zero, List.set_cons_succ]
  refine AnyL.step (i := 7) (by kernel_rfl) (by rfl) (fun K hK => ?_)
  go_simp
  go_at_call 71
  with_reducible refine (HFR.out _).mono ?_
  rintro e w7 ⟨go_, co_, rfl, hsg⟩
  have HS7 := Lib.hid (HS6.out.graft1 hsg OI_own)
  clear hsg
  refine hK.out _ _ (by exact HBM.out _ _ HS7.out (by simp)) (by exact fun _ => trivial) ?_
  clear hK K
  try simp only [Act.put, List.setIfInBounds_toArray, List.set_cons_zero, List.set_cons_succ]
  refine AnyL.take (i := 8) (v := ?vx7) (by rfl) (by kernel_rfl) (by kernel_rfl) (by kernel_rfl) rfl (by exact fun _ _ _ h => h) (by rfl) ?hyx7 (by exact ⟨HBM.out _ _ HS7.out (by simp), fun _ => trivial⟩) ?restx7
  case hyx7 => intro W hSW; (try dsimp only at hSW); first | (go_simp; done) | (go_simp; with_reducible rfl)
  try simp only [Act.put, List.setIfInBounds_toArray, List.set_cons_zero, List.set_cons_succ]
  refine AnyL.take (i := 9) (v := ?vx8) (by rfl) (by kernel_rfl) (by kernel_rfl) (by kernel_rfl) rfl (by exact fun _ _ _ h => h) (by rfl) ?hyx8 (by exact ⟨HBM.out _ _ HS7.out (by simp), fun _ => trivial⟩) ?restx8
  case hyx8 => intro W hSW; (try dsimp only at hSW); first | (go_simp; done) | (go_simp; with_reducible rfl)
  try simp only [Act.put, List.setIfInBounds_toArray, List.set_cons_zero, List.set_cons_succ]
  refine AnyL.done (by kernel_rfl) ?_ _
  clear X0 HSD
  go_upto_region 8 with fail
  have HBN := Lib.hid fun (W1 : World) (L : List Asrt) (h : Sep W1 L) (h1 : BxA xw #[.int .i64 a, .int .i64 c] 95 ∈ L) (h2 : BxA w.heap.size #[.int .i64 k, .int .i64 v, .string s] 66 ∈ L) => show (W1.cell? ⟨xw, 0, none⟩ = some (.int .i64 a) ∧ W1.cell? ⟨xw, 1, none⟩ = some (.int .i64 c)) ∧ W1.cell? ⟨w.heap.size, 0, none⟩ = some (.int .i64 k) ∧ W1.cell? ⟨w.heap.size, 1, none⟩ = some (.int .i64 v) from by
    obtain ⟨p0, p1, _⟩ := bw3 (show W1.heap[w.heap.size]? = some (.cells #[.int .i64 k, .int .i64 v, .string s] 66 (0, 0)) from Sep.all h _ h2)
    exact ⟨HBM.out _ _ h h1, p0, p1⟩
  have HSE := Lib.hid HS7.out.dr
  have X1 := Lib.hid (HBN.out _ _ HSE.out (by simp) (by simp))
  refine AnyL.start (fun W1 => (W1.cell? ⟨xw, 0, none⟩ = some (.int .i64 a) ∧ W1.cell? ⟨xw, 1, none⟩ = some (.int .i64 c)) ∧ W1.cell? ⟨w.heap.size, 0, none⟩ = some (.int .i64 k) ∧ W1.cell? ⟨w.heap.size, 1, none⟩ = some (.int .i64 v)) (fun _ => True) 99 (by kernel_rfl) ?_
  generalize w7.drew = w8 at *
  refine AnyL.take (i := 0) (v := ?vx9) (by rfl) (by kernel_rfl) (by kernel_rfl) (by kernel_rfl) rfl (by exact fun _ _ _ h => h) (by rfl) ?hyx9 (by exact ⟨X1.out, fun _ => trivial⟩) ?restx9
  case hyx9 => intro W hSW; (try dsimp only at hSW); first | (go_simp; done) | (go_simp; with_reducible rfl)
  try simp only [Act.put, List.setIfInBounds_toArray, List.set_cons_zero, List.set_cons_succ]
  refine AnyL.take (i := 1) (v := ?vx10) (by rfl) (by kernel_rfl) (by kernel_rfl) (by kernel_rfl) rfl (by exact fun _ _ _ h => h) (by rfl) ?hyx10 (by exact ⟨X1.out, fun _ => trivial⟩) ?restx10
  case hyx10 => intro W hSW; (try dsimp only at hSW); first | (go_simp; done) | (go_simp; with_reducible rfl)
  try simp only [Act.put, List.setIfInBounds_toArray, List.set_cons_zero, List.set_cons_succ]
  refine AnyL.take (i := 2) (v := ?vx11) (by rfl) (by kernel_rfl) (by kernel_rfl) (by kernel_rfl) rfl (by exact fun _ _ _ h => h) (by rfl) ?hyx11 (by exact ⟨X1.out, fun _ => trivial⟩) ?restx11
  case hyx11 => intro W hSW; (try dsimp only at hSW); first | (go_simp; done) | (go_simp; with_reducible rfl)
  try simp only [Act.put, List.setIfInBounds_toArray, List.set_cons_zero, List.set_cons_succ]
  refine AnyL.take (i := 3) (v := ?vx12) (by rfl) (by kernel_rfl) (by kernel_rfl) (by kernel_rfl) rfl (by exact fun _ _ _ h => h) (by rfl) ?hyx12 (by exact ⟨X1.out, fun _ => trivial⟩) ?restx12
  case hyx12 => intro W hSW; (try dsimp only at hSW); first | (go_simp; done) | (go_simp; with_reducible rfl)
  try simp only [Act.put, List.setIfInBounds_toArray, List.set_cons_zero, List.set_cons_succ]
  refine AnyL.take (i := 4) (v := ?vx13) (by rfl) (by kernel_rfl) (by kernel_rfl) (by kernel_rfl) rfl (by exact fun _ _ _ h => h) (by rfl) ?hyx13 (by exact ⟨X1.out, fun _ => trivial⟩) ?restx13
  case hyx13 => intro W hSW; (try dsimp only at hSW); first | (go_simp; done) | (go_simp; with_reducible rfl)
  try simp only [Act.put, List.setIfInBounds_toArray, List.set_cons_zero, List.set_cons_succ]
  refine AnyL.take (i := 5) (v := ?vx14) (by rfl) (by kernel_rfl) (by kernel_rfl) (by kernel_rfl) rfl (by exact fun _ _ _ h => h) (by rfl) ?hyx14 (by exact ⟨X1.out, fun _ => trivial⟩) ?restx14
  case hyx14 => intro W hSW; (try dsimp only at hSW); first | (go_simp; done) | (go_simp; with_reducible rfl)
  try simp only [Act.put, List.setIfInBounds_toArray, List.set_cons_zero, List.set_cons_succ]
  refine AnyL.take (i := 6) (v := ?vx15) (by rfl) (by kernel_rfl) (by kernel_rfl) (by kernel_rfl) rfl (by exact fun _ _ _ h => h) (by rfl) ?hyx15 (by exact ⟨X1.out, fun _ => trivial⟩) ?restx15
  case hyx15 => intro W hSW; (try dsimp only at hSW); first | (go_simp; done) | (go_simp; with_reducible rfl)
  try simp only [Act.put, List.setIfInBounds_toArray, List.set_cons_zero, List.set_cons_succ]
  refine AnyL.take (i := 7) (v := ?vx16) (by rfl) (by kernel_rfl) (by kernel_rfl) (by kernel_rfl) rfl (by exact fun _ _ _ h => h) (by rfl) ?hyx16 (by exact ⟨X1.out, fun _ => trivial⟩) ?restx16
  case hyx16 => intro W hSW; (try dsimp only at hSW); first | (go_simp; done) | (go_simp; with_reducible rfl)
  try simp only [Act.put, List.setIfInBounds_toArray, List.set_cons_zero, List.set_cons_succ]
  refine AnyL.take (i := 8) (v := ?vx17) (by rfl) (by kernel_rfl) (by kernel_rfl) (by kernel_rfl) rfl (by exact fun _ _ _ h => h) (by rfl) ?hyx17 (by exact ⟨X1.out, fun _ => trivial⟩) ?restx17
  case hyx17 => intro W hSW; (try dsimp only at hSW); first | (go_simp; done) | (go_simp; with_reducible rfl)
  try simp only [Act.put, List.setIfInBounds_toArray, List.set_cons_zero, List.set_cons_succ]
  refine AnyL.take (i := 9) (v := ?vx18) (by rfl) (by kernel_rfl) (by kernel_rfl) (by kernel_rfl) rfl (by exact fun _ _ _ h => h) (by rfl) ?hyx18 (by exact ⟨X1.out, fun _ => trivial⟩) ?restx18
  case hyx18 => intro W hSW; (try dsimp only at hSW); first | (go_simp; done) | (go_simp; with_reducible rfl)
  try simp only [Act.put, List.setIfInBounds_toArray, List.set_cons_zero, List.set_cons_succ]
  refine AnyL.take (i := 10) (v := ?vx19) (by rfl) (by kernel_rfl) (by kernel_rfl) (by kernel_rfl) rfl (by exact fun _ _ _ h => h) (by rfl) ?hyx19 (by exact ⟨X1.out, fun _ => trivial⟩) ?restx19
  case hyx19 => intro W hSW; (try dsimp only at hSW); first | (go_simp; done) | (go_simp; with_reducible rfl)
  try simp only [Act.put, List.setIfInBounds_toArray, List.set_cons_zero, List.set_cons_succ]
  refine AnyL.take (i := 11) (v := ?vx20) (by rfl) (by kernel_rfl) (by kernel_rfl) (by kernel_rfl) rfl (by exact fun _ _ _ h => h) (by rfl) ?hyx20 (by exact ⟨X1.out, fun _ => trivial⟩) ?restx20
  case hyx20 => intro W hSW; (try dsimp only at hSW); first | (go_simp; done) | (go_simp; with_reducible rfl)
  try simp only [Act.put, List.setIfInBounds_toArray, List.set_cons_zero, List.set_cons_succ]
  refine AnyL.take (i := 13) (v := ?vx21) (by rfl) (by kernel_rfl) (by kernel_rfl) (by kernel_rfl) rfl (by exact fun _ _ _ h => h) (by rfl) ?hyx21 (by exact ⟨X1.out, fun _ => trivial⟩) ?restx21
  case hyx21 => intro W hSW; (try dsimp only at hSW); first | (go_simp; done) | (go_simp; with_reducible rfl)
  try simp only [Act.put, List.setIfInBounds_toArray, List.set_cons_zero, List.set_cons_succ]
  refine AnyL.take (i := 15) (v := ?vx22) (by rfl) (by kernel_rfl) (by kernel_rfl) (by kernel_rfl) rfl (by exact fun _ _ _ h => h) (by rfl) ?hyx22 (by exact ⟨X1.out, fun _ => trivial⟩) ?restx22
  case hyx22 => intro W hSW; (try dsimp only at hSW); first | (go_simp; done) | (go_simp; with_reducible rfl)
  try simp only [Act.put, List.setIfInBounds_toArray, List.set_cons_zero, List.set_cons_succ]
  refine AnyL.twoM (i := 12) (j := 14) (by kernel_rfl) (by rfl) (by rfl) (fun K hK => ?_) (fun K hK => ?_)
  · go_simp
    have HSqz := Lib.hid (show Sep (w8.alloc (.cells #[.int .i64 k, .int .i64 v, .slice (some ⟨gi, 0, none⟩) a ci, .slice (some ⟨go_, 0, none⟩) c co_] 88)) _ from Sep.oneRT (E := edgeE) (y := ⟨⟨k, v, upL a, frL a c⟩, .slice (some ⟨gi, 0, none⟩) a ci, .slice (some ⟨go_, 0, none⟩) c co_⟩) (cs := #[.int .i64 k, .int .i64 v, .slice (some ⟨gi, 0, none⟩) a ci, .slice (some ⟨go_, 0, none⟩) c co_]) HSE.out rfl (w8.heap.size) rfl)
    refine hK.out _ (w8.alloc (.cells #[.int .i64 k, .int .i64 v, .slice (some ⟨gi, 0, none⟩) a ci, .slice (some ⟨go_, 0, none⟩) c co_] 88)) (by exact HBN.out _ _ HSqz.out (by simp) (by simp)) (by exact fun _ => trivial) ?_
    clear hK K
    try simp only [Act.put, List.setIfInBounds_toArray, List.set_cons_zero, List.set_cons_succ]
    generalize w8.alloc (.cells #[.int .i64 k, .int .i64 v, .slice (some ⟨gi, 0, none⟩) a ci, .slice (some ⟨go_, 0, none⟩) c co_] 88) = wqz at *
    generalize w8.heap.size = xe at *
    refine AnyL.step (i := 14) (by kernel_rfl) (by rfl) (fun K hK => ?_)
    go_simp
    have HCC := Lib.hid (HCI.out _ _ (show OwnInts 0 wqz _ (upL a) from HSqz.out.tl.tl.hd).read)
    go_at_call 69
    with_reducible refine HCC.out.mono ?_
    rintro e wqzc ⟨aCI, cCI, rfl, hsg⟩
    have HSqzc := Lib.hid (HSqz.out.graft1 hsg OI_own)
    clear hsg
    refine hK.out _ _ (by exact HBN.out _ _ HSqzc.out (by simp) (by simp)) (by exact fun _ => trivial) ?_
    clear hK K
    try simp only [Act.put, List.setIfInBounds_toArray, List.set_cons_zero, List.set_cons_succ]
    refine AnyL.step (i := 16) (by kernel_rfl) (by rfl) (fun K hK => ?_)
    go_simp
    have HCC := Lib.hid (HCO.out _ _ (show OwnInts 0 wqzc _ (frL a c) from HSqzc.out.tl.tl.hd).read)
    go_at_call 69
    with_reducible refine HCC.out.mono ?_
    rintro e wqzcc ⟨aCO, cCO, rfl, hsg⟩
    have HSqzcc := Lib.hid (HSqzc.out.graft1 hsg OI_own)
    clear hsg
    refine hK.out _ _ (by exact HBN.out _ _ HSqzcc.out (by simp) (by simp)) (by exact fun _ => trivial) ?_
    clear hK K
    try simp only [Act.put, List.setIfInBounds_toArray, List.set_cons_zero, List.set_cons_succ]
    refine AnyL.take (i := 17) (v := ?vx23) (by rfl) (by kernel_rfl) (by kernel_rfl) (by kernel_rfl) rfl (by exact fun _ _ _ h => h) (by rfl) ?hyx23 (by exact ⟨HBN.out _ _ HSqzcc.out (by simp) (by simp), fun _ => trivial⟩) ?restx23
    case hyx23 => intro W hSW; (try dsimp only at hSW); first | (go_simp; done) | (go_simp; with_reducible rfl)
    try simp only [Act.put, List.setIfInBounds_toArray, List.set_cons_zero, List.set_cons_succ]
    have hz := Sep.blk (A := [_, _, _, _, _, _]) (B := [_]) HSqzcc.out
    obtain ⟨y0, y1, y2, y3, ff0, ff1, ff2, ff3⟩ := gq4 hz.hd
    have hz2 := (((hz.setB 0 (.int .i64 ((a : Int) + c))).setB 1 (.slice (some ⟨xe, 0, none⟩) 1 1)).setB 2 (.slice aCI a cCI)).setB 3 (.slice aCO c cCO)
    have HZ9 := Lib.hid hz2
    clear hz hz2
    refine AnyL.step (i := 18) (by kernel_rfl) (by rfl) (fun K hK => ?_)
    go_simp
    refine hK.out _ ((((wqzcc.setCell ⟨w.heap.size + 1, 0, none⟩ (.int .i64 ((a : Int) + c))).setCell ⟨w.heap.size + 1, 1, none⟩ (.slice (some ⟨xe, 0, none⟩) 1 1)).setCell ⟨w.heap.size + 1, 2, none⟩ (.slice aCI a cCI)).setCell ⟨w.heap.size + 1, 3, none⟩ (.slice aCO c cCO)) (by exact HBN.out _ _ HZ9.out (by simp) (by simp)) (by exact fun _ => trivial) ?_
    clear hK K
    try simp only [Act.put, List.setIfInBounds_toArray, List.set_cons_zero, List.set_cons_succ]
    refine AnyL.done (by kernel_rfl) ?_ _
    generalize (((wqzcc.setCell ⟨w.heap.size + 1, 0, none⟩ (.int .i64 ((a : Int) + c))).setCell ⟨w.heap.size + 1, 1, none⟩ (.slice (some ⟨xe, 0, none⟩) 1 1)).setCell ⟨w.heap.size + 1, 2, none⟩ (.slice aCI a cCI)).setCell ⟨w.heap.size + 1, 3, none⟩ (.slice aCO c cCO) = w9 at *
    clear y0 y1 y2 y3 ff0 ff1 ff2 ff3
    obtain ⟨l0, l1, l2, l3, _⟩ := gq4 HZ9.out.hd
    have HSF := Lib.hid (Sep.bag (l := [_, _, _]) (Sep.cutA (X := [_, _, _, _, _]) (A := [_, _, _]) (Sep.blk (A := [_, _, _, _, _]) (B := [_]) (Sep.blk (A := [_, _, _, _, _]) (B := [_]) (Sep.blk (A := [_, _, _, _]) (B := [_]) (Sep.blk (A := [_, _]) (B := [_]) (Sep.blk (A := [_]) (B := [_]) (HZ9.out))))))))
    go_wp2_with fail
    refine bodyPost_ret_by (v := .agg #[.int .i64 ((a : Int) + c), .slice (some ⟨xe, 0, none⟩) 1 1, .slice aCI a cCI, .slice aCO c cCO]) ?_ rfl ⟨.slice (some ⟨xe, 0, none⟩) 1 1, [⟨⟨k, v, upL a, frL a c⟩, .slice (some ⟨gi, 0, none⟩) a ci, .slice (some ⟨go_, 0, none⟩) c co_⟩], .slice aCI a cCI, .slice aCO c cCO, by show _ = Ending.returned (.agg #[.int .i64 ((a + c : Nat) : Int), _, _, _]); rw [show ((a + c : Nat) : Int) = (a : Int) + c from by omega], rfl, HSF.out⟩
    simp [results, go_sem, *]
  · go_simp
    have HCC := Lib.hid (HCI.out _ _ (show OwnInts 0 w8 _ (upL a) from HSE.out.tl.hd).read)
    go_at_call 69
    with_reducible refine HCC.out.mono ?_
    rintro e wqc ⟨aCI, cCI, rfl, hsg⟩
    have HSqc := Lib.hid (HSE.out.graft1 hsg OI_own)
    clear hsg
    refine hK.out _ _ (by exact HBN.out _ _ HSqc.out (by simp) (by simp)) (by exact fun _ => trivial) ?_
    clear hK K
    try simp only [Act.put, List.setIfInBounds_toArray, List.set_cons_zero, List.set_cons_succ]
    refine AnyL.twoM (i := 12) (j := 16) (by kernel_rfl) (by rfl) (by rfl) (fun K hK => ?_) (fun K hK => ?_)
    · go_simp
      have HSqcz := Lib.hid (show Sep (wqc.alloc (.cells #[.int .i64 k, .int .i64 v, .slice (some ⟨gi, 0, none⟩) a ci, .slice (some ⟨go_, 0, none⟩) c co_] 88)) _ from Sep.oneRT (E := edgeE) (y := ⟨⟨k, v, upL a, frL a c⟩, .slice (some ⟨gi, 0, none⟩) a ci, .slice (some ⟨go_, 0, none⟩) c co_⟩) (cs := #[.int .i64 k, .int .i64 v, .slice (some ⟨gi, 0, none⟩) a ci, .slice (some ⟨go_, 0, none⟩) c co_]) HSqc.out rfl (wqc.heap.size) rfl)
      refine hK.out _ (wqc.alloc (.cells #[.int .i64 k, .int .i64 v, .slice (some ⟨gi, 0, none⟩) a ci, .slice (some ⟨go_, 0, none⟩) c co_] 88)) (by exact HBN.out _ _ HSqcz.out (by simp) (by simp)) (by exact fun _ => trivial) ?_
      clear hK K
      try simp only [Act.put, List.setIfInBounds_toArray, List.set_cons_zero, List.set_cons_succ]
      generalize wqc.alloc (.cells #[.int .i64 k, .int .i64 v, .slice (some ⟨gi, 0, none⟩) a ci, .slice (some ⟨go_, 0, none⟩) c co_] 88) = wqcz at *
      generalize wqc.heap.size = xe at *
      refine AnyL.step (i := 16) (by kernel_rfl) (by rfl) (fun K hK => ?_)
      go_simp
      have HCC := Lib.hid (HCO.out _ _ (show OwnInts 0 wqcz _ (frL a c) from HSqcz.out.tl.tl.hd).read)
      go_at_call 69
      with_reducible refine HCC.out.mono ?_
      rintro e wqczc ⟨aCO, cCO, rfl, hsg⟩
      have HSqczc := Lib.hid (HSqcz.out.graft1 hsg OI_own)
      clear hsg
      refine hK.out _ _ (by exact HBN.out _ _ HSqczc.out (by simp) (by simp)) (by exact fun _ => trivial) ?_
      clear hK K
      try simp only [Act.put, List.setIfInBounds_toArray, List.set_cons_zero, List.set_cons_succ]
      refine AnyL.take (i := 17) (v := ?vx24) (by rfl) (by kernel_rfl) (by kernel_rfl) (by kernel_rfl) rfl (by exact fun _ _ _ h => h) (by rfl) ?hyx24 (by exact ⟨HBN.out _ _ HSqczc.out (by simp) (by simp), fun _ => trivial⟩) ?restx24
      case hyx24 => intro W hSW; (try dsimp only at hSW); first | (go_simp; done) | (go_simp; with_reducible rfl)
      try simp only [Act.put, List.setIfInBounds_toArray, List.set_cons_zero, List.set_cons_succ]
      have hz := Sep.blk (A := [_, _, _, _, _, _]) (B := [_]) HSqczc.out
      obtain ⟨y0, y1, y2, y3, ff0, ff1, ff2, ff3⟩ := gq4 hz.hd
      have hz2 := (((hz.setB 0 (.int .i64 ((a : Int) + c))).setB 1 (.slice (some ⟨xe, 0, none⟩) 1 1)).setB 2 (.slice aCI a cCI)).setB 3 (.slice aCO c cCO)
      have HZ9 := Lib.hid hz2
      clear hz hz2
      refine AnyL.step (i := 18) (by kernel_rfl) (by rfl) (fun K hK => ?_)
      go_simp
      refine hK.out _ ((((wqczc.setCell ⟨w.heap.size + 1, 0, none⟩ (.int .i64 ((a : Int) + c))).setCell ⟨w.heap.size + 1, 1, none⟩ (.slice (some ⟨xe, 0, none⟩) 1 1)).setCell ⟨w.heap.size + 1, 2, none⟩ (.slice aCI a cCI)).setCell ⟨w.heap.size + 1, 3, none⟩ (.slice aCO c cCO)) (by exact HBN.out _ _ HZ9.out (by simp) (by simp)) (by exact fun _ => trivial) ?_
      clear hK K
      try simp only [Act.put, List.setIfInBounds_toArray, List.set_cons_zero, List.set_cons_succ]
      refine AnyL.done (by kernel_rfl) ?_ _
      generalize (((wqczc.setCell ⟨w.heap.size + 1, 0, none⟩ (.int .i64 ((a : Int) + c))).setCell ⟨w.heap.size + 1, 1, none⟩ (.slice (some ⟨xe, 0, none⟩) 1 1)).setCell ⟨w.heap.size + 1, 2, none⟩ (.slice aCI a cCI)).setCell ⟨w.heap.size + 1, 3, none⟩ (.slice aCO c cCO) = w9 at *
      clear y0 y1 y2 y3 ff0 ff1 ff2 ff3
      obtain ⟨l0, l1, l2, l3, _⟩ := gq4 HZ9.out.hd
      have HSF := Lib.hid (Sep.bag (l := [_, _, _]) (Sep.cutA (X := [_, _, _, _, _]) (A := [_, _, _]) (Sep.blk (A := [_, _, _, _, _]) (B := [_]) (Sep.blk (A := [_, _, _, _, _]) (B := [_]) (Sep.blk (A := [_, _, _, _]) (B := [_]) (Sep.blk (A := [_, _, _]) (B := [_]) (Sep.blk (A := [_]) (B := [_]) (HZ9.out))))))))
      go_wp2_with fail
      refine bodyPost_ret_by (v := .agg #[.int .i64 ((a : Int) + c), .slice (some ⟨xe, 0, none⟩) 1 1, .slice aCI a cCI, .slice aCO c cCO]) ?_ rfl ⟨.slice (some ⟨xe, 0, none⟩) 1 1, [⟨⟨k, v, upL a, frL a c⟩, .slice (some ⟨gi, 0, none⟩) a ci, .slice (some ⟨go_, 0, none⟩) c co_⟩], .slice aCI a cCI, .slice aCO c cCO, by show _ = Ending.returned (.agg #[.int .i64 ((a + c : Nat) : Int), _, _, _]); rw [show ((a + c : Nat) : Int) = (a : Int) + c from by omega], rfl, HSF.out⟩
      simp [results, go_sem, *]
    · go_simp
      have HCC := Lib.hid (HCO.out _ _ (show OwnInts 0 wqc _ (frL a c) from HSqc.out.tl.hd).read)
      go_at_call 69
      with_reducible refine HCC.out.mono ?_
      rintro e wqcc ⟨aCO, cCO, rfl, hsg⟩
      have HSqcc := Lib.hid (HSqc.out.graft1 hsg OI_own)
      clear hsg
      refine hK.out _ _ (by exact HBN.out _ _ HSqcc.out (by simp) (by simp)) (by exact fun _ => trivial) ?_
      clear hK K
      try simp only [Act.put, List.setIfInBounds_toArray, List.set_cons_zero, List.set_cons_succ]
      refine AnyL.step (i := 12) (by kernel_rfl) (by rfl) (fun K hK => ?_)
      go_simp
      have HSqccz := Lib.hid (show Sep (wqcc.alloc (.cells #[.int .i64 k, .int .i64 v, .slice (some ⟨gi, 0, none⟩) a ci, .slice (some ⟨go_, 0, none⟩) c co_] 88)) _ from Sep.oneRT (E := edgeE) (y := ⟨⟨k, v, upL a, frL a c⟩, .slice (some ⟨gi, 0, none⟩) a ci, .slice (some ⟨go_, 0, none⟩) c co_⟩) (cs := #[.int .i64 k, .int .i64 v, .slice (some ⟨gi, 0, none⟩) a ci, .slice (some ⟨go_, 0, none⟩) c co_]) HSqcc.out rfl (wqcc.heap.size) rfl)
      refine hK.out _ (wqcc.alloc (.cells #[.int .i64 k, .int .i64 v, .slice (some ⟨gi, 0, none⟩) a ci, .slice (some ⟨go_, 0, none⟩) c co_] 88)) (by exact HBN.out _ _ HSqccz.out (by simp) (by simp)) (by exact fun _ => trivial) ?_
      clear hK K
      try simp only [Act.put, List.setIfInBounds_toArray, List.set_cons_zero, List.set_cons_succ]
      generalize wqcc.alloc (.cells #[.int .i64 k, .int .i64 v, .slice (some ⟨gi, 0, none⟩) a ci, .slice (some ⟨go_, 0, none⟩) c co_] 88) = wqccz at *
      generalize wqcc.heap.size = xe at *
      refine AnyL.take (i := 17) (v := ?vx25) (by rfl) (by kernel_rfl) (by kernel_rfl) (by kernel_rfl) rfl (by exact fun _ _ _ h => h) (by rfl) ?hyx25 (by exact ⟨HBN.out _ _ HSqccz.out (by simp) (by simp), fun _ => trivial⟩) ?restx25
      case hyx25 => intro W hSW; (try dsimp only at hSW); first | (go_simp; done) | (go_simp; with_reducible rfl)
      try simp only [Act.put, List.setIfInBounds_toArray, List.set_cons_zero, List.set_cons_succ]
      have hz := Sep.blk (A := [_, _, _, _, _, _]) (B := [_]) HSqccz.out
      obtain ⟨y0, y1, y2, y3, ff0, ff1, ff2, ff3⟩ := gq4 hz.hd
      have hz2 := (((hz.setB 0 (.int .i64 ((a : Int) + c))).setB 1 (.slice (some ⟨xe, 0, none⟩) 1 1)).setB 2 (.slice aCI a cCI)).setB 3 (.slice aCO c cCO)
      have HZ9 := Lib.hid hz2
      clear hz hz2
      refine AnyL.step (i := 18) (by kernel_rfl) (by rfl) (fun K hK => ?_)
      go_simp
      refine hK.out _ ((((wqccz.setCell ⟨w.heap.size + 1, 0, none⟩ (.int .i64 ((a : Int) + c))).setCell ⟨w.heap.size + 1, 1, none⟩ (.slice (some ⟨xe, 0, none⟩) 1 1)).setCell ⟨w.heap.size + 1, 2, none⟩ (.slice aCI a cCI)).setCell ⟨w.heap.size + 1, 3, none⟩ (.slice aCO c cCO)) (by exact HBN.out _ _ HZ9.out (by simp) (by simp)) (by exact fun _ => trivial) ?_
      clear hK K
      try simp only [Act.put, List.setIfInBounds_toArray, List.set_cons_zero, List.set_cons_succ]
      refine AnyL.done (by kernel_rfl) ?_ _
      generalize (((wqccz.setCell ⟨w.heap.size + 1, 0, none⟩ (.int .i64 ((a : Int) + c))).setCell ⟨w.heap.size + 1, 1, none⟩ (.slice (some ⟨xe, 0, none⟩) 1 1)).setCell ⟨w.heap.size + 1, 2, none⟩ (.slice aCI a cCI)).setCell ⟨w.heap.size + 1, 3, none⟩ (.slice aCO c cCO) = w9 at *
      clear y0 y1 y2 y3 ff0 ff1 ff2 ff3
      obtain ⟨l0, l1, l2, l3, _⟩ := gq4 HZ9.out.hd
      have HSF := Lib.hid (Sep.bag (l := [_, _, _]) (Sep.cutA (X := [_, _, _, _, _]) (A := [_, _, _]) (Sep.blk (A := [_, _, _, _, _]) (B := [_]) (Sep.blk (A := [_, _, _, _, _]) (B := [_]) (Sep.blk (A := [_, _, _, _]) (B := [_]) (Sep.blk (A := [_, _, _]) (B := [_]) (Sep.blk (A := [_, _]) (B := [_]) (HZ9.out))))))))
      go_wp2_with fail
      refine bodyPost_ret_by (v := .agg #[.int .i64 ((a : Int) + c), .slice (some ⟨xe, 0, none⟩) 1 1, .slice aCI a cCI, .slice aCO c cCO]) ?_ rfl ⟨.slice (some ⟨xe, 0, none⟩) 1 1, [⟨⟨k, v, upL a, frL a c⟩, .slice (some ⟨gi, 0, none⟩) a ci, .slice (some ⟨go_, 0, none⟩) c co_⟩], .slice aCI a cCI, .slice aCO c cCO, by show _ = Ending.returned (.agg #[.int .i64 ((a + c : Nat) : Int), _, _, _]); rw [show ((a + c : Nat) : Int) = (a : Int) + c from by omega], rfl, HSF.out⟩
      simp [results, go_sem, *]
theorem leafGraph_any (n : Nd) (w : World) (h : lfB n = true) : Calls Tryz.prog 49 #[.agg #[.int .i64 n.k, .int .i64 n.v, .string n.s]] w (OwnG (leafG n) w) := by
  have hb := h
  unfold lfB lfV at hb
  rw [Bool.and_eq_true] at hb
  have h2 := hb.2
  unfold leafG
  by_cases h1 : n.k = 1
  · rw [if_pos h1] at h2 ⊢
    have h3 := of_decide_eq_true h2
    obtain ⟨x, hx⟩ : ∃ x : Nat, n.v = (x : Int) := ⟨n.v.toNat, by omega⟩
    rw [h1, hx]
    exact leafGr_one x n.s w (by omega)
  · rw [if_neg h1] at h2 ⊢
    by_cases h4 : n.k = 2
    · rw [if_pos h4, h4]
      exact leafGr_two n.v n.s w
    · rw [if_neg h4, Bool.and_eq_true] at h2
      rw [if_neg h4]
      exact leafGr_gen n.k n.v n.s w h2.1
end Go.Proofs.YtjagjhchnpmngaaGreatDoor

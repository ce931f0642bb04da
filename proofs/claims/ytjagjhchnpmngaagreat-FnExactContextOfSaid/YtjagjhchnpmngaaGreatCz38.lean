/-
 A graph is not opened where no match is given: the program panics. Conditions: the graph is valid; both sides of the rule have graphs.
-/
import Derived.Test.YtjagjhchnpmngaaGreatCz06
import Derived.Test.YtjagjhchnpmngaaGreatCz05
import Derived.Test.YtjagjhchnpmngaaGreatCz04
import Derived.Test.YtjagjhchnpmngaaGreatCz03
import Derived.Test.YtjagjhchnpmngaaGreatCz02
import Derived.Test.YtjagjhchnpmngaaGreatCz01
import Derived.Test.YtjagjhchnpmngaaGreatCz00
import Derived.Test.YtjagjhchnpmngaaGreatCz36
set_option linter.unusedVariables false
set_option linter.unusedSimpArgs false
set_option maxRecDepth 100000
namespace Go.Proofs.YtjagjhchnpmngaaGreat
open Go.RowKit
def NoRw (w : World) (e : Ending) (w' : World) : Prop := e = .panicked [{ v := .iface 112 (.agg #[]), recovered := false }] ∧ w.grownBy w' none
set_option maxHeartbeats 16000000 in
theorem open_panic (g : Gr) (s : ByteArray) (x y : List Nd) (W E : List Int) (N rN : Nat) (hg : grB g = true) (hmx : tmB x = true) (hkx : okT x = true) (hmy : tmB y = true) (hky : okT y = true) (hM : tst (IsMt g (grT x) ⟨W, E⟩) = false) (hgn : g.n = N) (hrn : (grT y).n = rN) (gev giv gov xv yv : Value) (wa ea : Option Addr) (wcp ec : Nat) (w : World)
 (hge : RdE edgeE w gev g.es) (hgi : IntsV w giv g.i) (hgo : IntsV w gov g.o) (hx : RdR nodeE w xv x) (hy : RdR nodeE w yv y) (hw : IntsV w (.slice wa W.length wcp) W) (he : IntsV w (.slice ea E.length ec) E) (hWl : W.length ≤ 2000000) (hEl : E.length ≤ 2000000) :
 Calls Tryz.prog 39 #[grV g.n gev giv gov, ruleV s xv yv, .agg #[.slice wa W.length wcp, .slice ea E.length ec]] w (NoRw w) := by
 have hp := (grT_okB hmx hkx).1; have hq := (grT_okB hmy hky).1
 obtain ⟨n1, hn1, hn1b, g2, g3, g4, g5, g6, _⟩ := grB_n hg
 obtain ⟨n2, hn2, hn2b, b2, b3, b4, b5, b6, _⟩ := grB_n hp
 obtain ⟨z1, z2, z3⟩ := pat_rng hp
 have hNN : N ≤ 100 := by omega
 have HPAT := Lib.hid fun W1 (hW : w.grownBy W1 none) => pattern_any s x y xv yv W1 (hx.carry hW) (hy.carry hW) hmx hkx
 have HREP := Lib.hid fun W1 (hW : w.grownBy W1 none) => replacement_any s x y xv yv W1 (hx.carry hW) (hy.carry hW) hmy hky
 have HISM := Lib.hid fun W1 (hW : w.grownBy W1 none) u0 u1 u2 (h0 : RdX W1 (grT x) u0 u1 u2) => isMatch_any g (grT x) N hgn (by omega) z1 z3 W E gev giv gov u0 u1 u2 (.slice wa W.length wcp) (.slice ea E.length ec) W1 (hge.carry hW) (hgi.carry hW) (hgo.carry hW) (by omega) (fun e h => by have := g6 e h; omega) h0.1 h0.2.1 h0.2.2 z2 (hw.carry hW) (he.carry hW) (by omega) (by omega)
 rw [hM] at HISM
 unfold NoRw ruleV OwnG grV at *
 obtain ⟨ga, gc, rfl⟩ := hge.shape
 obtain ⟨gi, gd, rfl⟩ := hgi.shape
 obtain ⟨go_, ge, rfl⟩ := hgo.shape
 obtain ⟨xa, xc, rfl⟩ := hx.shape
 obtain ⟨ya, yc, rfl⟩ := hy.shape
 generalize grT x = P at *
 generalize grT y = Q at *
 rw [hgn] at HISM ⊢
 rw [hrn] at HREP
 clear hge hgi hgo hx hy hw he hM hg hp hq hn1 hn2 g2 g3 g4 g5 g6 b2 b3 b4 b5 b6 z1 z2 z3 hgn hn1b hn2b hmx hkx hmy hky hrn hWl hEl hNN
 generalize hxne : g.es.length = ne at *
 have HXne := Lib.hid hxne
 clear hxne
 generalize hxni : g.i.length = ni at *
 have HXni := Lib.hid hxni
 clear hxni
 generalize hxno : g.o.length = no at *
 have HXno := Lib.hid hxno
 clear hxno
 generalize hxmi : P.i.length = mi at *
 have HXmi := Lib.hid hxmi
 clear hxmi
 generalize hxmo : P.o.length = mo at *
 have HXmo := Lib.hid hxmo
 clear hxmo
 generalize hxlw : W.length = lw at *
 have HXlw := Lib.hid hxlw
 clear hxlw
 generalize hxle : E.length = le at *
 have HXle := Lib.hid hxle
 clear hxle
 generalize hxqi : Q.i.length = qi at *
 have HXqi := Lib.hid hxqi
 clear hxqi
 generalize hxqo : Q.o.length = qo at *
 have HXqo := Lib.hid hxqo
 clear hxqo
 generalize x.length = lx at *
 generalize y.length = ly at *
 have hmm := @run_makeMap Tryz.prog
 have hmf : ∀ (fn : Fn) (first cap : Array Value) (w : World), (Instr.makeFunc fn first cap).run Tryz.prog w = .ok (.func fn first cap) w := fun _ _ _ _ => rfl
 have HS0 := Lib.hid (((((Sep.start w).boxAt w.heap.size rfl #[.int .i64 N, .slice ga ne gc, .slice gi ni gd, .slice go_ no ge] 38).boxAt (w.heap.size + 1) (by simp) #[.string s, .slice xa lx xc, .slice ya ly yc] 46).boxAt (w.heap.size + 2) (by simp) #[.slice wa lw wcp, .slice ea le ec] 48).boxAt (w.heap.size + 3) (by simp) #[.int .i64 0, .slice none 0 0, .slice none 0 0, .slice none 0 0, .int .i64 0, .slice none 0 0, .slice none 0 0, .slice none 0 0, .int .i64 0, .slice none 0 0, .slice none 0 0, .slice none 0 0, .slice none 0 0, .slice none 0 0, .slice none 0 0] 75)
 go_enter Tryz.func39, Tryz.ntmps39
 go_upto_region 1 with fail
 go_cut [7] from 16 to 21 (fun t7 wx => ∃ (nb : Nat) (pa pb pc qa qb qc : Option Addr) (lpe pd pe pf lqe qd qe qf : Nat) (xp yq : List XE), t7 = .pointer (some ⟨nb, 0, none⟩) ∧ (eds xp = P.es ∧ eds yq = Q.es) ∧ Sep wx [BxA nb #[.int .i64 0, .slice none 0 0, .slice none 0 0, .slice none 0 0, .int .i64 P.n, .slice pa lpe pd, .slice pb mi pe, .slice pc mo pf, .int .i64 rN, .slice qa lqe qd, .slice qb qi qe, .slice qc qo qf, .slice none 0 0, .slice none 0 0, .slice none 0 0] 75, OX3 (.slice pa lpe pd) xp (.slice pb mi pe) P.i (.slice pc mo pf) P.o, OX3 (.slice qa lqe qd) yq (.slice qb qi qe) Q.i (.slice qc qo qf) Q.o, BxA (w.heap.size + 3) #[.int .i64 0, .slice none 0 0, .slice none 0 0, .slice none 0 0, .int .i64 0, .slice none 0 0, .slice none 0 0, .slice none 0 0, .int .i64 0, .slice none 0 0, .slice none 0 0, .slice none 0 0, .slice none 0 0, .slice none 0 0, .slice none 0 0] 75, BxA (w.heap.size + 2) #[.slice wa lw wcp, .slice ea le ec] 48, BxA (w.heap.size + 1) #[.string s, .slice xa lx xc, .slice ya ly yc] 46, BxA w.heap.size #[.int .i64 N, .slice ga ne gc, .slice gi ni gd, .slice go_ no ge] 38, KeepA w])
 case first =>
  have HSD := Lib.hid HS0.out.dr
  have HBM := Lib.hid fun (W1 : World) (L : List Asrt) (h : Sep W1 L) (h1 : BxA (w.heap.size + 1) #[.string s, .slice xa lx xc, .slice ya ly yc] 46 ∈ L) => show W1.cell? ⟨w.heap.size + 1, 0, none⟩ = some (.string s) ∧ W1.cell? ⟨w.heap.size + 1, 1, none⟩ = some (.slice xa lx xc) ∧ W1.cell? ⟨w.heap.size + 1, 2, none⟩ = some (.slice ya ly yc) from bw3 (show W1.heap[(w.heap.size + 1)]? = some (.cells #[.string s, .slice xa lx xc, .slice ya ly yc] 46 (0, 0)) from Sep.all h _ h1)
  have X0 := Lib.hid (HBM.out _ _ HSD.out (by simp))
  refine AnyL.start (fun W1 => W1.cell? ⟨w.heap.size + 1, 0, none⟩ = some (.string s) ∧ W1.cell? ⟨w.heap.size + 1, 1, none⟩ = some (.slice xa lx xc) ∧ W1.cell? ⟨w.heap.size + 1, 2, none⟩ = some (.slice ya ly yc)) (fun _ => True) 99 (by kernel_rfl) ?_
  generalize (((((w.alloc (.cells #[.int .i64 N, .slice ga ne gc, .slice gi ni gd, .slice go_ no ge] 38)).alloc (.cells #[.string s, .slice xa lx xc, .slice ya ly yc] 46)).alloc (.cells #[.slice wa lw wcp, .slice ea le ec] 48)).alloc (.cells #[.int .i64 0, .slice none 0 0, .slice none 0 0, .slice none 0 0, .int .i64 0, .slice none 0 0, .slice none 0 0, .slice none 0 0, .int .i64 0, .slice none 0 0, .slice none 0 0, .slice none 0 0, .slice none 0 0, .slice none 0 0, .slice none 0 0] 75))).drew = wd at *
  refine AnyL.tT 0 (by exact X0.out) ?_
  refine AnyL.tT 2 (by exact X0.out) ?_
  refine AnyL.twoM (i := 1) (j := 5) (by kernel_rfl) (by rfl) (by rfl) (fun K hK => ?_) (fun K hK => ?_)
  ·go_simp
   have HCC := Lib.hid (HPAT.out _ (show w.grownBy _ none from HSD.out.tl.tl.tl.tl.hd))
   go_at_call 69
   with_reducible refine HCC.out.mono ?_
   rintro e wqc ⟨u0, xp, u1, u2, rfl, hxxp, hsg⟩
   obtain ⟨pa, pd, rfl⟩ := OE.shape hsg.hd
   obtain ⟨pb, pe, rfl⟩ := own_shape hsg.tl.hd
   obtain ⟨pc, pf, rfl⟩ := own_shape hsg.tl.tl.hd
   try rw [HXmi.out]
   try rw [HXmo.out]
   rw [HXmi.out, HXmo.out] at hsg
   have HXxp := Lib.hid hxxp
   have HSqc := Lib.hid (HSD.out.graft1 (Sep.bag (l := [_, _, _]) hsg) OX3_own)
   clear hsg HCC hxxp
   generalize hlxp : xp.length = lpe at *
   clear hlxp
   refine shutNx hK _ (by exact HBM.out _ _ HSqc.out (by simp)) (by exact fun _ => trivial) ?_
   clear hK K
   refine AnyL.twoM (i := 3) (j := 5) (by kernel_rfl) (by rfl) (by rfl) (fun K hK => ?_) (fun K hK => ?_)
   ·go_simp
    have HCC := Lib.hid (HREP.out _ (show w.grownBy _ none from HSqc.out.tl.tl.tl.tl.tl.hd))
    go_at_call 70
    with_reducible refine HCC.out.mono ?_
    rintro e wqcc ⟨u0, yq, u1, u2, rfl, hxyq, hsg⟩
    obtain ⟨qa, qd, rfl⟩ := OE.shape hsg.hd
    obtain ⟨qb, qe, rfl⟩ := own_shape hsg.tl.hd
    obtain ⟨qc, qf, rfl⟩ := own_shape hsg.tl.tl.hd
    try rw [HXqi.out]
    try rw [HXqo.out]
    rw [HXqi.out, HXqo.out] at hsg
    have HXyq := Lib.hid hxyq
    have HSqcc := Lib.hid (HSqc.out.graft1 (Sep.bag (l := [_, _, _]) hsg) OX3_own)
    clear hsg HCC hxyq
    generalize hlyq : yq.length = lqe at *
    clear hlyq
    refine shutNx hK _ (by exact HBM.out _ _ HSqcc.out (by simp)) (by exact fun _ => trivial) ?_
    clear hK K
    refine AnyL.tT 4 (by exact HBM.out _ _ HSqcc.out (by simp)) ?_
    refine AnyL.step (i := 5) (by kernel_rfl) (by rfl) (fun K hK => ?_)
    go_simp
    have HSqccz := Lib.hid (HSqcc.out.boxAt (wqcc.heap.size) (by rfl) #[.int .i64 0, .slice none 0 0, .slice none 0 0, .slice none 0 0, .int .i64 0, .slice none 0 0, .slice none 0 0, .slice none 0 0, .int .i64 0, .slice none 0 0, .slice none 0 0, .slice none 0 0, .slice none 0 0, .slice none 0 0, .slice none 0 0] 75)
    refine shutNx hK (wqcc.alloc (.cells #[.int .i64 0, .slice none 0 0, .slice none 0 0, .slice none 0 0, .int .i64 0, .slice none 0 0, .slice none 0 0, .slice none 0 0, .int .i64 0, .slice none 0 0, .slice none 0 0, .slice none 0 0, .slice none 0 0, .slice none 0 0, .slice none 0 0] 75)) (by exact HBM.out _ _ HSqccz.out (by simp)) (by exact fun _ => trivial) ?_
    clear hK K
    generalize wqcc.alloc (.cells #[.int .i64 0, .slice none 0 0, .slice none 0 0, .slice none 0 0, .int .i64 0, .slice none 0 0, .slice none 0 0, .slice none 0 0, .int .i64 0, .slice none 0 0, .slice none 0 0, .slice none 0 0, .slice none 0 0, .slice none 0 0, .slice none 0 0] 75) = wqccz at *
    generalize wqcc.heap.size = nb at *
    have hz := Sep.blk3 (X := [_]) (A := [_]) (B := [_]) HSqccz.out
    try simp only [List.nil_append, List.cons_append, List.append_eq] at hz
    obtain ⟨kb0, kb1, kb2, kb3, kb4, kb5, kb6, kb7, kb8, kb9, kb10, kb11, kb12, kb13, kb14⟩ := rq15 hz.hd
    obtain ⟨kf0, kf1, kf2, kf3, kf4, kf5, kf6, kf7, kf8, kf9, kf10, kf11, kf12, kf13, kf14⟩ := rf15 hz.hd
    have HZ9 := Lib.hid (Sep.box15 hz (.int .i64 0) (.slice none 0 0) (.slice none 0 0) (.slice none 0 0) (.int .i64 P.n) (.slice pa lpe pd) (.slice pb mi pe) (.slice pc mo pf) (.int .i64 rN) (.slice qa lqe qd) (.slice qb qi qe) (.slice qc qo qf) (.slice none 0 0) (.slice none 0 0) (.slice none 0 0))
    clear hz
    refine AnyL.step (i := 6) (by kernel_rfl) (by rfl) (fun K hK => ?_)
    go_simp
    refine shutNx hK (((((((((((((((wqccz.setCell ⟨nb, 0, none⟩ (.int .i64 0)).setCell ⟨nb, 1, none⟩ (.slice none 0 0)).setCell ⟨nb, 2, none⟩ (.slice none 0 0)).setCell ⟨nb, 3, none⟩ (.slice none 0 0)).setCell ⟨nb, 4, none⟩ (.int .i64 P.n)).setCell ⟨nb, 5, none⟩ (.slice pa lpe pd)).setCell ⟨nb, 6, none⟩ (.slice pb mi pe)).setCell ⟨nb, 7, none⟩ (.slice pc mo pf)).setCell ⟨nb, 8, none⟩ (.int .i64 rN)).setCell ⟨nb, 9, none⟩ (.slice qa lqe qd)).setCell ⟨nb, 10, none⟩ (.slice qb qi qe)).setCell ⟨nb, 11, none⟩ (.slice qc qo qf)).setCell ⟨nb, 12, none⟩ (.slice none 0 0)).setCell ⟨nb, 13, none⟩ (.slice none 0 0)).setCell ⟨nb, 14, none⟩ (.slice none 0 0)) (by exact HBM.out _ _ HZ9.out (by simp)) (by exact fun _ => trivial) ?_
    clear hK K
    refine AnyL.done (by kernel_rfl) ?_ _
    clear kb0 kb1 kb2 kb3 kb4 kb5 kb6 kb7 kb8 kb9 kb10 kb11 kb12 kb13 kb14 kf0 kf1 kf2 kf3 kf4 kf5 kf6 kf7 kf8 kf9 kf10 kf11 kf12 kf13 kf14
    generalize (((((((((((((((wqccz.setCell ⟨nb, 0, none⟩ (.int .i64 0)).setCell ⟨nb, 1, none⟩ (.slice none 0 0)).setCell ⟨nb, 2, none⟩ (.slice none 0 0)).setCell ⟨nb, 3, none⟩ (.slice none 0 0)).setCell ⟨nb, 4, none⟩ (.int .i64 P.n)).setCell ⟨nb, 5, none⟩ (.slice pa lpe pd)).setCell ⟨nb, 6, none⟩ (.slice pb mi pe)).setCell ⟨nb, 7, none⟩ (.slice pc mo pf)).setCell ⟨nb, 8, none⟩ (.int .i64 rN)).setCell ⟨nb, 9, none⟩ (.slice qa lqe qd)).setCell ⟨nb, 10, none⟩ (.slice qb qi qe)).setCell ⟨nb, 11, none⟩ (.slice qc qo qf)).setCell ⟨nb, 12, none⟩ (.slice none 0 0)).setCell ⟨nb, 13, none⟩ (.slice none 0 0)).setCell ⟨nb, 14, none⟩ (.slice none 0 0)) = w9 at *
    go_wp2_with fail
    go_meet
    exact ⟨nb, pa, pb, pc, qa, qb, qc, lpe, pd, pe, pf, lqe, qd, qe, qf, xp, yq, rfl, ⟨HXxp.out, HXyq.out⟩, HZ9.out⟩
   ·go_simp
    have HSqcz := Lib.hid (HSqc.out.boxAt (wqc.heap.size) (by rfl) #[.int .i64 0, .slice none 0 0, .slice none 0 0, .slice none 0 0, .int .i64 0, .slice none 0 0, .slice none 0 0, .slice none 0 0, .int .i64 0, .slice none 0 0, .slice none 0 0, .slice none 0 0, .slice none 0 0, .slice none 0 0, .slice none 0 0] 75)
    refine shutNx hK (wqc.alloc (.cells #[.int .i64 0, .slice none 0 0, .slice none 0 0, .slice none 0 0, .int .i64 0, .slice none 0 0, .slice none 0 0, .slice none 0 0, .int .i64 0, .slice none 0 0, .slice none 0 0, .slice none 0 0, .slice none 0 0, .slice none 0 0, .slice none 0 0] 75)) (by exact HBM.out _ _ HSqcz.out (by simp)) (by exact fun _ => trivial) ?_
    clear hK K
    generalize wqc.alloc (.cells #[.int .i64 0, .slice none 0 0, .slice none 0 0, .slice none 0 0, .int .i64 0, .slice none 0 0, .slice none 0 0, .slice none 0 0, .int .i64 0, .slice none 0 0, .slice none 0 0, .slice none 0 0, .slice none 0 0, .slice none 0 0, .slice none 0 0] 75) = wqcz at *
    generalize wqc.heap.size = nb at *
    refine AnyL.step (i := 3) (by kernel_rfl) (by rfl) (fun K hK => ?_)
    go_simp
    have HCC := Lib.hid (HREP.out _ (show w.grownBy _ none from HSqcz.out.tl.tl.tl.tl.tl.tl.hd))
    go_at_call 70
    with_reducible refine HCC.out.mono ?_
    rintro e wqczc ⟨u0, yq, u1, u2, rfl, hxyq, hsg⟩
    obtain ⟨qa, qd, rfl⟩ := OE.shape hsg.hd
    obtain ⟨qb, qe, rfl⟩ := own_shape hsg.tl.hd
    obtain ⟨qc, qf, rfl⟩ := own_shape hsg.tl.tl.hd
    try rw [HXqi.out]
    try rw [HXqo.out]
    rw [HXqi.out, HXqo.out] at hsg
    have HXyq := Lib.hid hxyq
    have HSqczc := Lib.hid (HSqcz.out.graft1 (Sep.bag (l := [_, _, _]) hsg) OX3_own)
    clear hsg HCC hxyq
    generalize hlyq : yq.length = lqe at *
    clear hlyq
    refine shutNx hK _ (by exact HBM.out _ _ HSqczc.out (by simp)) (by exact fun _ => trivial) ?_
    clear hK K
    refine AnyL.tT 4 (by exact HBM.out _ _ HSqczc.out (by simp)) ?_
    have hz := Sep.blk3 (X := []) (A := [_]) (B := [_, _]) HSqczc.out
    try simp only [List.nil_append, List.cons_append, List.append_eq] at hz
    obtain ⟨kb0, kb1, kb2, kb3, kb4, kb5, kb6, kb7, kb8, kb9, kb10, kb11, kb12, kb13, kb14⟩ := rq15 hz.hd
    obtain ⟨kf0, kf1, kf2, kf3, kf4, kf5, kf6, kf7, kf8, kf9, kf10, kf11, kf12, kf13, kf14⟩ := rf15 hz.hd
    have HZ9 := Lib.hid (Sep.box15 hz (.int .i64 0) (.slice none 0 0) (.slice none 0 0) (.slice none 0 0) (.int .i64 P.n) (.slice pa lpe pd) (.slice pb mi pe) (.slice pc mo pf) (.int .i64 rN) (.slice qa lqe qd) (.slice qb qi qe) (.slice qc qo qf) (.slice none 0 0) (.slice none 0 0) (.slice none 0 0))
    clear hz
    refine AnyL.step (i := 6) (by kernel_rfl) (by rfl) (fun K hK => ?_)
    go_simp
    refine shutNx hK (((((((((((((((wqczc.setCell ⟨nb, 0, none⟩ (.int .i64 0)).setCell ⟨nb, 1, none⟩ (.slice none 0 0)).setCell ⟨nb, 2, none⟩ (.slice none 0 0)).setCell ⟨nb, 3, none⟩ (.slice none 0 0)).setCell ⟨nb, 4, none⟩ (.int .i64 P.n)).setCell ⟨nb, 5, none⟩ (.slice pa lpe pd)).setCell ⟨nb, 6, none⟩ (.slice pb mi pe)).setCell ⟨nb, 7, none⟩ (.slice pc mo pf)).setCell ⟨nb, 8, none⟩ (.int .i64 rN)).setCell ⟨nb, 9, none⟩ (.slice qa lqe qd)).setCell ⟨nb, 10, none⟩ (.slice qb qi qe)).setCell ⟨nb, 11, none⟩ (.slice qc qo qf)).setCell ⟨nb, 12, none⟩ (.slice none 0 0)).setCell ⟨nb, 13, none⟩ (.slice none 0 0)).setCell ⟨nb, 14, none⟩ (.slice none 0 0)) (by exact HBM.out _ _ HZ9.out (by simp)) (by exact fun _ => trivial) ?_
    clear hK K
    refine AnyL.done (by kernel_rfl) ?_ _
    clear kb0 kb1 kb2 kb3 kb4 kb5 kb6 kb7 kb8 kb9 kb10 kb11 kb12 kb13 kb14 kf0 kf1 kf2 kf3 kf4 kf5 kf6 kf7 kf8 kf9 kf10 kf11 kf12 kf13 kf14
    generalize (((((((((((((((wqczc.setCell ⟨nb, 0, none⟩ (.int .i64 0)).setCell ⟨nb, 1, none⟩ (.slice none 0 0)).setCell ⟨nb, 2, none⟩ (.slice none 0 0)).setCell ⟨nb, 3, none⟩ (.slice none 0 0)).setCell ⟨nb, 4, none⟩ (.int .i64 P.n)).setCell ⟨nb, 5, none⟩ (.slice pa lpe pd)).setCell ⟨nb, 6, none⟩ (.slice pb mi pe)).setCell ⟨nb, 7, none⟩ (.slice pc mo pf)).setCell ⟨nb, 8, none⟩ (.int .i64 rN)).setCell ⟨nb, 9, none⟩ (.slice qa lqe qd)).setCell ⟨nb, 10, none⟩ (.slice qb qi qe)).setCell ⟨nb, 11, none⟩ (.slice qc qo qf)).setCell ⟨nb, 12, none⟩ (.slice none 0 0)).setCell ⟨nb, 13, none⟩ (.slice none 0 0)).setCell ⟨nb, 14, none⟩ (.slice none 0 0)) = w9 at *
    go_wp2_with fail
    go_meet
    exact ⟨nb, pa, pb, pc, qa, qb, qc, lpe, pd, pe, pf, lqe, qd, qe, qf, xp, yq, rfl, ⟨HXxp.out, HXyq.out⟩, HZ9.out⟩
  ·go_simp
   have HSqz := Lib.hid (HSD.out.boxAt (wd.heap.size) (by rfl) #[.int .i64 0, .slice none 0 0, .slice none 0 0, .slice none 0 0, .int .i64 0, .slice none 0 0, .slice none 0 0, .slice none 0 0, .int .i64 0, .slice none 0 0, .slice none 0 0, .slice none 0 0, .slice none 0 0, .slice none 0 0, .slice none 0 0] 75)
   refine shutNx hK (wd.alloc (.cells #[.int .i64 0, .slice none 0 0, .slice none 0 0, .slice none 0 0, .int .i64 0, .slice none 0 0, .slice none 0 0, .slice none 0 0, .int .i64 0, .slice none 0 0, .slice none 0 0, .slice none 0 0, .slice none 0 0, .slice none 0 0, .slice none 0 0] 75)) (by exact HBM.out _ _ HSqz.out (by simp)) (by exact fun _ => trivial) ?_
   clear hK K
   generalize wd.alloc (.cells #[.int .i64 0, .slice none 0 0, .slice none 0 0, .slice none 0 0, .int .i64 0, .slice none 0 0, .slice none 0 0, .slice none 0 0, .int .i64 0, .slice none 0 0, .slice none 0 0, .slice none 0 0, .slice none 0 0, .slice none 0 0, .slice none 0 0] 75) = wqz at *
   generalize wd.heap.size = nb at *
   refine AnyL.step (i := 1) (by kernel_rfl) (by rfl) (fun K hK => ?_)
   go_simp
   have HCC := Lib.hid (HPAT.out _ (show w.grownBy _ none from HSqz.out.tl.tl.tl.tl.tl.hd))
   go_at_call 69
   with_reducible refine HCC.out.mono ?_
   rintro e wqzc ⟨u0, xp, u1, u2, rfl, hxxp, hsg⟩
   obtain ⟨pa, pd, rfl⟩ := OE.shape hsg.hd
   obtain ⟨pb, pe, rfl⟩ := own_shape hsg.tl.hd
   obtain ⟨pc, pf, rfl⟩ := own_shape hsg.tl.tl.hd
   try rw [HXmi.out]
   try rw [HXmo.out]
   rw [HXmi.out, HXmo.out] at hsg
   have HXxp := Lib.hid hxxp
   have HSqzc := Lib.hid (HSqz.out.graft1 (Sep.bag (l := [_, _, _]) hsg) OX3_own)
   clear hsg HCC hxxp
   generalize hlxp : xp.length = lpe at *
   clear hlxp
   refine shutNx hK _ (by exact HBM.out _ _ HSqzc.out (by simp)) (by exact fun _ => trivial) ?_
   clear hK K
   refine AnyL.step (i := 3) (by kernel_rfl) (by rfl) (fun K hK => ?_)
   go_simp
   have HCC := Lib.hid (HREP.out _ (show w.grownBy _ none from HSqzc.out.tl.tl.tl.tl.tl.tl.hd))
   go_at_call 70
   with_reducible refine HCC.out.mono ?_
   rintro e wqzcc ⟨u0, yq, u1, u2, rfl, hxyq, hsg⟩
   obtain ⟨qa, qd, rfl⟩ := OE.shape hsg.hd
   obtain ⟨qb, qe, rfl⟩ := own_shape hsg.tl.hd
   obtain ⟨qc, qf, rfl⟩ := own_shape hsg.tl.tl.hd
   try rw [HXqi.out]
   try rw [HXqo.out]
   rw [HXqi.out, HXqo.out] at hsg
   have HXyq := Lib.hid hxyq
   have HSqzcc := Lib.hid (HSqzc.out.graft1 (Sep.bag (l := [_, _, _]) hsg) OX3_own)
   clear hsg HCC hxyq
   generalize hlyq : yq.length = lqe at *
   clear hlyq
   refine shutNx hK _ (by exact HBM.out _ _ HSqzcc.out (by simp)) (by exact fun _ => trivial) ?_
   clear hK K
   refine AnyL.tT 4 (by exact HBM.out _ _ HSqzcc.out (by simp)) ?_
   have hp1 := Sep.blk3 (X := []) (A := [_, _]) (B := [_]) HSqzcc.out
   have hz := Sep.blk3 (X := [_]) (A := [_]) (B := [_]) hp1
   try simp only [List.nil_append, List.cons_append, List.append_eq] at hz
   clear hp1
   obtain ⟨kb0, kb1, kb2, kb3, kb4, kb5, kb6, kb7, kb8, kb9, kb10, kb11, kb12, kb13, kb14⟩ := rq15 hz.hd
   obtain ⟨kf0, kf1, kf2, kf3, kf4, kf5, kf6, kf7, kf8, kf9, kf10, kf11, kf12, kf13, kf14⟩ := rf15 hz.hd
   have HZ9 := Lib.hid (Sep.box15 hz (.int .i64 0) (.slice none 0 0) (.slice none 0 0) (.slice none 0 0) (.int .i64 P.n) (.slice pa lpe pd) (.slice pb mi pe) (.slice pc mo pf) (.int .i64 rN) (.slice qa lqe qd) (.slice qb qi qe) (.slice qc qo qf) (.slice none 0 0) (.slice none 0 0) (.slice none 0 0))
   clear hz
   refine AnyL.step (i := 6) (by kernel_rfl) (by rfl) (fun K hK => ?_)
   go_simp
   refine shutNx hK (((((((((((((((wqzcc.setCell ⟨nb, 0, none⟩ (.int .i64 0)).setCell ⟨nb, 1, none⟩ (.slice none 0 0)).setCell ⟨nb, 2, none⟩ (.slice none 0 0)).setCell ⟨nb, 3, none⟩ (.slice none 0 0)).setCell ⟨nb, 4, none⟩ (.int .i64 P.n)).setCell ⟨nb, 5, none⟩ (.slice pa lpe pd)).setCell ⟨nb, 6, none⟩ (.slice pb mi pe)).setCell ⟨nb, 7, none⟩ (.slice pc mo pf)).setCell ⟨nb, 8, none⟩ (.int .i64 rN)).setCell ⟨nb, 9, none⟩ (.slice qa lqe qd)).setCell ⟨nb, 10, none⟩ (.slice qb qi qe)).setCell ⟨nb, 11, none⟩ (.slice qc qo qf)).setCell ⟨nb, 12, none⟩ (.slice none 0 0)).setCell ⟨nb, 13, none⟩ (.slice none 0 0)).setCell ⟨nb, 14, none⟩ (.slice none 0 0)) (by exact HBM.out _ _ HZ9.out (by simp)) (by exact fun _ => trivial) ?_
   clear hK K
   refine AnyL.done (by kernel_rfl) ?_ _
   clear kb0 kb1 kb2 kb3 kb4 kb5 kb6 kb7 kb8 kb9 kb10 kb11 kb12 kb13 kb14 kf0 kf1 kf2 kf3 kf4 kf5 kf6 kf7 kf8 kf9 kf10 kf11 kf12 kf13 kf14
   generalize (((((((((((((((wqzcc.setCell ⟨nb, 0, none⟩ (.int .i64 0)).setCell ⟨nb, 1, none⟩ (.slice none 0 0)).setCell ⟨nb, 2, none⟩ (.slice none 0 0)).setCell ⟨nb, 3, none⟩ (.slice none 0 0)).setCell ⟨nb, 4, none⟩ (.int .i64 P.n)).setCell ⟨nb, 5, none⟩ (.slice pa lpe pd)).setCell ⟨nb, 6, none⟩ (.slice pb mi pe)).setCell ⟨nb, 7, none⟩ (.slice pc mo pf)).setCell ⟨nb, 8, none⟩ (.int .i64 rN)).setCell ⟨nb, 9, none⟩ (.slice qa lqe qd)).setCell ⟨nb, 10, none⟩ (.slice qb qi qe)).setCell ⟨nb, 11, none⟩ (.slice qc qo qf)).setCell ⟨nb, 12, none⟩ (.slice none 0 0)).setCell ⟨nb, 13, none⟩ (.slice none 0 0)).setCell ⟨nb, 14, none⟩ (.slice none 0 0)) = w9 at *
   go_wp2_with fail
   go_meet
   exact ⟨nb, pa, pb, pc, qa, qb, qc, lpe, pd, pe, pf, lqe, qd, qe, qf, xp, yq, rfl, ⟨HXxp.out, HXyq.out⟩, HZ9.out⟩
 case rest =>
  obtain ⟨nb, pa, pb, pc, qa, qb, qc, lpe, pd, pe, pf, lqe, qd, qe, qf, xp, yq, rfl, ⟨hxp, hyq⟩, hs⟩ := hcut
  have HS1 := Lib.hid hs; have HXP := Lib.hid hxp
  clear hs hxp hyq HS0 HPAT HREP
  have hk1 : w.grownBy _ none := HS1.out.tl.tl.tl.tl.tl.tl.tl.hd
  have HCI := Lib.hid (HISM.out _ hk1 _ _ _ (OX3.read (g := P) HS1.out.tl.hd HXP.out))
  obtain ⟨kb0, kb1, kb2, kb3, kb4, kb5, kb6, kb7, kb8, kb9, kb10, kb11, kb12, kb13, kb14⟩ := rq15 HS1.out.hd
  obtain ⟨g0, g1, g2, g3, _⟩ := gq4 HS1.out.tl.tl.tl.tl.tl.tl.hd
  obtain ⟨m0, m1, _⟩ := bw2 HS1.out.tl.tl.tl.tl.hd
  have hpn : ∀ (t : TypeId) (v : Value) (w : World), (Instr.panic (.iface t v)).run Tryz.prog w = .halt (.panic (.iface t v)) w := fun _ _ _ => rfl
  go_wp2_with (
   go_at_call 71
   with_reducible refine HCI.out.mono ?_
   rintro e w2 ⟨rfl, hgr⟩
   have HK2 := Lib.hid (show w.grownBy w2 none from (HS1.out.grown hgr).tl.tl.tl.tl.tl.tl.tl.hd)
   clear hgr kb0 kb1 kb2 kb3 kb4 kb5 kb6 kb7 kb8 kb9 kb10 kb11 kb12 kb13 kb14 g0 g1 g2 g3 m0 m1)
  exact ⟨rfl, rfl, HK2.out⟩
end Go.Proofs.YtjagjhchnpmngaaGreat

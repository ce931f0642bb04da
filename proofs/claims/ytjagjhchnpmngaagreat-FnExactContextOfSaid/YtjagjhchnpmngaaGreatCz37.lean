/-
 A graph opened at a match. Conditions: the graph is valid and a match is given; both sides of the rule have graphs.
-/
import Derived.Test.YtjagjhchnpmngaaGreatCz06
import Derived.Test.YtjagjhchnpmngaaGreatCz05
import Derived.Test.YtjagjhchnpmngaaGreatCz04
import Derived.Test.YtjagjhchnpmngaaGreatCz03
import Derived.Test.YtjagjhchnpmngaaGreatCz02
import Derived.Test.YtjagjhchnpmngaaGreatCz01
import Derived.Test.YtjagjhchnpmngaaGreatCz00
import Derived.Test.YtjagjhchnpmngaaGreatCz36
set_option linter.unusedVariables false
set_option linter.unusedSimpArgs false
set_option maxRecDepth 100000
namespace Go.Proofs.YtjagjhchnpmngaaGreat
open Go.RowKit
set_option maxHeartbeats 16000000 in
theorem open_any (g : Gr) (s : ByteArray) (x y : List Nd) (W E : List Int) (N rN : Nat) (hg : grB g = true) (hmx : tmB x = true) (hkx : okT x = true) (hmy : tmB y = true) (hky : okT y = true) (hM : IsMt g (grT x) ⟨W, E⟩) (hdi : (grT x).i.Nodup) (hgn : g.n = N) (hrn : (grT y).n = rN) (gev giv gov xv yv : Value) (wa ea : Option Addr) (wcp ec : Nat) (w : World)
 (hge : RdE edgeE w gev g.es) (hgi : IntsV w giv g.i) (hgo : IntsV w gov g.o) (hx : RdR nodeE w xv x) (hy : RdR nodeE w yv y) (hw : IntsV w (.slice wa W.length wcp) W) (he : IntsV w (.slice ea E.length ec) E) :
 Calls Tryz.prog 39 #[grV g.n gev giv gov, ruleV s xv yv, .agg #[.slice wa W.length wcp, .slice ea E.length ec]] w (OpenR g (grT y) (grT x) W E (N + rN) w) := by
 obtain ⟨B, hB⟩ : ∃ B, N + rN = B := ⟨_, rfl⟩
 have hp := (grT_okB hmx hkx).1; have hq := (grT_okB hmy hky).1
 obtain ⟨n1, hn1, hn1b, g2, g3, g4, g5, g6, _⟩ := grB_n hg
 obtain ⟨n2, hn2, hn2b, b2, b3, b4, b5, b6, _⟩ := grB_n hp
 obtain ⟨n3, hn3, hn3b, d2, d3, d4, d5, d6, _⟩ := grB_n hq
 obtain ⟨z1, z2, z3⟩ := pat_rng hp
 have hNN : N ≤ 100 := by omega
 have hrr : rN ≤ 100 := by omega
 have ra := rngB_iff.1 g5
 have rb := rngB_iff.1 b5
 rw [hgn] at ra
 have hlw := hM.lw
 simp only at hlw
 have hlw1 : W.length ≤ 100 := by omega
 have hle1 : E.length ≤ 1000000 := by have := hM.le; simp only at this; omega
 have hWr : ∀ x ∈ W, 0 ≤ x ∧ x < (N : Int) := fun x hx => by have := hM.rw x hx; rw [hgn] at this; exact this
 have hpiR : ∀ a ∈ (grT x).i, 0 ≤ a ∧ a < (W.length : Int) := fun x hx => by have := rb x (mem_wiresG.2 (Or.inl hx)); omega
 have hpoR : ∀ a ∈ (grT x).o, 0 ≤ a ∧ a < (W.length : Int) := fun x hx => by have := rb x (mem_wiresG.2 (Or.inr (Or.inl hx))); omega
 have HWR := Lib.hid hWr; have HPIR := Lib.hid hpiR; have HPOR := Lib.hid hpoR
 have HNEW := Lib.hid fun k (hk : k < (grT x).i.length) => thru_new (n := W.length) rfl hM.dw hpiR hdi hk
 have HTS := Lib.hid fun k (hk : k < (grT x).i.length) => thruL_succ (W := W) hk
 have HTL := Lib.hid fun k => thru_len (grT x) W k
 have HEI := Lib.hid fun (e : Ed) (hme : e ∈ g.es) => show (∀ a ∈ e.i, 0 ≤ a ∧ a ≤ 1000000) ∧ e.i.length ≤ 1000000 from ⟨fun a ha => by have := ra a (mem_wiresG.2 (Or.inr (Or.inr ⟨e, hme, Or.inl ha⟩))); omega, by have := g6 e hme; omega⟩
 have HGO := Lib.hid (show ∀ a ∈ g.o, 0 ≤ a ∧ a ≤ 1000000 from fun a ha => by have := ra a (mem_wiresG.2 (Or.inr (Or.inl ha))); omega)
 have HWO := Lib.hid (show ∀ a ∈ (grT x).o.map (ofL W), 0 ≤ a ∧ a ≤ 1000000 from fun a ha => by obtain ⟨z, hz, rfl⟩ := List.mem_map.1 ha; have h1 := hpoR z hz; have h2 := hWr (W.getD z.toNat 0) (getD_memI (by omega)); unfold ofL; omega)
 have HPAT := Lib.hid fun W1 (hW : w.grownBy W1 none) => pattern_any s x y xv yv W1 (hx.carry hW) (hy.carry hW) hmx hkx
 have HREP := Lib.hid fun W1 (hW : w.grownBy W1 none) => replacement_any s x y xv yv W1 (hx.carry hW) (hy.carry hW) hmy hky
 have HISM := Lib.hid fun W1 (hW : w.grownBy W1 none) u0 u1 u2 (h0 : RdX W1 (grT x) u0 u1 u2) => isMatch_any g (grT x) N hgn (by omega) z1 z3 W E gev giv gov u0 u1 u2 (.slice wa W.length wcp) (.slice ea E.length ec) W1 (hge.carry hW) (hgi.carry hW) (hgo.carry hW) (by omega) (fun e h => by have := g6 e h; omega) h0.1 h0.2.1 h0.2.2 z2 (hw.carry hW) (he.carry hW) (by omega) (by omega)
 rw [show tst (IsMt g (grT x) ⟨W, E⟩) = true from tst_iff.2 hM] at HISM
 have HCPY := Lib.hid fun W1 (hW : w.grownBy W1 none) => gcopy_any gev giv gov g W1 (hge.carry hW) (hgi.carry hW) (hgo.carry hW) hg
 have HPAS := Lib.hid fun (a : Int) (ha : a ∈ (grT x).i) W1 e0 en ec0 u1 u2 (h0 : RdX W1 (grT x) (.slice e0 en ec0) u1 u2) => passes_any (.slice e0 en ec0) u1 u2 (grT x).n (grT x).i (grT x).o a W1 h0.2.1 h0.2.2 (by omega) (by omega) e0 en ec0 rfl ha
 have HCON := Lib.hid fun (a : Int) W1 (hW : w.grownBy W1 none) => contains_any (.slice ea E.length ec) E a W1 (he.carry hW) hle1
 have HMPI := Lib.hid fun W1 (hW : w.grownBy W1 none) u (hu : IntsV W1 u (grT x).i) => mapped_any (.slice wa W.length wcp) u W (grT x).i W1 (hw.carry hW) hu (by omega) (fun a ha => by have := hpiR a ha; omega)
 have HMPO := Lib.hid fun W1 (hW : w.grownBy W1 none) u (hu : IntsV W1 u (grT x).o) => mapped_any (.slice wa W.length wcp) u W (grT x).o W1 (hw.carry hW) hu (by omega) (fun a ha => by have := hpoR a ha; omega)
 have HW := Lib.hid hw
 unfold OpenR ruleV OwnG grV at *
 rw [hB]
 obtain ⟨ga, gc, rfl⟩ := hge.shape
 obtain ⟨gi, gd, rfl⟩ := hgi.shape
 obtain ⟨go_, ge, rfl⟩ := hgo.shape
 obtain ⟨xa, xc, rfl⟩ := hx.shape
 obtain ⟨ya, yc, rfl⟩ := hy.shape
 generalize grT x = P at *
 generalize grT y = Q at *
 have HGN := Lib.hid hgn
 rw [hgn] at HISM HCPY ⊢
 rw [hrn] at HREP ⊢
 obtain ⟨T0, hT0⟩ : ∃ T, thru P W = T := ⟨_, rfl⟩
 have HT0 := Lib.hid (show thruL P W P.i.length = T0 from hT0)
 have HOT := Lib.hid (show outsL P W (B : Int) = (P.o.map (ofL W)).map (dstF T0 (B : Int)) from by unfold outsL; rw [hT0, List.map_map]; rfl)
 have HTN := Lib.hid (show T0.length ≤ 12 by rw [← hT0]; have := thru_len P W P.i.length; unfold thru; omega)
 rw [hT0]
 have hBB : B ≤ 200 := by omega
 have hmi12 : P.i.length ≤ 12 := b3
 have hmo12 : P.o.length ≤ 12 := b4
 have hni12 : g.i.length ≤ 12 := g3
 have hno12 : g.o.length ≤ 12 := g4
 have hne60 : g.es.length ≤ 60 := g2
 clear hge hgi hgo hx hy hw he hM hg hp hq hn1 hn2 hn3 g2 g3 g4 g5 g6 b2 b3 b4 b5 b6 d2 d3 d4 d5 d6 z1 z2 z3 ra rb hlw hWr hpiR hpoR hgn hdi hT0 hn1b hn2b hn3b hle1 hmx hkx hmy hky hrn
 generalize hxne : g.es.length = ne at *
 have HXne := Lib.hid hxne
 clear hxne
 generalize hxni : g.i.length = ni at *
 have HXni := Lib.hid hxni
 clear hxni
 generalize hxno : g.o.length = no at *
 have HXno := Lib.hid hxno
 clear hxno
 generalize hxmi : P.i.length = mi at *
 have HXmi := Lib.hid hxmi
 clear hxmi
 generalize hxmo : P.o.length = mo at *
 have HXmo := Lib.hid hxmo
 clear hxmo
 generalize hxlw : W.length = lw at *
 have HXlw := Lib.hid hxlw
 clear hxlw
 generalize hxle : E.length = le at *
 have HXle := Lib.hid hxle
 clear hxle
 generalize hxqi : Q.i.length = qi at *
 have HXqi := Lib.hid hxqi
 clear hxqi
 generalize hxqo : Q.o.length = qo at *
 have HXqo := Lib.hid hxqo
 clear hxqo
 generalize x.length = lx at *
 generalize y.length = ly at *
 have hmm := @run_makeMap Tryz.prog
 have hmf : ∀ (fn : Fn) (first cap : Array Value) (w : World), (Instr.makeFunc fn first cap).run Tryz.prog w = .ok (.func fn first cap) w := fun _ _ _ _ => rfl
 have HS0 := Lib.hid (((((Sep.start w).boxAt w.heap.size rfl #[.int .i64 N, .slice ga ne gc, .slice gi ni gd, .slice go_ no ge] 38).boxAt (w.heap.size + 1) (by simp) #[.string s, .slice xa lx xc, .slice ya ly yc] 46).boxAt (w.heap.size + 2) (by simp) #[.slice wa lw wcp, .slice ea le ec] 48).boxAt (w.heap.size + 3) (by simp) #[.int .i64 0, .slice none 0 0, .slice none 0 0, .slice none 0 0, .int .i64 0, .slice none 0 0, .slice none 0 0, .slice none 0 0, .int .i64 0, .slice none 0 0, .slice none 0 0, .slice none 0 0, .slice none 0 0, .slice none 0 0, .slice none 0 0] 75)
 go_enter Tryz.func39, Tryz.ntmps39
 go_upto_region 1 with fail
 go_cut [7] from 16 to 21 (fun t7 wx => ∃ (nb : Nat) (pa pb pc qa qb qc : Option Addr) (lpe pd pe pf lqe qd qe qf : Nat) (xp yq : List XE), t7 = .pointer (some ⟨nb, 0, none⟩) ∧ (eds xp = P.es ∧ eds yq = Q.es) ∧ Sep wx [BxA nb #[.int .i64 0, .slice none 0 0, .slice none 0 0, .slice none 0 0, .int .i64 P.n, .slice pa lpe pd, .slice pb mi pe, .slice pc mo pf, .int .i64 rN, .slice qa lqe qd, .slice qb qi qe, .slice qc qo qf, .slice none 0 0, .slice none 0 0, .slice none 0 0] 75, OX3 (.slice pa lpe pd) xp (.slice pb mi pe) P.i (.slice pc mo pf) P.o, OX3 (.slice qa lqe qd) yq (.slice qb qi qe) Q.i (.slice qc qo qf) Q.o, BxA (w.heap.size + 3) #[.int .i64 0, .slice none 0 0, .slice none 0 0, .slice none 0 0, .int .i64 0, .slice none 0 0, .slice none 0 0, .slice none 0 0, .int .i64 0, .slice none 0 0, .slice none 0 0, .slice none 0 0, .slice none 0 0, .slice none 0 0, .slice none 0 0] 75, BxA (w.heap.size + 2) #[.slice wa lw wcp, .slice ea le ec] 48, BxA (w.heap.size + 1) #[.string s, .slice xa lx xc, .slice ya ly yc] 46, BxA w.heap.size #[.int .i64 N, .slice ga ne gc, .slice gi ni gd, .slice go_ no ge] 38, KeepA w])
 case first =>
  have HSD := Lib.hid HS0.out.dr
  have HBM := Lib.hid fun (W1 : World) (L : List Asrt) (h : Sep W1 L) (h1 : BxA (w.heap.size + 1) #[.string s, .slice xa lx xc, .slice ya ly yc] 46 ∈ L) => show W1.cell? ⟨w.heap.size + 1, 0, none⟩ = some (.string s) ∧ W1.cell? ⟨w.heap.size + 1, 1, none⟩ = some (.slice xa lx xc) ∧ W1.cell? ⟨w.heap.size + 1, 2, none⟩ = some (.slice ya ly yc) from bw3 (show W1.heap[(w.heap.size + 1)]? = some (.cells #[.string s, .slice xa lx xc, .slice ya ly yc] 46 (0, 0)) from Sep.all h _ h1)
  have X0 := Lib.hid (HBM.out _ _ HSD.out (by simp))
  refine AnyL.start (fun W1 => W1.cell? ⟨w.heap.size + 1, 0, none⟩ = some (.string s) ∧ W1.cell? ⟨w.heap.size + 1, 1, none⟩ = some (.slice xa lx xc) ∧ W1.cell? ⟨w.heap.size + 1, 2, none⟩ = some (.slice ya ly yc)) (fun _ => True) 99 (by kernel_rfl) ?_
  generalize (((((w.alloc (.cells #[.int .i64 N, .slice ga ne gc, .slice gi ni gd, .slice go_ no ge] 38)).alloc (.cells #[.string s, .slice xa lx xc, .slice ya ly yc] 46)).alloc (.cells #[.slice wa lw wcp, .slice ea le ec] 48)).alloc (.cells #[.int .i64 0, .slice none 0 0, .slice none 0 0, .slice none 0 0, .int .i64 0, .slice none 0 0, .slice none 0 0, .slice none 0 0, .int .i64 0, .slice none 0 0, .slice none 0 0, .slice none 0 0, .slice none 0 0, .slice none 0 0, .slice none 0 0] 75))).drew = wd at *
  refine AnyL.tT 0 (by exact X0.out) ?_
  refine AnyL.tT 2 (by exact X0.out) ?_
  refine AnyL.twoM (i := 1) (j := 5) (by kernel_rfl) (by rfl) (by rfl) (fun K hK => ?_) (fun K hK => ?_)
  ·go_simp
   have HCC := Lib.hid (HPAT.out _ (show w.grownBy _ none from HSD.out.tl.tl.tl.tl.hd))
   go_at_call 69
   with_reducible refine HCC.out.mono ?_
   rintro e wqc ⟨u0, xp, u1, u2, rfl, hxxp, hsg⟩
   obtain ⟨pa, pd, rfl⟩ := OE.shape hsg.hd
   obtain ⟨pb, pe, rfl⟩ := own_shape hsg.tl.hd
   obtain ⟨pc, pf, rfl⟩ := own_shape hsg.tl.tl.hd
   try rw [HXmi.out]
   try rw [HXmo.out]
   rw [HXmi.out, HXmo.out] at hsg
   have HXxp := Lib.hid hxxp
   have HSqc := Lib.hid (HSD.out.graft1 (Sep.bag (l := [_, _, _]) hsg) OX3_own)
   clear hsg HCC hxxp
   generalize hlxp : xp.length = lpe at *
   clear hlxp
   refine shutNx hK _ (by exact HBM.out _ _ HSqc.out (by simp)) (by exact fun _ => trivial) ?_
   clear hK K
   refine AnyL.twoM (i := 3) (j := 5) (by kernel_rfl) (by rfl) (by rfl) (fun K hK => ?_) (fun K hK => ?_)
   ·go_simp
    have HCC := Lib.hid (HREP.out _ (show w.grownBy _ none from HSqc.out.tl.tl.tl.tl.tl.hd))
    go_at_call 70
    with_reducible refine HCC.out.mono ?_
    rintro e wqcc ⟨u0, yq, u1, u2, rfl, hxyq, hsg⟩
    obtain ⟨qa, qd, rfl⟩ := OE.shape hsg.hd
    obtain ⟨qb, qe, rfl⟩ := own_shape hsg.tl.hd
    obtain ⟨qc, qf, rfl⟩ := own_shape hsg.tl.tl.hd
    try rw [HXqi.out]
    try rw [HXqo.out]
    rw [HXqi.out, HXqo.out] at hsg
    have HXyq := Lib.hid hxyq
    have HSqcc := Lib.hid (HSqc.out.graft1 (Sep.bag (l := [_, _, _]) hsg) OX3_own)
    clear hsg HCC hxyq
    generalize hlyq : yq.length = lqe at *
    clear hlyq
    refine shutNx hK _ (by exact HBM.out _ _ HSqcc.out (by simp)) (by exact fun _ => trivial) ?_
    clear hK K
    refine AnyL.tT 4 (by exact HBM.out _ _ HSqcc.out (by simp)) ?_
    refine AnyL.step (i := 5) (by kernel_rfl) (by rfl) (fun K hK => ?_)
    go_simp
    have HSqccz := Lib.hid (HSqcc.out.boxAt (wqcc.heap.size) (by rfl) #[.int .i64 0, .slice none 0 0, .slice none 0 0, .slice none 0 0, .int .i64 0, .slice none 0 0, .slice none 0 0, .slice none 0 0, .int .i64 0, .slice none 0 0, .slice none 0 0, .slice none 0 0, .slice none 0 0, .slice none 0 0, .slice none 0 0] 75)
    refine shutNx hK (wqcc.alloc (.cells #[.int .i64 0, .slice none 0 0, .slice none 0 0, .slice none 0 0, .int .i64 0, .slice none 0 0, .slice none 0 0, .slice none 0 0, .int .i64 0, .slice none 0 0, .slice none 0 0, .slice none 0 0, .slice none 0 0, .slice none 0 0, .slice none 0 0] 75)) (by exact HBM.out _ _ HSqccz.out (by simp)) (by exact fun _ => trivial) ?_
    clear hK K
    generalize wqcc.alloc (.cells #[.int .i64 0, .slice none 0 0, .slice none 0 0, .slice none 0 0, .int .i64 0, .slice none 0 0, .slice none 0 0, .slice none 0 0, .int .i64 0, .slice none 0 0, .slice none 0 0, .slice none 0 0, .slice none 0 0, .slice none 0 0, .slice none 0 0] 75) = wqccz at *
    generalize wqcc.heap.size = nb at *
    have hz := Sep.blk3 (X := [_]) (A := [_]) (B := [_]) HSqccz.out
    try simp only [List.nil_append, List.cons_append, List.append_eq] at hz
    obtain ⟨kb0, kb1, kb2, kb3, kb4, kb5, kb6, kb7, kb8, kb9, kb10, kb11, kb12, kb13, kb14⟩ := rq15 hz.hd
    obtain ⟨kf0, kf1, kf2, kf3, kf4, kf5, kf6, kf7, kf8, kf9, kf10, kf11, kf12, kf13, kf14⟩ := rf15 hz.hd
    have HZ9 := Lib.hid (Sep.box15 hz (.int .i64 0) (.slice none 0 0) (.slice none 0 0) (.slice none 0 0) (.int .i64 P.n) (.slice pa lpe pd) (.slice pb mi pe) (.slice pc mo pf) (.int .i64 rN) (.slice qa lqe qd) (.slice qb qi qe) (.slice qc qo qf) (.slice none 0 0) (.slice none 0 0) (.slice none 0 0))
    clear hz
    refine AnyL.step (i := 6) (by kernel_rfl) (by rfl) (fun K hK => ?_)
    go_simp
    refine shutNx hK (((((((((((((((wqccz.setCell ⟨nb, 0, none⟩ (.int .i64 0)).setCell ⟨nb, 1, none⟩ (.slice none 0 0)).setCell ⟨nb, 2, none⟩ (.slice none 0 0)).setCell ⟨nb, 3, none⟩ (.slice none 0 0)).setCell ⟨nb, 4, none⟩ (.int .i64 P.n)).setCell ⟨nb, 5, none⟩ (.slice pa lpe pd)).setCell ⟨nb, 6, none⟩ (.slice pb mi pe)).setCell ⟨nb, 7, none⟩ (.slice pc mo pf)).setCell ⟨nb, 8, none⟩ (.int .i64 rN)).setCell ⟨nb, 9, none⟩ (.slice qa lqe qd)).setCell ⟨nb, 10, none⟩ (.slice qb qi qe)).setCell ⟨nb, 11, none⟩ (.slice qc qo qf)).setCell ⟨nb, 12, none⟩ (.slice none 0 0)).setCell ⟨nb, 13, none⟩ (.slice none 0 0)).setCell ⟨nb, 14, none⟩ (.slice none 0 0)) (by exact HBM.out _ _ HZ9.out (by simp)) (by exact fun _ => trivial) ?_
    clear hK K
    refine AnyL.done (by kernel_rfl) ?_ _
    clear kb0 kb1 kb2 kb3 kb4 kb5 kb6 kb7 kb8 kb9 kb10 kb11 kb12 kb13 kb14 kf0 kf1 kf2 kf3 kf4 kf5 kf6 kf7 kf8 kf9 kf10 kf11 kf12 kf13 kf14
    generalize (((((((((((((((wqccz.setCell ⟨nb, 0, none⟩ (.int .i64 0)).setCell ⟨nb, 1, none⟩ (.slice none 0 0)).setCell ⟨nb, 2, none⟩ (.slice none 0 0)).setCell ⟨nb, 3, none⟩ (.slice none 0 0)).setCell ⟨nb, 4, none⟩ (.int .i64 P.n)).setCell ⟨nb, 5, none⟩ (.slice pa lpe pd)).setCell ⟨nb, 6, none⟩ (.slice pb mi pe)).setCell ⟨nb, 7, none⟩ (.slice pc mo pf)).setCell ⟨nb, 8, none⟩ (.int .i64 rN)).setCell ⟨nb, 9, none⟩ (.slice qa lqe qd)).setCell ⟨nb, 10, none⟩ (.slice qb qi qe)).setCell ⟨nb, 11, none⟩ (.slice qc qo qf)).setCell ⟨nb, 12, none⟩ (.slice none 0 0)).setCell ⟨nb, 13, none⟩ (.slice none 0 0)).setCell ⟨nb, 14, none⟩ (.slice none 0 0)) = w9 at *
    go_wp2_with fail
    go_meet
    exact ⟨nb, pa, pb, pc, qa, qb, qc, lpe, pd, pe, pf, lqe, qd, qe, qf, xp, yq, rfl, ⟨HXxp.out, HXyq.out⟩, HZ9.out⟩
   ·go_simp
    have HSqcz := Lib.hid (HSqc.out.boxAt (wqc.heap.size) (by rfl) #[.int .i64 0, .slice none 0 0, .slice none 0 0, .slice none 0 0, .int .i64 0, .slice none 0 0, .slice none 0 0, .slice none 0 0, .int .i64 0, .slice none 0 0, .slice none 0 0, .slice none 0 0, .slice none 0 0, .slice none 0 0, .slice none 0 0] 75)
    refine shutNx hK (wqc.alloc (.cells #[.int .i64 0, .slice none 0 0, .slice none 0 0, .slice none 0 0, .int .i64 0, .slice none 0 0, .slice none 0 0, .slice none 0 0, .int .i64 0, .slice none 0 0, .slice none 0 0, .slice none 0 0, .slice none 0 0, .slice none 0 0, .slice none 0 0] 75)) (by exact HBM.out _ _ HSqcz.out (by simp)) (by exact fun _ => trivial) ?_
    clear hK K
    generalize wqc.alloc (.cells #[.int .i64 0, .slice none 0 0, .slice none 0 0, .slice none 0 0, .int .i64 0, .slice none 0 0, .slice none 0 0, .slice none 0 0, .int .i64 0, .slice none 0 0, .slice none 0 0, .slice none 0 0, .slice none 0 0, .slice none 0 0, .slice none 0 0] 75) = wqcz at *
    generalize wqc.heap.size = nb at *
    refine AnyL.step (i := 3) (by kernel_rfl) (by rfl) (fun K hK => ?_)
    go_simp
    have HCC := Lib.hid (HREP.out _ (show w.grownBy _ none from HSqcz.out.tl.tl.tl.tl.tl.tl.hd))
    go_at_call 70
    with_reducible refine HCC.out.mono ?_
    rintro e wqczc ⟨u0, yq, u1, u2, rfl, hxyq, hsg⟩
    obtain ⟨qa, qd, rfl⟩ := OE.shape hsg.hd
    obtain ⟨qb, qe, rfl⟩ := own_shape hsg.tl.hd
    obtain ⟨qc, qf, rfl⟩ := own_shape hsg.tl.tl.hd
    try rw [HXqi.out]
    try rw [HXqo.out]
    rw [HXqi.out, HXqo.out] at hsg
    have HXyq := Lib.hid hxyq
    have HSqczc := Lib.hid (HSqcz.out.graft1 (Sep.bag (l := [_, _, _]) hsg) OX3_own)
    clear hsg HCC hxyq
    generalize hlyq : yq.length = lqe at *
    clear hlyq
    refine shutNx hK _ (by exact HBM.out _ _ HSqczc.out (by simp)) (by exact fun _ => trivial) ?_
    clear hK K
    refine AnyL.tT 4 (by exact HBM.out _ _ HSqczc.out (by simp)) ?_
    have hz := Sep.blk3 (X := []) (A := [_]) (B := [_, _]) HSqczc.out
    try simp only [List.nil_append, List.cons_append, List.append_eq] at hz
    obtain ⟨kb0, kb1, kb2, kb3, kb4, kb5, kb6, kb7, kb8, kb9, kb10, kb11, kb12, kb13, kb14⟩ := rq15 hz.hd
    obtain ⟨kf0, kf1, kf2, kf3, kf4, kf5, kf6, kf7, kf8, kf9, kf10, kf11, kf12, kf13, kf14⟩ := rf15 hz.hd
    have HZ9 := Lib.hid (Sep.box15 hz (.int .i64 0) (.slice none 0 0) (.slice none 0 0) (.slice none 0 0) (.int .i64 P.n) (.slice pa lpe pd) (.slice pb mi pe) (.slice pc mo pf) (.int .i64 rN) (.slice qa lqe qd) (.slice qb qi qe) (.slice qc qo qf) (.slice none 0 0) (.slice none 0 0) (.slice none 0 0))
    clear hz
    refine AnyL.step (i := 6) (by kernel_rfl) (by rfl) (fun K hK => ?_)
    go_simp
    refine shutNx hK (((((((((((((((wqczc.setCell ⟨nb, 0, none⟩ (.int .i64 0)).setCell ⟨nb, 1, none⟩ (.slice none 0 0)).setCell ⟨nb, 2, none⟩ (.slice none 0 0)).setCell ⟨nb, 3, none⟩ (.slice none 0 0)).setCell ⟨nb, 4, none⟩ (.int .i64 P.n)).setCell ⟨nb, 5, none⟩ (.slice pa lpe pd)).setCell ⟨nb, 6, none⟩ (.slice pb mi pe)).setCell ⟨nb, 7, none⟩ (.slice pc mo pf)).setCell ⟨nb, 8, none⟩ (.int .i64 rN)).setCell ⟨nb, 9, none⟩ (.slice qa lqe qd)).setCell ⟨nb, 10, none⟩ (.slice qb qi qe)).setCell ⟨nb, 11, none⟩ (.slice qc qo qf)).setCell ⟨nb, 12, none⟩ (.slice none 0 0)).setCell ⟨nb, 13, none⟩ (.slice none 0 0)).setCell ⟨nb, 14, none⟩ (.slice none 0 0)) (by exact HBM.out _ _ HZ9.out (by simp)) (by exact fun _ => trivial) ?_
    clear hK K
    refine AnyL.done (by kernel_rfl) ?_ _
    clear kb0 kb1 kb2 kb3 kb4 kb5 kb6 kb7 kb8 kb9 kb10 kb11 kb12 kb13 kb14 kf0 kf1 kf2 kf3 kf4 kf5 kf6 kf7 kf8 kf9 kf10 kf11 kf12 kf13 kf14
    generalize (((((((((((((((wqczc.setCell ⟨nb, 0, none⟩ (.int .i64 0)).setCell ⟨nb, 1, none⟩ (.slice none 0 0)).setCell ⟨nb, 2, none⟩ (.slice none 0 0)).setCell ⟨nb, 3, none⟩ (.slice none 0 0)).setCell ⟨nb, 4, none⟩ (.int .i64 P.n)).setCell ⟨nb, 5, none⟩ (.slice pa lpe pd)).setCell ⟨nb, 6, none⟩ (.slice pb mi pe)).setCell ⟨nb, 7, none⟩ (.slice pc mo pf)).setCell ⟨nb, 8, none⟩ (.int .i64 rN)).setCell ⟨nb, 9, none⟩ (.slice qa lqe qd)).setCell ⟨nb, 10, none⟩ (.slice qb qi qe)).setCell ⟨nb, 11, none⟩ (.slice qc qo qf)).setCell ⟨nb, 12, none⟩ (.slice none 0 0)).setCell ⟨nb, 13, none⟩ (.slice none 0 0)).setCell ⟨nb, 14, none⟩ (.slice none 0 0)) = w9 at *
    go_wp2_with fail
    go_meet
    exact ⟨nb, pa, pb, pc, qa, qb, qc, lpe, pd, pe, pf, lqe, qd, qe, qf, xp, yq, rfl, ⟨HXxp.out, HXyq.out⟩, HZ9.out⟩
  ·go_simp
   have HSqz := Lib.hid (HSD.out.boxAt (wd.heap.size) (by rfl) #[.int .i64 0, .slice none 0 0, .slice none 0 0, .slice none 0 0, .int .i64 0, .slice none 0 0, .slice none 0 0, .slice none 0 0, .int .i64 0, .slice none 0 0, .slice none 0 0, .slice none 0 0, .slice none 0 0, .slice none 0 0, .slice none 0 0] 75)
   refine shutNx hK (wd.alloc (.cells #[.int .i64 0, .slice none 0 0, .slice none 0 0, .slice none 0 0, .int .i64 0, .slice none 0 0, .slice none 0 0, .slice none 0 0, .int .i64 0, .slice none 0 0, .slice none 0 0, .slice none 0 0, .slice none 0 0, .slice none 0 0, .slice none 0 0] 75)) (by exact HBM.out _ _ HSqz.out (by simp)) (by exact fun _ => trivial) ?_
   clear hK K
   generalize wd.alloc (.cells #[.int .i64 0, .slice none 0 0, .slice none 0 0, .slice none 0 0, .int .i64 0, .slice none 0 0, .slice none 0 0, .slice none 0 0, .int .i64 0, .slice none 0 0, .slice none 0 0, .slice none 0 0, .slice none 0 0, .slice none 0 0, .slice none 0 0] 75) = wqz at *
   generalize wd.heap.size = nb at *
   refine AnyL.step (i := 1) (by kernel_rfl) (by rfl) (fun K hK => ?_)
   go_simp
   have HCC := Lib.hid (HPAT.out _ (show w.grownBy _ none from HSqz.out.tl.tl.tl.tl.tl.hd))
   go_at_call 69
   with_reducible refine HCC.out.mono ?_
   rintro e wqzc ⟨u0, xp, u1, u2, rfl, hxxp, hsg⟩
   obtain ⟨pa, pd, rfl⟩ := OE.shape hsg.hd
   obtain ⟨pb, pe, rfl⟩ := own_shape hsg.tl.hd
   obtain ⟨pc, pf, rfl⟩ := own_shape hsg.tl.tl.hd
   try rw [HXmi.out]
   try rw [HXmo.out]
   rw [HXmi.out, HXmo.out] at hsg
   have HXxp := Lib.hid hxxp
   have HSqzc := Lib.hid (HSqz.out.graft1 (Sep.bag (l := [_, _, _]) hsg) OX3_own)
   clear hsg HCC hxxp
   generalize hlxp : xp.length = lpe at *
   clear hlxp
   refine shutNx hK _ (by exact HBM.out _ _ HSqzc.out (by simp)) (by exact fun _ => trivial) ?_
   clear hK K
   refine AnyL.step (i := 3) (by kernel_rfl) (by rfl) (fun K hK => ?_)
   go_simp
   have HCC := Lib.hid (HREP.out _ (show w.grownBy _ none from HSqzc.out.tl.tl.tl.tl.tl.tl.hd))
   go_at_call 70
   with_reducible refine HCC.out.mono ?_
   rintro e wqzcc ⟨u0, yq, u1, u2, rfl, hxyq, hsg⟩
   obtain ⟨qa, qd, rfl⟩ := OE.shape hsg.hd
   obtain ⟨qb, qe, rfl⟩ := own_shape hsg.tl.hd
   obtain ⟨qc, qf, rfl⟩ := own_shape hsg.tl.tl.hd
   try rw [HXqi.out]
   try rw [HXqo.out]
   rw [HXqi.out, HXqo.out] at hsg
   have HXyq := Lib.hid hxyq
   have HSqzcc := Lib.hid (HSqzc.out.graft1 (Sep.bag (l := [_, _, _]) hsg) OX3_own)
   clear hsg HCC hxyq
   generalize hlyq : yq.length = lqe at *
   clear hlyq
   refine shutNx hK _ (by exact HBM.out _ _ HSqzcc.out (by simp)) (by exact fun _ => trivial) ?_
   clear hK K
   refine AnyL.tT 4 (by exact HBM.out _ _ HSqzcc.out (by simp)) ?_
   have hp1 := Sep.blk3 (X := []) (A := [_, _]) (B := [_]) HSqzcc.out
   have hz := Sep.blk3 (X := [_]) (A := [_]) (B := [_]) hp1
   try simp only [List.nil_append, List.cons_append, List.append_eq] at hz
   clear hp1
   obtain ⟨kb0, kb1, kb2, kb3, kb4, kb5, kb6, kb7, kb8, kb9, kb10, kb11, kb12, kb13, kb14⟩ := rq15 hz.hd
   obtain ⟨kf0, kf1, kf2, kf3, kf4, kf5, kf6, kf7, kf8, kf9, kf10, kf11, kf12, kf13, kf14⟩ := rf15 hz.hd
   have HZ9 := Lib.hid (Sep.box15 hz (.int .i64 0) (.slice none 0 0) (.slice none 0 0) (.slice none 0 0) (.int .i64 P.n) (.slice pa lpe pd) (.slice pb mi pe) (.slice pc mo pf) (.int .i64 rN) (.slice qa lqe qd) (.slice qb qi qe) (.slice qc qo qf) (.slice none 0 0) (.slice none 0 0) (.slice none 0 0))
   clear hz
   refine AnyL.step (i := 6) (by kernel_rfl) (by rfl) (fun K hK => ?_)
   go_simp
   refine shutNx hK (((((((((((((((wqzcc.setCell ⟨nb, 0, none⟩ (.int .i64 0)).setCell ⟨nb, 1, none⟩ (.slice none 0 0)).setCell ⟨nb, 2, none⟩ (.slice none 0 0)).setCell ⟨nb, 3, none⟩ (.slice none 0 0)).setCell ⟨nb, 4, none⟩ (.int .i64 P.n)).setCell ⟨nb, 5, none⟩ (.slice pa lpe pd)).setCell ⟨nb, 6, none⟩ (.slice pb mi pe)).setCell ⟨nb, 7, none⟩ (.slice pc mo pf)).setCell ⟨nb, 8, none⟩ (.int .i64 rN)).setCell ⟨nb, 9, none⟩ (.slice qa lqe qd)).setCell ⟨nb, 10, none⟩ (.slice qb qi qe)).setCell ⟨nb, 11, none⟩ (.slice qc qo qf)).setCell ⟨nb, 12, none⟩ (.slice none 0 0)).setCell ⟨nb, 13, none⟩ (.slice none 0 0)).setCell ⟨nb, 14, none⟩ (.slice none 0 0)) (by exact HBM.out _ _ HZ9.out (by simp)) (by exact fun _ => trivial) ?_
   clear hK K
   refine AnyL.done (by kernel_rfl) ?_ _
   clear kb0 kb1 kb2 kb3 kb4 kb5 kb6 kb7 kb8 kb9 kb10 kb11 kb12 kb13 kb14 kf0 kf1 kf2 kf3 kf4 kf5 kf6 kf7 kf8 kf9 kf10 kf11 kf12 kf13 kf14
   generalize (((((((((((((((wqzcc.setCell ⟨nb, 0, none⟩ (.int .i64 0)).setCell ⟨nb, 1, none⟩ (.slice none 0 0)).setCell ⟨nb, 2, none⟩ (.slice none 0 0)).setCell ⟨nb, 3, none⟩ (.slice none 0 0)).setCell ⟨nb, 4, none⟩ (.int .i64 P.n)).setCell ⟨nb, 5, none⟩ (.slice pa lpe pd)).setCell ⟨nb, 6, none⟩ (.slice pb mi pe)).setCell ⟨nb, 7, none⟩ (.slice pc mo pf)).setCell ⟨nb, 8, none⟩ (.int .i64 rN)).setCell ⟨nb, 9, none⟩ (.slice qa lqe qd)).setCell ⟨nb, 10, none⟩ (.slice qb qi qe)).setCell ⟨nb, 11, none⟩ (.slice qc qo qf)).setCell ⟨nb, 12, none⟩ (.slice none 0 0)).setCell ⟨nb, 13, none⟩ (.slice none 0 0)).setCell ⟨nb, 14, none⟩ (.slice none 0 0)) = w9 at *
   go_wp2_with fail
   go_meet
   exact ⟨nb, pa, pb, pc, qa, qb, qc, lpe, pd, pe, pf, lqe, qd, qe, qf, xp, yq, rfl, ⟨HXxp.out, HXyq.out⟩, HZ9.out⟩
 case rest =>
  obtain ⟨nb, pa, pb, pc, qa, qb, qc, lpe, pd, pe, pf, lqe, qd, qe, qf, xp, yq, rfl, ⟨hxp, hyq⟩, hs⟩ := hcut
  have HS1 := Lib.hid hs; have HXP := Lib.hid hxp; have HXQ := Lib.hid hyq
  clear hs hxp hyq HS0 HPAT HREP
  have hk1 : w.grownBy _ none := HS1.out.tl.tl.tl.tl.tl.tl.tl.hd
  have HCI := Lib.hid (HISM.out _ hk1 _ _ _ (OX3.read (g := P) HS1.out.tl.hd HXP.out))
  obtain ⟨kb0, kb1, kb2, kb3, kb4, kb5, kb6, kb7, kb8, kb9, kb10, kb11, kb12, kb13, kb14⟩ := rq15 HS1.out.hd
  obtain ⟨g0, g1, g2, g3, _⟩ := gq4 HS1.out.tl.tl.tl.tl.tl.tl.hd
  obtain ⟨m0, m1, _⟩ := bw2 HS1.out.tl.tl.tl.tl.hd
  go_upto_region 5 with (first
   |(go_at_call 71
     with_reducible refine HCI.out.mono ?_
     rintro e w2 ⟨rfl, hgr⟩
     have HS2 := Lib.hid (HS1.out.grown hgr)
     have hk2 : w.grownBy w2 none := HS2.out.tl.tl.tl.tl.tl.tl.tl.hd
     clear hgr kb0 kb1 kb2 kb3 kb4 kb5 kb6 kb7 kb8 kb9 kb10 kb11 kb12 kb13 kb14 g0 g1 g2 g3 m0 m1
     obtain ⟨g0, g1, g2, g3, _⟩ := gq4 HS2.out.tl.tl.tl.tl.tl.tl.hd)
   |(go_at_call 72
     with_reducible refine (HCPY.out w2 hk2).mono ?_
     rintro e w3 ⟨u0, ys, u1, u2, rfl, hys, hsg⟩
     obtain ⟨ua, uc, rfl⟩ := OE.shape hsg.hd
     obtain ⟨ub, ud, rfl⟩ := own_shape hsg.tl.hd
     obtain ⟨uf, ue, rfl⟩ := own_shape hsg.tl.tl.hd
     have hyl : ys.length = ne := by rw [← HXne.out, ← hys]; simp [eds]
     rw [hyl, HXni.out, HXno.out] at hsg
     rw [hyl, HXni.out, HXno.out]
     have HYS := Lib.hid hys; have HYL := Lib.hid hyl
     have hs3 := (HS2.out.graft3 hsg OE_own OI_own OI_own).outBag
     have HS3 := Lib.hid (hs3.boxAt w3.heap.size rfl #[.int .i64 N, .slice ua ne uc, .slice ub ni ud, .slice uf no ue] 38)
     clear hsg hs3 hys hyl g0 g1 g2 g3))
  generalize w3.alloc (.cells #[.int .i64 N, .slice ua ne uc, .slice ub ni ud, .slice uf no ue] 38) = w4 at *
  generalize w3.heap.size = ob at *
  clear HS1 HS2 HISM HCPY HCI hk1 hk2
  have HS5 := Lib.hid (((HS3.out.tkNew w4.heap.size rfl (B : Int)).boxAt (w4.heap.size + 1) (by simp) #[.map (some w4.heap.size)] 113))
  clear HS3
  go_upto_region 6 with fail
  generalize (w4.alloc (.map #[] 0)).alloc (.cells #[.map (some w4.heap.size)] 113) = w6 at *
  generalize w4.heap.size + 1 = tb at *
  generalize w4.heap.size = mb at *
  obtain ⟨kb0, kb1, kb2, kb3, kb4, kb5, kb6, kb7, kb8, kb9, kb10, kb11, kb12, kb13, kb14⟩ := rq15 HS5.out.tl.tl.tl.tl.tl.tl.tl.hd
  go_wp2_with fail
  go_loopw [11, 36] (fun _ i wr => ∃ k : Nat, k ≤ mi ∧ i = .int .i64 k ∧ Sep wr [BxA tb #[.map (some mb)] 113, TkA mb (thruL P W k) (B : Int), BxA ob #[.int .i64 N, .slice ua ne uc, .slice ub ni ud, .slice uf no ue] 38, OR edgeE (.slice ua ne uc) ys, Bag (rowsE ys), OI (.slice ub ni ud) g.i, OI (.slice uf no ue) g.o, BxA nb #[.int .i64 0, .slice none 0 0, .slice none 0 0, .slice none 0 0, .int .i64 P.n, .slice pa lpe pd, .slice pb mi pe, .slice pc mo pf, .int .i64 rN, .slice qa lqe qd, .slice qb qi qe, .slice qc qo qf, .slice none 0 0, .slice none 0 0, .slice none 0 0] 75, OX3 (.slice pa lpe pd) xp (.slice pb mi pe) P.i (.slice pc mo pf) P.o, OX3 (.slice qa lqe qd) yq (.slice qb qi qe) Q.i (.slice qc qo qf) Q.o, BxA (w.heap.size + 3) #[.int .i64 0, .slice none 0 0, .slice none 0 0, .slice none 0 0, .int .i64 0, .slice none 0 0, .slice none 0 0, .slice none 0 0, .int .i64 0, .slice none 0 0, .slice none 0 0, .slice none 0 0, .slice none 0 0, .slice none 0 0, .slice none 0 0] 75, BxA (w.heap.size + 2) #[.slice wa lw wcp, .slice ea le ec] 48, BxA (w.heap.size + 1) #[.string s, .slice xa lx xc, .slice ya ly yc] 46, BxA w.heap.size #[.int .i64 N, .slice ga ne gc, .slice gi ni gd, .slice go_ no ge] 38, KeepA w]) (fun _ i _ => mi - (intOf i).toNat)
  case atStart => exact ⟨0, by omega, rfl, HS5.out⟩
  case round =>
   obtain ⟨k, hk, rfl, hs⟩ := hrel
   have HSX := Lib.hid hs
   have htl := HTL.out k
   have hkw : w.grownBy wr none := HSX.out.tl.tl.tl.tl.tl.tl.tl.tl.tl.tl.tl.tl.tl.tl.hd
   clear hs HS5 kb0 kb1 kb2 kb3 kb4 kb5 kb6 kb7 kb8 kb9 kb10 kb11 kb12 kb13 kb14
   by_cases hlt : k < mi
   ·have hrx := OX3.read (g := P) HSX.out.tl.tl.tl.tl.tl.tl.tl.tl.hd HXP.out
    have hke : k < P.i.length := by rw [HXmi.out]; exact hlt
    obtain ⟨b1, o1, hpa, _, hc1⟩ := (hrx.2.1).atD hke
    subst hpa
    have hpr := HPIR.out _ (getD_memI hke)
    have hmem := getD_memI hke
    obtain ⟨a, ha⟩ : ∃ a : Nat, P.i.getD k 0 = a := ⟨(P.i.getD k 0).toNat, by omega⟩
    have hT := HTS.out k hlt
    have hN := HNEW.out k hlt
    rw [ha] at hT hN
    rw [ha] at hc1 hpr hmem
    have halw : a < lw := by omega
    have haW : a < W.length := by rw [HXlw.out]; exact halw
    obtain ⟨b2, o2, hwa, _, hc2⟩ := (HW.out.carry hkw).atD haW
    subst hwa
    have hwr2 := HWR.out _ (getD_memI haW)
    obtain ⟨v, hv⟩ : ∃ v : Nat, W.getD a 0 = v := ⟨(W.getD a 0).toNat, by omega⟩
    have hof : ofL W (a : Int) = (v : Int) := by unfold ofL; rw [Int.toNat_natCast]; exact hv
    rw [hv] at hc2 hwr2
    have hvN : v < N := by omega
    have HAW := Lib.hid haW; have HV0 := Lib.hid hv
    have hz0 : (0 : Int) ≤ (a : Int) := by omega
    have hz1 : (a : Int) < (lw : Int) := by omega
    have hz2 : (0 : Int) ≤ (v : Int) := by omega
    have hz3 : (v : Int) ≤ 1000000 := by omega
    rw [hof] at hT hN
    have HCP := Lib.hid (HPAS.out (a : Int) hmem wr _ _ _ _ _ hrx)
    generalize thruL P W k = T at *
    clear hpr hwr2 ha hv halw haW hke hof hc2 hrx hmem
    obtain ⟨kb0, kb1, kb2, kb3, kb4, kb5, kb6, kb7, kb8, kb9, kb10, kb11, kb12, kb13, kb14⟩ := rq15 HSX.out.tl.tl.tl.tl.tl.tl.tl.hd
    by_cases hm : (a : Int) ∈ P.o
    ·rw [decide_eq_true hm] at HCP
     rw [if_pos hm] at hT
     have HT1 := Lib.hid hT
     have HNT := Lib.hid hN
     have HWC := Lib.hid (show IntKind.i64.wrap (IntKind.i64.wrap ((N : Int) + (rN : Int)) + (T.length : Int)) = (B : Int) + (T.length : Int) from by have h1 : IntKind.i64.wrap ((N : Int) + (rN : Int)) = (N : Int) + (rN : Int) := wrap_id (by omega) (by omega); rw [h1, wrap_id (by omega) (by omega)]; omega)
     clear hT hN hm
     go_upto_region 10 with (
      go_at_call 73
      with_reducible refine HCP.out.mono ?_
      rintro e w6 ⟨rfl, hgr⟩
      have HS6 := Lib.hid (HSX.out.grown hgr)
      clear hgr kb0 kb1 kb2 kb3 kb4 kb5 kb6 kb7 kb8 kb9 kb10 kb11 kb12 kb13 kb14)
     have HBM := Lib.hid fun (W1 : World) (L : List Asrt) (h : Sep W1 L) (h1 : BxA tb #[.map (some mb)] 113 ∈ L) (h2 : BxA (w.heap.size + 2) #[.slice (some ⟨b2, o2, none⟩) lw wcp, .slice ea le ec] 48 ∈ L) (h3 : KeepA w ∈ L) (h4 : BxA w.heap.size #[.int .i64 N, .slice ga ne gc, .slice gi ni gd, .slice go_ no ge] 38 ∈ L) (h5 : BxA nb #[.int .i64 0, .slice none 0 0, .slice none 0 0, .slice none 0 0, .int .i64 P.n, .slice pa lpe pd, .slice (some ⟨b1, o1, none⟩) mi pe, .slice pc mo pf, .int .i64 rN, .slice qa lqe qd, .slice qb qi qe, .slice qc qo qf, .slice none 0 0, .slice none 0 0, .slice none 0 0] 75 ∈ L) => show W1.cell? ⟨tb, 0, none⟩ = some (.map (some mb)) ∧ W1.cell? ⟨w.heap.size + 2, 0, none⟩ = some (.slice (some ⟨b2, o2, none⟩) lw wcp) ∧ W1.cell? ⟨b2, o2 + a, none⟩ = some (.int .i64 v) ∧ W1.cell? ⟨w.heap.size, 0, none⟩ = some (.int .i64 N) ∧ W1.cell? ⟨nb, 8, none⟩ = some (.int .i64 rN) from by
      have q0 := cell_of_row _ _ 0 _ _ _ (show W1.heap[tb]? = some (.cells #[.map (some mb)] 113 (0, 0)) from Sep.all h _ h1)
      have q1 := (bw2 (show W1.heap[(w.heap.size + 2)]? = some (.cells #[.slice (some ⟨b2, o2, none⟩) lw wcp, .slice ea le ec] 48 (0, 0)) from Sep.all h _ h2)).1
      obtain ⟨b', o', e', _, hc⟩ := (HW.out.carry (show w.grownBy W1 none from Sep.all h _ h3)).atD HAW.out
      cases e'
      rw [HV0.out] at hc
      have q3 := (gq4 (show W1.heap[w.heap.size]? = some (.cells #[.int .i64 N, .slice ga ne gc, .slice gi ni gd, .slice go_ no ge] 38 (0, 0)) from Sep.all h _ h4)).1
      have q4 := (rq15 (show W1.heap[nb]? = some (.cells #[.int .i64 0, .slice none 0 0, .slice none 0 0, .slice none 0 0, .int .i64 P.n, .slice pa lpe pd, .slice (some ⟨b1, o1, none⟩) mi pe, .slice pc mo pf, .int .i64 rN, .slice qa lqe qd, .slice qb qi qe, .slice qc qo qf, .slice none 0 0, .slice none 0 0, .slice none 0 0] 75 (0, 0)) from Sep.all h _ h5)).2.2.2.2.2.2.2.2.1
      exact ⟨q0, q1, hc, q3, q4⟩
     have HSD := Lib.hid HS6.out.dr
     have X0 := Lib.hid (HBM.out _ _ HSD.out (by simp) (by simp) (by simp) (by simp) (by simp))
     refine AnyL.start (fun W1 => W1.cell? ⟨tb, 0, none⟩ = some (.map (some mb)) ∧ W1.cell? ⟨w.heap.size + 2, 0, none⟩ = some (.slice (some ⟨b2, o2, none⟩) lw wcp) ∧ W1.cell? ⟨b2, o2 + a, none⟩ = some (.int .i64 v) ∧ W1.cell? ⟨w.heap.size, 0, none⟩ = some (.int .i64 N) ∧ W1.cell? ⟨nb, 8, none⟩ = some (.int .i64 rN)) (fun _ => True) 99 (by kernel_rfl) ?_
     generalize w6.drew = wd at *
     clear hc1
     refine AnyL.tT 0 (by exact X0.out) ?_
     refine AnyL.tT 1 (by exact X0.out) ?_
     refine AnyL.tT 2 (by exact X0.out) ?_
     refine AnyL.tT 3 (by exact X0.out) ?_
     refine AnyL.tT 4 (by exact X0.out) ?_
     refine AnyL.tT 5 (by exact X0.out) ?_
     refine AnyL.tT 6 (by exact X0.out) ?_
     refine AnyL.tT 7 (by exact X0.out) ?_
     refine AnyL.tT 8 (by exact X0.out) ?_
     refine AnyL.tT 9 (by exact X0.out) ?_
     refine AnyL.tT 10 (by exact X0.out) ?_
     refine AnyL.tT 11 (by exact X0.out) ?_
     refine AnyL.tT 12 (by exact X0.out) ?_
     have HTW := Lib.hid (show TkIs wd mb T (B : Int) from HSD.out.tl.hd)
     refine AnyL.step (i := 13) (by kernel_rfl) (by rfl) (fun K hK => ?_)
     refine step_tkLen rfl (.tmp 56) rfl rfl HTW.out ?_
     refine shutNx hK _ (by exact X0.out) (by exact fun _ => trivial) ?_
     clear hK K
     refine AnyL.tT 14 (by exact X0.out) ?_
     refine AnyL.step (i := 15) (by kernel_rfl) (by rfl) (fun K hK => ?_)
     refine step_tkPut rfl (.tmp 44) (.tmp 49) (.tmp 58) rfl rfl _ rfl rfl hz2 hz3 HWC.out HTW.out ⟨by omega, by omega⟩ (by omega) HNT.out ?_
     intro w9 h9 hg9
     have HS9 := Lib.hid (HSD.out.s2.tkUpd h9 hg9).s2
     clear h9 hg9
     refine shutNx hK _ (by exact HBM.out _ _ HS9.out (by simp) (by simp) (by simp) (by simp) (by simp)) (by exact fun _ => trivial) ?_
     clear hK K
     refine AnyL.done (by kernel_rfl) ?_ _
     clear X0 HBM
     go_wp2_with fail
     go_roundw
     case rel => exact ⟨k + 1, by omega, by go_num, by rw [HT1.out]; exact HS9.out⟩
     case measure => simp [intOf]; omega
    ·rw [decide_eq_false hm] at HCP
     rw [if_neg hm] at hT
     have HT1 := Lib.hid hT
     clear hT hN hm
     go_wp2_with (
      go_at_call 73
      with_reducible refine HCP.out.mono ?_
      rintro e w6 ⟨rfl, hgr⟩
      have HS6 := Lib.hid (HSX.out.grown hgr)
      clear hgr kb0 kb1 kb2 kb3 kb4 kb5 kb6 kb7 kb8 kb9 kb10 kb11 kb12 kb13 kb14)
     go_roundw
     case rel => exact ⟨k + 1, by omega, by go_num, by rw [HT1.out]; exact HS6.out⟩
     case measure => simp [intOf]; omega
   ·have hkm : mi = k := by omega
    subst hkm
    have hs := HSX.out
    rw [HT0.out] at hs
    have hs1 := (show Sep (wr.alloc (.cells #[] 104)) _ from Sep.emptyRT edgeE hs wr.heap.size rfl).nilI.noBag
    have hs2 := Sep.blk3 (X := []) (A := [_, _]) (B := [_]) hs1
    try simp only [List.nil_append, List.cons_append, List.append_eq] at hs2
    have HS7 := Lib.hid hs2
    clear hs hs1 hs2 hlt HSX
    go_upto_region 14 with fail
    generalize wr.alloc (.cells #[] 104) = w7 at *
    generalize wr.heap.size = eb at *
    obtain ⟨o0, o1, o2, o3, of0, of1, of2, of3⟩ := gq4 HS7.out.tl.tl.tl.tl.tl.hd
    go_wp2_with fail
    go_loopw [13, 14, 15, 65] (fun ev _ _ i wr => ∃ (k m : Nat) (ee : Option Addr) (ef : Nat) (de : Option Addr) (df : Nat) (xs : List XE), k ≤ ne ∧ i = .int .i64 k ∧ ev = .slice ee m ef ∧ xs.length = m ∧ eds xs = cutEs g E T0 (B : Int) k ∧ Sep wr [OR edgeE (.slice ee m ef) xs, Bag (rowsE xs), OI (.slice de m df) (keptI E k), BxA tb #[.map (some mb)] 113, TkA mb T0 (B : Int), BxA ob #[.int .i64 N, .slice ua ne uc, .slice ub ni ud, .slice uf no ue] 38, OR edgeE (.slice ua ne uc) ys, Bag (rowsE (ys.drop k)), OI (.slice ub ni ud) g.i, OI (.slice uf no ue) g.o, BxA nb #[.int .i64 0, .slice none 0 0, .slice none 0 0, .slice none 0 0, .int .i64 P.n, .slice pa lpe pd, .slice pb mi pe, .slice pc mo pf, .int .i64 rN, .slice qa lqe qd, .slice qb qi qe, .slice qc qo qf, .slice none 0 0, .slice none 0 0, .slice de m df] 75, OX3 (.slice pa lpe pd) xp (.slice pb mi pe) P.i (.slice pc mo pf) P.o, OX3 (.slice qa lqe qd) yq (.slice qb qi qe) Q.i (.slice qc qo qf) Q.o, BxA (w.heap.size + 3) #[.int .i64 0, .slice none 0 0, .slice none 0 0, .slice none 0 0, .int .i64 0, .slice none 0 0, .slice none 0 0, .slice none 0 0, .int .i64 0, .slice none 0 0, .slice none 0 0, .slice none 0 0, .slice none 0 0, .slice none 0 0, .slice none 0 0] 75, BxA (w.heap.size + 2) #[.slice wa lw wcp, .slice ea le ec] 48, BxA (w.heap.size + 1) #[.string s, .slice xa lx xc, .slice ya ly yc] 46, BxA w.heap.size #[.int .i64 N, .slice ga ne gc, .slice gi ni gd, .slice go_ no ge] 38, KeepA w]) (fun _ _ _ i _ => ne - (intOf i).toNat)
    case atStart => exact ⟨0, 0, some ⟨eb, 0, none⟩, 0, none, 0, [], by omega, rfl, rfl, rfl, rfl, HS7.out⟩
    case round =>
     obtain ⟨k, m, ee, ef, de, df, xs, hk, rfl, rfl, hxl, hxe, hs⟩ := hrel
     have hmk : m = (keptN E k).length := by rw [← hxl, ← cutEs_len g E T0 (B : Int) k, ← hxe]; simp [eds]
     have hmb : m ≤ 60 := by have := keptN_len E k; omega
     have HSX := Lib.hid hs; have HXL := Lib.hid hxl; have HXE := Lib.hid hxe; have HMK := Lib.hid hmk
     have hkw : w.grownBy wr none := HSX.out.tl.tl.tl.tl.tl.tl.tl.tl.tl.tl.tl.tl.tl.tl.tl.tl.tl.hd
     clear hs hxl hxe hmk HS7 o0 o1 o2 o3 of0 of1 of2 of3
     by_cases hlt : k < ne
     ·have hky : k < ys.length := by rw [HYL.out]; exact hlt
      have hke : k < g.es.length := by rw [HXne.out]; exact hlt
      have hye : g.es.getD k e0 ∈ g.es := by rw [List.getD_eq_getElem?_getD, List.getElem?_eq_getElem hke]; exact List.getElem_mem _
      have hed := eds_getD HYS.out hky
      have hei := HEI.out _ hye
      have HCN := Lib.hid fun (h : (k : Int) ∉ E) => cutEs_no (g := g) (T := T0) (base := (B : Int)) h
      have HCY := Lib.hid fun (h : (k : Int) ∈ E) => cutEs_yes (g := g) (T := T0) (base := (B : Int)) h
      rw [← hed] at hei HCN
      obtain ⟨cg, cc, hce, _, _, _⟩ := OwnR.parts (show OwnR edgeE 0 wr (.slice ua ne uc) ys from HSX.out.tl.tl.tl.tl.tl.tl.hd) (by omega)
      rw [HYL.out] at hce
      cases hce
      obtain ⟨q0, q1, q2, q3⟩ := edge_cells (show OwnR edgeE 0 wr (.slice (some ⟨cg, 0, none⟩) ne uc) ys from HSX.out.tl.tl.tl.tl.tl.tl.hd) HYL.out.symm hky
      have hs1 := HSX.out
      rw [rowsE_drop hky] at hs1
      have hs2 := Sep.blk3 (X := []) (A := [_, _, _, _, _, _, _]) (B := [_]) hs1
      try simp only [List.nil_append, List.cons_append, List.append_eq] at hs2
      clear hs1
      have hs3 := hs2.outBag
      have hs4 := Sep.outBag hs3.s2
      have hs5 := hs4.s3
      clear hs2 hs3 hs4
      generalize ys.getD k xe0 = y at *
      obtain ⟨⟨yk, yv, yi, yo⟩, yiv, yov⟩ := y
      simp only at q0 q1 q2 q3 hei hs5
      obtain ⟨ja, jc, rfl⟩ := own_shape hs5.hd
      obtain ⟨qa2, qc2, rfl⟩ := own_shape hs5.tl.hd
      generalize hn1 : yi.length = n1 at *
      have HN1 := Lib.hid hn1
      generalize hn2 : yo.length = n2 at *
      have HEE := Lib.hid hei
      clear hed hye hke hn1 hn2 hei
      have HSA := Lib.hid (hs5.boxAt wr.heap.size rfl #[.int .i64 yk, .int .i64 yv, .slice ja n1 jc, .slice qa2 n2 qc2] 104)
      clear hs5
      have HKA := Lib.hid (show w.grownBy _ none from HSA.out.tl.tl.tl.tl.tl.tl.tl.tl.tl.tl.tl.tl.tl.tl.tl.tl.tl.tl.tl.tl.hd)
      have HHK := Lib.hid (HCON.out (k : Int) _ HKA.out)
      go_upto_region 17 with fail
      generalize wr.alloc (.cells #[.int .i64 yk, .int .i64 yv, .slice ja n1 jc, .slice qa2 n2 qc2] 104) = wx2 at *
      generalize wr.heap.size = xb at *
      clear q0 q1 q2 q3
      obtain ⟨m0, m1, _⟩ := bw2 HSA.out.tl.tl.tl.tl.tl.tl.tl.tl.tl.tl.tl.tl.tl.tl.tl.tl.tl.hd
      by_cases hm : (k : Int) ∈ E
      ·rw [decide_eq_true hm] at HHK
       have HCE := Lib.hid (HCY.out hm); have HED := Lib.hid (keptI_yes hm)
       clear hm
       go_wp2_with (
        go_at_call 75
        with_reducible refine HHK.out.mono ?_
        rintro e w6 ⟨rfl, hgr⟩
        have HS6 := Lib.hid (HSA.out.grown hgr)
        clear hgr m0 m1)
       have hp1 := Sep.cutA (X := []) (A := [_, _, _]) HS6.out
       have hs7 := Sep.blk3 (X := []) (A := [_]) (B := [_, _, _, _, _, _, _]) hp1
       try simp only [List.nil_append, List.cons_append, List.append_eq] at hs7
       clear hp1
       have HS7 := Lib.hid hs7
       clear hs7
       go_roundw
       case rel => exact ⟨k + 1, m, ee, ef, de, df, xs, by omega, by go_num, rfl, HXL.out, by rw [HCE.out]; exact HXE.out, by rw [HED.out]; exact HS7.out⟩
       case measure => simp [intOf]; omega
      ·rw [decide_eq_false hm] at HHK
       have HCE := Lib.hid (HCN.out hm); have HED := Lib.hid (keptI_no hm)
       clear hm
       go_upto_region 18 with (
        go_at_call 75
        with_reducible refine HHK.out.mono ?_
        rintro e w6 ⟨rfl, hgr⟩
        have HS6 := Lib.hid (HSA.out.grown hgr)
        clear hgr m0 m1)
       have hp1 := Sep.blk3 (X := []) (A := [_]) (B := [_]) HS6.out
       have hp2 := Sep.blk3 (X := [_]) (A := [_, _, _, _, _, _, _]) (B := [_]) hp1
       have hs7 := Sep.blk3 (X := [_, _]) (A := [_, _, _, _, _, _]) (B := [_]) hp2
       try simp only [List.nil_append, List.cons_append, List.append_eq] at hs7
       clear hp1 hp2
       have HS7 := Lib.hid hs7
       clear hs7
       obtain ⟨x0, x1, x2, x3, _⟩ := gq4 HS7.out.tl.tl.tl.hd
       have HGV := Lib.hid (give_any yi T0 (B : Int) ja n1 jc tb mb w6 _ HS7.out HN1.out.symm HEE.out.2 HEE.out.1)
       go_upto_region 19 with (
        go_at_call 74
        with_reducible refine HGV.out.mono ?_
        rintro e w8 ⟨rfl, hs8⟩
        have HS8 := Lib.hid hs8
        clear hs8 x0 x1 x2 x3)
       have hs9 := Sep.blk3 (X := []) (A := [_, _, _, _, _, _]) (B := [_]) HS8.out
       try simp only [List.nil_append, List.cons_append, List.append_eq] at hs9
       have HS9 := Lib.hid hs9
       clear hs9 HS7
       obtain ⟨x0, x1, x2, x3, _⟩ := gq4 HS9.out.tl.tl.tl.tl.hd
       go_upto_region 20 with (
        at_builtin
        refine app_R (E := edgeE) (y := ⟨⟨yk, yv, yi.map (dstF T0 (B : Int)), yo⟩, .slice ja n1 jc, .slice qa2 n2 qc2⟩) info_edge rfl (by decide) Tryz.underlying36 (edge_one _ _ _ _ _ _ _) rfl (.tmp 78) (.tmp 80) rfl rfl rfl rfl HS9.out (by rw [HXL.out]; omega) ?_
        intro gq cq wa h9
        rw [HXL.out] at h9
        try rw [HXL.out]
        have HSB := Lib.hid h9
        clear h9 x0 x1 x2 x3)
       have hp1 := Sep.blk3 (X := [_]) (A := [_, _, _, _]) (B := [_]) HSB.out
       have hp2 := Sep.blk3 (X := [_, _, _]) (A := [_, _]) (B := [_]) hp1
       have hp3 := Sep.blk3 (X := [_, _, _, _]) (A := [_, _, _, _, _, _, _, _, _]) (B := [_]) hp2
       have hsc := Sep.blk3 (X := [_, _, _, _, _]) (A := [_, _, _]) (B := [_]) hp3
       try simp only [List.nil_append, List.cons_append, List.append_eq] at hsc
       clear hp1 hp2 hp3
       have hsd := hsc.edgeIn
       rw [← rowsE_snoc xs ⟨⟨yk, yv, yi.map (dstF T0 (B : Int)), yo⟩, .slice ja n1 jc, .slice qa2 n2 qc2⟩] at hsd
       have HSC := Lib.hid hsd
       clear hsc hsd HS9 HS8
       obtain ⟨kb0, kb1, kb2, kb3, kb4, kb5, kb6, kb7, kb8, kb9, kb10, kb11, kb12, kb13, kb14⟩ := rq15 HSC.out.hd
       obtain ⟨kf0, kf1, kf2, kf3, kf4, kf5, kf6, kf7, kf8, kf9, kf10, kf11, kf12, kf13, kf14⟩ := rf15 HSC.out.hd
       have hse := Sep.blk3 (X := []) (A := [_, _, _, _, _, _]) (B := [_]) HSC.out
       try simp only [List.nil_append, List.cons_append, List.append_eq] at hse
       have HSE := Lib.hid hse
       clear hse
       go_wp2_with (
        at_builtin
        refine app_intS rfl _ _ rfl rfl rfl HSE.out (by rw [keptI_len, ← HMK.out]; omega) ?_
        intro g9 c9 w9 h9
        rw [keptI_len, ← HMK.out, ← HED.out] at h9
        try rw [keptI_len, ← HMK.out]
        have HSF := Lib.hid h9
        clear kb0 kb1 kb2 kb3 kb4 kb5 kb6 kb7 kb8 kb9 kb10 kb11 kb12 kb13 kb14 kf0 kf1 kf2 kf3 kf4 kf5 kf6 kf7 kf8 kf9 kf10 kf11 kf12 kf13 kf14
        obtain ⟨kb0, kb1, kb2, kb3, kb4, kb5, kb6, kb7, kb8, kb9, kb10, kb11, kb12, kb13, kb14⟩ := rq15 h9.tl.hd
        obtain ⟨kf0, kf1, kf2, kf3, kf4, kf5, kf6, kf7, kf8, kf9, kf10, kf11, kf12, kf13, kf14⟩ := rf15 h9.tl.hd
        clear h9)
       have hsg := Sep.blk3 (X := []) (A := [_]) (B := [_]) HSF.out
       try simp only [List.nil_append, List.cons_append, List.append_eq] at hsg
       have hsh := hsg.setB 14 (.slice (some ⟨g9, 0, none⟩) (m + 1) c9)
       simp only [List.setIfInBounds_toArray, List.set_cons_zero, List.set_cons_succ] at hsh
       have hr1 := Sep.blk3 (X := []) (A := [_, _]) (B := [_, _]) hsh
       have hr2 := Sep.blk3 (X := [_, _]) (A := [_]) (B := [_]) hr1
       have hr3 := Sep.blk3 (X := [_, _, _]) (A := [_, _]) (B := [_]) hr2
       have hr4 := Sep.blk3 (X := [_, _, _, _]) (A := [_]) (B := [_]) hr3
       have hr5 := Sep.blk3 (X := [_, _, _, _, _]) (A := [_, _]) (B := [_, _]) hr4
       have hsi := Sep.blk3 (X := [_, _, _, _, _, _, _]) (A := [_]) (B := [_, _, _]) hr5
       try simp only [List.nil_append, List.cons_append, List.append_eq] at hsi
       clear hr1 hr2 hr3 hr4 hr5
       have HSI := Lib.hid hsi
       clear hsg hsh hsi
       go_roundw
       case rel => exact ⟨k + 1, m + 1, some ⟨gq, 0, none⟩, cq, some ⟨g9, 0, none⟩, c9, xs ++ [(⟨⟨yk, yv, yi.map (dstF T0 (B : Int)), yo⟩, .slice ja n1 jc, .slice qa2 n2 qc2⟩ : XE)], by omega, by go_num, rfl, by rw [List.length_append, HXL.out]; rfl, by rw [eds_snoc, HXE.out, HCE.out]; rfl, HSI.out⟩
       case measure => simp [intOf]; omega
     ·have hkm : ne = k := by omega
      subst hkm
      have hp1 := Sep.cutA (X := [_, _, _, _, _, _]) (A := [_, _]) HSX.out
      have hp2 := Sep.blk3 (X := []) (A := [_, _, _, _, _, _, _]) (B := [_]) hp1
      have hp3 := Sep.blk3 (X := [_]) (A := [_, _, _, _]) (B := [_]) hp2
      have hs1 := Sep.blk3 (X := [_, _]) (A := [_, _, _]) (B := [_]) hp3
      try simp only [List.nil_append, List.cons_append, List.append_eq] at hs1
      clear hp1 hp2 hp3
      have HS8 := Lib.hid hs1
      clear hs1 hlt hk HSX
      obtain ⟨o0, o1, o2, o3, of0, of1, of2, of3⟩ := gq4 HS8.out.tl.tl.tl.tl.tl.tl.hd
      have HGV := Lib.hid (give_any g.o T0 (B : Int) uf no ue tb mb wr _ HS8.out HXno.out.symm (by omega) HGO.out)
      go_upto_region 23 with (
       go_at_call 74
       with_reducible refine HGV.out.mono ?_
       rintro e w8 ⟨rfl, hs8⟩
       have HS9 := Lib.hid hs8
       clear hs8 o0 o1 o2 o3 of0 of1 of2 of3)
      have hs1 := Sep.blk3 (X := []) (A := [_, _, _, _, _, _]) (B := [_]) HS9.out
      try simp only [List.nil_append, List.cons_append, List.append_eq] at hs1
      have HSa := Lib.hid hs1
      clear hs1 HS9 HS8
      obtain ⟨o0, o1, o2, o3, of0, of1, of2, of3⟩ := gq4 HSa.out.hd
      have HSb := Lib.hid (HSa.out.setB 1 (.slice ee m ef))
      go_upto_region 24 with fail
      clear o0 o1 o2 o3 of0 of1 of2 of3
      generalize w8.setCell ⟨ob, 1, none⟩ (.slice ee m ef) = wb at *
      clear HSa
      obtain ⟨o0, o1, o2, o3, of0, of1, of2, of3⟩ := gq4 HSb.out.hd
      obtain ⟨g0, g1, g2, g3, _⟩ := gq4 HSb.out.tl.tl.tl.tl.tl.tl.tl.tl.tl.tl.tl.tl.tl.tl.hd
      obtain ⟨kb0, kb1, kb2, kb3, kb4, kb5, kb6, kb7, kb8, kb9, kb10, kb11, kb12, kb13, kb14⟩ := rq15 HSb.out.tl.tl.tl.tl.tl.tl.tl.tl.hd
      have t0 := cell_of_row _ _ 0 _ _ _ HSb.out.tl.tl.tl.hd
      obtain ⟨u, hu⟩ : ∃ u : Nat, B + T0.length = u := ⟨_, rfl⟩
      have HU := Lib.hid hu
      have hub : u ≤ 400 := by have := HTN.out; omega
      have HTW := Lib.hid (show TkIs wb mb T0 (B : Int) from HSb.out.tl.tl.hd)
      have HSc := Lib.hid (HSb.out.setB 0 (.int .i64 u))
      have hTl := HTN.out
      have hun : (N : Int) + (rN : Int) + (T0.length : Int) = (u : Int) := by omega
      go_upto_region 25 with (
       at_len
       refine wpList_tkLen rfl _ rfl rfl HTW.out ?_)
      try simp only [hun]
      clear o0 o1 o2 o3 of0 of1 of2 of3
      clear g0 g1 g2 g3
      clear kb0 kb1 kb2 kb3 kb4 kb5 kb6 kb7 kb8 kb9 kb10 kb11 kb12 kb13 kb14
      clear t0
      generalize wb.setCell ⟨ob, 0, none⟩ (.int .i64 u) = wc_ at *
      clear HSb HTW hTl hun
      obtain ⟨o0, o1, o2, o3, of0, of1, of2, of3⟩ := gq4 HSc.out.hd
      have hs1 := Sep.blk3 (X := []) (A := [_, _, _, _, _, _, _, _]) (B := [_]) HSc.out
      try simp only [List.nil_append, List.cons_append, List.append_eq] at hs1
      have HSd := Lib.hid hs1
      clear hs1
      obtain ⟨kb0, kb1, kb2, kb3, kb4, kb5, kb6, kb7, kb8, kb9, kb10, kb11, kb12, kb13, kb14⟩ := rq15 HSd.out.hd
      obtain ⟨kf0, kf1, kf2, kf3, kf4, kf5, kf6, kf7, kf8, kf9, kf10, kf11, kf12, kf13, kf14⟩ := rf15 HSd.out.hd
      have hse := ((((HSd.out.setB 0 (.int .i64 u)).setB 1 (.slice ee m ef)).setB 2 (.slice ub ni ud)).setB 3 (.slice uf no ue))
      simp only [List.setIfInBounds_toArray, List.set_cons_zero, List.set_cons_succ] at hse
      have HSe := Lib.hid hse
      clear hse
      go_upto_region 26 with fail
      clear kb0 kb1 kb2 kb3 kb4 kb5 kb6 kb7 kb8 kb9 kb10 kb11 kb12 kb13 kb14 kf0 kf1 kf2 kf3 kf4 kf5 kf6 kf7 kf8 kf9 kf10 kf11 kf12 kf13 kf14
      clear o0 o1 o2 o3 of0 of1 of2 of3
      generalize ((((wc_.setCell ⟨nb, 0, none⟩ (.int .i64 u)).setCell ⟨nb, 1, none⟩ (.slice ee m ef)).setCell ⟨nb, 2, none⟩ (.slice ub ni ud)).setCell ⟨nb, 3, none⟩ (.slice uf no ue)) = we at *
      clear HSc HSd
      obtain ⟨kb0, kb1, kb2, kb3, kb4, kb5, kb6, kb7, kb8, kb9, kb10, kb11, kb12, kb13, kb14⟩ := rq15 HSe.out.hd
      obtain ⟨m0, m1, _⟩ := bw2 HSe.out.tl.tl.tl.tl.tl.tl.tl.tl.tl.tl.tl.tl.hd
      have hke : w.grownBy we none := HSe.out.tl.tl.tl.tl.tl.tl.tl.tl.tl.tl.tl.tl.tl.tl.tl.hd
      have hrx := OX3.read (g := P) HSe.out.tl.tl.tl.tl.tl.tl.tl.tl.tl.hd HXP.out
      have HCM := Lib.hid (HMPI.out we hke _ hrx.2.1)
      clear hrx
      go_upto_region 27 with (
       go_at_call 76
       with_reducible refine HCM.out.mono ?_
       rintro e wf ⟨fa, fc, rfl, hsg⟩
       have HSf := Lib.hid (HSe.out.graft1 hsg OI_own).s2
       clear hsg kb0 kb1 kb2 kb3 kb4 kb5 kb6 kb7 kb8 kb9 kb10 kb11 kb12 kb13 kb14 m0 m1
       obtain ⟨kb0, kb1, kb2, kb3, kb4, kb5, kb6, kb7, kb8, kb9, kb10, kb11, kb12, kb13, kb14⟩ := rq15 HSf.out.hd
       obtain ⟨kf0, kf1, kf2, kf3, kf4, kf5, kf6, kf7, kf8, kf9, kf10, kf11, kf12, kf13, kf14⟩ := rf15 HSf.out.hd)
      have hsg := HSf.out.setB 12 (.slice fa mi fc)
      simp only [List.setIfInBounds_toArray, List.set_cons_zero, List.set_cons_succ] at hsg
      have HSg := Lib.hid hsg
      clear hsg
      clear kb0 kb1 kb2 kb3 kb4 kb5 kb6 kb7 kb8 kb9 kb10 kb11 kb12 kb13 kb14 kf0 kf1 kf2 kf3 kf4 kf5 kf6 kf7 kf8 kf9 kf10 kf11 kf12 kf13 kf14
      generalize wf.setCell ⟨nb, 12, none⟩ (.slice fa mi fc) = wg at *
      clear HSe HSf HCM hke
      obtain ⟨kb0, kb1, kb2, kb3, kb4, kb5, kb6, kb7, kb8, kb9, kb10, kb11, kb12, kb13, kb14⟩ := rq15 HSg.out.hd
      obtain ⟨m0, m1, _⟩ := bw2 HSg.out.tl.tl.tl.tl.tl.tl.tl.tl.tl.tl.tl.tl.tl.hd
      have hke : w.grownBy wg none := HSg.out.tl.tl.tl.tl.tl.tl.tl.tl.tl.tl.tl.tl.tl.tl.tl.tl.hd
      have hrx := OX3.read (g := P) HSg.out.tl.tl.tl.tl.tl.tl.tl.tl.tl.tl.hd HXP.out
      have HCM := Lib.hid (HMPO.out wg hke _ hrx.2.2)
      clear hrx
      go_upto_region 28 with (
       go_at_call 76
       with_reducible refine HCM.out.mono ?_
       rintro e wh ⟨ta, tc, rfl, hsg⟩
       have HSh := Lib.hid (HSg.out.graft1 hsg OI_own).s2
       clear hsg kb0 kb1 kb2 kb3 kb4 kb5 kb6 kb7 kb8 kb9 kb10 kb11 kb12 kb13 kb14 m0 m1
       obtain ⟨kb0, kb1, kb2, kb3, kb4, kb5, kb6, kb7, kb8, kb9, kb10, kb11, kb12, kb13, kb14⟩ := rq15 HSh.out.hd
       obtain ⟨kf0, kf1, kf2, kf3, kf4, kf5, kf6, kf7, kf8, kf9, kf10, kf11, kf12, kf13, kf14⟩ := rf15 HSh.out.hd)
      have hsi := HSh.out.setB 13 (.slice ta mo tc)
      simp only [List.setIfInBounds_toArray, List.set_cons_zero, List.set_cons_succ] at hsi
      have HSi := Lib.hid hsi
      clear hsi
      clear kb0 kb1 kb2 kb3 kb4 kb5 kb6 kb7 kb8 kb9 kb10 kb11 kb12 kb13 kb14 kf0 kf1 kf2 kf3 kf4 kf5 kf6 kf7 kf8 kf9 kf10 kf11 kf12 kf13 kf14
      generalize wh.setCell ⟨nb, 13, none⟩ (.slice ta mo tc) = wi at *
      clear HSg HSh HCM hke
      have hp1 := Sep.blk3 (X := []) (A := [_]) (B := [_]) HSi.out
      have hs1 := Sep.blk3 (X := [_]) (A := [_, _, _, _]) (B := [_, _]) hp1
      try simp only [List.nil_append, List.cons_append, List.append_eq] at hs1
      clear hp1
      have HSj := Lib.hid hs1
      clear hs1 HSi
      obtain ⟨kb0, kb1, kb2, kb3, kb4, kb5, kb6, kb7, kb8, kb9, kb10, kb11, kb12, kb13, kb14⟩ := rq15 HSj.out.tl.tl.tl.hd
      have HGW := Lib.hid (give_any (P.o.map (ofL W)) T0 (B : Int) ta mo tc tb mb wi _ HSj.out (by rw [List.length_map]; exact HXmo.out.symm) (by omega) HWO.out)
      go_upto_region 29 with (
       go_at_call 74
       with_reducible refine HGW.out.mono ?_
       rintro e wj ⟨rfl, hs8⟩
       have HSk := Lib.hid hs8
       clear hs8 kb0 kb1 kb2 kb3 kb4 kb5 kb6 kb7 kb8 kb9 kb10 kb11 kb12 kb13 kb14)
      clear HSj
      obtain ⟨kb0, kb1, kb2, kb3, kb4, kb5, kb6, kb7, kb8, kb9, kb10, kb11, kb12, kb13, kb14⟩ := rq15 HSk.out.tl.tl.tl.hd
      have hs1 := Sep.blk3 (X := []) (A := [_, _, _, _, _, _, _, _, _, _, _, _, _]) (B := [_]) HSk.out
      try simp only [List.nil_append, List.cons_append, List.append_eq] at hs1
      obtain ⟨rb0, rb1, rb2, rb3, rb4, rb5, rb6, rb7, rb8, rb9, rb10, rb11, rb12, rb13, rb14⟩ := rq15 hs1.hd
      obtain ⟨rk0, rk1, rk2, rk3, rk4, rk5, rk6, rk7, rk8, rk9, rk10, rk11, rk12, rk13, rk14⟩ := rf15 hs1.hd
      have hs2 := (Sep.box15 hs1 (.int .i64 u) (.slice ee m ef) (.slice ub ni ud) (.slice uf no ue) (.int .i64 P.n) (.slice pa lpe pd) (.slice pb mi pe) (.slice pc mo pf) (.int .i64 rN) (.slice qa lqe qd) (.slice qb qi qe) (.slice qc qo qf) (.slice fa mi fc) (.slice ta mo tc) (.slice de m df))
      obtain ⟨jb0, jb1, jb2, jb3, jb4, jb5, jb6, jb7, jb8, jb9, jb10, jb11, jb12, jb13, jb14⟩ := rq15 hs2.hd
      have hp1 := Sep.cutA (X := []) (A := [_]) hs2
      have hp2 := Sep.cutA (X := [_]) (A := [_, _, _]) hp1
      have hp3 := Sep.cutA (X := [_, _]) (A := [_]) hp2
      have hp4 := Sep.cutA (X := [_, _, _, _, _, _, _]) (A := [_]) hp3
      have hp5 := Sep.cutA (X := [_, _, _, _, _, _, _, _]) (A := [_, _, _]) hp4
      have hp6 := Sep.blk3 (X := []) (A := [_, _, _]) (B := [_, _]) hp5
      have hp7 := Sep.blk3 (X := [_, _]) (A := [_, _, _, _]) (B := [_]) hp6
      have hp8 := Sep.blk3 (X := [_, _, _]) (A := [_, _]) (B := [_]) hp7
      have hp9 := Sep.blk3 (X := [_, _, _, _]) (A := [_, _, _]) (B := [_]) hp8
      have hs3 := Sep.blk3 (X := [_, _, _, _, _]) (A := [_]) (B := [_]) hp9
      try simp only [List.nil_append, List.cons_append, List.append_eq] at hs3
      clear hp1 hp2 hp3 hp4 hp5 hp6 hp7 hp8 hp9
      have hs4 := hs3.intoBag
      rw [← HOT.out] at hs4
      have HF := Lib.hid hs4
      clear hs1 hs2 hs3 hs4 HSk
      have HUC := Lib.hid (show (B : Int) + (T0.length : Int) = (u : Int) by have := HU.out; omega)
      go_wp2_with fail
      refine bodyPost_ret_by (v := .agg #[.int .i64 u, .slice ee m ef, .slice ub ni ud, .slice uf no ue, .int .i64 P.n, .slice pa lpe pd, .slice pb mi pe, .slice pc mo pf, .int .i64 rN, .slice qa lqe qd, .slice qb qi qe, .slice qc qo qf, .slice fa mi fc, .slice ta mo tc, .slice de m df]) ?_ rfl ⟨_, xs, _, _, P.n, pa, pb, pc, qa, qb, qc, lpe, pd, mi, pe, mo, pf, lqe, qd, qi, qe, qo, qf, yq, _, _, _, by rw [HUC.out], ⟨HXE.out, HXQ.out⟩, HF.out⟩
      simp [results, go_sem, *]
end Go.Proofs.YtjagjhchnpmngaaGreat

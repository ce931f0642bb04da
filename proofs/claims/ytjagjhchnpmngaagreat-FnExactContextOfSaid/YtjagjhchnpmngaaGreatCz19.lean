/-
 Two graphs one behind the other, in the program. Conditions: the graphs are valid and fit.
-/
import Derived.Test.YtjagjhchnpmngaaGreatCz06
import Derived.Test.YtjagjhchnpmngaaGreatCz05
import Derived.Test.YtjagjhchnpmngaaGreatCz04
import Derived.Test.YtjagjhchnpmngaaGreatCz03
import Derived.Test.YtjagjhchnpmngaaGreatCz02
import Derived.Test.YtjagjhchnpmngaaGreatCz01
import Derived.Test.YtjagjhchnpmngaaGreatCz00
import Derived.Test.YtjagjhchnpmngaaGreatCz17
import Derived.Test.YtjagjhchnpmngaaGreatCz12
set_option linter.unusedVariables false
set_option linter.unusedSimpArgs false
set_option maxRecDepth 100000
namespace Go.Proofs.YtjagjhchnpmngaaGreat
open Go.RowKit
theorem info_pairT : (Tryz.prog.info? pairE.ty).map (fun i => (i.zero, i.size, i.bytes)) = some (some (.agg #[.int .i64 0, .int .i64 0]), pairE.sz, 16) := by kernel_rfl
theorem pair_oneT (a c : Int) : ∀ u ∈ pairE.cs (a, c), u.oneCell' = true := by
 intro u hu
 simp only [pairE, List.mem_cons, List.not_mem_nil, or_false] at hu
 rcases hu with rfl | rfl <;> rfl
theorem seqP_len {a b : Gr} (h : a.o.length = b.i.length) : (seqP a b).length = a.o.length := by
 unfold seqP; rw [List.length_zip, List.length_map]; omega
theorem seqP_take {a b : Gr} {j : Nat} (h : a.o.length = b.i.length) (hj : j < a.o.length) : (seqP a b).take (j + 1) = (seqP a b).take j ++ [(a.o.getD j 0, ofL (shL a b) (b.i.getD j 0))] := by
 have hl : j < (seqP a b).length := by rw [seqP_len h]; exact hj
 have hl' : j < (a.o.zip (b.i.map (ofL (shL a b)))).length := hl
 show (a.o.zip (b.i.map (ofL (shL a b)))).take (j + 1) = (a.o.zip (b.i.map (ofL (shL a b)))).take j ++ _
 rw [List.take_succ_eq_append_getElem hl', List.getElem_zip, List.getElem_map, List.getD_eq_getElem?_getD, List.getD_eq_getElem?_getD, List.getElem?_eq_getElem hj, List.getElem?_eq_getElem (show j < b.i.length by omega)]
 rfl
set_option maxHeartbeats 8000000 in
theorem seqGraphs_any (a b : Gr) (ev iv ov ev' iv' ov' : Value) (w : World) (he : RdE edgeE w ev a.es) (hi : IntsV w iv a.i) (ho : IntsV w ov a.o) (he' : RdE edgeE w ev' b.es) (hi' : IntsV w iv' b.i) (ho' : IntsV w ov' b.o) (hga : grB a = true) (hgb : grB b = true) (hl : a.o.length = b.i.length) :
 Calls Tryz.prog 140 #[grV a.n ev iv ov, grV b.n ev' iv' ov'] w (OwnG (seqG a b) w) := by
 obtain ⟨n, hn, hn1, a1, a2, a3, a4, a5, _⟩ := grB_n hga
 obtain ⟨m, hm, hm1, b1, b2, b3, b4, b5, _⟩ := grB_n hgb
 have hra := gr_rng hga hn
 have hrb := gr_rng hgb hm
 have hk := seq_ok hga hgb hn hm hl
 have hsh : shL a b = frL n m := by unfold shL; rw [hn, hm]; rfl
 have HBS := qd fun W (hW : w.grownBy W none) => beside_any a b ev iv ov ev' iv' ov' W (he.carry hW) (hi.carry hW) (ho.carry hW) (he'.carry hW) (hi'.carry hW) (ho'.carry hW) hga hgb
 have HCL := qd fun W (hW : w.grownBy W none) => cloneT_any iv a.i W (hi.carry hW) (by omega)
 have HFR := qd fun W => from_any n m W (by omega) (by omega)
 have HMP := qd fun tv W (hW : w.grownBy W none) (ht : IntsV W tv (frL n m)) => mapped_any tv ov' (frL n m) b.o W ht (ho'.carry hW) (by omega) (fun x hx => by rw [frL_len]; exact hrb x (mem_wiresG.2 (Or.inr (Or.inl hx))))
 have HGL := qd fun u0 u1 u2 pv W (h1 : RdE edgeE W u0 (seqI a b).es) (h2 : IntsV W u1 (seqI a b).i) (h3 : IntsV W u2 (seqI a b).o) (h4 : RdR pairE W pv (seqP a b)) => glue_any u0 u1 u2 (seqI a b) (n + m) pv (seqP a b) W h1 h2 h3 h4 hk.hm hk.m1 hk.e hk.i hk.o hk.le hk.w hk.p hk.l
 have HSQ := qd fun j (hj : j < a.o.length) => @seqP_take a b j hl hj
 have HPL := qd (seqP_len hl)
 have HPA := qd (show ∀ k, a.o.length ≤ k → (seqP a b).take k = seqP a b from fun k hk => List.take_of_length_le (by rw [seqP_len hl]; exact hk))
 have HYR := qd (show ∀ j, j < b.i.length → 0 ≤ b.i.getD j 0 ∧ b.i.getD j 0 < (m : Int) from fun j hj => hrb _ (mem_wiresG.2 (Or.inl (by rw [List.getD_eq_getElem?_getD, List.getElem?_eq_getElem hj]; exact List.getElem_mem _))))
 have HIE := qd (show (seqI a b).es = a.es ++ b.es.map (mapE (shL a b)) from rfl)
 have HII := qd (show (seqI a b).i = a.i from rfl)
 have HIO := qd (show (seqI a b).o = b.o.map (ofL (frL n m)) from by rw [← hsh]; rfl)
 have HIN := qd (show (seqI a b).n = (n : Int) + m from by show a.n + b.n = _; rw [hn, hm])
 have HE := qd he; have HI := qd hi; have HO := qd ho; have HI' := qd hi'
 have hsg : seqG a b = glueG (classOf (n + m) (seqP a b)) (seqI a b) := by unfold seqG; rw [hn, hm]; rfl
 rw [hsg]
 unfold OwnG
 generalize glueG (classOf (n + m) (seqP a b)) (seqI a b) = G at *
 unfold BesideR at HBS
 rw [hn, hm] at HBS ⊢
 rw [hsh] at HSQ
 rw [HIN.out] at HGL
 unfold grV at *
 obtain ⟨ea, ec, rfl⟩ := he.shape
 obtain ⟨ia, ic, rfl⟩ := hi.shape
 obtain ⟨oa, oc, rfl⟩ := ho.shape
 obtain ⟨eb, fc, rfl⟩ := he'.shape
 obtain ⟨ib, gc, rfl⟩ := hi'.shape
 obtain ⟨ob, hc, rfl⟩ := ho'.shape
 skip
 obtain ⟨no, hno⟩ : ∃ x, a.o.length = x := ⟨_, rfl⟩
 have hno2 : b.i.length = no := by omega
 have hol : no ≤ 12 := by omega
 rw [hno] at HSQ HPL HPA HBS ⊢
 rw [hno2] at HYR HBS ⊢
 have HNO := qd hno; have HNO2 := qd hno2
 obtain ⟨ne, hne⟩ : ∃ x, a.es.length = x := ⟨_, rfl⟩
 obtain ⟨me, hme⟩ : ∃ x, b.es.length = x := ⟨_, rfl⟩
 obtain ⟨ni, hni⟩ : ∃ x, a.i.length = x := ⟨_, rfl⟩
 obtain ⟨mo, hmo⟩ : ∃ x, b.o.length = x := ⟨_, rfl⟩
 rw [hne, hme, hni, hmo] at HBS ⊢
 rw [hni] at HCL
 rw [hmo] at HMP
 clear he hi ho he' hi' ho' hga hgb hra hrb hsh hsg a1 a2 a3 a4 a5 b1 b2 b3 b4 b5 hk hn hm hl hno hno2 hne hme hni hmo
 have hs0 := (((Sep.start w).boxAt w.heap.size rfl #[.int .i64 n, .slice ea ne ec, .slice ia ni ic, .slice oa no oc] 38).boxAt (w.heap.size + 1) (by simp) #[.int .i64 m, .slice eb me fc, .slice ib no gc, .slice ob mo hc] 38).boxAt (w.heap.size + 2) (by simp) #[.int .i64 0, .slice none 0 0, .slice none 0 0, .slice none 0 0] 38
 have HS0 := qd hs0
 obtain ⟨x0, x1, x2, x3, _⟩ := gq4 hs0.tl.tl.hd
 obtain ⟨y0, y1, y2, y3, _⟩ := gq4 hs0.tl.hd
 have HK0 := qd (show w.grownBy _ none from hs0.tl.tl.tl.hd)
 clear hs0
 go_enter Tryz.func140, Tryz.ntmps140
 go_upto_region 2 with (
  go_at_call 151
  with_reducible refine (HBS.out _ HK0.out).mono ?_
  rintro e w1 ⟨u0, xs, rfl, hx, hsg⟩
  obtain ⟨ue, uc, rfl⟩ := OE.shape hsg.hd
  have HX := qd hx
  have HS1 := qd ((HS0.out.graft1 hsg OE_own).boxAt w1.heap.size rfl #[.int .i64 ((n : Int) + m), .slice ue xs.length uc, .slice none 0 0, .slice none 0 0] 38)
  clear hsg hx x0 x1 x2 x3 y0 y1 y2 y3)
 obtain ⟨ql, hql⟩ : ∃ q, xs.length = q := ⟨_, rfl⟩
 rw [hql] at HS1 ⊢
 clear hql HS0 HBS
 generalize w1.alloc (.cells #[.int .i64 ((n : Int) + m), .slice ue ql uc, .slice none 0 0, .slice none 0 0] 38) = w2 at *
 generalize w1.heap.size = xo at *
 have HS2 := qd (show Sep (w2.alloc (.cells #[] 121)) _ from Sep.emptyRT pairE HS1.out w2.heap.size rfl)
 obtain ⟨x0, x1, x2, x3, _⟩ := gq4 HS2.out.tl.tl.tl.tl.tl.hd
 go_upto_region 4 with fail
 clear x0 x1 x2 x3
 go_loopw [6, 7, 8, 16] (fun s6 _ _ s16 wr => ∃ j : Nat, j ≤ no ∧ s16 = .int .i64 j ∧ Sep wr [OR pairE s6 ((seqP a b).take j), BxA xo #[.int .i64 ((n : Int) + m), .slice ue ql uc, .slice none 0 0, .slice none 0 0] 38, OE (.slice ue ql uc) xs, BxA (w.heap.size + 2) #[.int .i64 0, .slice none 0 0, .slice none 0 0, .slice none 0 0] 38, BxA (w.heap.size + 1) #[.int .i64 m, .slice eb me fc, .slice ib no gc, .slice ob mo hc] 38, BxA w.heap.size #[.int .i64 n, .slice ea ne ec, .slice ia ni ic, .slice oa no oc] 38, KeepA w]) (fun _ _ _ s16 _ => no - (intOf s16).toNat)
 case atStart => exact ⟨0, by omega, rfl, HS2.out⟩
 case round =>
  obtain ⟨j, hj, rfl, hs⟩ := hrel
  obtain ⟨pa, pc, rfl⟩ := OwnR.shape (show OwnR pairE 0 wr _ _ from hs.hd)
  have hpl : ((seqP a b).take j).length = j := by rw [List.length_take, HPL.out]; omega
  rw [hpl] at hs ⊢
  have HPT := qd hpl
  have HSX := qd hs
  clear hs hpl HS2
  by_cases hlt : j < no
  ·have hji : (j : Int) < (no : Int) := by omega
   obtain ⟨ab, ao, rfl, _, q0⟩ := (HO.out.carry HSX.out.tl.tl.tl.tl.tl.tl.hd).atD (i := j) (by rw [HNO.out]; exact hlt)
   obtain ⟨bb, bo, rfl, hbb, qb⟩ := HI'.out.atD (i := j) (by rw [HNO2.out]; exact hlt)
   have HBB := qd hbb; have HQB := qd qb
   have hyr := HYR.out j hlt
   have HTK := qd (HSQ.out j hlt)
   rw [ofL_fr hyr.1 hyr.2] at HTK
   obtain ⟨xv, hxv⟩ : ∃ x, a.o.getD j 0 = x := ⟨_, rfl⟩
   obtain ⟨yv, hyv⟩ : ∃ x, b.i.getD j 0 = x := ⟨_, rfl⟩
   rw [hxv] at q0 HTK
   rw [hyv] at HQB HTK hyr
   have hwy : IntKind.i64.wrap ((n : Int) + yv) = (n : Int) + yv := wrap_id (by omega) (by omega)
   clear hbb qb hxv hyv hyr
   go_upto_region 6 with fail
   clear q0
   have HBM := qd fun (W1 : World) (L : List Asrt) (h : Sep W1 L) (h1 : BxA w.heap.size #[.int .i64 n, .slice ea ne ec, .slice ia ni ic, .slice (some ⟨ab, ao, none⟩) no oc] 38 ∈ L) (h2 : BxA (w.heap.size + 1) #[.int .i64 m, .slice eb me fc, .slice (some ⟨bb, bo, none⟩) no gc, .slice ob mo hc] 38 ∈ L) (h3 : KeepA w ∈ L) => show W1.cell? ⟨w.heap.size, 0, none⟩ = some (.int .i64 n) ∧ W1.cell? ⟨w.heap.size + 1, 2, none⟩ = some (.slice (some ⟨bb, bo, none⟩) no gc) ∧ W1.cell? ⟨bb, bo + j, none⟩ = some (.int .i64 yv) from by
    obtain ⟨p0, _⟩ := gq4 (show W1.heap[w.heap.size]? = some (.cells #[.int .i64 n, .slice ea ne ec, .slice ia ni ic, .slice (some ⟨ab, ao, none⟩) no oc] 38 (0, 0)) from Sep.all h _ h1)
    obtain ⟨_, _, r2, _⟩ := gq4 (show W1.heap[w.heap.size + 1]? = some (.cells #[.int .i64 m, .slice eb me fc, .slice (some ⟨bb, bo, none⟩) no gc, .slice ob mo hc] 38 (0, 0)) from Sep.all h _ h2)
    have hg : w.grownBy W1 none := Sep.all h _ h3
    exact ⟨p0, r2, (World.cell?_of_block (a := ⟨bb, bo + j, none⟩) (hg.block bb HBB.out (by simp))).trans HQB.out⟩
   have HSD := qd HSX.out.dr
   have X0 := qd (HBM.out _ _ HSD.out (by simp) (by simp) (by simp))
   refine AnyL.start (fun W1 => W1.cell? ⟨w.heap.size, 0, none⟩ = some (.int .i64 n) ∧ W1.cell? ⟨w.heap.size + 1, 2, none⟩ = some (.slice (some ⟨bb, bo, none⟩) no gc) ∧ W1.cell? ⟨bb, bo + j, none⟩ = some (.int .i64 yv)) (fun _ => True) 99 (by kernel_rfl) ?_
   generalize wr.drew = w4 at *
   refine AnyL.tT 0 (by exact X0.out) ?_
   refine AnyL.tT 1 (by exact X0.out) ?_
   refine AnyL.tT 2 (by exact X0.out) ?_
   refine AnyL.tT 3 (by exact X0.out) ?_
   refine AnyL.tT 4 (by exact X0.out) ?_
   refine AnyL.tT 5 (by exact X0.out) ?_
   refine AnyL.tT 6 (by exact X0.out) ?_
   refine AnyL.tT 7 (by exact X0.out) ?_
   refine AnyL.tT 8 (by exact X0.out) ?_
   refine AnyL.tT 9 (by exact X0.out) ?_
   refine AnyL.tT 10 (by exact X0.out) ?_
   have X1 := qd fun ob => HBM.out _ _ (HSD.out.al ob) (by simp) (by simp) (by simp)
   refine AnyL.step (i := 11) (by kernel_rfl) (by rfl) (fun K hK => ?_)
   go_simp
   refine shutNx hK _ (by exact X1.out _) (by exact fun _ => trivial) ?_
   clear hK K
   refine AnyL.step (i := 12) (by kernel_rfl) (by rfl) (fun K hK => ?_)
   refine step_app_RG (E := pairE) (y := (xv, (n : Int) + yv)) info_pairT rfl (by decide) Tryz.underlying118 (pair_oneT _ _) rfl (.tmp 21) (.tmp 32) rfl rfl rfl rfl rfl HSD.out (by rw [HPT.out]; omega) ?_
   intro g5 c5 w5 h5
   rw [HPT.out, ← HTK.out] at h5
   try rw [HPT.out]
   have HS5 := qd h5
   have X2 := qd (HBM.out _ _ h5 (by simp) (by simp) (by simp))
   clear h5
   refine shutNx hK _ (by exact X2.out) (by exact fun _ => trivial) ?_
   clear hK K
   refine AnyL.tT 13 (by exact X2.out) ?_
   refine AnyL.done (by kernel_rfl) ?_ _
   go_wp2_with fail
   go_roundw
   case rel => exact ⟨j + 1, by omega, by go_num, HS5.out⟩
   case measure => simp [intOf]; omega
  ·have hje : no = j := by omega
   subst hje
   have hkk : ¬ (no : Int) < (no : Int) := by omega
   have hsx := HSX.out
   rw [HPA.out no (Nat.le_refl _)] at hsx
   have HS3 := qd hsx
   clear hsx HSX HSQ HYR
   go_upto_region 8 with fail
   have HBM := qd fun (W1 : World) (L : List Asrt) (h : Sep W1 L) (h1 : BxA w.heap.size #[.int .i64 n, .slice ea ne ec, .slice ia ni ic, .slice oa no oc] 38 ∈ L) (h2 : BxA (w.heap.size + 1) #[.int .i64 m, .slice eb me fc, .slice ib no gc, .slice ob mo hc] 38 ∈ L) => show ((W1.cell? ⟨w.heap.size, 0, none⟩ = some (.int .i64 n) ∧ W1.cell? ⟨w.heap.size, 2, none⟩ = some (.slice ia ni ic)) ∧ W1.cell? ⟨w.heap.size + 1, 0, none⟩ = some (.int .i64 m) ∧ W1.cell? ⟨w.heap.size + 1, 3, none⟩ = some (.slice ob mo hc)) from by
    obtain ⟨p0, _, p2, _⟩ := gq4 (show W1.heap[w.heap.size]? = some (.cells #[.int .i64 n, .slice ea ne ec, .slice ia ni ic, .slice oa no oc] 38 (0, 0)) from Sep.all h _ h1)
    obtain ⟨r0, _, _, r3, _⟩ := gq4 (show W1.heap[w.heap.size + 1]? = some (.cells #[.int .i64 m, .slice eb me fc, .slice ib no gc, .slice ob mo hc] 38 (0, 0)) from Sep.all h _ h2)
    exact ⟨⟨p0, p2⟩, r0, r3⟩
   have HSD := qd HS3.out.dr
   have X0 := qd (HBM.out _ _ HSD.out (by simp) (by simp))
   refine AnyL.start (fun W1 => ((W1.cell? ⟨w.heap.size, 0, none⟩ = some (.int .i64 n) ∧ W1.cell? ⟨w.heap.size, 2, none⟩ = some (.slice ia ni ic)) ∧ W1.cell? ⟨w.heap.size + 1, 0, none⟩ = some (.int .i64 m) ∧ W1.cell? ⟨w.heap.size + 1, 3, none⟩ = some (.slice ob mo hc))) (fun _ => True) 99 (by kernel_rfl) ?_
   generalize wr.drew = w4 at *
   refine AnyL.tT 0 (by exact X0.out) ?_
   refine AnyL.tT 1 (by exact X0.out) ?_
   refine AnyL.tT 3 (by exact X0.out) ?_
   refine AnyL.tT 4 (by exact X0.out) ?_
   refine AnyL.tT 5 (by exact X0.out) ?_
   refine AnyL.tT 6 (by exact X0.out) ?_
   refine AnyL.tT 7 (by exact X0.out) ?_
   refine AnyL.tT 8 (by exact X0.out) ?_
   refine AnyL.step (i := 2) (by kernel_rfl) (by rfl) (fun K hK => ?_)
   go_simp
   have HCC := qd (HCL.out _ (show w.grownBy _ none from Sep.all HSD.out (KeepA w) (by simp)))
   go_at_call 123
   with_reducible refine HCC.out.mono ?_
   rintro e w5 ⟨ca, cc, rfl, hsg⟩
   have HS5 := qd (HSD.out.graft1 hsg OI_own)
   have X1 := qd (HBM.out _ _ HS5.out (by simp) (by simp))
   clear hsg
   refine shutNx hK _ (by exact X1.out) (by exact fun _ => trivial) ?_
   clear hK K
   refine AnyL.tT 11 (by exact X1.out) ?_
   refine AnyL.step (i := 9) (by kernel_rfl) (by rfl) (fun K hK => ?_)
   go_simp
   go_at_call 124
   with_reducible refine (HFR.out _).mono ?_
   rintro e wqc ⟨fg, fc6, rfl, hsg⟩
   have HSqc := qd (HS5.out.graft1 hsg OI_own)
   clear hsg
   refine shutNx hK _ (by exact HBM.out _ _ HSqc.out (by simp) (by simp)) (by exact fun _ => trivial) ?_
   clear hK K
   refine AnyL.step (i := 10) (by kernel_rfl) (by rfl) (fun K hK => ?_)
   go_simp
   have HCC := qd (HMP.out _ _ (show w.grownBy _ none from Sep.all HSqc.out (KeepA w) (by simp)) (show OwnInts 0 wqc _ (frL n m) from HSqc.out.hd).read)
   go_at_call 76
   with_reducible refine HCC.out.mono ?_
   rintro e wqcc ⟨ma, mc, rfl, hsg⟩
   have HSqcc := qd (HSqc.out.graft1 hsg OI_own)
   clear hsg
   refine shutNx hK _ (by exact HBM.out _ _ HSqcc.out (by simp) (by simp)) (by exact fun _ => trivial) ?_
   clear hK K
   refine AnyL.step (i := 12) (by kernel_rfl) (by rfl) (fun K hK => ?_)
   have hz := Sep.blk (A := [_, _, _, _]) (B := [_]) HSqcc.out
   obtain ⟨y0, y1, y2, y3, ff0, ff1, ff2, ff3⟩ := gq4 hz.hd
   have HSqccs := qd (hz.setB 2 (.slice ca ni cc))
   clear hz
   go_simp
   refine shutNx hK (wqcc.setCell ⟨xo, 2, none⟩ (.slice ca ni cc)) (by exact HBM.out _ _ HSqccs.out (by simp) (by simp)) (by exact fun _ => trivial) ?_
   clear hK K
   clear y0 y1 y2 y3 ff0 ff1 ff2 ff3
   generalize wqcc.setCell ⟨xo, 2, none⟩ (.slice ca ni cc) = wqccs at *
   refine AnyL.tT 13 (by exact HBM.out _ _ HSqccs.out (by simp) (by simp)) ?_
   have hz := HSqccs.out
   obtain ⟨y0, y1, y2, y3, ff0, ff1, ff2, ff3⟩ := gq4 hz.hd
   have hz2 := hz.setB 3 (.slice ma mo mc)
   have HS9a := qd hz2
   have X5 := qd (HBM.out _ _ hz2 (by simp) (by simp))
   clear hz hz2
   refine AnyL.step (i := 14) (by kernel_rfl) (by rfl) (fun K hK => ?_)
   go_simp
   refine shutNx hK (wqccs.setCell ⟨xo, 3, none⟩ (.slice ma mo mc)) (by exact X5.out) (by exact fun _ => trivial) ?_
   clear hK K
   refine AnyL.done (by kernel_rfl) ?_ _
   clear y0 y1 y2 y3 ff0 ff1 ff2 ff3
   generalize wqccs.setCell ⟨xo, 3, none⟩ (.slice ma mo mc) = w9 at *
   have HS9 := qd (HS9a.out)
   obtain ⟨y0, y1, y2, y3, _⟩ := gq4 HS9.out.hd
   have HCC := qd (HGL.out (.slice ue ql uc) (.slice ca ni cc) (.slice ma mo mc) _ w9 (by rw [HIE.out, ← HX.out]; exact OE.read HS9.out.tl.tl.tl.tl.tl.hd) (by rw [HII.out]; exact (show OwnInts 0 w9 _ a.i from HS9.out.tl.tl.tl.hd).read) (by rw [HIO.out]; exact (show OwnInts 0 w9 _ (b.o.map (ofL (frL n m))) from HS9.out.tl.hd).read) (OwnR.read (show OwnR pairE 0 w9 (.slice pa no pc) (seqP a b) from HS9.out.tl.tl.tl.tl.hd)))
   have hfd : ∀ (a b c d e : Value) (W : World), (Instr.field 79 (.agg #[a, b, c, d, e]) 0).run Tryz.prog W = .ok (.agg #[a, b, c, d]) W := fun _ _ _ _ _ _ => by kernel_rfl
   go_wp2_with (
    go_at_call 41
    with_reducible refine HCC.out.mono ?_
    rintro e w10 ⟨u0, xs', u1, u2, tt, rfl, hxs, hsg⟩
    have HXF := qd hxs
    obtain ⟨t0, v0, rfl⟩ := OE.shape hsg.hd
    obtain ⟨t1, v1, rfl⟩ := own_shape hsg.tl.hd
    obtain ⟨t2, v2, rfl⟩ := own_shape hsg.tl.tl.hd
    obtain ⟨q0, hq0⟩ : ∃ q, xs'.length = q := ⟨_, rfl⟩
    obtain ⟨q1, hq1⟩ : ∃ q, G.i.length = q := ⟨_, rfl⟩
    obtain ⟨q2, hq2⟩ : ∃ q, G.o.length = q := ⟨_, rfl⟩
    rw [hq0, hq1, hq2] at hsg
    rw [hq0, hq1, hq2]
    have hs1 := Sep.blk (A := [_, _, _, _, _, _, _, _, _]) (B := [_]) (HS9.out.graft3 hsg OE_own OI_own OI_own)
    obtain ⟨k0, k1, k2, k3, k4, k5, k6, k7⟩ := gq4 hs1.hd
    have hs2 := (((hs1.setB 0 (.int .i64 G.n)).setB 1 (.slice t0 q0 v0)).setB 2 (.slice t1 q1 v1)).setB 3 (.slice t2 q2 v2)
    obtain ⟨l0, l1, l2, l3, _⟩ := gq4 hs2.hd
    have HSF := qd (Sep.cutA (X := [_, _, _]) (A := [_, _, _, _, _, _, _, _]) hs2.tl)
    clear hsg hs1 hs2 hxs y0 y1 y2 y3 hq0 hq1 hq2)
   refine bodyPost_ret_by (v := .agg #[.int .i64 G.n, .slice t0 q0 v0, .slice t1 q1 v1, .slice t2 q2 v2]) ?_ rfl ⟨_, xs', _, _, rfl, HXF.out, HSF.out⟩
   simp [results, go_sem, *]
end Go.Proofs.YtjagjhchnpmngaaGreat

/-
 Two graphs side by side, in the program. Conditions: the graphs are valid.
-/
import Derived.Test.YtjagjhchnpmngaaGreatCz06
import Derived.Test.YtjagjhchnpmngaaGreatCz05
import Derived.Test.YtjagjhchnpmngaaGreatCz04
import Derived.Test.YtjagjhchnpmngaaGreatCz03
import Derived.Test.YtjagjhchnpmngaaGreatCz02
import Derived.Test.YtjagjhchnpmngaaGreatCz01
import Derived.Test.YtjagjhchnpmngaaGreatCz00
import Derived.Test.YtjagjhchnpmngaaGreatCz17
import Derived.Test.YtjagjhchnpmngaaGreatCz12
import Derived.Test.YtjagjhchnpmngaaGreatCz16
set_option linter.unusedVariables false
set_option linter.unusedSimpArgs false
set_option maxRecDepth 100000
namespace Go.Proofs.YtjagjhchnpmngaaGreat
open Go.RowKit
theorem rdL_twoT {w : World} {v1 v2 : Value} {z1 z2 : List Int} (h1 : IntsV w v1 z1) (h2 : IntsV w v2 z2) : RdL (w.alloc (.cells #[v1, v2] 23)) (.slice (some ⟨w.heap.size, 0, none⟩) 2 2) [⟨v1, z1⟩, ⟨v2, z2⟩] := by
 have hg := grownBy_alloc w (.cells #[v1, v2] 23) none
 have hn := alloc_heap_new w (.cells #[v1, v2] 23)
 refine ⟨⟨_, _, rfl, fun _ => ⟨_, rfl, rfl, by simp, fun i hi j hj => ?_⟩⟩, fun x hx => ?_⟩
 ·have hj0 : j = 0 := by simp only [rowE] at hj; omega
  subst hj0
  match i, hi with
  | 0, _ => exact cell_of_row _ _ 0 _ _ _ hn
  | 1, _ => exact cell_of_row _ _ 1 _ _ _ hn
  | n + 2, h => simp at h; omega
 ·simp only [List.mem_cons, List.not_mem_nil, or_false] at hx
  rcases hx with rfl | rfl
  ·exact h1.carry hg
  ·exact h2.carry hg
theorem joinL_twoT (v1 v2 : Value) (z1 z2 : List Int) : joinL [⟨v1, z1⟩, ⟨v2, z2⟩] = z1 ++ z2 := by simp [joinL]
set_option maxHeartbeats 8000000 in
theorem parGraphs_any (a b : Gr) (ev iv ov ev' iv' ov' : Value) (w : World) (he : RdE edgeE w ev a.es) (hi : IntsV w iv a.i) (ho : IntsV w ov a.o) (he' : RdE edgeE w ev' b.es) (hi' : IntsV w iv' b.i) (ho' : IntsV w ov' b.o) (hga : grB a = true) (hgb : grB b = true) :
 Calls Tryz.prog 141 #[grV a.n ev iv ov, grV b.n ev' iv' ov'] w (OwnG (parG a b) w) := by
 obtain ⟨n, hn, hn1, a1, a2, a3, a4, a5, _⟩ := grB_n hga
 obtain ⟨m, hm, hm1, b1, b2, b3, b4, b5, _⟩ := grB_n hgb
 have hrb := gr_rng hgb hm
 have hsh : shL a b = frL n m := by unfold shL; rw [hn, hm]; rfl
 have HBS := qd fun W (hW : w.grownBy W none) => beside_any a b ev iv ov ev' iv' ov' W (he.carry hW) (hi.carry hW) (ho.carry hW) (he'.carry hW) (hi'.carry hW) (ho'.carry hW) hga hgb
 have HFR := qd fun W => from_any n m W (by omega) (by omega)
 have HMP1 := qd fun tv W (hW : w.grownBy W none) (ht : IntsV W tv (frL n m)) => mapped_any tv iv' (frL n m) b.i W ht (hi'.carry hW) (by omega) (fun x hx => by rw [frL_len]; exact hrb x (mem_wiresG.2 (Or.inl hx)))
 have HMP2 := qd fun tv W (hW : w.grownBy W none) (ht : IntsV W tv (frL n m)) => mapped_any tv ov' (frL n m) b.o W ht (ho'.carry hW) (by omega) (fun x hx => by rw [frL_len]; exact hrb x (mem_wiresG.2 (Or.inr (Or.inl hx))))
 have HJ := qd fun (v1 v2 : Value) (z1 z2 : List Int) (W : World) (h1 : IntsV W v1 z1) (h2 : IntsV W v2 z2) (hl : z1.length + z2.length ≤ 1000) => (show ∀ W2 v, RdL W2 v [⟨v1, z1⟩, ⟨v2, z2⟩] → Calls Tryz.prog 40 #[v] W2 fun e w' => ∃ u, e = .returned u ∧ Sep w' [OI u (z1 ++ z2), KeepA W2] from fun W2 v hv => by
  have h := joined_any v [⟨v1, z1⟩, ⟨v2, z2⟩] W2 hv (by simp) (by rw [joinL_twoT, List.length_append]; omega)
  rw [joinL_twoT] at h
  exact h)
 have HI := qd hi; have HO := qd ho
 unfold OwnG BesideR at *
 have hpn : (parG a b).n = (n : Int) + m := by show a.n + b.n = _; rw [hn, hm]
 have hpe : (parG a b).es = a.es ++ b.es.map (mapE (frL n m)) := by rw [← hsh]; rfl
 have hpi : (parG a b).i = a.i ++ b.i.map (ofL (frL n m)) := by rw [← hsh]; rfl
 have hpo : (parG a b).o = a.o ++ b.o.map (ofL (frL n m)) := by rw [← hsh]; rfl
 rw [hpn, hpe, hpi, hpo]
 rw [hn, hm, hsh] at HBS
 rw [hn, hm]
 unfold grV at *
 obtain ⟨ea, ec, rfl⟩ := he.shape
 obtain ⟨ia, ic, rfl⟩ := hi.shape
 obtain ⟨oa, oc, rfl⟩ := ho.shape
 obtain ⟨eb, fc, rfl⟩ := he'.shape
 obtain ⟨ib, gc, rfl⟩ := hi'.shape
 obtain ⟨ob, hc, rfl⟩ := ho'.shape
 have HLA := qd (show (∀ k, k ≤ 12 → a.i.length + k ≤ 1000) ∧ ∀ k, k ≤ 12 → a.o.length + k ≤ 1000 from ⟨fun k hk => by omega, fun k hk => by omega⟩)
 have HLB := qd (show (b.i.map (ofL (frL n m))).length ≤ 12 ∧ (b.o.map (ofL (frL n m))).length ≤ 12 from ⟨by rw [List.length_map]; exact b2, by rw [List.length_map]; exact b3⟩)
 generalize b.i.map (ofL (frL n m)) = zi2 at *
 generalize b.o.map (ofL (frL n m)) = zo2 at *
 generalize a.es ++ b.es.map (mapE (frL n m)) = est at *
 generalize hA : a.i = zi at *
 generalize hB : a.o = zo at *
 obtain ⟨ne, hne⟩ : ∃ x, a.es.length = x := ⟨_, rfl⟩
 obtain ⟨me, hme⟩ : ∃ x, b.es.length = x := ⟨_, rfl⟩
 obtain ⟨ni, hni⟩ : ∃ x, zi.length = x := ⟨_, rfl⟩
 obtain ⟨no, hno⟩ : ∃ x, zo.length = x := ⟨_, rfl⟩
 obtain ⟨mi, hmi⟩ : ∃ x, b.i.length = x := ⟨_, rfl⟩
 obtain ⟨mo, hmo⟩ : ∃ x, b.o.length = x := ⟨_, rfl⟩
 rw [hne, hme, hni, hno, hmi, hmo] at HBS ⊢
 rw [hni] at HI
 rw [hno] at HO
 rw [hmi] at HMP1
 rw [hmo] at HMP2
 clear he hi ho he' hi' ho' hga hgb hrb hsh a1 a2 a3 a4 a5 b1 b2 b3 b4 b5 hn hm hpn hpe hpi hpo hA hB hne hme hni hno hmi hmo
 have hs0 := (((Sep.start w).boxAt w.heap.size rfl #[.int .i64 n, .slice ea ne ec, .slice ia ni ic, .slice oa no oc] 38).boxAt (w.heap.size + 1) (by simp) #[.int .i64 m, .slice eb me fc, .slice ib mi gc, .slice ob mo hc] 38).boxAt (w.heap.size + 2) (by simp) #[.int .i64 0, .slice none 0 0, .slice none 0 0, .slice none 0 0] 38
 have HS0 := qd hs0
 obtain ⟨x0, x1, x2, x3, _⟩ := gq4 hs0.tl.tl.hd
 obtain ⟨y0, y1, y2, y3, _⟩ := gq4 hs0.tl.hd
 have HK0 := qd (show w.grownBy _ none from hs0.tl.tl.tl.hd)
 clear hs0
 go_enter Tryz.func141, Tryz.ntmps141
 go_upto_region 2 with (
  go_at_call 151
  with_reducible refine (HBS.out _ HK0.out).mono ?_
  rintro e w1 ⟨u0, xs, rfl, hx, hsg⟩
  obtain ⟨ue, uc, rfl⟩ := OE.shape hsg.hd
  have HX := qd hx
  have HS1 := qd ((HS0.out.graft1 hsg OE_own).boxAt w1.heap.size rfl #[.int .i64 ((n : Int) + m), .slice ue xs.length uc, .slice none 0 0, .slice none 0 0] 38)
  clear hsg hx x0 x1 x2 x3 y0 y1 y2 y3)
 obtain ⟨ql, hql⟩ : ∃ q, xs.length = q := ⟨_, rfl⟩
 rw [hql] at HS1 ⊢
 clear hql HS0 HBS
 generalize w1.alloc (.cells #[.int .i64 ((n : Int) + m), .slice ue ql uc, .slice none 0 0, .slice none 0 0] 38) = w2 at *
 generalize w1.heap.size = xo at *
 obtain ⟨x0, _⟩ := gq4 HS1.out.tl.tl.tl.tl.hd
 obtain ⟨y0, _⟩ := gq4 HS1.out.tl.tl.tl.hd
 go_upto_region 3 with (
  go_at_call 124
  with_reducible refine (HFR.out _).mono ?_
  rintro e w3 ⟨fg, fcc, rfl, hsg⟩
  have HS3 := qd (HS1.out.graft1 hsg OI_own)
  clear hsg x0 y0)
 clear HS1
 have HBM := qd fun (W1 : World) (L : List Asrt) (h : Sep W1 L) (h1 : BxA w.heap.size #[.int .i64 n, .slice ea ne ec, .slice ia ni ic, .slice oa no oc] 38 ∈ L) (h2 : BxA (w.heap.size + 1) #[.int .i64 m, .slice eb me fc, .slice ib mi gc, .slice ob mo hc] 38 ∈ L) => show (W1.cell? ⟨w.heap.size, 2, none⟩ = some (.slice ia ni ic) ∧ W1.cell? ⟨w.heap.size, 3, none⟩ = some (.slice oa no oc)) ∧ W1.cell? ⟨w.heap.size + 1, 2, none⟩ = some (.slice ib mi gc) ∧ W1.cell? ⟨w.heap.size + 1, 3, none⟩ = some (.slice ob mo hc) from by
  obtain ⟨_, _, p2, p3, _⟩ := gq4 (show W1.heap[w.heap.size]? = some (.cells #[.int .i64 n, .slice ea ne ec, .slice ia ni ic, .slice oa no oc] 38 (0, 0)) from Sep.all h _ h1)
  obtain ⟨_, _, r2, r3, _⟩ := gq4 (show W1.heap[w.heap.size + 1]? = some (.cells #[.int .i64 m, .slice eb me fc, .slice ib mi gc, .slice ob mo hc] 38 (0, 0)) from Sep.all h _ h2)
  exact ⟨⟨p2, p3⟩, r2, r3⟩
 have HSD := qd HS3.out.dr
 have X0 := qd (HBM.out _ _ HSD.out (by simp) (by simp))
 refine AnyL.start (fun W1 => (W1.cell? ⟨w.heap.size, 2, none⟩ = some (.slice ia ni ic) ∧ W1.cell? ⟨w.heap.size, 3, none⟩ = some (.slice oa no oc)) ∧ W1.cell? ⟨w.heap.size + 1, 2, none⟩ = some (.slice ib mi gc) ∧ W1.cell? ⟨w.heap.size + 1, 3, none⟩ = some (.slice ob mo hc)) (fun _ => True) 99 (by kernel_rfl) ?_
 generalize w3.drew = w4 at *
 refine AnyL.tT 0 (by exact X0.out) ?_
 refine AnyL.tT 1 (by exact X0.out) ?_
 refine AnyL.tT 2 (by exact X0.out) ?_
 refine AnyL.tT 3 (by exact X0.out) ?_
 refine AnyL.tT 4 (by exact X0.out) ?_
 refine AnyL.tT 8 (by exact X0.out) ?_
 refine AnyL.tT 9 (by exact X0.out) ?_
 refine AnyL.tT 10 (by exact X0.out) ?_
 refine AnyL.tT 11 (by exact X0.out) ?_
 refine AnyL.tT 12 (by exact X0.out) ?_
 refine AnyL.step (i := 5) (by kernel_rfl) (by rfl) (fun K hK => ?_)
 go_simp
 have HCC := qd (HMP1.out _ _ (show w.grownBy _ none from Sep.all HSD.out (KeepA w) (by simp)) (show OwnInts 0 w4 _ (frL n m) from HSD.out.hd).read)
 go_at_call 76
 with_reducible refine HCC.out.mono ?_
 rintro e w5 ⟨ma1, mc1, rfl, hsg⟩
 have HS5 := qd (HSD.out.graft1 hsg OI_own)
 clear hsg
 refine shutNx hK _ (by exact HBM.out _ _ HS5.out (by simp) (by simp)) (by exact fun _ => trivial) ?_
 clear hK K
 have HRL1 := qd (rdL_twoT (v1 := .slice ia ni ic) (v2 := .slice ma1 mi mc1) (HI.out.carry (show w.grownBy _ none from Sep.all HS5.out (KeepA w) (by simp))) (show OwnInts 0 w5 _ _ from HS5.out.hd).read)
 have HJC1 := qd (HJ.out (.slice ia ni ic) (.slice ma1 mi mc1) _ _ w5 (HI.out.carry (show w.grownBy _ none from Sep.all HS5.out (KeepA w) (by simp))) (show OwnInts 0 w5 _ _ from HS5.out.hd).read (HLA.out.1 _ HLB.out.1) _ _ HRL1.out)
 have HS6 := qd (HS5.out.al (.cells #[.slice ia ni ic, .slice ma1 mi mc1] 23))
 refine AnyL.step (i := 6) (by kernel_rfl) (by rfl) (fun K hK => ?_)
 go_simp
 refine shutNx hK (w5.alloc (.cells #[.slice ia ni ic, .slice ma1 mi mc1] 23)) (by exact HBM.out _ _ HS6.out (by simp) (by simp)) (by exact fun _ => trivial) ?_
 clear hK K
 generalize w5.alloc (.cells #[.slice ia ni ic, .slice ma1 mi mc1] 23) = w6 at *
 refine AnyL.step (i := 7) (by kernel_rfl) (by rfl) (fun K hK => ?_)
 go_simp
 go_at_call 40
 with_reducible refine HJC1.out.mono ?_
 rintro e w7 ⟨uj, rfl, hsg⟩
 obtain ⟨ja1, jc1, rfl⟩ := own_shape hsg.hd
 skip
 have HS7 := qd (HS6.out.graft1 hsg OI_own)
 clear hsg
 refine shutNx hK _ (by exact HBM.out _ _ HS7.out (by simp) (by simp)) (by exact fun _ => trivial) ?_
 clear hK K
 obtain ⟨jl1, hjl1⟩ : ∃ q, (zi ++ zi2).length = q := ⟨_, rfl⟩
 rw [hjl1]
 have HJL1 := qd hjl1
 clear hjl1
 refine AnyL.tT 16 (by exact HBM.out _ _ HS7.out (by simp) (by simp)) ?_
 refine AnyL.step (i := 13) (by kernel_rfl) (by rfl) (fun K hK => ?_)
 go_simp
 have HCC := qd (HMP2.out _ _ (show w.grownBy _ none from Sep.all HS7.out (KeepA w) (by simp)) (show OwnInts 0 w7 _ (frL n m) from HS7.out.tl.tl.hd).read)
 go_at_call 76
 with_reducible refine HCC.out.mono ?_
 rintro e w8 ⟨ma2, mc2, rfl, hsg⟩
 have HS8 := qd (HS7.out.graft1 hsg OI_own)
 clear hsg
 refine shutNx hK _ (by exact HBM.out _ _ HS8.out (by simp) (by simp)) (by exact fun _ => trivial) ?_
 clear hK K
 have HRL2 := qd (rdL_twoT (v1 := .slice oa no oc) (v2 := .slice ma2 mo mc2) (HO.out.carry (show w.grownBy _ none from Sep.all HS8.out (KeepA w) (by simp))) (show OwnInts 0 w8 _ _ from HS8.out.hd).read)
 have HJC2 := qd (HJ.out (.slice oa no oc) (.slice ma2 mo mc2) _ _ w8 (HO.out.carry (show w.grownBy _ none from Sep.all HS8.out (KeepA w) (by simp))) (show OwnInts 0 w8 _ _ from HS8.out.hd).read (HLA.out.2 _ HLB.out.2) _ _ HRL2.out)
 have HS9 := qd (HS8.out.al (.cells #[.slice oa no oc, .slice ma2 mo mc2] 23))
 refine AnyL.step (i := 14) (by kernel_rfl) (by rfl) (fun K hK => ?_)
 go_simp
 refine shutNx hK (w8.alloc (.cells #[.slice oa no oc, .slice ma2 mo mc2] 23)) (by exact HBM.out _ _ HS9.out (by simp) (by simp)) (by exact fun _ => trivial) ?_
 clear hK K
 generalize w8.alloc (.cells #[.slice oa no oc, .slice ma2 mo mc2] 23) = w9 at *
 refine AnyL.step (i := 15) (by kernel_rfl) (by rfl) (fun K hK => ?_)
 go_simp
 go_at_call 40
 with_reducible refine HJC2.out.mono ?_
 rintro e w10 ⟨uj, rfl, hsg⟩
 obtain ⟨ja2, jc2, rfl⟩ := own_shape hsg.hd
 skip
 have HS10 := qd (HS9.out.graft1 hsg OI_own)
 clear hsg
 refine shutNx hK _ (by exact HBM.out _ _ HS10.out (by simp) (by simp)) (by exact fun _ => trivial) ?_
 clear hK K
 obtain ⟨jl2, hjl2⟩ : ∃ q, (zo ++ zo2).length = q := ⟨_, rfl⟩
 rw [hjl2]
 have HJL2 := qd hjl2
 clear hjl2
 have hz := Sep.blk (A := [_, _, _, _, _]) (B := [_]) HS10.out
 obtain ⟨y0, y1, y2, y3, ff0, ff1, ff2, ff3⟩ := gq4 hz.hd
 have HS11 := qd (hz.setB 2 (.slice ja1 jl1 jc1))
 clear hz
 refine AnyL.step (i := 17) (by kernel_rfl) (by rfl) (fun K hK => ?_)
 go_simp
 refine shutNx hK (w10.setCell ⟨xo, 2, none⟩ (.slice ja1 jl1 jc1)) (by exact HBM.out _ _ HS11.out (by simp) (by simp)) (by exact fun _ => trivial) ?_
 clear hK K
 clear y0 y1 y2 y3 ff0 ff1 ff2 ff3
 generalize w10.setCell ⟨xo, 2, none⟩ (.slice ja1 jl1 jc1) = w11 at *
 refine AnyL.tT 18 (by exact HBM.out _ _ HS11.out (by simp) (by simp)) ?_
 have hz := HS11.out
 obtain ⟨y0, y1, y2, y3, ff0, ff1, ff2, ff3⟩ := gq4 hz.hd
 have HS12 := qd (hz.setB 3 (.slice ja2 jl2 jc2))
 clear hz
 refine AnyL.step (i := 19) (by kernel_rfl) (by rfl) (fun K hK => ?_)
 go_simp
 refine shutNx hK (w11.setCell ⟨xo, 3, none⟩ (.slice ja2 jl2 jc2)) (by exact HBM.out _ _ HS12.out (by simp) (by simp)) (by exact fun _ => trivial) ?_
 clear hK K
 clear y0 y1 y2 y3 ff0 ff1 ff2 ff3
 generalize w11.setCell ⟨xo, 3, none⟩ (.slice ja2 jl2 jc2) = w12 at *
 refine AnyL.done (by kernel_rfl) ?_ _
 obtain ⟨p0, p1, p2, p3, _⟩ := gq4 HS12.out.hd
 have k8 := Sep.blk (A := [_, _, _, _, _, _, _]) (B := [_]) HS12.out
 obtain ⟨_, _, _, _, f0, f1_, f2_, f3⟩ := gq4 k8.hd
 have k9 := (((k8.setB 0 (.int .i64 ((n : Int) + m))).setB 1 (.slice ue ql uc)).setB 2 (.slice ja1 jl1 jc1)).setB 3 (.slice ja2 jl2 jc2)
 obtain ⟨t0, t1, t2, t3, _⟩ := gq4 k9.hd
 have k10 := Sep.cutA (X := [_, _]) (A := [_, _]) (Sep.cutA (X := [_]) (A := [_]) k9.tl.tl)
 have k11 := Sep.cutA (X := [_, _, _]) (A := [_, _]) k10
 have k12 := Sep.blk3 (X := [_]) (A := [_]) (B := [_]) (Sep.blk (A := [_, _]) (B := [_]) k11)
 rw [HJL1.out, HJL2.out] at k12
 have HSF := qd k12
 clear k12
 clear k8 k9 k10 k11
 go_wp2_with fail
 refine bodyPost_ret_by (v := .agg #[.int .i64 ((n : Int) + m), .slice ue ql uc, .slice ja1 jl1 jc1, .slice ja2 jl2 jc2]) ?_ rfl ⟨_, xs, _, _, rfl, HX.out, HSF.out⟩
 simp [results, go_sem, *]
theorem bw1 {w : World} {k : Nat} {x : Value} {t : TypeId} (h : w.heap[k]? = some (.cells #[x] t (0, 0))) : w.cell? ⟨k, 0, none⟩ = some x := cell_of_row w k 0 _ _ _ h
theorem twires_any (nv : Value) (ns : List Nd) (w : World) (hn : RdR nodeE w nv ns) (hl : ns.length ≤ 2000000) :
 Calls Tryz.prog 107 #[.agg #[nv]] w (TyR (tmB ns) (tmT ns) w) := by
 have HT := qd fun W (hW : w.grownBy W none) => typed_any nv ns W (hn.carry hW) hl
 obtain ⟨na, nc, rfl⟩ := hn.shape
 generalize ns.length = n at *
 generalize tmB ns = b at *
 generalize tmT ns = p at *
 unfold TyR at HT
 have hs0 := ((Sep.start w).boxAt w.heap.size rfl #[.slice na n nc] 44).boxAt (w.heap.size + 1) (by simp) #[.int .i64 0, .int .i64 0] 149
 have HS0 := qd hs0
 have HK0 := qd (show w.grownBy _ none from hs0.tl.tl.hd)
 have x0 := bw1 hs0.tl.hd
 clear hs0 hn hl
 go_enter Tryz.func107, Tryz.ntmps107
 go_wp2_with (
  go_at_call 135
  with_reducible refine (HT.out _ HK0.out).mono ?_
  rintro e w3 ⟨⟨⟨qa, qc⟩, rfl, hq⟩, hg⟩
  have hs1 := HS0.out.grown hg
  obtain ⟨y0, y1, f0, f1⟩ := bw2 hs1.hd
  have HSZ := qd ((hs1.setB 0 (.int .i64 qa)).setB 1 (.int .i64 qc))
  obtain ⟨u0, u1, _, _⟩ := bw2 HSZ.out.hd
  have HQ := qd hq
  have HKF := qd (show w.grownBy _ none from HSZ.out.tl.tl.hd)
  clear hs1 hg hq x0)
 refine bodyPost_ret_by (v := .tuple #[.agg #[.int .i64 qa, .int .i64 qc], .bool b]) ?_ rfl ⟨⟨_, rfl, HQ.out⟩, HKF.out⟩
 simp [results, go_sem, *]
end Go.Proofs.YtjagjhchnpmngaaGreat

/-
 The two parts of a term, in the reference. Conditions: as it says.
-/
import Derived.Test.YtjagjhchnpmngaaGreatCz06
import Derived.Test.YtjagjhchnpmngaaGreatCz05
import Derived.Test.YtjagjhchnpmngaaGreatCz04
import Derived.Test.YtjagjhchnpmngaaGreatCz03
import Derived.Test.YtjagjhchnpmngaaGreatCz02
import Derived.Test.YtjagjhchnpmngaaGreatCz01
import Derived.Test.YtjagjhchnpmngaaGreatCz00
import Derived.Test.YtjagjhchnpmngaaGreatCz25
import Derived.Test.YtjagjhchnpmngaaGreatCz24
import Derived.Test.YtjagjhchnpmngaaGreatCz16
import Derived.Test.YtjagjhchnpmngaaGreatCz19
import Derived.Test.YtjagjhchnpmngaaGreatCz15
set_option linter.unusedVariables false
set_option linter.unusedSimpArgs false
set_option maxRecDepth 100000
namespace Go.Proofs.YtjagjhchnpmngaaGreat
open Go.RowKit
theorem rdr_take {α : Type} {E : Lay α} {w : World} {b o n c c' : Nat} {xs ys : List α} (h : RdR E w (.slice (some ⟨b, o, none⟩) n c) (xs ++ ys)) : RdR E w (.slice (some ⟨b, o, none⟩) xs.length c') xs := by
 refine ⟨_, c', rfl, fun hz => ?_⟩
 obtain ⟨a', cap', he, h⟩ := h
 cases he
 obtain ⟨d, ha, hs, hd, hc⟩ := h (by intro h0; exact hz (List.append_eq_nil_iff.1 h0).1)
 refine ⟨d, ha, hs, hd, fun i hi j hj => ?_⟩
 have h2 := hc i (by rw [List.length_append]; omega) j hj
 rwa [List.getElem_append_left hi] at h2
theorem rdr_drop {α : Type} {E : Lay α} {w : World} {b o n c c' : Nat} {xs ys : List α} (h : RdR E w (.slice (some ⟨b, o, none⟩) n c) (xs ++ ys)) : RdR E w (.slice (some ⟨b, o + xs.length * E.sz, none⟩) ys.length c') ys := by
 refine ⟨_, c', rfl, fun hz => ?_⟩
 obtain ⟨a', cap', he, h⟩ := h
 cases he
 obtain ⟨d, ha, hs, hd, hc⟩ := h (by intro h0; exact hz (List.append_eq_nil_iff.1 h0).2)
 cases ha
 refine ⟨_, rfl, rfl, hd, fun i hi j hj => ?_⟩
 have h2 := hc (xs.length + i) (by rw [List.length_append]; omega) j hj
 rw [List.getElem_append_right (by omega)] at h2
 simp only [Nat.add_sub_cancel_left] at h2
 rw [← h2]
 congr 2
 simp only [Nat.add_mul]
 omega
set_option maxHeartbeats 4000000 in
theorem tmParts_any (na : Option Addr) (nn nc : Nat) (nA nB : List Nd) (x : Nd) (w : World) (hn : RdR nodeE w (.slice na nn nc) (nA ++ (nB ++ [x]))) (hc : nn ≤ nc) (ha : 1 ≤ nA.length) (hb : 1 ≤ nB.length) (hl : nA.length + nB.length ≤ 1000) (ht : tmB (nA ++ (nB ++ [x])) = true)
 (hf : (scF (nA ++ (nB ++ [x])) (nA.length + nB.length + 1)).getD (nA.length + nB.length - 1) 0 = (nA.length : Int)) :
 Calls Tryz.prog 131 #[.agg #[.slice na nn nc]] w fun e w' => ∃ a c a' c', e = .returned (.tuple #[.agg #[.slice a nA.length c], .agg #[.slice a' nB.length c']]) ∧ Sep w' [OR nodeE (.slice a nA.length c) nA, OR nodeE (.slice a' nB.length c') nB, KeepA w] := by
 have HT := qd fun W (hW : w.grownBy W none) => tmScan_any (.slice na nn nc) _ W (hn.carry hW) (by rw [List.length_append, List.length_append]; simp; omega)
 rw [ht] at HT
 have hnl : (nA ++ (nB ++ [x])).length = nA.length + nB.length + 1 := by rw [List.length_append, List.length_append]; simp; omega
 have HNL := qd hnl
 obtain ⟨na2, nc2, hsh⟩ := hn.shape
 rw [hnl] at hsh
 injection hsh with e1 e2 e3
 subst e1 e2 e3
 skip
 obtain ⟨nb, no, rfl, _, _⟩ := hn.node rfl rfl (i := 0) (by rw [hnl]; omega)
 have HA0 := qd fun W (hW : w.grownBy W none) c => tmOwn_any (.slice (some ⟨nb, no, none⟩) nA.length c) nA W (rdr_take (hn.carry hW)) (by omega)
 have HB0 := qd fun W (hW : w.grownBy W none) c1 c2 => tmOwn_any (.slice (some ⟨nb, no + nA.length * 3, none⟩) nB.length c2) nB W (rdr_take (c := c1) (rdr_drop (hn.carry hW))) (by omega)
 generalize nA ++ (nB ++ [x]) = ns at *
 generalize hA : nA.length = a at *
 generalize hB : nB.length = b at *
 obtain ⟨n2, hn2⟩ : ∃ y, a + b - 1 = y := ⟨_, rfl⟩
 obtain ⟨n1, hn1⟩ : ∃ y, a + b = y := ⟨_, rfl⟩
 rw [hn2] at hf
 generalize hN : a + b + 1 = N at *
 have HF := qd hf
 have HB1 := qd (show n1 - a = b from by omega)
 have HNE := qd (show ¬ nc = a from by omega)
 have w1 : IntKind.i64.wrap ((N : Int) - 1) = (n1 : Int) := by rw [wrap_id (by omega) (by omega)]; omega
 have w2 : IntKind.i64.wrap ((n1 : Int) - 1) = (n2 : Int) := by rw [wrap_id (by omega) (by omega)]; omega
 have k1 : (n2 : Int) < (N : Int) := by omega
 have K2 := qd (show n2 < N from by omega)
 have HNP := qd (show 0 < N from by omega)
 have J := qd (show (a : Int) ≤ (n1 : Int) ∧ (n1 : Int) ≤ (nc : Int) ∧ (a : Int) ≤ (nc : Int) ∧ a ≤ n1 ∧ n1 ≤ nc ∧ a ≤ nc ∧ (a : Int) ≤ (N : Int) ∧ (n1 : Int) ≤ (N : Int) from by omega)
 clear ha hb hl ht hf hn hc hnl hn1 hn2 hN hA hB
 have hs0 := (((Sep.start w).boxAt w.heap.size rfl #[.slice (some ⟨nb, no, none⟩) N nc] 44).boxAt (w.heap.size + 1) (by simp) #[.slice none 0 0] 44).boxAt (w.heap.size + 2) (by simp) #[.slice none 0 0] 44
 have HS0 := qd hs0
 have HK0 := qd (show w.grownBy _ none from hs0.tl.tl.tl.hd)
 have x0 := bs1 hs0.tl.tl.hd
 unfold ScanR at HT
 clear hs0
 go_enter Tryz.func131, Tryz.ntmps131
 go_upto_region 2 with (
  go_at_call 125
  with_reducible refine (HT.out _ HK0.out).mono ?_
  rintro e w3 ⟨fa, fn, fc, ia, inn, ic, oa, on, oc, rfl, hq, hg⟩
  have hs3 := HS0.out.graft3 (hq rfl) OI_own OI_own OI_own
  rw [HNL.out] at hs3
  have HS4 := qd (hs3.boxAt w3.heap.size rfl #[.slice fa fn fc, .slice ia inn ic, .slice oa on oc] 162)
  clear x0
  have x0 := bs1 HS4.out.tl.tl.tl.tl.tl.tl.hd
  clear hs3 hq hg)
 have e1 := own_lenT (show OwnInts 0 _ (.slice fa fn fc) (scF ns N) from HS4.out.tl.hd)
 rw [scF_len] at e1
 have e1 := e1.symm; subst e1
 obtain ⟨fg, hfg⟩ := own_someT (show OwnInts 0 _ (.slice fa N fc) (scF ns N) from HS4.out.tl.hd) (by rw [scF_len]; exact HNP.out)
 subst hfg
 generalize w3.alloc (.cells #[.slice (some ⟨fg, 0, none⟩) N fc, .slice ia inn ic, .slice oa on oc] 162) = w4 at *
 generalize w3.heap.size = xb at *
 obtain ⟨c0, _⟩ := bs3 HS4.out.hd
 have n2c := own_atT (show OwnInts 0 _ _ (scF ns N) from HS4.out.tl.hd) (scF_len ns N).symm K2.out
 rw [HF.out] at n2c
 go_upto_region 4 with fail
 clear c0 n2c x0
 have HSD := qd HS4.out.dr
 have HBM := qd fun (W1 : World) (L : List Asrt) (h : Sep W1 L) (h1 : BxA w.heap.size #[.slice (some ⟨nb, no, none⟩) N nc] 44 ∈ L) => show W1.cell? ⟨w.heap.size, 0, none⟩ = some (.slice (some ⟨nb, no, none⟩) N nc) from bs1 (show W1.heap[w.heap.size]? = some (.cells #[.slice (some ⟨nb, no, none⟩) N nc] 44 (0, 0)) from Sep.all h _ h1)
 have X0 := qd (HBM.out _ _ HSD.out (by simp))
 refine AnyL.start (fun W1 => W1.cell? ⟨w.heap.size, 0, none⟩ = some (.slice (some ⟨nb, no, none⟩) N nc)) (fun _ => True) 99 (by kernel_rfl) ?_
 generalize w4.drew = w5 at *
 obtain ⟨j1, j2, j3, j4, j5, j6, j7, j8⟩ := J.out
 have hne := HNE.out
 obtain rfl := HB1.out
 refine AnyL.tT 0 (by exact X0.out) ?_
 refine AnyL.tT 1 (by exact X0.out) ?_
 refine AnyL.tT 2 (by exact X0.out) ?_
 refine AnyL.tT 3 (by exact X0.out) ?_
 refine AnyL.tT 5 (by exact X0.out) ?_
 refine AnyL.tT 6 (by exact X0.out) ?_
 refine AnyL.tT 7 (by exact X0.out) ?_
 refine AnyL.tT 8 (by exact X0.out) ?_
 refine AnyL.tT 9 (by exact X0.out) ?_
 refine AnyL.step (i := 4) (by kernel_rfl) (by rfl) (fun KK hKK => ?_)
 go_simp
 have HCC := qd (HA0.out w5 HSD.out.tl.tl.tl.tl.tl.tl.tl.hd nc)
 go_at_call 147
 with_reducible refine HCC.out.mono ?_
 rintro e w6 ⟨ga, gc, rfl, hsg⟩
 have HSA := qd (HSD.out.graft1 hsg fun _ h => h)
 clear hsg
 refine shutNx hKK _ (by exact HBM.out _ _ HSA.out (by simp)) (by exact fun _ => trivial) ?_
 clear hKK KK
 refine AnyL.step (i := 10) (by kernel_rfl) (by rfl) (fun KK hKK => ?_)
 go_simp
 have HCC := qd (HB0.out w6 HSA.out.tl.tl.tl.tl.tl.tl.tl.tl.hd 0 (nc - a))
 go_at_call 147
 with_reducible refine HCC.out.mono ?_
 rintro e w7 ⟨ha, hc, rfl, hsg⟩
 have h0 := Sep.blk (A := [_]) (B := [_]) (HSA.out.graft1 hsg fun _ h => h)
 have h1 := Sep.cutA (X := [_, _]) (A := [_, _, _, _]) h0
 have HSB := qd h1
 clear hsg h0 h1
 refine shutNx hKK _ (by exact HBM.out _ _ HSB.out (by simp)) (by exact fun _ => trivial) ?_
 clear hKK KK
 have h2 := Sep.blk (A := [_, _, _]) (B := [_]) HSB.out
 obtain ⟨y0, f0⟩ := bs1f h2.hd
 have HSC := qd (h2.setB 0 (.slice ga a gc))
 clear h2
 refine AnyL.step (i := 11) (by kernel_rfl) (by rfl) (fun KK hKK => ?_)
 go_simp
 refine shutNx hKK (w7.setCell ⟨w.heap.size + 1, 0, none⟩ (.slice ga a gc)) (by exact HBM.out _ _ HSC.out (by simp)) (by exact fun _ => trivial) ?_
 clear hKK KK
 clear y0 f0
 generalize w7.setCell ⟨w.heap.size + 1, 0, none⟩ (.slice ga a gc) = w8 at *
 have h2 := Sep.blk (A := [_, _, _]) (B := [_]) HSC.out
 obtain ⟨y0, f0⟩ := bs1f h2.hd
 have HSE := qd (h2.setB 0 (.slice ha (n1 - a) hc))
 clear h2
 refine AnyL.step (i := 12) (by kernel_rfl) (by rfl) (fun KK hKK => ?_)
 go_simp
 refine shutNx hKK (w8.setCell ⟨w.heap.size + 2, 0, none⟩ (.slice ha (n1 - a) hc)) (by exact HBM.out _ _ HSE.out (by simp)) (by exact fun _ => trivial) ?_
 clear hKK KK
 refine AnyL.done (by kernel_rfl) ?_ _
 clear y0 f0
 have z2 := bs1 HSE.out.hd
 have z1 := bs1 HSE.out.tl.hd
 have HSF := qd (Sep.cutA (X := [_, _]) (A := [_]) HSE.out.tl.tl)
 go_wp2_with fail
 refine bodyPost_ret_by (v := .tuple #[.agg #[.slice ga a gc], .agg #[.slice ha (n1 - a) hc]]) ?_ rfl ⟨_, _, _, _, rfl, HSF.out⟩
 simp [results, go_sem, *]
theorem own_room {B : Nat} {w : World} {a : Option Addr} {n c : Nat} {zs : List Int} (h : OwnInts B w (.slice a n c) zs) : n = zs.length ∧ n ≤ c := by
 rcases h.2 with ⟨he, h0⟩ | ⟨g, cap, cur, he, _, _, hc, hr, _⟩
 ·injection he with _ h1 h2; omega
 ·injection he with _ h1 h2; subst h1 h2; exact ⟨rfl, by omega⟩
theorem ints_take {w : World} {a : Option Addr} {n c c' : Nat} {zs : List Int} (h : IntsV w (.slice a n c) zs) {k : Nat} (hk : k ≤ zs.length) : IntsV w (.slice a k c') (zs.take k) := by
 obtain ⟨a0, c0, he, hi⟩ := h
 cases he
 refine ⟨a, c', by rw [List.length_take, Nat.min_eq_left hk], fun hz => ?_⟩
 obtain ⟨d, had, hs, hd, hr⟩ := hi (fun e => hz (by rw [e]; simp))
 refine ⟨d, had, hs, hd, fun i hi' => ?_⟩
 have h2 : i < zs.length := by rw [List.length_take] at hi'; omega
 rw [List.getElem_take]
 exact hr i h2
theorem ints_drop {w : World} {a : Option Addr} {n c : Nat} {zs : List Int} (h : IntsV w (.slice a n c) zs) {l : Nat} (hl : l ≤ n) (hc : n ≤ c) (c' : Nat) : IntsV w (.slice (if c = l then a else a.map fun x => x.add l) (n - l) c') (zs.drop l) := by
 obtain ⟨a0, c0, he, hi⟩ := h
 cases he
 have hlen : (zs.drop l).length = zs.length - l := List.length_drop
 refine ⟨_, c', by rw [hlen], fun hz => ?_⟩
 have hlt : l < zs.length := by
  rcases Nat.lt_or_ge l zs.length with h | h
  ·exact h
  ·exact absurd (List.drop_eq_nil_of_le h) hz
 obtain ⟨d, had, hs, hd, hr⟩ := hi (by intro h; rw [h] at hlt; simp at hlt)
 obtain ⟨db, dof, ds⟩ := d
 simp only at hs hd hr
 subst hs
 subst had
 rw [if_neg (by omega)]
 refine ⟨_, rfl, ?_, ?_, fun i hi' => ?_⟩
 ·unfold Addr.add; split <;> rfl
 ·unfold Addr.add; split <;> exact hd
 ·have h2 : l + i < zs.length := by rw [hlen] at hi'; omega
  have h3 := hr (l + i) h2
  have e : (zs.drop l)[i] = zs[l + i] := by rw [List.getElem_drop]
  rw [e]
  have e2 : (Addr.add ⟨db, dof, none⟩ l).block = db := by unfold Addr.add; split <;> rfl
  have e3 : (Addr.add ⟨db, dof, none⟩ l).off = dof + l := by unfold Addr.add; split <;> simp_all
  rw [e2, e3, show dof + l + i = dof + (l + i) by omega]
  exact h3
set_option maxHeartbeats 4000000 in
theorem hgSeq_any (a b : Gr) (ev iv ov ev' iv' ov' : Value) (w : World) (he : RdE edgeE w ev a.es) (hi : IntsV w iv a.i) (ho : IntsV w ov a.o) (he' : RdE edgeE w ev' b.es) (hi' : IntsV w iv' b.i) (ho' : IntsV w ov' b.o) (hga : grB a = true) (hgb : grB b = true) (hl : a.o.length = b.i.length) :
 Calls Tryz.prog 132 #[grV a.n ev iv ov, grV b.n ev' iv' ov'] w (OwnG (seqG a b) w) := by
 obtain ⟨n, hn, hn1, a1, a2, a3, a4, a5, _⟩ := grB_n hga
 obtain ⟨m, hm, hm1, b1, b2, b3, b4, b5, _⟩ := grB_n hgb
 have hk := seq_ok hga hgb hn hm hl
 have hsh : shL a b = frL n m := by unfold shL; rw [hn, hm]; rfl
 have HBS := qd fun W (hW : w.grownBy W none) => hgBeside_any a b ev iv ov ev' iv' ov' W (he.carry hW) (hi.carry hW) (ho.carry hW) (he'.carry hW) (hi'.carry hW) (ho'.carry hW) hga hgb
 have HGL := qd fun u0 u1 u2 av bv W (h1 : RdE edgeE W u0 (seqI a b).es) (h2 : IntsV W u1 (seqI a b).i) (h3 : IntsV W u2 (seqI a b).o) (h4 : IntsV W av ((seqP a b).map Prod.fst)) (h5 : IntsV W bv ((seqP a b).map Prod.snd)) => hgGlue_any u0 u1 u2 (seqI a b) (n + m) av bv (seqP a b) W h1 h2 h3 h4 h5 hk
 rw [seq_fst hl, seq_snd hl] at HGL
 unfold GluedG at HGL
 have hsg : seqG a b = glueG (classOf (n + m) (seqP a b)) (seqI a b) := by unfold seqG; rw [hn, hm]; rfl
 rw [hsg]
 generalize glueG (classOf (n + m) (seqP a b)) (seqI a b) = G at *
 rw [show (seqI a b).es = a.es ++ b.es.map (mapE (shL a b)) from rfl, show (seqI a b).i = a.i from rfl, show (seqI a b).o = b.o.map (ofL (shL a b)) from rfl, show (seqI a b).n = a.n + b.n from rfl, hn, hm, hsh] at HGL
 unfold OwnG at HBS ⊢
 rw [show (parG a b).es = a.es ++ b.es.map (mapE (shL a b)) from rfl, show (parG a b).i = a.i ++ b.i.map (ofL (shL a b)) from rfl, show (parG a b).o = a.o ++ b.o.map (ofL (shL a b)) from rfl, show (parG a b).n = a.n + b.n from rfl, hn, hm, hsh] at HBS
 have hll : a.i.length ≤ 100 ∧ a.o.length ≤ 100 ∧ (b.i.map (ofL (frL n m))).length ≤ 100 ∧ (b.o.map (ofL (frL n m))).length ≤ 100 := by simp only [List.length_map]; omega
 have HLL := qd hll
 generalize a.es ++ b.es.map (mapE (frL n m)) = es at *
 generalize b.i.map (ofL (frL n m)) = bi at *
 generalize b.o.map (ofL (frL n m)) = bo at *
 have HOW := qd fun v W zs (h : IntsV W v zs) (hz : zs.length ≤ 100) => l1Own_any v zs W h (by omega)
 unfold grV at *
 rw [hn, hm]
 obtain ⟨ea, ec, rfl⟩ := he.shape
 obtain ⟨ia, ic, rfl⟩ := hi.shape
 obtain ⟨oa, oc, rfl⟩ := ho.shape
 obtain ⟨eb, fc, rfl⟩ := he'.shape
 obtain ⟨ib, gc, rfl⟩ := hi'.shape
 obtain ⟨ob, hc, rfl⟩ := ho'.shape
 obtain ⟨ne, hne⟩ : ∃ x, a.es.length = x := ⟨_, rfl⟩
 obtain ⟨ni, hni⟩ : ∃ x, a.i.length = x := ⟨_, rfl⟩
 obtain ⟨no, hno⟩ : ∃ x, a.o.length = x := ⟨_, rfl⟩
 obtain ⟨me, hme⟩ : ∃ x, b.es.length = x := ⟨_, rfl⟩
 obtain ⟨mi, hmi⟩ : ∃ x, b.i.length = x := ⟨_, rfl⟩
 obtain ⟨mo, hmo⟩ : ∃ x, b.o.length = x := ⟨_, rfl⟩
 rw [hne, hni, hno, hme, hmi, hmo] at HBS ⊢
 have HNI := qd hni; have HNO := qd hno
 clear he hi ho he' hi' ho' hga hgb hsh hsg a1 a2 a3 a4 a5 b1 b2 b3 b4 b5 hn hm hn1 hm1 hne hni hno hme hmi hmo hk hl hll
 have hs0 := (((Sep.start w).boxAt w.heap.size rfl #[.int .i64 n, .slice ea ne ec, .slice ia ni ic, .slice oa no oc] 38).boxAt (w.heap.size + 1) (by simp) #[.int .i64 m, .slice eb me fc, .slice ib mi gc, .slice ob mo hc] 38).boxAt (w.heap.size + 2) (by simp) #[.int .i64 0, .slice none 0 0, .slice none 0 0, .slice none 0 0] 38
 have HS0 := qd hs0
 obtain ⟨x0, x1, x2, x3, _⟩ := gq4 hs0.tl.tl.hd
 obtain ⟨y0, y1, y2, y3, _⟩ := gq4 hs0.tl.hd
 have HK0 := qd (show w.grownBy _ none from hs0.tl.tl.tl.hd)
 clear hs0
 go_enter Tryz.func132, Tryz.ntmps132
 go_upto_region 2 with (
  go_at_call 148
  with_reducible refine (HBS.out _ HK0.out).mono ?_
  rintro e w5 ⟨u0, xs, u1, u2, rfl, hx, hsg⟩
  have HX := qd hx
  obtain ⟨t0, v0, rfl⟩ := OE.shape hsg.hd
  obtain ⟨t1, v1, rfl⟩ := own_shape (show OwnInts 0 _ u1 (a.i ++ bi) from hsg.tl.hd)
  obtain ⟨t2, v2, rfl⟩ := own_shape (show OwnInts 0 _ u2 (a.o ++ bo) from hsg.tl.tl.hd)
  have hr1 := (own_room (show OwnInts 0 _ _ (a.i ++ bi) from hsg.tl.hd)).2
  have hr2 := (own_room (show OwnInts 0 _ _ (a.o ++ bo) from hsg.tl.tl.hd)).2
  obtain ⟨q0, hq0⟩ : ∃ q, xs.length = q := ⟨_, rfl⟩
  obtain ⟨q1, hq1⟩ : ∃ q, (a.i ++ bi).length = q := ⟨_, rfl⟩
  obtain ⟨q2, hq2⟩ : ∃ q, (a.o ++ bo).length = q := ⟨_, rfl⟩
  rw [hq0, hq1, hq2] at hsg
  rw [hq1] at hr1
  rw [hq2] at hr2
  rw [hq0, hq1, hq2]
  have HQ := qd (show ni ≤ q1 ∧ no ≤ q2 from by rw [← hq1, ← hq2, List.length_append, List.length_append, HNI.out, HNO.out]; omega)
  have HS1 := qd ((HS0.out.graft3 hsg OE_own OI_own OI_own).boxAt w5.heap.size rfl #[.int .i64 ((n : Int) + m), .slice t0 q0 v0, .slice t1 q1 v1, .slice t2 q2 v2] 38)
  clear hx hsg hq0 hq1 hq2 x0 x1 x2 x3 y0 y1 y2 y3)
 generalize w5.alloc (.cells #[.int .i64 ((n : Int) + m), .slice t0 q0 v0, .slice t1 q1 v1, .slice t2 q2 v2] 38) = w6 at *
 generalize w5.heap.size = b5 at *
 have HR := qd (And.intro hr1 hr2)
 clear hr1 hr2
 have HBM := qd fun (W1 : World) (L : List Asrt) (h : Sep W1 L) (h1 : BxA w.heap.size #[.int .i64 n, .slice ea ne ec, .slice ia ni ic, .slice oa no oc] 38 ∈ L) => show W1.cell? ⟨w.heap.size, 2, none⟩ = some (.slice ia ni ic) ∧ W1.cell? ⟨w.heap.size, 3, none⟩ = some (.slice oa no oc) from by
  obtain ⟨_, _, p2, p3, _⟩ := gq4 (show W1.heap[w.heap.size]? = some (.cells #[.int .i64 n, .slice ea ne ec, .slice ia ni ic, .slice oa no oc] 38 (0, 0)) from Sep.all h _ h1)
  exact ⟨p2, p3⟩
 have HSD := qd HS1.out.dr
 have X0 := qd (HBM.out _ _ HSD.out (by simp))
 refine AnyL.start (fun W1 => W1.cell? ⟨w.heap.size, 2, none⟩ = some (.slice ia ni ic) ∧ W1.cell? ⟨w.heap.size, 3, none⟩ = some (.slice oa no oc)) (fun _ => True) 99 (by kernel_rfl) ?_
 generalize w6.drew = w7 at *
 refine AnyL.tT 0 (by exact X0.out) ?_
 refine AnyL.tT 1 (by exact X0.out) ?_
 refine AnyL.tT 2 (by exact X0.out) ?_
 refine AnyL.tT 3 (by exact X0.out) ?_
 refine AnyL.tT 4 (by exact X0.out) ?_
 refine AnyL.tT 5 (by exact X0.out) ?_
 refine AnyL.tT 6 (by exact X0.out) ?_
 refine AnyL.tT 7 (by exact X0.out) ?_
 refine AnyL.done (by kernel_rfl) ?_ _
 clear X0 HBM HS1
 go_upto_region 3 with fail
 have hq := HQ.out; have hr := HR.out
 have j1 : (0 : Int) ≤ (no : Int) := by omega
 have j2 : (no : Int) ≤ (v2 : Int) := by omega
 have j3 : no ≤ v2 := by omega
 have j4 : (ni : Int) ≤ (q1 : Int) := by omega
 have j5 : (q1 : Int) ≤ (v1 : Int) := by omega
 have j6 : (0 : Int) ≤ (ni : Int) := by omega
 have j7 : ni ≤ q1 := by omega
 have j8 : q1 ≤ v1 := by omega
 clear hq hr
 have HBN := qd fun (W1 : World) (L : List Asrt) (h : Sep W1 L) (h1 : BxA b5 #[.int .i64 ((n : Int) + m), .slice t0 q0 v0, .slice t1 q1 v1, .slice t2 q2 v2] 38 ∈ L) => show W1.cell? ⟨b5, 2, none⟩ = some (.slice t1 q1 v1) ∧ W1.cell? ⟨b5, 3, none⟩ = some (.slice t2 q2 v2) from by
  obtain ⟨_, _, p2, p3, _⟩ := gq4 (show W1.heap[b5]? = some (.cells #[.int .i64 ((n : Int) + m), .slice t0 q0 v0, .slice t1 q1 v1, .slice t2 q2 v2] 38 (0, 0)) from Sep.all h _ h1)
  exact ⟨p2, p3⟩
 have HMI := qd fun (W : World) (h : OwnInts 0 W (.slice t2 q2 v2) (a.o ++ bo)) => HOW.out (.slice t2 no v2) W a.o (by have h1 := ints_take h.read (k := no) (c' := v2) (by rw [List.length_append, HNO.out]; omega); rwa [List.take_left' HNO.out] at h1) HLL.out.2.1
 have HNX := qd fun (W : World) (h : OwnInts 0 W (.slice t1 q1 v1) (a.i ++ bi)) => HOW.out (.slice (if v1 = ni then t1 else Option.map (fun x => x.add ni) t1) (q1 - ni) (v1 - ni)) W bi (by have h1 := ints_drop h.read (l := ni) j7 j8 (v1 - ni); rwa [List.drop_left' HNI.out] at h1) HLL.out.2.2.1
 rw [HNO.out] at HMI
 obtain ⟨lb, hlb⟩ : ∃ x, bi.length = x := ⟨_, rfl⟩
 rw [hlb] at HNX
 clear hlb
 have HSE := qd HSD.out.dr
 have X1 := qd (HBN.out _ _ HSE.out (by simp))
 refine AnyL.start (fun W1 => W1.cell? ⟨b5, 2, none⟩ = some (.slice t1 q1 v1) ∧ W1.cell? ⟨b5, 3, none⟩ = some (.slice t2 q2 v2)) (fun _ => True) 99 (by kernel_rfl) ?_
 generalize w7.drew = w8 at *
 refine AnyL.tT 0 (by exact X1.out) ?_
 refine AnyL.tT 1 (by exact X1.out) ?_
 refine AnyL.tT 2 (by exact X1.out) ?_
 refine AnyL.tT 3 (by exact X1.out) ?_
 refine AnyL.tT 5 (by exact X1.out) ?_
 refine AnyL.tT 6 (by exact X1.out) ?_
 refine AnyL.tT 7 (by exact X1.out) ?_
 refine AnyL.tT 8 (by exact X1.out) ?_
 generalize (if v1 = ni then t1 else Option.map (fun x => x.add ni) t1) = t1d at *
 refine AnyL.step (i := 4) (by kernel_rfl) (by rfl) (fun KK hKK => ?_)
 go_simp
 have HCC := qd (HMI.out w8 (HSE.out.tl.tl.tl.hd))
 go_at_call 62
 with_reducible refine HCC.out.mono ?_
 rintro e wa ⟨aM, cM, rfl, hsg⟩
 have HSa := qd (HSE.out.graft1 hsg OI_own)
 clear hsg
 refine shutNx hKK _ (by exact HBN.out _ _ HSa.out (by simp)) (by exact fun _ => trivial) ?_
 clear hKK KK
 refine AnyL.step (i := 9) (by kernel_rfl) (by rfl) (fun KK hKK => ?_)
 go_simp
 have HCC := qd (HNX.out wa (HSa.out.tl.tl.tl.hd))
 go_at_call 62
 with_reducible refine HCC.out.mono ?_
 rintro e wb ⟨aX, cX, rfl, hsg⟩
 have HSb := qd (HSa.out.graft1 hsg OI_own)
 clear hsg
 refine shutNx hKK _ (by exact HBN.out _ _ HSb.out (by simp)) (by exact fun _ => trivial) ?_
 clear hKK KK
 have HSM := qd (Sep.blk (A := [_]) (B := [_]) HSb.out)
 refine AnyL.tT 10 (by exact HBN.out _ _ HSM.out (by simp)) ?_
 refine AnyL.tT 11 (by exact HBN.out _ _ HSM.out (by simp)) ?_
 refine AnyL.done (by kernel_rfl) ?_ _
 clear HSE HSD X1 HBN
 have hq := HQ.out; have hr := HR.out
 have k1 : (ni : Int) ≤ (v1 : Int) := by omega
 have k2 : ni ≤ v1 := by omega
 have k3 : (no : Int) ≤ (q2 : Int) := by omega
 have k4 : (q2 : Int) ≤ (v2 : Int) := by omega
 have k5 : no ≤ q2 := by omega
 have k6 : q2 ≤ v2 := by omega
 have K5 := qd k5; have K6 := qd k6
 clear hq hr
 have h6 := Sep.blk (A := [_, _]) (B := [_]) HSM.out
 obtain ⟨x0, x1, x2, x3, g0, g1, g2, g3⟩ := gq4 h6.hd
 have H7 := qd (h6.setB 2 (.slice t1 ni v1))
 clear h6
 go_upto_region 5 with fail
 clear x0 x1 x2 x3 g0 g1 g2 g3
 generalize wb.setCell ⟨b5, 2, none⟩ (.slice t1 ni v1) = wc at *
 obtain ⟨x0, x1, x2, x3, g0, g1, g2, g3⟩ := gq4 H7.out.hd
 have H8 := qd (H7.out.setB 3 (.slice (if v2 = no then t2 else Option.map (fun x => x.add no) t2) (q2 - no) (v2 - no)))
 go_upto_region 6 with fail
 clear x0 x1 x2 x3 g0 g1 g2 g3
 generalize wc.setCell ⟨b5, 3, none⟩ (.slice (if v2 = no then t2 else Option.map (fun x => x.add no) t2) (q2 - no) (v2 - no)) = wd at *
 have hO := ints_drop (show OwnInts 0 wd _ (a.o ++ bo) from H8.out.tl.tl.tl.tl.tl.hd).read (l := no) K5.out K6.out (v2 - no)
 rw [List.drop_left' HNO.out] at hO
 generalize (if v2 = no then t2 else Option.map (fun x => x.add no) t2) = t2d at *
 obtain ⟨x0, x1, x2, x3, _⟩ := gq4 H8.out.hd
 have h8 := H8.out
 have hI := ints_take (show OwnInts 0 wd _ (a.i ++ bi) from h8.tl.tl.tl.tl.hd).read (k := ni) (c' := v1) (by rw [List.length_append, HNI.out]; omega)
 rw [List.take_left' HNI.out] at hI
 have hE : RdE edgeE wd (.slice t0 q0 v0) es := by rw [← HX.out]; exact OE.read h8.tl.tl.tl.hd
 have HC := qd (HGL.out _ _ _ _ _ wd hE hI hO (show OwnInts 0 wd _ a.o from h8.tl.hd).read (show OwnInts 0 wd _ bi from h8.tl.tl.hd).read)
 clear h8 hE hI hO
 go_wp2_with (
  go_at_call 32
  with_reducible refine HC.out.mono ?_
  rintro e we ⟨u0, ys, u1, u2, rfl, hy, hsg⟩
  have HY := qd hy
  obtain ⟨s0, r0, rfl⟩ := OE.shape hsg.hd
  obtain ⟨s1, r1, rfl⟩ := own_shape (show OwnInts 0 _ u1 G.i from hsg.tl.hd)
  obtain ⟨s2, r2, rfl⟩ := own_shape (show OwnInts 0 _ u2 G.o from hsg.tl.tl.hd)
  obtain ⟨z0, hz0⟩ : ∃ q, ys.length = q := ⟨_, rfl⟩
  obtain ⟨z1, hz1⟩ : ∃ q, G.i.length = q := ⟨_, rfl⟩
  obtain ⟨z2, hz2⟩ : ∃ q, G.o.length = q := ⟨_, rfl⟩
  rw [hz0, hz1, hz2] at hsg
  rw [hz0, hz1, hz2]
  have hs1 := Sep.blk (A := [_, _, _, _, _, _, _, _, _]) (B := [_]) (H8.out.graft3 hsg OE_own OI_own OI_own)
  obtain ⟨_, _, _, _, p4, p5, p6, p7⟩ := gq4 hs1.hd
  have hs2 := (((hs1.setB 0 (.int .i64 G.n)).setB 1 (.slice s0 z0 r0)).setB 2 (.slice s1 z1 r1)).setB 3 (.slice s2 z2 r2)
  obtain ⟨l0, l1, l2, l3, _⟩ := gq4 hs2.hd
  have HSF := qd (Sep.cutA (X := [_, _, _]) (A := [_, _, _, _, _, _, _, _]) hs2.tl)
  clear hsg hs1 hs2 hy hz0 hz1 hz2 x0 x1 x2 x3)
 refine bodyPost_ret_by (v := .agg #[.int .i64 G.n, .slice s0 z0 r0, .slice s1 z1 r1, .slice s2 z2 r2]) ?_ rfl ⟨_, ys, _, _, rfl, HY.out, HSF.out⟩
 simp [results, go_sem, *]
end Go.Proofs.YtjagjhchnpmngaaGreat

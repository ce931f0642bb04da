/-
 The graph of a valid term, in the reference. Conditions: the term is well made and not too long.
-/
import Derived.Test.YtjagjhchnpmngaaGreatCz05
import Derived.Test.YtjagjhchnpmngaaGreatCz04
import Derived.Test.YtjagjhchnpmngaaGreatCz03
import Derived.Test.YtjagjhchnpmngaaGreatCz02
import Derived.Test.YtjagjhchnpmngaaGreatCz01
import Derived.Test.YtjagjhchnpmngaaGreatCz26
import Derived.Test.YtjagjhchnpmngaaGreatCz24
import Derived.Test.YtjagjhchnpmngaaGreatCz06
import Derived.Test.YtjagjhchnpmngaaGreatCz13
import Derived.Test.YtjagjhchnpmngaaGreatCz21
import Derived.Test.YtjagjhchnpmngaaGreatCz00
set_option linter.unusedVariables false
set_option linter.unusedSimpArgs false
set_option maxRecDepth 100000
namespace Go.Proofs.YtjagjhchnpmngaaGreat
open Go.RowKit
theorem tmB_nodes {t : Tr} (h : t.Ok) (hs : t.size ≤ 400) : tmB t.nodes = true := by
 unfold tmB
 have h1 := t.nodes_len
 have h2 := t.size_pos
 rw [decide_eq_true (by omega), Bool.true_and, h1, prun_nodes h]
theorem prun_two {A B : Tr} (x : Nd) (hA : A.Ok) (hB : B.Ok) : prun (A.nodes ++ (B.nodes ++ [x])) (A.size + B.size) = some [B, A] := by
 have hl : (A.nodes ++ (B.nodes ++ [x])).length = A.size + (B.size + 1) := by simp [Tr.nodes_len]
 have h1 := prun_tree (ns := A.nodes ++ (B.nodes ++ [x])) A 0 [] hA rfl (by omega) (fun j hj => by
  rw [Nat.zero_add, List.getD_eq_getElem?_getD, List.getD_eq_getElem?_getD, List.getElem?_append_left (by rw [Tr.nodes_len]; exact hj)])
 rw [Nat.zero_add] at h1
 refine prun_tree (ns := A.nodes ++ (B.nodes ++ [x])) B A.size [A] hB h1 (by omega) (fun j hj => ?_)
 rw [List.getD_eq_getElem?_getD, List.getD_eq_getElem?_getD, List.getElem?_append_right (by rw [Tr.nodes_len]; omega), Tr.nodes_len, Nat.add_sub_cancel_left, List.getElem?_append_left (by rw [Tr.nodes_len]; exact hj)]
theorem from_two {A B : Tr} (x : Nd) (hA : A.Ok) (hB : B.Ok) : (scF (A.nodes ++ (B.nodes ++ [x])) (A.nodes.length + B.nodes.length + 1)).getD (A.nodes.length + B.nodes.length - 1) 0 = (A.nodes.length : Int) := by
 have h1 := A.size_pos; have h2 := B.size_pos
 rw [Tr.nodes_len, Tr.nodes_len, scF_at (by omega), topA_eq (R := [A]) (by rw [show A.size + B.size - 1 + 1 = A.size + B.size by omega]; exact prun_two x hA hB)]
 omega
theorem ownR_room {α : Type} {E : Lay α} {B : Nat} {w : World} {a : Option Addr} {n c : Nat} {xs : List α} (h : OwnR E B w (.slice a n c) xs) : n ≤ c := by
 rcases h.2 with ⟨he, h0⟩ | ⟨g, cap, cur, he, _, _, hc, hr, _⟩
 ·injection he with _ h1 h2; omega
 ·injection he with _ h1 h2; subst h1 h2; omega
theorem lf_low {n : Nd} (h : lfB n = true) : n.k < 15 := by
 unfold lfB lfV at h
 rw [Bool.and_eq_true] at h
 have h2 := h.2
 by_cases h1 : n.k = 1
 ·omega
 ·rw [if_neg h1] at h2
  by_cases h4 : n.k = 2
  ·omega
  ·rw [if_neg h4, Bool.and_eq_true] at h2
   have := (inB_iff.1 h2.1).2
   omega
theorem seq_small {a b : Gr} (ha : grB a = true) (hb : grB b = true) : (seqG a b).es.length ≤ 2000000 ∧ (seqG a b).i.length ≤ 2000000 ∧ (seqG a b).o.length ≤ 2000000 := by
 obtain ⟨n, _, _, a1, a2, a3, _⟩ := grB_n ha
 obtain ⟨m, _, _, b1, b2, b3, _⟩ := grB_n hb
 have h := seq_lens a b
 refine ⟨?_, by omega, by omega⟩
 have e : (seqG a b).es.length = a.es.length + b.es.length := by simp [seqG, glueG, seqI, mapG]
 omega
theorem par_small {a b : Gr} (ha : grB a = true) (hb : grB b = true) : (parG a b).es.length ≤ 2000000 ∧ (parG a b).i.length ≤ 2000000 ∧ (parG a b).o.length ≤ 2000000 := by
 obtain ⟨n, _, _, a1, a2, a3, _⟩ := grB_n ha
 obtain ⟨m, _, _, b1, b2, b3, _⟩ := grB_n hb
 have h := par_lens a b
 refine ⟨?_, by omega, by omega⟩
 have e : (parG a b).es.length = a.es.length + b.es.length := by simp [parG]
 omega
theorem hgMade_leaf (x : Nd) (na : Option Addr) (nc : Nat) (w : World) (hx : lfB x = true) (hn : RdR nodeE w (.slice na 1 nc) [x]) :
 Calls Tryz.prog 100 #[.agg #[.slice na 1 nc]] w (MadeR true (leafG x) w) := by
 have HT := qd fun W (hW : w.grownBy W none) => tmTop_any _ _ W (hn.carry hW) (by simp) (by simp)
 rw [show (List.getD [x] ([x].length - 1) nd0).k = x.k from rfl] at HT
 have HL := qd fun W => hgLeaf_any x W hx
 have hk := lf_low hx
 have HN := qd hn
 unfold OwnG at HL
 unfold MadeR
 simp only [if_true]
 generalize leafG x = K at *
 obtain ⟨k, v, s⟩ := x
 simp only at HT HL hk
 have hs0 := ((Sep.start w).boxAt w.heap.size rfl #[.slice na 1 nc] 44).boxAt (w.heap.size + 1) (by simp) #[.int .i64 0, .slice none 0 0, .slice none 0 0, .slice none 0 0] 38
 have HS0 := qd hs0
 have x0 := bs1 hs0.tl.hd
 have HK0 := qd (show w.grownBy _ none from hs0.tl.tl.hd)
 clear hs0 hn hx
 go_enter Tryz.func100, Tryz.ntmps100
 go_upto_region 3 with (
  go_at_call 129
  with_reducible refine (HT.out _ HK0.out).mono ?_
  rintro e w3 ⟨rfl, hg⟩
  have HS1 := qd (HS0.out.grown hg)
  clear hg)
 clear x0
 have x0 := bs1 HS1.out.tl.hd
 obtain ⟨nb, no, rfl, _, q0, q1, q2⟩ := (HN.out.carry HS1.out.tl.tl.hd).node rfl rfl (i := 0) (by simp)
 simp only [Nat.zero_mul, Nat.add_zero, List.getD_cons_zero] at q0 q1 q2
 go_wp2_with (
  go_at_call 130
  with_reducible refine (HL.out _).mono ?_
  unfold grV
  rintro e w5 ⟨u0, ys, u1, u2, rfl, hy, hsg⟩
  have HY := qd hy
  obtain ⟨s0, r0, rfl⟩ := OE.shape hsg.hd
  obtain ⟨s1, r1, rfl⟩ := own_shape (show OwnInts 0 _ u1 K.i from hsg.tl.hd)
  obtain ⟨s2, r2, rfl⟩ := own_shape (show OwnInts 0 _ u2 K.o from hsg.tl.tl.hd)
  obtain ⟨z0, hz0⟩ : ∃ q, ys.length = q := ⟨_, rfl⟩
  obtain ⟨z1, hz1⟩ : ∃ q, K.i.length = q := ⟨_, rfl⟩
  obtain ⟨z2, hz2⟩ : ∃ q, K.o.length = q := ⟨_, rfl⟩
  rw [hz0, hz1, hz2] at hsg
  rw [hz0, hz1, hz2]
  have hs1 := Sep.blk (A := [_, _, _]) (B := [_]) (HS1.out.graft3 hsg OE_own OI_own OI_own)
  obtain ⟨p0, p1, p2, p3, p4, p5, p6, p7⟩ := gq4 hs1.hd
  have hs2 := (((hs1.setB 0 (.int .i64 K.n)).setB 1 (.slice s0 z0 r0)).setB 2 (.slice s1 z1 r1)).setB 3 (.slice s2 z2 r2)
  obtain ⟨l0, l1, l2, l3, _⟩ := gq4 hs2.hd
  have HSF := qd (Sep.cutA (X := [_, _, _]) (A := [_]) hs2.tl)
  clear hsg hs1 hs2 hy hz0 hz1 hz2 x0 q0 q1 q2)
 refine bodyPost_ret_by (v := .tuple #[.agg #[.int .i64 K.n, .slice s0 z0 r0, .slice s1 z1 r1, .slice s2 z2 r2], .bool true]) ?_ rfl ⟨_, ys, _, _, rfl, HY.out, HSF.out⟩
 simp [results, go_sem, *]
def MadeIH (T : Tr) (K : Gr) (b : Bool) : Prop := ∀ na nc w, RdR nodeE w (.slice na T.nodes.length nc) T.nodes → T.nodes.length ≤ nc → Calls Tryz.prog 100 #[.agg #[.slice na T.nodes.length nc]] w (MadeR b K w)
set_option maxHeartbeats 4000000 in
theorem hgMade_two (kd : Int) (hkd : kd = 15 ∨ kd = 16) (A B : Tr) (na : Option Addr) (nn nc : Nat) (w : World) (hA : A.Ok) (hB : B.Ok) (hg1 : A.gB = true → B.gB = true → kd = 15 → A.g.o.length = B.g.i.length) (hsz : A.nodes.length + B.nodes.length ≤ 1000) (htb : tmB (A.nodes ++ (B.nodes ++ [⟨kd, 0, noS⟩])) = true)
 (hn : RdR nodeE w (.slice na nn nc) (A.nodes ++ (B.nodes ++ [⟨kd, 0, noS⟩]))) (hnn : nn = A.nodes.length + B.nodes.length + 1) (hc : nn ≤ nc) (ihA : MadeIH A A.g A.gB) (ihB : MadeIH B B.g B.gB) (okA : A.gB = true → grB A.g = true) (okB : B.gB = true → grB B.g = true) :
 Calls Tryz.prog 100 #[.agg #[.slice na nn nc]] w (MadeR (A.gB && (B.gB && grB (if kd = 15 then seqG A.g B.g else parG A.g B.g))) (if kd = 15 then seqG A.g B.g else parG A.g B.g) w) := by
 have hpa := A.size_pos; have hpb := B.size_pos
 rw [← A.nodes_len] at hpa
 rw [← B.nodes_len] at hpb
 have hll : (A.nodes ++ (B.nodes ++ [(⟨kd, 0, noS⟩ : Nd)])).length = A.nodes.length + B.nodes.length + 1 := by rw [List.length_append, List.length_append]; simp; omega
 have HT := qd fun W (hW : w.grownBy W none) => tmTop_any _ _ W (hn.carry hW) (by rw [hll]; omega) (by rw [hll]; omega)
 rw [show ((A.nodes ++ (B.nodes ++ [(⟨kd, 0, noS⟩ : Nd)])).getD ((A.nodes ++ (B.nodes ++ [(⟨kd, 0, noS⟩ : Nd)])).length - 1) nd0).k = kd from by rw [hll, List.getD_eq_getElem?_getD, List.getElem?_append_right (by omega), List.getElem?_append_right (by omega), show A.nodes.length + B.nodes.length + 1 - 1 - A.nodes.length - B.nodes.length = 0 by omega]; rfl] at HT
 have HP := qd fun W (hW : w.grownBy W none) => tmParts_any na nn nc A.nodes B.nodes ⟨kd, 0, noS⟩ W (hn.carry hW) hc hpa hpb hsz htb (from_two _ hA hB)
 have HIA := qd ihA; have HIB := qd ihB
 unfold MadeIH MadeR grV at HIA HIB
 generalize A.nodes = nA at *
 generalize B.nodes = nB at *
 obtain ⟨K1, hK1⟩ : ∃ K, (if A.gB = true then A.g else gr0) = K := ⟨_, rfl⟩
 obtain ⟨K2, hK2⟩ : ∃ K, (if B.gB = true then B.g else gr0) = K := ⟨_, rfl⟩
 rw [hK1] at HIA
 rw [hK2] at HIB
 obtain ⟨g1, hG1⟩ : ∃ x, A.g = x := ⟨_, rfl⟩
 obtain ⟨g2, hG2⟩ : ∃ x, B.g = x := ⟨_, rfl⟩
 obtain ⟨b1, hb1⟩ : ∃ x, A.gB = x := ⟨_, rfl⟩
 obtain ⟨b2, hb2⟩ : ∃ x, B.gB = x := ⟨_, rfl⟩
 rw [hb1] at HIA
 rw [hb2] at HIB
 rw [hG1, hb1] at hK1 okA
 rw [hG2, hb2] at hK2 okB
 rw [hb1, hb2, hG1, hG2] at hg1
 rw [hb1, hb2, hG1, hG2]
 have HK1 := qd hK1; have HK2 := qd hK2; have HOA := qd okA; have HOB := qd okB; have HGL := qd hg1
 clear hK1 hK2 okA okB hg1 hG1 hG2 hb1 hb2 ihA ihB hA hB htb
 obtain ⟨la, hla⟩ : ∃ x, nA.length = x := ⟨_, rfl⟩
 obtain ⟨lb, hlb⟩ : ∃ x, nB.length = x := ⟨_, rfl⟩
 rw [hla] at HP HIA
 rw [hlb] at HP HIB
 have hk15 : ¬ kd < 15 := by omega
 have HKD := qd hkd
 obtain ⟨K, hK⟩ : ∃ K, (if kd = 15 then seqG g1 g2 else parG g1 g2) = K := ⟨_, rfl⟩
 rw [hK]
 obtain ⟨bK, hbK⟩ : ∃ b, grB K = b := ⟨_, rfl⟩
 rw [hbK]
 have HKK := qd hK; have HBK := qd hbK
 clear hK hbK
 have hs0 := ((Sep.start w).boxAt w.heap.size rfl #[.slice na nn nc] 44).boxAt (w.heap.size + 1) (by simp) #[.int .i64 0, .slice none 0 0, .slice none 0 0, .slice none 0 0] 38
 have HS0 := qd hs0
 have x0 := bs1 hs0.tl.hd
 have HK0 := qd (show w.grownBy _ none from hs0.tl.tl.hd)
 clear hs0 hn hnn hc hll hpa hpb hsz hla hlb hkd
 go_enter Tryz.func100, Tryz.ntmps100
 go_upto_region 4 with (
  go_at_call 129
  with_reducible refine (HT.out _ HK0.out).mono ?_
  rintro e w3 ⟨rfl, hg⟩
  have HS1 := qd (HS0.out.grown hg)
  clear hg)
 clear x0
 have x0 := bs1 HS1.out.tl.hd
 have HK1W := qd (show w.grownBy _ none from HS1.out.tl.tl.hd)
 clear hk15
 go_upto_region 5 with (
  go_at_call 131
  with_reducible refine (HP.out _ HK1W.out).mono ?_
  rintro e w4 ⟨ta, tc, ta2, tc2, rfl, hsg⟩
  have HS2 := qd (((HS1.out.graft2 hsg (fun _ h => h) (fun _ h => h)).boxAt w4.heap.size rfl #[.slice ta la tc] 44).boxAt (w4.heap.size + 1) (by simp) #[.slice ta2 lb tc2] 44)
  clear hsg x0)
 generalize (w4.alloc (.cells #[.slice ta la tc] 44)).alloc (.cells #[.slice ta2 lb tc2] 44) = w5 at *
 generalize w4.heap.size = tb at *
 have x0 := bs1 HS2.out.tl.hd
 have HC1 := qd (HIA.out ta tc w5 (OwnR.read (show OwnR nodeE 0 w5 _ nA from HS2.out.tl.tl.hd)) (ownR_room (show OwnR nodeE 0 w5 _ nA from HS2.out.tl.tl.hd)))
 go_upto_region 6 with (
  go_at_call 100
  with_reducible refine HC1.out.mono ?_
  rintro e w6 ⟨u0, xs1, u1, u2, rfl, hx, hsg⟩
  have HE1 := qd hx
  obtain ⟨r0, t0, rfl⟩ := OE.shape hsg.hd
  obtain ⟨r1, t1, rfl⟩ := own_shape (show OwnInts 0 _ u1 K1.i from hsg.tl.hd)
  obtain ⟨r2, t2, rfl⟩ := own_shape (show OwnInts 0 _ u2 K1.o from hsg.tl.tl.hd)
  obtain ⟨p0, hq0⟩ : ∃ q, xs1.length = q := ⟨_, rfl⟩
  obtain ⟨p1, hq1⟩ : ∃ q, K1.i.length = q := ⟨_, rfl⟩
  obtain ⟨p2, hq2⟩ : ∃ q, K1.o.length = q := ⟨_, rfl⟩
  rw [hq0, hq1, hq2] at hsg
  rw [hq0, hq1, hq2]
  have HS3 := qd ((HS2.out.graft3 hsg OE_own OI_own OI_own).boxAt w6.heap.size rfl #[.int .i64 K1.n, .slice r0 p0 t0, .slice r1 p1 t1, .slice r2 p2 t2] 38)
  clear hsg hq0 hq1 hq2 hx x0)
 generalize w6.alloc (.cells #[.int .i64 K1.n, .slice r0 p0 t0, .slice r1 p1 t1, .slice r2 p2 t2] 38) = w7 at *
 generalize w6.heap.size = gb at *
 have x0 := bs1 HS3.out.tl.tl.tl.tl.hd
 have HC2 := qd (HIB.out ta2 tc2 w7 (OwnR.read (show OwnR nodeE 0 w7 _ nB from HS3.out.tl.tl.tl.tl.tl.tl.tl.hd)) (ownR_room (show OwnR nodeE 0 w7 _ nB from HS3.out.tl.tl.tl.tl.tl.tl.tl.hd)))
 go_upto_region 7 with (
  go_at_call 100
  with_reducible refine HC2.out.mono ?_
  rintro e w8 ⟨u0, xs2, u1, u2, rfl, hx, hsg⟩
  have HE2 := qd hx
  obtain ⟨s0, f0, rfl⟩ := OE.shape hsg.hd
  obtain ⟨s1, f1, rfl⟩ := own_shape (show OwnInts 0 _ u1 K2.i from hsg.tl.hd)
  obtain ⟨s2, f2, rfl⟩ := own_shape (show OwnInts 0 _ u2 K2.o from hsg.tl.tl.hd)
  obtain ⟨d0, hq0⟩ : ∃ q, xs2.length = q := ⟨_, rfl⟩
  obtain ⟨d1, hq1⟩ : ∃ q, K2.i.length = q := ⟨_, rfl⟩
  obtain ⟨d2, hq2⟩ : ∃ q, K2.o.length = q := ⟨_, rfl⟩
  rw [hq0, hq1, hq2] at hsg
  rw [hq0, hq1, hq2]
  have HS4 := qd ((HS3.out.graft3 hsg OE_own OI_own OI_own).boxAt w8.heap.size rfl #[.int .i64 K2.n, .slice s0 d0 f0, .slice s1 d1 f1, .slice s2 d2 f2] 38)
  clear hsg hq0 hq1 hq2 hx x0)
 generalize w8.alloc (.cells #[.int .i64 K2.n, .slice s0 d0 f0, .slice s1 d1 f1, .slice s2 d2 f2] 38) = w9 at *
 generalize w8.heap.size = hb at *
 have HS5 := qd (Sep.cutA (X := [_, _, _, _, _, _, _, _, _]) (A := [_]) (Sep.cutA (X := [_, _, _, _, _, _, _, _]) (A := [_, _, _, _]) HS4.out))
 clear HS4 HS3 HS2 HC1 HC2 HIA HIB HT HP
 have HSR := qd (Sep.blk (A := [_, _, _, _, _, _, _, _]) (B := [_]) HS5.out)
 cases b1
 ·obtain ⟨y0, y1, y2, y3, k0, k1, k2, k3⟩ := gq4 HSR.out.hd
  have hz := (((HSR.out.setB 0 (.int .i64 0)).setB 1 (.slice none 0 0)).setB 2 (.slice none 0 0)).setB 3 (.slice none 0 0)
  obtain ⟨l0, l1, l2, l3, _⟩ := gq4 hz.hd
  have HKF := qd (show w.grownBy _ none from Sep.all hz (KeepA w) (by simp))
  clear hz HSR HS5
  go_wp2_with fail
  refine bodyPost_ret_by (v := .tuple #[.agg #[.int .i64 0, .slice none 0 0, .slice none 0 0, .slice none 0 0], .bool false]) ?_ rfl (MadeR.zero HKF.out)
  simp [results, go_sem, *]
 ·cases b2
  ·obtain ⟨y0, y1, y2, y3, k0, k1, k2, k3⟩ := gq4 HSR.out.hd
   have hz := (((HSR.out.setB 0 (.int .i64 0)).setB 1 (.slice none 0 0)).setB 2 (.slice none 0 0)).setB 3 (.slice none 0 0)
   obtain ⟨l0, l1, l2, l3, _⟩ := gq4 hz.hd
   have HKF := qd (show w.grownBy _ none from Sep.all hz (KeepA w) (by simp))
   clear hz HSR HS5
   go_wp2_with fail
   refine bodyPost_ret_by (v := .tuple #[.agg #[.int .i64 0, .slice none 0 0, .slice none 0 0, .slice none 0 0], .bool false]) ?_ rfl (MadeR.zero HKF.out)
   simp [results, go_sem, *]
  ·have e1 : g1 = K1 := HK1.out
   have e2 : g2 = K2 := HK2.out
   subst e1 e2
   rcases HKD.out with hk | hk
   ·subst hk
    have e3 : seqG g1 g2 = K := (if_pos rfl).symm.trans HKK.out
    have hh1 := HOA.out rfl
    have hh2 := HOB.out rfl
    have HSQ := qd fun (W : World) u0 u1 u2 v0 v1 v2 (a1 : RdE edgeE W u0 g1.es) (a2 : IntsV W u1 g1.i) (a3 : IntsV W u2 g1.o) (a4 : RdE edgeE W v0 g2.es) (a5 : IntsV W v1 g2.i) (a6 : IntsV W v2 g2.o) => (show Calls _ _ _ W (OwnG K W) from e3 ▸ hgSeq_any g1 g2 u0 u1 u2 v0 v1 v2 W a1 a2 a3 a4 a5 a6 hh1 hh2 (HGL.out rfl rfl rfl))
    obtain ⟨sm1, sm2, sm3⟩ := seq_small hh1 hh2
    rw [e3] at sm1 sm2 sm3
    clear hh1 hh2 e3
    have HIF := qd fun (W : World) u0 u1 u2 (a1 : RdE edgeE W u0 K.es) (a2 : IntsV W u1 K.i) (a3 : IntsV W u2 K.o) => hgIf_any u0 u1 u2 K W a1 a2 a3 sm1 sm2 sm3
    rw [HBK.out] at HIF
    clear sm1 sm2 sm3
    unfold OwnG grV at HSQ
    unfold grV at HIF
    have HCQ := qd (HSQ.out w9 _ _ _ _ _ _ (by rw [← HE1.out]; exact OE.read HS5.out.tl.tl.tl.tl.tl.hd) (show OwnInts 0 w9 _ g1.i from HS5.out.tl.tl.tl.tl.tl.tl.hd).read (show OwnInts 0 w9 _ g1.o from HS5.out.tl.tl.tl.tl.tl.tl.tl.hd).read (by rw [← HE2.out]; exact OE.read HS5.out.tl.hd) (show OwnInts 0 w9 _ g2.i from HS5.out.tl.tl.hd).read (show OwnInts 0 w9 _ g2.o from HS5.out.tl.tl.tl.hd).read)
    obtain ⟨x0, x1, x2, x3, _⟩ := gq4 HS5.out.hd
    obtain ⟨y0, y1, y2, y3, _⟩ := gq4 HS5.out.tl.tl.tl.tl.hd
    clear HSQ HOA HOB HGL HSR
    cases bK
    ·simp only [Bool.false_eq_true, if_false, zgV] at HIF
     go_wp2_with (first
      |(go_at_call 132
        with_reducible refine HCQ.out.mono ?_
        rintro e w10 ⟨u0, ys, u1, u2, rfl, hy, hsg⟩
        have HY := qd hy
        obtain ⟨s0_, r0_, rfl⟩ := OE.shape hsg.hd
        obtain ⟨s1_, r1_, rfl⟩ := own_shape (show OwnInts 0 _ u1 K.i from hsg.tl.hd)
        obtain ⟨s2_, r2_, rfl⟩ := own_shape (show OwnInts 0 _ u2 K.o from hsg.tl.tl.hd)
        obtain ⟨z0, hz0⟩ : ∃ q, ys.length = q := ⟨_, rfl⟩
        obtain ⟨z1, hz1⟩ : ∃ q, K.i.length = q := ⟨_, rfl⟩
        obtain ⟨z2, hz2⟩ : ∃ q, K.o.length = q := ⟨_, rfl⟩
        rw [hz0, hz1, hz2] at hsg
        rw [hz0, hz1, hz2]
        have h6 := HS5.out.graft3 hsg OE_own OI_own OI_own
        have HIC := qd (HIF.out w10 _ _ _ (by rw [← hy]; exact OE.read h6.hd) (show OwnInts 0 w10 _ K.i from h6.tl.hd).read (show OwnInts 0 w10 _ K.o from h6.tl.tl.hd).read)
        have HS6 := qd (Sep.blk (A := [_, _, _]) (B := [_]) (Sep.cutA (X := [_, _, _]) (A := [_, _, _, _, _, _, _, _]) h6))
        clear hsg h6 hy hz0 hz1 hz2)
      |(go_at_call 31
        with_reducible refine HIC.out.mono ?_
        rintro e w11 ⟨rfl, hg⟩
        have h7 := HS6.out.grown hg
        obtain ⟨y4, y5, y6, y7, k0, k1, k2, k3⟩ := gq4 h7.hd
        have hz := (((h7.setB 0 (.int .i64 0)).setB 1 (.slice none 0 0)).setB 2 (.slice none 0 0)).setB 3 (.slice none 0 0)
        obtain ⟨l0, l1, l2, l3, _⟩ := gq4 hz.hd
        have HSF := qd hz.tl
        clear h7 hz hg))
     refine bodyPost_ret_by (v := .tuple #[.agg #[.int .i64 0, .slice none 0 0, .slice none 0 0, .slice none 0 0], .bool false]) ?_ rfl (MadeR.zero (show w.grownBy _ none from HSF.out.tl.tl.tl.hd))
     simp [results, go_sem, *]
    ·go_wp2_with (first
      |(go_at_call 132
        with_reducible refine HCQ.out.mono ?_
        rintro e w10 ⟨u0, ys, u1, u2, rfl, hy, hsg⟩
        have HY := qd hy
        obtain ⟨s0_, r0_, rfl⟩ := OE.shape hsg.hd
        obtain ⟨s1_, r1_, rfl⟩ := own_shape (show OwnInts 0 _ u1 K.i from hsg.tl.hd)
        obtain ⟨s2_, r2_, rfl⟩ := own_shape (show OwnInts 0 _ u2 K.o from hsg.tl.tl.hd)
        obtain ⟨z0, hz0⟩ : ∃ q, ys.length = q := ⟨_, rfl⟩
        obtain ⟨z1, hz1⟩ : ∃ q, K.i.length = q := ⟨_, rfl⟩
        obtain ⟨z2, hz2⟩ : ∃ q, K.o.length = q := ⟨_, rfl⟩
        rw [hz0, hz1, hz2] at hsg
        rw [hz0, hz1, hz2]
        have h6 := HS5.out.graft3 hsg OE_own OI_own OI_own
        have HIC := qd (HIF.out w10 _ _ _ (by rw [← hy]; exact OE.read h6.hd) (show OwnInts 0 w10 _ K.i from h6.tl.hd).read (show OwnInts 0 w10 _ K.o from h6.tl.tl.hd).read)
        have HS6 := qd (Sep.blk (A := [_, _, _]) (B := [_]) (Sep.cutA (X := [_, _, _]) (A := [_, _, _, _, _, _, _, _]) h6))
        clear hsg h6 hy hz0 hz1 hz2)
      |(go_at_call 31
        with_reducible refine HIC.out.mono ?_
        rintro e w11 ⟨rfl, hg⟩
        have h7 := HS6.out.grown hg
        obtain ⟨y4, y5, y6, y7, k0, k1, k2, k3⟩ := gq4 h7.hd
        have hz := (((h7.setB 0 (.int .i64 K.n)).setB 1 (.slice s0_ z0 r0_)).setB 2 (.slice s1_ z1 r1_)).setB 3 (.slice s2_ z2 r2_)
        obtain ⟨l0, l1, l2, l3, _⟩ := gq4 hz.hd
        have HSF := qd hz.tl
        clear h7 hz hg))
     refine bodyPost_ret_by (v := .tuple #[.agg #[.int .i64 K.n, .slice s0_ z0 r0_, .slice s1_ z1 r1_, .slice s2_ z2 r2_], .bool true]) ?_ rfl ⟨_, ys, _, _, rfl, HY.out, HSF.out⟩
     simp [results, go_sem, *]
   ·subst hk
    have e3 : parG g1 g2 = K := (if_neg (by decide)).symm.trans HKK.out
    have hh1 := HOA.out rfl
    have hh2 := HOB.out rfl
    have HSQ := qd fun (W : World) u0 u1 u2 v0 v1 v2 (a1 : RdE edgeE W u0 g1.es) (a2 : IntsV W u1 g1.i) (a3 : IntsV W u2 g1.o) (a4 : RdE edgeE W v0 g2.es) (a5 : IntsV W v1 g2.i) (a6 : IntsV W v2 g2.o) => (show Calls _ _ _ W (OwnG K W) from e3 ▸ hgPar_any g1 g2 u0 u1 u2 v0 v1 v2 W a1 a2 a3 a4 a5 a6 hh1 hh2)
    obtain ⟨sm1, sm2, sm3⟩ := par_small hh1 hh2
    rw [e3] at sm1 sm2 sm3
    clear hh1 hh2 e3
    have HIF := qd fun (W : World) u0 u1 u2 (a1 : RdE edgeE W u0 K.es) (a2 : IntsV W u1 K.i) (a3 : IntsV W u2 K.o) => hgIf_any u0 u1 u2 K W a1 a2 a3 sm1 sm2 sm3
    rw [HBK.out] at HIF
    clear sm1 sm2 sm3
    unfold OwnG grV at HSQ
    unfold grV at HIF
    have HCQ := qd (HSQ.out w9 _ _ _ _ _ _ (by rw [← HE1.out]; exact OE.read HS5.out.tl.tl.tl.tl.tl.hd) (show OwnInts 0 w9 _ g1.i from HS5.out.tl.tl.tl.tl.tl.tl.hd).read (show OwnInts 0 w9 _ g1.o from HS5.out.tl.tl.tl.tl.tl.tl.tl.hd).read (by rw [← HE2.out]; exact OE.read HS5.out.tl.hd) (show OwnInts 0 w9 _ g2.i from HS5.out.tl.tl.hd).read (show OwnInts 0 w9 _ g2.o from HS5.out.tl.tl.tl.hd).read)
    obtain ⟨x0, x1, x2, x3, _⟩ := gq4 HS5.out.hd
    obtain ⟨y0, y1, y2, y3, _⟩ := gq4 HS5.out.tl.tl.tl.tl.hd
    clear HSQ HOA HOB HGL HSR
    cases bK
    ·simp only [Bool.false_eq_true, if_false, zgV] at HIF
     go_wp2_with (first
      |(go_at_call 133
        with_reducible refine HCQ.out.mono ?_
        rintro e w10 ⟨u0, ys, u1, u2, rfl, hy, hsg⟩
        have HY := qd hy
        obtain ⟨s0_, r0_, rfl⟩ := OE.shape hsg.hd
        obtain ⟨s1_, r1_, rfl⟩ := own_shape (show OwnInts 0 _ u1 K.i from hsg.tl.hd)
        obtain ⟨s2_, r2_, rfl⟩ := own_shape (show OwnInts 0 _ u2 K.o from hsg.tl.tl.hd)
        obtain ⟨z0, hz0⟩ : ∃ q, ys.length = q := ⟨_, rfl⟩
        obtain ⟨z1, hz1⟩ : ∃ q, K.i.length = q := ⟨_, rfl⟩
        obtain ⟨z2, hz2⟩ : ∃ q, K.o.length = q := ⟨_, rfl⟩
        rw [hz0, hz1, hz2] at hsg
        rw [hz0, hz1, hz2]
        have h6 := HS5.out.graft3 hsg OE_own OI_own OI_own
        have HIC := qd (HIF.out w10 _ _ _ (by rw [← hy]; exact OE.read h6.hd) (show OwnInts 0 w10 _ K.i from h6.tl.hd).read (show OwnInts 0 w10 _ K.o from h6.tl.tl.hd).read)
        have HS6 := qd (Sep.blk (A := [_, _, _]) (B := [_]) (Sep.cutA (X := [_, _, _]) (A := [_, _, _, _, _, _, _, _]) h6))
        clear hsg h6 hy hz0 hz1 hz2)
      |(go_at_call 31
        with_reducible refine HIC.out.mono ?_
        rintro e w11 ⟨rfl, hg⟩
        have h7 := HS6.out.grown hg
        obtain ⟨y4, y5, y6, y7, k0, k1, k2, k3⟩ := gq4 h7.hd
        have hz := (((h7.setB 0 (.int .i64 0)).setB 1 (.slice none 0 0)).setB 2 (.slice none 0 0)).setB 3 (.slice none 0 0)
        obtain ⟨l0, l1, l2, l3, _⟩ := gq4 hz.hd
        have HSF := qd hz.tl
        clear h7 hz hg))
     refine bodyPost_ret_by (v := .tuple #[.agg #[.int .i64 0, .slice none 0 0, .slice none 0 0, .slice none 0 0], .bool false]) ?_ rfl (MadeR.zero (show w.grownBy _ none from HSF.out.tl.tl.tl.hd))
     simp [results, go_sem, *]
    ·go_wp2_with (first
      |(go_at_call 133
        with_reducible refine HCQ.out.mono ?_
        rintro e w10 ⟨u0, ys, u1, u2, rfl, hy, hsg⟩
        have HY := qd hy
        obtain ⟨s0_, r0_, rfl⟩ := OE.shape hsg.hd
        obtain ⟨s1_, r1_, rfl⟩ := own_shape (show OwnInts 0 _ u1 K.i from hsg.tl.hd)
        obtain ⟨s2_, r2_, rfl⟩ := own_shape (show OwnInts 0 _ u2 K.o from hsg.tl.tl.hd)
        obtain ⟨z0, hz0⟩ : ∃ q, ys.length = q := ⟨_, rfl⟩
        obtain ⟨z1, hz1⟩ : ∃ q, K.i.length = q := ⟨_, rfl⟩
        obtain ⟨z2, hz2⟩ : ∃ q, K.o.length = q := ⟨_, rfl⟩
        rw [hz0, hz1, hz2] at hsg
        rw [hz0, hz1, hz2]
        have h6 := HS5.out.graft3 hsg OE_own OI_own OI_own
        have HIC := qd (HIF.out w10 _ _ _ (by rw [← hy]; exact OE.read h6.hd) (show OwnInts 0 w10 _ K.i from h6.tl.hd).read (show OwnInts 0 w10 _ K.o from h6.tl.tl.hd).read)
        have HS6 := qd (Sep.blk (A := [_, _, _]) (B := [_]) (Sep.cutA (X := [_, _, _]) (A := [_, _, _, _, _, _, _, _]) h6))
        clear hsg h6 hy hz0 hz1 hz2)
      |(go_at_call 31
        with_reducible refine HIC.out.mono ?_
        rintro e w11 ⟨rfl, hg⟩
        have h7 := HS6.out.grown hg
        obtain ⟨y4, y5, y6, y7, k0, k1, k2, k3⟩ := gq4 h7.hd
        have hz := (((h7.setB 0 (.int .i64 K.n)).setB 1 (.slice s0_ z0 r0_)).setB 2 (.slice s1_ z1 r1_)).setB 3 (.slice s2_ z2 r2_)
        obtain ⟨l0, l1, l2, l3, _⟩ := gq4 hz.hd
        have HSF := qd hz.tl
        clear h7 hz hg))
     refine bodyPost_ret_by (v := .tuple #[.agg #[.int .i64 K.n, .slice s0_ z0 r0_, .slice s1_ z1 r1_, .slice s2_ z2 r2_], .bool true]) ?_ rfl ⟨_, ys, _, _, rfl, HY.out, HSF.out⟩
     simp [results, go_sem, *]
theorem hgMade_any (t : Tr) : ∀ (na : Option Addr) (nc : Nat) (w : World), t.Ok → t.size ≤ 400 → RdR nodeE w (.slice na t.nodes.length nc) t.nodes → t.nodes.length ≤ nc →
 Calls Tryz.prog 100 #[.agg #[.slice na t.nodes.length nc]] w (MadeR t.gB t.g w) := by
 induction t with
 | leaf n => intro na nc w hok _ hn _; exact hgMade_leaf n na nc w hok hn
 | seq a b iha ihb =>
  intro na nc w hok hs hn hc
  obtain ⟨hA, hB, he⟩ := id hok
  have h1 := a.nodes_len; have h2 := b.nodes_len
  simp only [Tr.size] at hs
  have h := hgMade_two 15 (Or.inl rfl) a b na _ nc w hA hB (fun h1 h2 _ => Tr.seq_fit hok h1 h2) (by omega) (tmB_nodes hok (by simp only [Tr.size]; omega)) hn (by simp [Tr.nodes]; omega) hc (fun na nc w h h' => iha na nc w hA (by omega) h h') (fun na nc w h h' => ihb na nc w hB (by omega) h h') (fun h => (Tr.g_ok hA h).1) (fun h => (Tr.g_ok hB h).1)
  rw [if_pos rfl] at h
  exact h
 | par a b iha ihb =>
  intro na nc w hok hs hn hc
  obtain ⟨hA, hB, he⟩ := id hok
  have h1 := a.nodes_len; have h2 := b.nodes_len
  simp only [Tr.size] at hs
  have h := hgMade_two 16 (Or.inr rfl) a b na _ nc w hA hB (fun _ _ h => by cases h) (by omega) (tmB_nodes hok (by simp only [Tr.size]; omega)) hn (by simp [Tr.nodes]; omega) hc (fun na nc w h h' => iha na nc w hA (by omega) h h') (fun na nc w h h' => ihb na nc w hB (by omega) h h') (fun h => (Tr.g_ok hA h).1) (fun h => (Tr.g_ok hB h).1)
  rw [if_neg (by decide)] at h
  exact h
def OX3 (ev : Value) (xs : List XE) (iv : Value) (is : List Int) (ov : Value) (os : List Int) : Asrt := Bag [OE ev xs, OI iv is, OI ov os]
def RdX (w : World) (g : Gr) (ev iv ov : Value) : Prop := RdE edgeE w ev g.es ∧ IntsV w iv g.i ∧ IntsV w ov g.o
theorem OX3_own {ev : Value} {xs : List XE} {iv : Value} {is : List Int} {ov : Value} {os : List Int} : ∀ k, (OX3 ev xs iv is ov os).sees k → (OX3 ev xs iv is ov os).foot k := by
 rintro k ⟨A, hA, hk⟩
 refine ⟨A, hA, ?_⟩
 simp only [List.mem_cons, List.not_mem_nil, or_false] at hA
 rcases hA with rfl | rfl | rfl
 ·exact OE_own k hk
 ·exact hk
 ·exact hk
theorem OX3.read {w : World} {g : Gr} {ev : Value} {xs : List XE} {iv ov : Value} (h : (OX3 ev xs iv g.i ov g.o).holds w) (hx : eds xs = g.es) : RdX w g ev iv ov := by
 have hs : Sep w [OE ev xs, OI iv g.i, OI ov g.o] := h
 have he := OE.read hs.hd
 rw [hx] at he
 exact ⟨he, OwnInts.read (show OwnInts 0 w iv g.i from hs.tl.hd), OwnInts.read (show OwnInts 0 w ov g.o from hs.tl.tl.hd)⟩
def Gives3 (K : Gr) (w : World) (out : Value → Value) (e : Ending) (w' : World) : Prop :=
 ∃ a c p q r s xs, e = .returned (out (.agg #[.int .i64 K.n, .slice a K.es.length c, .slice p K.i.length q, .slice r K.o.length s])) ∧ eds xs = K.es ∧
  Sep w' [OX3 (.slice a K.es.length c) xs (.slice p K.i.length q) K.i (.slice r K.o.length s) K.o, KeepA w]
theorem gives3_of {K : Gr} {w w' : World} {out : Value → Value} {e : Ending} {u0 : Value} {xs : List XE} {u1 u2 : Value} (he : e = .returned (out (grV K.n u0 u1 u2))) (hx : eds xs = K.es) (hs : Sep w' [OE u0 xs, OI u1 K.i, OI u2 K.o, KeepA w]) : Gives3 K w out e w' := by
 obtain ⟨a, c, rfl⟩ := OE.shape hs.hd
 obtain ⟨p, q, rfl⟩ := own_shape (show OwnInts 0 w' u1 K.i from hs.tl.hd)
 obtain ⟨r, s, rfl⟩ := own_shape (show OwnInts 0 w' u2 K.o from hs.tl.tl.hd)
 have hl : xs.length = K.es.length := by rw [← hx, eds_len]
 rw [hl] at hs he
 exact ⟨a, c, p, q, r, s, xs, he, hx, Sep.bag (l := [_, _, _]) hs⟩
theorem toGraph_sh (g : Gr) (ev iv ov : Value) (w : World) (he : RdE argEdE w ev g.es) (hi : IntsV w iv g.i) (ho : IntsV w ov g.o) (ht : totG g ≤ 1048576) :
 Calls Tryz.prog 10 #[grV g.n ev iv ov] w (Gives3 g w id) := by
 have hsm := Sm.of ht
 refine (toGraph_any ev iv ov g w he hi ho (by have := hsm.es; omega) (by have := hsm.i; omega) (by have := hsm.o; omega) (fun e he => by have := hsm.ed e he; omega)).mono ?_
 rintro e w' ⟨u0, xs, u1, u2, rfl, hx, hs⟩
 exact gives3_of rfl hx hs
theorem eqGraph_sh (g : Gr) (w : World) (u0 u1 u2 v0 v1 v2 : Value) (h : RdX w g u0 u1 u2) (k : RdX w g v0 v1 v2) (ht : totG g ≤ 1048576) :
 Calls Tryz.prog 14 #[grV g.n u0 u1 u2, grV g.n v0 v1 v2] w fun e w' => e = .returned (.bool true) ∧ w.grownBy w' none := by
 have hsm := Sm.of ht
 exact eqGraph_same u0 u1 u2 v0 v1 v2 g w h.1 h.2.1 h.2.2 k.1 k.2.1 k.2.2 (by have := hsm.es; omega) (by have := hsm.i; omega) (by have := hsm.o; omega) (fun e he => by have := hsm.ed e he; omega)
def wX (g : Gr) : Nat := wEs g.es + g.i.length + g.o.length
def mkX3 (k : Int) (g : Gr) : Gr := ⟨g.n, mkEs k g.es, cntI (k + wEs g.es) g.i.length, cntI (k + wEs g.es + g.i.length) g.o.length⟩
theorem markGraph_sh (u0 u1 u2 : Value) (xs : List XE) (g : Gr) (k : Int) (w : World) (l : List Asrt) (hs : Sep w (OX3 u0 xs u1 g.i u2 g.o :: l)) (hx : eds xs = g.es) (hl : totG g ≤ 1048576) (h0 : 0 ≤ k) (h1 : k ≤ 1000000) :
 Calls Tryz.prog 17 #[grV g.n u0 u1 u2, .int .i64 k] w fun e w' => e = .returned (.int .i64 (k + wX g)) ∧ Sep w' (OX3 u0 (mkXs k xs) u1 (mkX3 k g).i u2 (mkX3 k g).o :: l) ∧ eds (mkXs k xs) = (mkX3 k g).es := by
 refine (markGraph_any u0 u1 u2 xs g k w l (Sep.unbag hs) hx hl h0 h1).mono ?_
 rintro e w' ⟨rfl, hsg⟩
 refine ⟨by unfold wX; rw [show (k + wEs g.es + g.i.length + g.o.length : Int) = k + ((wEs g.es + g.i.length + g.o.length : Nat) : Int) by omega], Sep.bag (l := [_, _, _]) hsg, ?_⟩
 rw [eds_mk, hx]
 rfl
theorem heldGraph_sh (u0 u1 u2 : Value) (g : Gr) (k : Int) (w : World) (h : RdX w (mkX3 k g) u0 u1 u2) (hl : totG g ≤ 1048576) (h0 : 0 ≤ k) (h1 : k ≤ 1000000) :
 Calls Tryz.prog 20 #[grV g.n u0 u1 u2, .int .i64 k] w fun e w' => e = .returned (.int .i64 (k + wX g)) ∧ w.grownBy w' none := by
 refine (heldGraph_any u0 u1 u2 g k w h.1 h.2.1 h.2.2 hl h0 h1).mono ?_
 rintro e w' ⟨rfl, hg⟩
 exact ⟨by unfold wX; rw [show (k + wEs g.es + g.i.length + g.o.length : Int) = k + ((wEs g.es + g.i.length + g.o.length : Nat) : Int) by omega], hg⟩
theorem grB_small {g : Gr} (h : grB g = true) : totG g ≤ 1048576 := by
 obtain ⟨m, hm, hm1, hg1, hg2, hg3, _, hle, _⟩ := grB_n h
 have he : ∀ e ∈ g.es, totE e ≤ 4 := fun e he => by
  have := hle e he
  unfold totE
  omega
 have ht : ∀ es : List Ed, (∀ e ∈ es, totE e ≤ 4) → totEs es ≤ 4 * es.length := fun es => by
  induction es with
  | nil => intro _; simp [totEs]
  | cons e es ih => intro h; have := ih (fun x hx => h x (by simp [hx])); have := h e (by simp); simp only [totEs, List.length_cons]; omega
 have := ht g.es he
 unfold totG
 omega
theorem want_yes {c A B : Prop} [Decidable c] (hc : c) (h : A) : if c then A else B := by rw [if_pos hc]; exact h
theorem want_no {c A B : Prop} [Decidable c] (hc : ¬ c) (h : B) : if c then A else B := by rw [if_neg hc]; exact h
section
variable {P : Program} {ops : Array Oper} {Q : Exit → Act → World → Prop} {md : Region.Mode} {Se Sa : World → Prop} {ap : Nat}
theorem AnyL.skip {i : Nat} {oi : Oper} {fuel : Nat} {listed : Array Bool} {a : Act} {w : World} {r : List Oper} (hi' : ops.toList.drop i = oi :: r)
 (hs : Region.noSelect ops = true) (hf : Region.free md ops listed i = true) (hr : (Region.ready md ops listed).contains i = true) (hia : (i == ap) = false)
 (hQ : ∀ c a w, Q (.panic c) (a.put oi.dst undef) w → Q (.panic c) a w) (hw : Region.wanted oi (yielded ops a.tmps) = false) (hS : Se w ∧ (listed.getD ap true = false → Sa w))
 (h : AnyL P md ops Q Se Sa ap fuel (listed.setIfInBounds i true) (a.put oi.dst undef) w) : AnyL P md ops Q Se Sa ap (fuel + 1) listed a w :=
 have hi := op_at hi'
 AnyL.first (C := Se) hi (Region.noSelect_spec hs) hQ (fun _ => True) (fun _ _ _ _ _ _ => trivial) (fun _ _ _ h _ => h) (by simpa using hia) fuel listed a w trivial (Region.free_spec hi hf) (by simpa using hr) (Or.inr ⟨hw, rfl⟩) hS.1 hS.2 h
end
theorem made_parts {b : Bool} {K : Gr} {w : World} {e : Ending} {w' : World} (h : MadeR b K w e w') : ∃ (G : Gr) (a1 b1 c1 : Option Addr) (s1 t1 u1 : Nat) (xs : List XE), G = (if b = true then K else gr0) ∧ e = .returned (.tuple #[.agg #[.int .i64 G.n, .slice a1 G.es.length s1, .slice b1 G.i.length t1, .slice c1 G.o.length u1], .bool b]) ∧ eds xs = G.es ∧
 Sep w' [OX3 (.slice a1 G.es.length s1) xs (.slice b1 G.i.length t1) G.i (.slice c1 G.o.length u1) G.o, KeepA w] := by
 obtain ⟨u0, xs, u1, u2, he, hx, hs⟩ := h
 generalize hG : (if b = true then K else gr0) = G at *
 obtain ⟨a, c, rfl⟩ := OE.shape hs.hd
 obtain ⟨p, q, rfl⟩ := own_shape (show OwnInts 0 w' u1 G.i from hs.tl.hd)
 obtain ⟨r, s, rfl⟩ := own_shape (show OwnInts 0 w' u2 G.o from hs.tl.tl.hd)
 have hl : xs.length = G.es.length := by rw [← hx, eds_len]
 rw [hl] at hs he
 exact ⟨G, a, p, r, c, q, s, xs, rfl, he, hx, Sep.bag (l := [_, _, _]) hs⟩
end Go.Proofs.YtjagjhchnpmngaaGreat

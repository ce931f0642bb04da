/-
  The graph of a valid term, in the reference. Conditions: the term is well made and not too long.
-/
import Derived.Test.YtjagjhchnpmngaaGreatDoorYx09
import Derived.Test.YtjagjhchnpmngaaGreatDoorBa07
import Derived.Test.YtjagjhchnpmngaaGreatDoorBa06
import Derived.Test.YtjagjhchnpmngaaGreatDoorYx00
import Derived.Test.YtjagjhchnpmngaaGreatDoorYx02
import Derived.Test.YtjagjhchnpmngaaGreatDoorYx03
import Derived.Test.YtjagjhchnpmngaaGreatDoorYx06
import Derived.Test.YtjagjhchnpmngaaGreatDoorYx07
namespace Go.Proofs.YtjagjhchnpmngaaGreatDoor
open Go.RowKit
set_option linter.unusedVariables false
set_option linter.unusedSimpArgs false
set_option maxRecDepth 100000

theorem tmB_nodes {t : Tr} (h : t.Ok) (hs : t.size ≤ 400) : tmB t.nodes = true := by
  unfold tmB
  have h1 := t.nodes_len
  have h2 := t.size_pos
  rw [decide_eq_true (by omega), Bool.true_and, h1, prun_nodes h]
theorem prun_two {A B : Tr} (x : Nd) (hA : A.Ok) (hB : B.Ok) : prun (A.nodes ++ (B.nodes ++ [x])) (A.size + B.size) = some [B, A] := by
  have hl : (A.nodes ++ (B.nodes ++ [x])).length = A.size + (B.size + 1) := by simp [Tr.nodes_len]
  have h1 := prun_tree (ns := A.nodes ++ (B.nodes ++ [x])) A 0 [] hA rfl (by omega) (fun j hj => by
    rw [Nat.zero_add, List.getD_eq_getElem?_getD, List.getD_eq_getElem?_getD, List.getElem?_append_left (by rw [Tr.nodes_len]; exact hj)])
  rw [Nat.zero_add] at h1
  refine prun_tree (ns := A.nodes ++ (B.nodes ++ [x])) B A.size [A] hB h1 (by omega) (fun j hj => ?_)
  rw [List.getD_eq_getElem?_getD, List.getD_eq_getElem?_getD, List.getElem?_append_right (by rw [Tr.nodes_len]; omega), Tr.nodes_len, Nat.add_sub_cancel_left, List.getElem?_append_left (by rw [Tr.nodes_len]; exact hj)]
theorem from_two {A B : Tr} (x : Nd) (hA : A.Ok) (hB : B.Ok) : (scF (A.nodes ++ (B.nodes ++ [x])) (A.nodes.length + B.nodes.length + 1)).getD (A.nodes.length + B.nodes.length - 1) 0 = (A.nodes.length : Int) := by
  have h1 := A.size_pos; have h2 := B.size_pos
  rw [Tr.nodes_len, Tr.nodes_len, scF_at (by omega), topA_eq (R := [A]) (by rw [show A.size + B.size - 1 + 1 = A.size + B.size by omega]; exact prun_two x hA hB)]
  omega
theorem ownR_room {α : Type} {E : Lay α} {B : Nat} {w : World} {a : Option Addr} {n c : Nat} {xs : List α} (h : OwnR E B w (.slice a n c) xs) : n ≤ c := by
  rcases h.2 with ⟨he, h0⟩ | ⟨g, cap, cur, he, _, _, hc, hr, _⟩
  · injection he with _ h1 h2; omega
  · injection he with _ h1 h2; subst h1 h2; omega
theorem lf_low {n : Nd} (h : lfB n = true) : n.k < 15 := by
  unfold lfB lfV at h
  rw [Bool.and_eq_true] at h
  have h2 := h.2
  by_cases h1 : n.k = 1
  · omega
  · rw [if_neg h1] at h2
    by_cases h4 : n.k = 2
    · omega
    · rw [if_neg h4, Bool.and_eq_true] at h2
      have := (inB_iff.1 h2.1).2
      omega
theorem seq_small {a b : Gr} (ha : grB a = true) (hb : grB b = true) : (seqG a b).es.length ≤ 2000000 ∧ (seqG a b).i.length ≤ 2000000 ∧ (seqG a b).o.length ≤ 2000000 := by
  obtain ⟨n, _, _, a1, a2, a3, _⟩ := grB_n ha
  obtain ⟨m, _, _, b1, b2, b3, _⟩ := grB_n hb
  have h := seq_lens a b
  refine ⟨?_, by omega, by omega⟩
  have e : (seqG a b).es.length = a.es.length + b.es.length := by simp [seqG, glueG, seqI, mapG]
  omega
theorem par_small {a b : Gr} (ha : grB a = true) (hb : grB b = true) : (parG a b).es.length ≤ 2000000 ∧ (parG a b).i.length ≤ 2000000 ∧ (parG a b).o.length ≤ 2000000 := by
  obtain ⟨n, _, _, a1, a2, a3, _⟩ := grB_n ha
  obtain ⟨m, _, _, b1, b2, b3, _⟩ := grB_n hb
  have h := par_lens a b
  refine ⟨?_, by omega, by omega⟩
  have e : (parG a b).es.length = a.es.length + b.es.length := by simp [parG]
  omega
theorem hgMade_leaf (x : Nd) (na : Option Addr) (nc : Nat) (w : World) (hx : lfB x = true) (hn : RdR nodeE w (.slice na 1 nc) [x]) :
    Calls Tryz.prog 18 #[.agg #[.slice na 1 nc]] w (MadeR true (leafG x) w) := by
  have HT := Lib.hid fun W (hW : w.grownBy W none) => tmTop_any _ _ W (hn.carry hW) (by simp) (by simp)
  rw [show (List.getD [x] ([x].length - 1) nd0).k = x.k from rfl] at HT
  have HL := Lib.hid fun W => hgLeaf_any x W hx
  have hk := lf_low hx
  have HN := Lib.hid hn
  unfold OwnG at HL
  unfold MadeR
  simp only [if_true]
  generalize leafG x = K at *
  obtain ⟨k, v, s⟩ := x
  simp only at HT HL hk
  have hs0 := ((Sep.start w).boxAt w.heap.size rfl #[.slice na 1 nc] 37).boxAt (w.heap.size + 1) (by simp) #[.int .i64 0, .slice none 0 0, .slice none 0 0, .slice none 0 0] 30
  have HS0 := Lib.hid hs0
  have x0 := bs1 hs0.tl.hd
  have HK0 := Lib.hid (show w.grownBy _ none from hs0.tl.tl.hd)
  clear hs0 hn hx
  go_enter Tryz.func18, Tryz.ntmps18
  go_upto_region 3 with (
    go_at_call 36
    with_reducible refine (HT.out _ HK0.out).mono ?_
    rintro e w3 ⟨rfl, hg⟩
    have HS1 := Lib.hid (HS0.out.grown hg)
    clear hg)
  clear x0
  have x0 := bs1 HS1.out.tl.hd
  obtain ⟨nb, no, rfl, _, q0, q1, q2⟩ := (HN.out.carry HS1.out.tl.tl.hd).node rfl rfl (i := 0) (by simp)
  simp only [Nat.zero_mul, Nat.add_zero, List.getD_cons_zero] at q0 q1 q2
  go_wp2_with (
    go_at_call 37
    with_reducible refine (HL.out _).mono ?_
    unfold grV
    rintro e w5 ⟨u0, ys, u1, u2, rfl, hy, hsg⟩
    have HY := Lib.hid hy
    obtain ⟨s0, r0, rfl⟩ := OE.shape hsg.hd
    obtain ⟨s1, r1, rfl⟩ := own_shape (show OwnInts 0 _ u1 K.i from hsg.tl.hd)
    obtain ⟨s2, r2, rfl⟩ := own_shape (show OwnInts 0 _ u2 K.o from hsg.tl.tl.hd)
    obtain ⟨z0, hz0⟩ : ∃ q, ys.length = q := ⟨_, rfl⟩
    obtain ⟨z1, hz1⟩ : ∃ q, K.i.length = q := ⟨_, rfl⟩
    obtain ⟨z2, hz2⟩ : ∃ q, K.o.length = q := ⟨_, rfl⟩
    rw [hz0, hz1, hz2] at hsg
    rw [hz0, hz1, hz2]
    have hs1 := Sep.blk (A := [_, _, _]) (B := [_]) (HS1.out.graft3 hsg OE_own OI_own OI_own)
    obtain ⟨p0, p1, p2, p3, p4, p5, p6, p7⟩ := gq4 hs1.hd
    have hs2 := (((hs1.setB 0 (.int .i64 K.n)).setB 1 (.slice s0 z0 r0)).setB 2 (.slice s1 z1 r1)).setB 3 (.slice s2 z2 r2)
    obtain ⟨l0, l1, l2, l3, _⟩ := gq4 hs2.hd
    have HSF := Lib.hid (Sep.cutA (X := [_, _, _]) (A := [_]) hs2.tl)
    clear hsg hs1 hs2 hy hz0 hz1 hz2 x0 q0 q1 q2)
  refine bodyPost_ret_by (v := .tuple #[.agg #[.int .i64 K.n, .slice s0 z0 r0, .slice s1 z1 r1, .slice s2 z2 r2], .bool true]) ?_ rfl ⟨_, ys, _, _, rfl, HY.out, HSF.out⟩
  simp [results, go_sem, *]
/-- What the recursive calls hand back, for the parts. -/
def MadeIH (T : Tr) (K : Gr) (b : Bool) : Prop := ∀ na nc w, RdR nodeE w (.slice na T.nodes.length nc) T.nodes → T.nodes.length ≤ nc → Calls Tryz.prog 18 #[.agg #[.slice na T.nodes.length nc]] w (MadeR b K w)
set_option maxHeartbeats 4000000 in
theorem hgMade_two (kd : Int) (hkd : kd = 15 ∨ kd = 16) (A B : Tr) (na : Option Addr) (nn nc : Nat) (w : World) (hA : A.Ok) (hB : B.Ok) (hg1 : A.gB = true → B.gB = true → kd = 15 → A.g.o.length = B.g.i.length) (hsz : A.nodes.length + B.nodes.length ≤ 1000) (htb : tmB (A.nodes ++ (B.nodes ++ [⟨kd, 0, noS⟩])) = true)
    (hn : RdR nodeE w (.slice na nn nc) (A.nodes ++ (B.nodes ++ [⟨kd, 0, noS⟩]))) (hnn : nn = A.nodes.length + B.nodes.length + 1) (hc : nn ≤ nc) (ihA : MadeIH A A.g A.gB) (ihB : MadeIH B B.g B.gB) (okA : A.gB = true → grB A.g = true) (okB : B.gB = true → grB B.g = true) :
    Calls Tryz.prog 18 #[.agg #[.slice na nn nc]] w (MadeR (A.gB && (B.gB && grB (if kd = 15 then seqG A.g B.g else parG A.g B.g))) (if kd = 15 then seqG A.g B.g else parG A.g B.g) w) := by
  have hpa := A.size_pos; have hpb := B.size_pos
  rw [← A.nodes_len] at hpa
  rw [← B.nodes_len] at hpb
  have hll : (A.nodes ++ (B.nodes ++ [(⟨kd, 0, noS⟩ : Nd)])).length = A.nodes.length + B.nodes.length + 1 := by rw [List.length_append, List.length_append]; simp; omega
  have HT := Lib.hid fun W (hW : w.grownBy W none) => tmTop_any _ _ W (hn.carry hW) (by rw [hll]; omega) (by rw [hll]; omega)
  rw [show ((A.nodes ++ (B.nodes ++ [(⟨kd, 0, noS⟩ : Nd)])).getD ((A.nodes ++ (B.nodes ++ [(⟨kd, 0, noS⟩ : Nd)])).length - 1) nd0).k = kd from by rw [hll, List.getD_eq_getElem?_getD, List.getElem?_append_right (by omega), List.getElem?_append_right (by omega), show A.nodes.length + B.nodes.length + 1 - 1 - A.nodes.length - B.nodes.length = 0 by omega]; rfl] at HT
  have HP := Lib.hid fun W (hW : w.grownBy W none) => tmParts_any na nn nc A.nodes B.nodes ⟨kd, 0, noS⟩ W (hn.carry hW) hc hpa hpb hsz htb (from_two _ hA hB)
  have HIA := Lib.hid ihA; have HIB := Lib.hid ihB
  unfold MadeIH MadeR grV at HIA HIB
  generalize A.nodes = nA at *
  generalize B.nodes = nB at *
  obtain ⟨K1, hK1⟩ : ∃ K, (if A.gB = true then A.g else gr0) = K := ⟨_, rfl⟩
  obtain ⟨K2, hK2⟩ : ∃ K, (if B.gB = true then B.g else gr0) = K := ⟨_, rfl⟩
  rw [hK1] at HIA
  rw [hK2] at HIB
  obtain ⟨g1, hG1⟩ : ∃ x, A.g = x := ⟨_, rfl⟩
  obtain ⟨g2, hG2⟩ : ∃ x, B.g = x := ⟨_, rfl⟩
  obtain ⟨b1, hb1⟩ : ∃ x, A.gB = x := ⟨_, rfl⟩
  obtain ⟨b2, hb2⟩ : ∃ x, B.gB = x := ⟨_, rfl⟩
  rw [hb1] at HIA
  rw [hb2] at HIB
  rw [hG1, hb1] at hK1 okA
  rw [hG2, hb2] at hK2 okB
  rw [hb1, hb2, hG1, hG2] at hg1
  rw [hb1, hb2, hG1, hG2]
  have HK1 := Lib.hid hK1; have HK2 := Lib.hid hK2; have HOA := Lib.hid okA; have HOB := Lib.hid okB; have HGL := Lib.hid hg1
  clear hK1 hK2 okA okB hg1 hG1 hG2 hb1 hb2 ihA ihB hA hB htb
  obtain ⟨la, hla⟩ : ∃ x, nA.length = x := ⟨_, rfl⟩
  obtain ⟨lb, hlb⟩ : ∃ x, nB.length = x := ⟨_, rfl⟩
  rw [hla] at HP HIA
  rw [hlb] at HP HIB
  have hk15 : ¬ kd < 15 := by omega
  have HKD := Lib.hid hkd
  obtain ⟨K, hK⟩ : ∃ K, (if kd = 15 then seqG g1 g2 else parG g1 g2) = K := ⟨_, rfl⟩
  rw [hK]
  obtain ⟨bK, hbK⟩ : ∃ b, grB K = b := ⟨_, rfl⟩
  rw [hbK]
  have HKK := Lib.hid hK; have HBK := Lib.hid hbK
  clear hK hbK
  have hs0 := ((Sep.start w).boxAt w.heap.size rfl #[.slice na nn nc] 37).boxAt (w.heap.size + 1) (by simp) #[.int .i64 0, .slice none 0 0, .slice none 0 0, .slice none 0 0] 30
  have HS0 := Lib.hid hs0
  have x0 := bs1 hs0.tl.hd
  have HK0 := Lib.hid (show w.grownBy _ none from hs0.tl.tl.hd)
  clear hs0 hn hnn hc hll hpa hpb hsz hla hlb hkd
  go_enter Tryz.func18, Tryz.ntmps18
  go_upto_region 4 with (
    go_at_call 36
    with_reducible refine (HT.out _ HK0.out).mono ?_
    rintro e w3 ⟨rfl, hg⟩
    have HS1 := Lib.hid (HS0.out.grown hg)
    clear hg)
  clear x0
  have x0 := bs1 HS1.out.tl.hd
  have HK1W := Lib.hid (show w.grownBy _ none from HS1.out.tl.tl.hd)
  clear hk15
  go_upto_region 5 with (
    go_at_call 38
    with_reducible refine (HP.out _ HK1W.out).mono ?_
    rintro e w4 ⟨ta, tc, ta2, tc2, rfl, hsg⟩
    have HS2 := Lib.hid (((HS1.out.graft2 hsg (fun _ h => h) (fun _ h => h)).boxAt w4.heap.size rfl #[.slice ta la tc] 37).boxAt (w4.heap.size + 1) (by simp) #[.slice ta2 lb tc2] 37)
    clear hsg x0)
  generalize (w4.alloc (.cells #[.slice ta la tc] 37)).alloc (.cells #[.slice ta2 lb tc2] 37) = w5 at *
  generalize w4.heap.size = tb at *
  have x0 := bs1 HS2.out.tl.hd
  have HC1 := Lib.hid (HIA.out ta tc w5 (OwnR.read (show OwnR nodeE 0 w5 _ nA from HS2.out.tl.tl.hd)) (ownR_room (show OwnR nodeE 0 w5 _ nA from HS2.out.tl.tl.hd)))
  go_upto_region 6 with (
    go_at_call 18
    with_reducible refine HC1.out.mono ?_
    rintro e w6 ⟨u0, xs1, u1, u2, rfl, hx, hsg⟩
    have HE1 := Lib.hid hx
    obtain ⟨r0, t0, rfl⟩ := OE.shape hsg.hd
    obtain ⟨r1, t1, rfl⟩ := own_shape (show OwnInts 0 _ u1 K1.i from hsg.tl.hd)
    obtain ⟨r2, t2, rfl⟩ := own_shape (show OwnInts 0 _ u2 K1.o from hsg.tl.tl.hd)
    obtain ⟨p0, hq0⟩ : ∃ q, xs1.length = q := ⟨_, rfl⟩
    obtain ⟨p1, hq1⟩ : ∃ q, K1.i.length = q := ⟨_, rfl⟩
    obtain ⟨p2, hq2⟩ : ∃ q, K1.o.length = q := ⟨_, rfl⟩
    rw [hq0, hq1, hq2] at hsg
    rw [hq0, hq1, hq2]
    have HS3 := Lib.hid ((HS2.out.graft3 hsg OE_own OI_own OI_own).boxAt w6.heap.size rfl #[.int .i64 K1.n, .slice r0 p0 t0, .slice r1 p1 t1, .slice r2 p2 t2] 30)
    clear hsg hq0 hq1 hq2 hx x0)
  generalize w6.alloc (.cells #[.int .i64 K1.n, .slice r0 p0 t0, .slice r1 p1 t1, .slice r2 p2 t2] 30) = w7 at *
  generalize w6.heap.size = gb at *
  have x0 := bs1 HS3.out.tl.tl.tl.tl.hd
  have HC2 := Lib.hid (HIB.out ta2 tc2 w7 (OwnR.read (show OwnR nodeE 0 w7 _ nB from HS3.out.tl.tl.tl.tl.tl.tl.tl.hd)) (ownR_room (show OwnR nodeE 0 w7 _ nB from HS3.out.tl.tl.tl.tl.tl.tl.tl.hd)))
  go_upto_region 7 with (
    go_at_call 18
    with_reducible refine HC2.out.mono ?_
    rintro e w8 ⟨u0, xs2, u1, u2, rfl, hx, hsg⟩
    have HE2 := Lib.hid hx
    obtain ⟨s0, f0, rfl⟩ := OE.shape hsg.hd
    obtain ⟨s1, f1, rfl⟩ := own_shape (show OwnInts 0 _ u1 K2.i from hsg.tl.hd)
    obtain ⟨s2, f2, rfl⟩ := own_shape (show OwnInts 0 _ u2 K2.o from hsg.tl.tl.hd)
    obtain ⟨d0, hq0⟩ : ∃ q, xs2.length = q := ⟨_, rfl⟩
    obtain ⟨d1, hq1⟩ : ∃ q, K2.i.length = q := ⟨_, rfl⟩
    obtain ⟨d2, hq2⟩ : ∃ q, K2.o.length = q := ⟨_, rfl⟩
    rw [hq0, hq1, hq2] at hsg
    rw [hq0, hq1, hq2]
    have HS4 := Lib.hid ((HS3.out.graft3 hsg OE_own OI_own OI_own).boxAt w8.heap.size rfl #[.int .i64 K2.n, .slice s0 d0 f0, .slice s1 d1 f1, .slice s2 d2 f2] 30)
    clear hsg hq0 hq1 hq2 hx x0)
  generalize w8.alloc (.cells #[.int .i64 K2.n, .slice s0 d0 f0, .slice s1 d1 f1, .slice s2 d2 f2] 30) = w9 at *
  generalize w8.heap.size = hb at *
  have HS5 := Lib.hid (Sep.cutA (X := [_, _, _, _, _, _, _, _, _]) (A := [_]) (Sep.cutA (X := [_, _, _, _, _, _, _, _]) (A := [_, _, _, _]) HS4.out))
  clear HS4 HS3 HS2 HC1 HC2 HIA HIB HT HP
  have HSR := Lib.hid (Sep.blk (A := [_, _, _, _, _, _, _, _]) (B := [_]) HS5.out)
  cases b1
  · obtain ⟨y0, y1, y2, y3, k0, k1, k2, k3⟩ := gq4 HSR.out.hd
    have hz := (((HSR.out.setB 0 (.int .i64 0)).setB 1 (.slice none 0 0)).setB 2 (.slice none 0 0)).setB 3 (.slice none 0 0)
    obtain ⟨l0, l1, l2, l3, _⟩ := gq4 hz.hd
    have HKF := Lib.hid (show w.grownBy _ none from Sep.all hz (KeepA w) (by simp))
    clear hz HSR HS5
    go_wp2_with fail
    refine bodyPost_ret_by (v := .tuple #[.agg #[.int .i64 0, .slice none 0 0, .slice none 0 0, .slice none 0 0], .bool false]) ?_ rfl (MadeR.zero HKF.out)
    simp [results, go_sem, *]
  · cases b2
    · obtain ⟨y0, y1, y2, y3, k0, k1, k2, k3⟩ := gq4 HSR.out.hd
      have hz := (((HSR.out.setB 0 (.int .i64 0)).setB 1 (.slice none 0 0)).setB 2 (.slice none 0 0)).setB 3 (.slice none 0 0)
      obtain ⟨l0, l1, l2, l3, _⟩ := gq4 hz.hd
      have HKF := Lib.hid (show w.grownBy _ none from Sep.all hz (KeepA w) (by simp))
      clear hz HSR HS5
      go_wp2_with fail
      refine bodyPost_ret_by (v := .tuple #[.agg #[.int .i64 0, .slice none 0 0, .slice none 0 0, .slice none 0 0], .bool false]) ?_ rfl (MadeR.zero HKF.out)
      simp [results, go_sem, *]
    · have e1 : g1 = K1 := HK1.out
      have e2 : g2 = K2 := HK2.out
      subst e1 e2
      rcases HKD.out with hk | hk
      · subst hk
        have e3 : seqG g1 g2 = K := (if_pos rfl).symm.trans HKK.out
        have hh1 := HOA.out rfl
        have hh2 := HOB.out rfl
        have HSQ := Lib.hid fun (W : World) u0 u1 u2 v0 v1 v2 (a1 : RdE edgeE W u0 g1.es) (a2 : IntsV W u1 g1.i) (a3 : IntsV W u2 g1.o) (a4 : RdE edgeE W v0 g2.es) (a5 : IntsV W v1 g2.i) (a6 : IntsV W v2 g2.o) => (show Calls _ _ _ W (OwnG K W) from e3 ▸ hgSeq_any g1 g2 u0 u1 u2 v0 v1 v2 W a1 a2 a3 a4 a5 a6 hh1 hh2 (HGL.out rfl rfl rfl))
        obtain ⟨sm1, sm2, sm3⟩ := seq_small hh1 hh2
        rw [e3] at sm1 sm2 sm3
        clear hh1 hh2 e3
        have HIF := Lib.hid fun (W : World) u0 u1 u2 (a1 : RdE edgeE W u0 K.es) (a2 : IntsV W u1 K.i) (a3 : IntsV W u2 K.o) => hgIf_any u0 u1 u2 K W a1 a2 a3 sm1 sm2 sm3
        rw [HBK.out] at HIF
        clear sm1 sm2 sm3
        unfold OwnG grV at HSQ
        unfold grV at HIF
        have HCQ := Lib.hid (HSQ.out w9 _ _ _ _ _ _ (by rw [← HE1.out]; exact OE.read HS5.out.tl.tl.tl.tl.tl.hd) (show OwnInts 0 w9 _ g1.i from HS5.out.tl.tl.tl.tl.tl.tl.hd).read (show OwnInts 0 w9 _ g1.o from HS5.out.tl.tl.tl.tl.tl.tl.tl.hd).read (by rw [← HE2.out]; exact OE.read HS5.out.tl.hd) (show OwnInts 0 w9 _ g2.i from HS5.out.tl.tl.hd).read (show OwnInts 0 w9 _ g2.o from HS5.out.tl.tl.tl.hd).read)
        obtain ⟨x0, x1, x2, x3, _⟩ := gq4 HS5.out.hd
        obtain ⟨y0, y1, y2, y3, _⟩ := gq4 HS5.out.tl.tl.tl.tl.hd
        clear HSQ HOA HOB HGL HSR
        cases bK
        · simp only [Bool.false_eq_true, if_false, zgV] at HIF
          go_wp2_with (first
            | (go_at_call 40
               with_reducible refine HCQ.out.mono ?_
               rintro e w10 ⟨u0, ys, u1, u2, rfl, hy, hsg⟩
               have HY := Lib.hid hy
               obtain ⟨s0_, r0_, rfl⟩ := OE.shape hsg.hd
               obtain ⟨s1_, r1_, rfl⟩ := own_shape (show OwnInts 0 _ u1 K.i from hsg.tl.hd)
               obtain ⟨s2_, r2_, rfl⟩ := own_shape (show OwnInts 0 _ u2 K.o from hsg.tl.tl.hd)
               obtain ⟨z0, hz0⟩ : ∃ q, ys.length = q := ⟨_, rfl⟩
               obtain ⟨z1, hz1⟩ : ∃ q, K.i.length = q := ⟨_, rfl⟩
               obtain ⟨z2, hz2⟩ : ∃ q, K.o.length = q := ⟨_, rfl⟩
               rw [hz0, hz1, hz2] at hsg
               rw [hz0, hz1, hz2]
               have h6 := HS5.out.graft3 hsg OE_own OI_own OI_own
               have HIC := Lib.hid (HIF.out w10 _ _ _ (by rw [← hy]; exact OE.read h6.hd) (show OwnInts 0 w10 _ K.i from h6.tl.hd).read (show OwnInts 0 w10 _ K.o from h6.tl.tl.hd).read)
               have HS6 := Lib.hid (Sep.blk (A := [_, _, _]) (B := [_]) (Sep.cutA (X := [_, _, _]) (A := [_, _, _, _, _, _, _, _]) h6))
               clear hsg h6 hy hz0 hz1 hz2)
            | (go_at_call 39
               with_reducible refine HIC.out.mono ?_
               rintro e w11 ⟨rfl, hg⟩
               have h7 := HS6.out.grown hg
               obtain ⟨y4, y5, y6, y7, k0, k1, k2, k3⟩ := gq4 h7.hd
               have hz := (((h7.setB 0 (.int .i64 0)).setB 1 (.slice none 0 0)).setB 2 (.slice none 0 0)).setB 3 (.slice none 0 0)
               obtain ⟨l0, l1, l2, l3, _⟩ := gq4 hz.hd
               have HSF := Lib.hid hz.tl
               clear h7 hz hg))
          refine bodyPost_ret_by (v := .tuple #[.agg #[.int .i64 0, .slice none 0 0, .slice none 0 0, .slice none 0 0], .bool false]) ?_ rfl (MadeR.zero (show w.grownBy _ none from HSF.out.tl.tl.tl.hd))
          simp [results, go_sem, *]
        · go_wp2_with (first
            | (go_at_call 40
               with_reducible refine HCQ.out.mono ?_
               rintro e w10 ⟨u0, ys, u1, u2, rfl, hy, hsg⟩
               have HY := Lib.hid hy
               obtain ⟨s0_, r0_, rfl⟩ := OE.shape hsg.hd
               obtain ⟨s1_, r1_, rfl⟩ := own_shape (show OwnInts 0 _ u1 K.i from hsg.tl.hd)
               obtain ⟨s2_, r2_, rfl⟩ := own_shape (show OwnInts 0 _ u2 K.o from hsg.tl.tl.hd)
               obtain ⟨z0, hz0⟩ : ∃ q, ys.length = q := ⟨_, rfl⟩
               obtain ⟨z1, hz1⟩ : ∃ q, K.i.length = q := ⟨_, rfl⟩
               obtain ⟨z2, hz2⟩ : ∃ q, K.o.length = q := ⟨_, rfl⟩
               rw [hz0, hz1, hz2] at hsg
               rw [hz0, hz1, hz2]
               have h6 := HS5.out.graft3 hsg OE_own OI_own OI_own
               have HIC := Lib.hid (HIF.out w10 _ _ _ (by rw [← hy]; exact OE.read h6.hd) (show OwnInts 0 w10 _ K.i from h6.tl.hd).read (show OwnInts 0 w10 _ K.o from h6.tl.tl.hd).read)
               have HS6 := Lib.hid (Sep.blk (A := [_, _, _]) (B := [_]) (Sep.cutA (X := [_, _, _]) (A := [_, _, _, _, _, _, _, _]) h6))
               clear hsg h6 hy hz0 hz1 hz2)
            | (go_at_call 39
               with_reducible refine HIC.out.mono ?_
               rintro e w11 ⟨rfl, hg⟩
               have h7 := HS6.out.grown hg
               obtain ⟨y4, y5, y6, y7, k0, k1, k2, k3⟩ := gq4 h7.hd
               have hz := (((h7.setB 0 (.int .i64 K.n)).setB 1 (.slice s0_ z0 r0_)).setB 2 (.slice s1_ z1 r1_)).setB 3 (.slice s2_ z2 r2_)
               obtain ⟨l0, l1, l2, l3, _⟩ := gq4 hz.hd
               have HSF := Lib.hid hz.tl
               clear h7 hz hg))
          refine bodyPost_ret_by (v := .tuple #[.agg #[.int .i64 K.n, .slice s0_ z0 r0_, .slice s1_ z1 r1_, .slice s2_ z2 r2_], .bool true]) ?_ rfl ⟨_, ys, _, _, rfl, HY.out, HSF.out⟩
          simp [results, go_sem, *]
      · subst hk
        have e3 : parG g1 g2 = K := (if_neg (by decide)).symm.trans HKK.out
        have hh1 := HOA.out rfl
        have hh2 := HOB.out rfl
        have HSQ := Lib.hid fun (W : World) u0 u1 u2 v0 v1 v2 (a1 : RdE edgeE W u0 g1.es) (a2 : IntsV W u1 g1.i) (a3 : IntsV W u2 g1.o) (a4 : RdE edgeE W v0 g2.es) (a5 : IntsV W v1 g2.i) (a6 : IntsV W v2 g2.o) => (show Calls _ _ _ W (OwnG K W) from e3 ▸ hgPar_any g1 g2 u0 u1 u2 v0 v1 v2 W a1 a2 a3 a4 a5 a6 hh1 hh2)
        obtain ⟨sm1, sm2, sm3⟩ := par_small hh1 hh2
        rw [e3] at sm1 sm2 sm3
        clear hh1 hh2 e3
        have HIF := Lib.hid fun (W : World) u0 u1 u2 (a1 : RdE edgeE W u0 K.es) (a2 : IntsV W u1 K.i) (a3 : IntsV W u2 K.o) => hgIf_any u0 u1 u2 K W a1 a2 a3 sm1 sm2 sm3
        rw [HBK.out] at HIF
        clear sm1 sm2 sm3
        unfold OwnG grV at HSQ
        unfold grV at HIF
        have HCQ := Lib.hid (HSQ.out w9 _ _ _ _ _ _ (by rw [← HE1.out]; exact OE.read HS5.out.tl.tl.tl.tl.tl.hd) (show OwnInts 0 w9 _ g1.i from HS5.out.tl.tl.tl.tl.tl.tl.hd).read (show OwnInts 0 w9 _ g1.o from HS5.out.tl.tl.tl.tl.tl.tl.tl.hd).read (by rw [← HE2.out]; exact OE.read HS5.out.tl.hd) (show OwnInts 0 w9 _ g2.i from HS5.out.tl.tl.hd).read (show OwnInts 0 w9 _ g2.o from HS5.out.tl.tl.tl.hd).read)
        obtain ⟨x0, x1, x2, x3, _⟩ := gq4 HS5.out.hd
        obtain ⟨y0, y1, y2, y3, _⟩ := gq4 HS5.out.tl.tl.tl.tl.hd
        clear HSQ HOA HOB HGL HSR
        cases bK
        · simp only [Bool.false_eq_true, if_false, zgV] at HIF
          go_wp2_with (first
            | (go_at_call 41
               with_reducible refine HCQ.out.mono ?_
               rintro e w10 ⟨u0, ys, u1, u2, rfl, hy, hsg⟩
               have HY := Lib.hid hy
               obtain ⟨s0_, r0_, rfl⟩ := OE.shape hsg.hd
               obtain ⟨s1_, r1_, rfl⟩ := own_shape (show OwnInts 0 _ u1 K.i from hsg.tl.hd)
               obtain ⟨s2_, r2_, rfl⟩ := own_shape (show OwnInts 0 _ u2 K.o from hsg.tl.tl.hd)
               obtain ⟨z0, hz0⟩ : ∃ q, ys.length = q := ⟨_, rfl⟩
               obtain ⟨z1, hz1⟩ : ∃ q, K.i.length = q := ⟨_, rfl⟩
               obtain ⟨z2, hz2⟩ : ∃ q, K.o.length = q := ⟨_, rfl⟩
               rw [hz0, hz1, hz2] at hsg
               rw [hz0, hz1, hz2]
               have h6 := HS5.out.graft3 hsg OE_own OI_own OI_own
               have HIC := Lib.hid (HIF.out w10 _ _ _ (by rw [← hy]; exact OE.read h6.hd) (show OwnInts 0 w10 _ K.i from h6.tl.hd).read (show OwnInts 0 w10 _ K.o from h6.tl.tl.hd).read)
               have HS6 := Lib.hid (Sep.blk (A := [_, _, _]) (B := [_]) (Sep.cutA (X := [_, _, _]) (A := [_, _, _, _, _, _, _, _]) h6))
               clear hsg h6 hy hz0 hz1 hz2)
            | (go_at_call 39
               with_reducible refine HIC.out.mono ?_
               rintro e w11 ⟨rfl, hg⟩
               have h7 := HS6.out.grown hg
               obtain ⟨y4, y5, y6, y7, k0, k1, k2, k3⟩ := gq4 h7.hd
               have hz := (((h7.setB 0 (.int .i64 0)).setB 1 (.slice none 0 0)).setB 2 (.slice none 0 0)).setB 3 (.slice none 0 0)
               obtain ⟨l0, l1, l2, l3, _⟩ := gq4 hz.hd
               have HSF := Lib.hid hz.tl
               clear h7 hz hg))
          refine bodyPost_ret_by (v := .tuple #[.agg #[.int .i64 0, .slice none 0 0, .slice none 0 0, .slice none 0 0], .bool false]) ?_ rfl (MadeR.zero (show w.grownBy _ none from HSF.out.tl.tl.tl.hd))
          simp [results, go_sem, *]
        · go_wp2_with (first
            | (go_at_call 41
               with_reducible refine HCQ.out.mono ?_
               rintro e w10 ⟨u0, ys, u1, u2, rfl, hy, hsg⟩
               have HY := Lib.hid hy
               obtain ⟨s0_, r0_, rfl⟩ := OE.shape hsg.hd
               obtain ⟨s1_, r1_, rfl⟩ := own_shape (show OwnInts 0 _ u1 K.i from hsg.tl.hd)
               obtain ⟨s2_, r2_, rfl⟩ := own_shape (show OwnInts 0 _ u2 K.o from hsg.tl.tl.hd)
               obtain ⟨z0, hz0⟩ : ∃ q, ys.length = q := ⟨_, rfl⟩
               obtain ⟨z1, hz1⟩ : ∃ q, K.i.length = q := ⟨_, rfl⟩
               obtain ⟨z2, hz2⟩ : ∃ q, K.o.length = q := ⟨_, rfl⟩
               rw [hz0, hz1, hz2] at hsg
               rw [hz0, hz1, hz2]
               have h6 := HS5.out.graft3 hsg OE_own OI_own OI_own
               have HIC := Lib.hid (HIF.out w10 _ _ _ (by rw [← hy]; exact OE.read h6.hd) (show OwnInts 0 w10 _ K.i from h6.tl.hd).read (show OwnInts 0 w10 _ K.o from h6.tl.tl.hd).read)
               have HS6 := Lib.hid (Sep.blk (A := [_, _, _]) (B := [_]) (Sep.cutA (X := [_, _, _]) (A := [_, _, _, _, _, _, _, _]) h6))
               clear hsg h6 hy hz0 hz1 hz2)
            | (go_at_call 39
               with_reducible refine HIC.out.mono ?_
               rintro e w11 ⟨rfl, hg⟩
               have h7 := HS6.out.grown hg
               obtain ⟨y4, y5, y6, y7, k0, k1, k2, k3⟩ := gq4 h7.hd
               have hz := (((h7.setB 0 (.int .i64 K.n)).setB 1 (.slice s0_ z0 r0_)).setB 2 (.slice s1_ z1 r1_)).setB 3 (.slice s2_ z2 r2_)
               obtain ⟨l0, l1, l2, l3, _⟩ := gq4 hz.hd
               have HSF := Lib.hid hz.tl
               clear h7 hz hg))
          refine bodyPost_ret_by (v := .tuple #[.agg #[.int .i64 K.n, .slice s0_ z0 r0_, .slice s1_ z1 r1_, .slice s2_ z2 r2_], .bool true]) ?_ rfl ⟨_, ys, _, _, rfl, HY.out, HSF.out⟩
          simp [results, go_sem, *]
end Go.Proofs.YtjagjhchnpmngaaGreatDoor

/-
  The graph of every valid term, in the reference. Conditions: the term is well made and not too long.
-/
namespace Go.Proofs.YtjagjhchnpmngaaGreatDoor
open Go.RowKit
set_option linter.unusedVariables false
set_option maxRecDepth 100000

theorem hgMade_any (t : Tr) : ∀ (na : Option Addr) (nc : Nat) (w : World), t.Ok → t.size ≤ 400 → RdR nodeE w (.slice na t.nodes.length nc) t.nodes → t.nodes.length ≤ nc →
    Calls Tryz.prog 18 #[.agg #[.slice na t.nodes.length nc]] w (MadeR t.gB t.g w) := by
  induction t with
  | leaf n => intro na nc w hok _ hn _; exact hgMade_leaf n na nc w hok hn
  | seq a b iha ihb =>
    intro na nc w hok hs hn hc
    obtain ⟨hA, hB, he⟩ := id hok
    have h1 := a.nodes_len; have h2 := b.nodes_len
    simp only [Tr.size] at hs
    have h := hgMade_two 15 (Or.inl rfl) a b na _ nc w hA hB (fun h1 h2 _ => Tr.seq_fit hok h1 h2) (by omega) (tmB_nodes hok (by simp only [Tr.size]; omega)) hn (by simp [Tr.nodes]; omega) hc (fun na nc w h h' => iha na nc w hA (by omega) h h') (fun na nc w h h' => ihb na nc w hB (by omega) h h') (fun h => (Tr.g_ok hA h).1) (fun h => (Tr.g_ok hB h).1)
    rw [if_pos rfl] at h
    exact h
  | par a b iha ihb =>
    intro na nc w hok hs hn hc
    obtain ⟨hA, hB, he⟩ := id hok
    have h1 := a.nodes_len; have h2 := b.nodes_len
    simp only [Tr.size] at hs
    have h := hgMade_two 16 (Or.inr rfl) a b na _ nc w hA hB (fun _ _ h => by cases h) (by omega) (tmB_nodes hok (by simp only [Tr.size]; omega)) hn (by simp [Tr.nodes]; omega) hc (fun na nc w h h' => iha na nc w hA (by omega) h h') (fun na nc w h h' => ihb na nc w hB (by omega) h h') (fun h => (Tr.g_ok hA h).1) (fun h => (Tr.g_ok hB h).1)
    rw [if_neg (by decide)] at h
    exact h
end Go.Proofs.YtjagjhchnpmngaaGreatDoor

/-
  One graph as one part of memory; what the exact laws ask of it. Conditions: lists are small.
-/
namespace Go.Proofs.YtjagjhchnpmngaaGreatDoor
open Go.RowKit
set_option linter.unusedVariables false
set_option maxRecDepth 100000

/-- A graph that is the call's own. -/
def OX3 (ev : Value) (xs : List XE) (iv : Value) (is : List Int) (ov : Value) (os : List Int) : Asrt := Bag [OE ev xs, OI iv is, OI ov os]
/-- A graph that can be read. -/
def RdX (w : World) (g : Gr) (ev iv ov : Value) : Prop := RdE edgeE w ev g.es ∧ IntsV w iv g.i ∧ IntsV w ov g.o
theorem OX3_own {ev : Value} {xs : List XE} {iv : Value} {is : List Int} {ov : Value} {os : List Int} : ∀ k, (OX3 ev xs iv is ov os).sees k → (OX3 ev xs iv is ov os).foot k := by
  rintro k ⟨A, hA, hk⟩
  refine ⟨A, hA, ?_⟩
  simp only [List.mem_cons, List.not_mem_nil, or_false] at hA
  rcases hA with rfl | rfl | rfl
  · exact OE_own k hk
  · exact hk
  · exact hk
theorem OX3.read {w : World} {g : Gr} {ev : Value} {xs : List XE} {iv ov : Value} (h : (OX3 ev xs iv g.i ov g.o).holds w) (hx : eds xs = g.es) : RdX w g ev iv ov := by
  have hs : Sep w [OE ev xs, OI iv g.i, OI ov g.o] := h
  have he := OE.read hs.hd
  rw [hx] at he
  exact ⟨he, OwnInts.read (show OwnInts 0 w iv g.i from hs.tl.hd), OwnInts.read (show OwnInts 0 w ov g.o from hs.tl.tl.hd)⟩
/-- What hands back a graph of its own, told by the slices. -/
def Gives3 (K : Gr) (w : World) (out : Value → Value) (e : Ending) (w' : World) : Prop :=
  ∃ a c p q r s xs, e = .returned (out (.agg #[.int .i64 K.n, .slice a K.es.length c, .slice p K.i.length q, .slice r K.o.length s])) ∧ eds xs = K.es ∧
    Sep w' [OX3 (.slice a K.es.length c) xs (.slice p K.i.length q) K.i (.slice r K.o.length s) K.o, KeepA w]
theorem gives3_of {K : Gr} {w w' : World} {out : Value → Value} {e : Ending} {u0 : Value} {xs : List XE} {u1 u2 : Value} (he : e = .returned (out (grV K.n u0 u1 u2))) (hx : eds xs = K.es) (hs : Sep w' [OE u0 xs, OI u1 K.i, OI u2 K.o, KeepA w]) : Gives3 K w out e w' := by
  obtain ⟨a, c, rfl⟩ := OE.shape hs.hd
  obtain ⟨p, q, rfl⟩ := own_shape (show OwnInts 0 w' u1 K.i from hs.tl.hd)
  obtain ⟨r, s, rfl⟩ := own_shape (show OwnInts 0 w' u2 K.o from hs.tl.tl.hd)
  have hl : xs.length = K.es.length := by rw [← hx, eds_len]
  rw [hl] at hs he
  exact ⟨a, c, p, q, r, s, xs, he, hx, Sep.bag (l := [_, _, _]) hs⟩
theorem eqGraph_sh (g : Gr) (w : World) (u0 u1 u2 v0 v1 v2 : Value) (h : RdX w g u0 u1 u2) (k : RdX w g v0 v1 v2) (ht : totG g ≤ 1048576) :
    Calls Tryz.prog 24 #[grV g.n u0 u1 u2, grV g.n v0 v1 v2] w fun e w' => e = .returned (.bool true) ∧ w.grownBy w' none := by
  have hsm := Sm.of ht
  exact eqGraph_same u0 u1 u2 v0 v1 v2 g w h.1 h.2.1 h.2.2 k.1 k.2.1 k.2.2 (by have := hsm.es; omega) (by have := hsm.i; omega) (by have := hsm.o; omega) (fun e he => by have := hsm.ed e he; omega)
/-- How far a graph counts. -/
def wX (g : Gr) : Nat := wEs g.es + g.i.length + g.o.length
/-- A graph whose numbers are marks from k on. -/
def mkX3 (k : Int) (g : Gr) : Gr := ⟨g.n, mkEs k g.es, cntI (k + wEs g.es) g.i.length, cntI (k + wEs g.es + g.i.length) g.o.length⟩
theorem markGraph_sh (u0 u1 u2 : Value) (xs : List XE) (g : Gr) (k : Int) (w : World) (l : List Asrt) (hs : Sep w (OX3 u0 xs u1 g.i u2 g.o :: l)) (hx : eds xs = g.es) (hl : totG g ≤ 1048576) (h0 : 0 ≤ k) (h1 : k ≤ 1000000) :
    Calls Tryz.prog 28 #[grV g.n u0 u1 u2, .int .i64 k] w fun e w' => e = .returned (.int .i64 (k + wX g)) ∧ Sep w' (OX3 u0 (mkXs k xs) u1 (mkX3 k g).i u2 (mkX3 k g).o :: l) ∧ eds (mkXs k xs) = (mkX3 k g).es := by
  refine (markGraph_any u0 u1 u2 xs g k w l (Sep.unbag hs) hx hl h0 h1).mono ?_
  rintro e w' ⟨rfl, hsg⟩
  refine ⟨by unfold wX; rw [show (k + wEs g.es + g.i.length + g.o.length : Int) = k + ((wEs g.es + g.i.length + g.o.length : Nat) : Int) by omega], Sep.bag (l := [_, _, _]) hsg, ?_⟩
  rw [eds_mk, hx]
  rfl
theorem heldGraph_sh (u0 u1 u2 : Value) (g : Gr) (k : Int) (w : World) (h : RdX w (mkX3 k g) u0 u1 u2) (hl : totG g ≤ 1048576) (h0 : 0 ≤ k) (h1 : k ≤ 1000000) :
    Calls Tryz.prog 30 #[grV g.n u0 u1 u2, .int .i64 k] w fun e w' => e = .returned (.int .i64 (k + wX g)) ∧ w.grownBy w' none := by
  refine (heldGraph_any u0 u1 u2 g k w h.1 h.2.1 h.2.2 hl h0 h1).mono ?_
  rintro e w' ⟨rfl, hg⟩
  exact ⟨by unfold wX; rw [show (k + wEs g.es + g.i.length + g.o.length : Int) = k + ((wEs g.es + g.i.length + g.o.length : Nat) : Int) by omega], hg⟩
/-- A valid graph is small. -/
theorem grB_small {g : Gr} (h : grB g = true) : totG g ≤ 1048576 := by
  obtain ⟨m, hm, hm1, hg1, hg2, hg3, _, hle, _⟩ := grB_n h
  have he : ∀ e ∈ g.es, totE e ≤ 4 := fun e he => by
    have := hle e he
    unfold totE
    omega
  have ht : ∀ es : List Ed, (∀ e ∈ es, totE e ≤ 4) → totEs es ≤ 4 * es.length := fun es => by
    induction es with
    | nil => intro _; simp [totEs]
    | cons e es ih => intro h; have := ih (fun x hx => h x (by simp [hx])); have := h e (by simp); simp only [totEs, List.length_cons]; omega
  have := ht g.es he
  unfold totG
  omega
end Go.Proofs.YtjagjhchnpmngaaGreatDoor

/-
  Sessions without past and future: what StartSession answers; the laws' helpers on them. Conditions: graphs are small.
-/
namespace Go.Proofs.YtjagjhchnpmngaaGreatDoor
open Go.RowKit
set_option linter.unusedVariables false
set_option maxRecDepth 100000

theorem cq13 {w : World} {k : Nat} {x0 x1 x2 x3 x4 x5 x6 x7 x8 x9 x10 x11 x12 : Value} {t : TypeId} (h : w.heap[k]? = some (.cells #[x0, x1, x2, x3, x4, x5, x6, x7, x8, x9, x10, x11, x12] t (0, 0))) :
    w.cell? ⟨k, 0, none⟩ = some x0 ∧ w.cell? ⟨k, 1, none⟩ = some x1 ∧ w.cell? ⟨k, 2, none⟩ = some x2 ∧ w.cell? ⟨k, 3, none⟩ = some x3 ∧ w.cell? ⟨k, 4, none⟩ = some x4 ∧ w.cell? ⟨k, 5, none⟩ = some x5 ∧ w.cell? ⟨k, 6, none⟩ = some x6 ∧ w.cell? ⟨k, 7, none⟩ = some x7 ∧ w.cell? ⟨k, 8, none⟩ = some x8 ∧ w.cell? ⟨k, 9, none⟩ = some x9 ∧ w.cell? ⟨k, 10, none⟩ = some x10 ∧ w.cell? ⟨k, 11, none⟩ = some x11 ∧ w.cell? ⟨k, 12, none⟩ = some x12 :=
  ⟨cell_of_row w k 0 _ _ _ h, cell_of_row w k 1 _ _ _ h, cell_of_row w k 2 _ _ _ h, cell_of_row w k 3 _ _ _ h, cell_of_row w k 4 _ _ _ h, cell_of_row w k 5 _ _ _ h, cell_of_row w k 6 _ _ _ h, cell_of_row w k 7 _ _ _ h, cell_of_row w k 8 _ _ _ h, cell_of_row w k 9 _ _ _ h, cell_of_row w k 10 _ _ _ h, cell_of_row w k 11 _ _ _ h, cell_of_row w k 12 _ _ _ h⟩
theorem cf13 {w : World} {k : Nat} {x0 x1 x2 x3 x4 x5 x6 x7 x8 x9 x10 x11 x12 : Value} {t : TypeId} (h : w.heap[k]? = some (.cells #[x0, x1, x2, x3, x4, x5, x6, x7, x8, x9, x10, x11, x12] t (0, 0))) :
    w.frozen? ⟨k, 0, none⟩ = false ∧ w.frozen? ⟨k, 1, none⟩ = false ∧ w.frozen? ⟨k, 2, none⟩ = false ∧ w.frozen? ⟨k, 3, none⟩ = false ∧ w.frozen? ⟨k, 4, none⟩ = false ∧ w.frozen? ⟨k, 5, none⟩ = false ∧ w.frozen? ⟨k, 6, none⟩ = false ∧ w.frozen? ⟨k, 7, none⟩ = false ∧ w.frozen? ⟨k, 8, none⟩ = false ∧ w.frozen? ⟨k, 9, none⟩ = false ∧ w.frozen? ⟨k, 10, none⟩ = false ∧ w.frozen? ⟨k, 11, none⟩ = false ∧ w.frozen? ⟨k, 12, none⟩ = false :=
  ⟨frozen_of_row w k 0 _ _ h, frozen_of_row w k 1 _ _ h, frozen_of_row w k 2 _ _ h, frozen_of_row w k 3 _ _ h, frozen_of_row w k 4 _ _ h, frozen_of_row w k 5 _ _ h, frozen_of_row w k 6 _ _ h, frozen_of_row w k 7 _ _ h, frozen_of_row w k 8 _ _ h, frozen_of_row w k 9 _ _ h, frozen_of_row w k 10 _ _ h, frozen_of_row w k 11 _ _ h, frozen_of_row w k 12 _ _ h⟩
theorem Sep.q13_0 {w : World} {b : Nat} {x0 x1 x2 x3 x4 x5 x6 x7 x8 x9 x10 x11 x12 u : Value} {t : TypeId} {l : List Asrt} (h : Sep w (BxA b #[x0, x1, x2, x3, x4, x5, x6, x7, x8, x9, x10, x11, x12] t :: l)) : Sep (w.setCell ⟨b, 0, none⟩ u) (BxA b #[u, x1, x2, x3, x4, x5, x6, x7, x8, x9, x10, x11, x12] t :: l) := h.setB 0 u
theorem Sep.q13_1 {w : World} {b : Nat} {x0 x1 x2 x3 x4 x5 x6 x7 x8 x9 x10 x11 x12 u : Value} {t : TypeId} {l : List Asrt} (h : Sep w (BxA b #[x0, x1, x2, x3, x4, x5, x6, x7, x8, x9, x10, x11, x12] t :: l)) : Sep (w.setCell ⟨b, 1, none⟩ u) (BxA b #[x0, u, x2, x3, x4, x5, x6, x7, x8, x9, x10, x11, x12] t :: l) := h.setB 1 u
theorem Sep.q13_2 {w : World} {b : Nat} {x0 x1 x2 x3 x4 x5 x6 x7 x8 x9 x10 x11 x12 u : Value} {t : TypeId} {l : List Asrt} (h : Sep w (BxA b #[x0, x1, x2, x3, x4, x5, x6, x7, x8, x9, x10, x11, x12] t :: l)) : Sep (w.setCell ⟨b, 2, none⟩ u) (BxA b #[x0, x1, u, x3, x4, x5, x6, x7, x8, x9, x10, x11, x12] t :: l) := h.setB 2 u
theorem Sep.q13_3 {w : World} {b : Nat} {x0 x1 x2 x3 x4 x5 x6 x7 x8 x9 x10 x11 x12 u : Value} {t : TypeId} {l : List Asrt} (h : Sep w (BxA b #[x0, x1, x2, x3, x4, x5, x6, x7, x8, x9, x10, x11, x12] t :: l)) : Sep (w.setCell ⟨b, 3, none⟩ u) (BxA b #[x0, x1, x2, u, x4, x5, x6, x7, x8, x9, x10, x11, x12] t :: l) := h.setB 3 u
theorem Sep.q13_4 {w : World} {b : Nat} {x0 x1 x2 x3 x4 x5 x6 x7 x8 x9 x10 x11 x12 u : Value} {t : TypeId} {l : List Asrt} (h : Sep w (BxA b #[x0, x1, x2, x3, x4, x5, x6, x7, x8, x9, x10, x11, x12] t :: l)) : Sep (w.setCell ⟨b, 4, none⟩ u) (BxA b #[x0, x1, x2, x3, u, x5, x6, x7, x8, x9, x10, x11, x12] t :: l) := h.setB 4 u
theorem Sep.q13_5 {w : World} {b : Nat} {x0 x1 x2 x3 x4 x5 x6 x7 x8 x9 x10 x11 x12 u : Value} {t : TypeId} {l : List Asrt} (h : Sep w (BxA b #[x0, x1, x2, x3, x4, x5, x6, x7, x8, x9, x10, x11, x12] t :: l)) : Sep (w.setCell ⟨b, 5, none⟩ u) (BxA b #[x0, x1, x2, x3, x4, u, x6, x7, x8, x9, x10, x11, x12] t :: l) := h.setB 5 u
theorem Sep.q13_6 {w : World} {b : Nat} {x0 x1 x2 x3 x4 x5 x6 x7 x8 x9 x10 x11 x12 u : Value} {t : TypeId} {l : List Asrt} (h : Sep w (BxA b #[x0, x1, x2, x3, x4, x5, x6, x7, x8, x9, x10, x11, x12] t :: l)) : Sep (w.setCell ⟨b, 6, none⟩ u) (BxA b #[x0, x1, x2, x3, x4, x5, u, x7, x8, x9, x10, x11, x12] t :: l) := h.setB 6 u
theorem Sep.q13_7 {w : World} {b : Nat} {x0 x1 x2 x3 x4 x5 x6 x7 x8 x9 x10 x11 x12 u : Value} {t : TypeId} {l : List Asrt} (h : Sep w (BxA b #[x0, x1, x2, x3, x4, x5, x6, x7, x8, x9, x10, x11, x12] t :: l)) : Sep (w.setCell ⟨b, 7, none⟩ u) (BxA b #[x0, x1, x2, x3, x4, x5, x6, u, x8, x9, x10, x11, x12] t :: l) := h.setB 7 u
theorem Sep.q13_8 {w : World} {b : Nat} {x0 x1 x2 x3 x4 x5 x6 x7 x8 x9 x10 x11 x12 u : Value} {t : TypeId} {l : List Asrt} (h : Sep w (BxA b #[x0, x1, x2, x3, x4, x5, x6, x7, x8, x9, x10, x11, x12] t :: l)) : Sep (w.setCell ⟨b, 8, none⟩ u) (BxA b #[x0, x1, x2, x3, x4, x5, x6, x7, u, x9, x10, x11, x12] t :: l) := h.setB 8 u
theorem Sep.q13_9 {w : World} {b : Nat} {x0 x1 x2 x3 x4 x5 x6 x7 x8 x9 x10 x11 x12 u : Value} {t : TypeId} {l : List Asrt} (h : Sep w (BxA b #[x0, x1, x2, x3, x4, x5, x6, x7, x8, x9, x10, x11, x12] t :: l)) : Sep (w.setCell ⟨b, 9, none⟩ u) (BxA b #[x0, x1, x2, x3, x4, x5, x6, x7, x8, u, x10, x11, x12] t :: l) := h.setB 9 u
theorem Sep.q13_10 {w : World} {b : Nat} {x0 x1 x2 x3 x4 x5 x6 x7 x8 x9 x10 x11 x12 u : Value} {t : TypeId} {l : List Asrt} (h : Sep w (BxA b #[x0, x1, x2, x3, x4, x5, x6, x7, x8, x9, x10, x11, x12] t :: l)) : Sep (w.setCell ⟨b, 10, none⟩ u) (BxA b #[x0, x1, x2, x3, x4, x5, x6, x7, x8, x9, u, x11, x12] t :: l) := h.setB 10 u
theorem Sep.q13_11 {w : World} {b : Nat} {x0 x1 x2 x3 x4 x5 x6 x7 x8 x9 x10 x11 x12 u : Value} {t : TypeId} {l : List Asrt} (h : Sep w (BxA b #[x0, x1, x2, x3, x4, x5, x6, x7, x8, x9, x10, x11, x12] t :: l)) : Sep (w.setCell ⟨b, 11, none⟩ u) (BxA b #[x0, x1, x2, x3, x4, x5, x6, x7, x8, x9, x10, u, x12] t :: l) := h.setB 11 u
theorem Sep.q13_12 {w : World} {b : Nat} {x0 x1 x2 x3 x4 x5 x6 x7 x8 x9 x10 x11 x12 u : Value} {t : TypeId} {l : List Asrt} (h : Sep w (BxA b #[x0, x1, x2, x3, x4, x5, x6, x7, x8, x9, x10, x11, x12] t :: l)) : Sep (w.setCell ⟨b, 12, none⟩ u) (BxA b #[x0, x1, x2, x3, x4, x5, x6, x7, x8, x9, x10, x11, u] t :: l) := h.setB 12 u
structure Sn where
  p : Int
  k : Int
  l : Int
  n : Gr
  g : Gr
def sn0 : Sn := ⟨0, 0, 0, gr0, gr0⟩
def okT (ns : List Nd) : Bool := match prun ns ns.length with
  | some (t :: _) => t.gB
  | _ => false
def grT (ns : List Nd) : Gr := match prun ns ns.length with
  | some (t :: _) => t.g
  | _ => gr0
/-- Does a session start so? -/
def snOk (p k l : Int) (x y : List Nd) : Bool := (fldB p && (elB p k && elB p l)) && ((ovT p x && ovT p y) && ((decide ((tmT x).1 = (tmT y).1) && decide ((tmT x).2 = (tmT y).2)) && (okT x && okT y)))
def snRes (p k l : Int) (x y : List Nd) : Sn := if snOk p k l x y = true then ⟨p, k, l, grT x, grT y⟩ else sn0
theorem ovT_tm {p : Int} {x : List Nd} (h : ovT p x = true) : fldB p = true ∧ tmB x = true := by
  unfold ovT at h
  simp only [Bool.and_eq_true] at h
  exact ⟨h.1, h.2.1⟩
theorem tree_eq {x : List Nd} {t : Tr} (h : prun x x.length = some [t]) : okT x = t.gB ∧ grT x = t.g ∧ tmT x = t.ty := by
  unfold okT grT tmT
  rw [h]
  exact ⟨rfl, rfl, rfl⟩
theorem grT_ok {p : Int} {x : List Nd} (h : ovT p x = true) (hb : okT x = true) : grB (grT x) = true ∧ ((grT x).i.length : Int) = (tmT x).1 ∧ ((grT x).o.length : Int) = (tmT x).2 := by
  obtain ⟨_, t, hok, _, hp⟩ := tmB_tree (ovT_tm h).2
  obtain ⟨e1, e2, e3⟩ := tree_eq hp
  rw [e1] at hb
  rw [e2, e3]
  exact Tr.g_ok hok hb
theorem snRes_small (p k l : Int) (x y : List Nd) : totG (snRes p k l x y).n ≤ 1000 ∧ totG (snRes p k l x y).g ≤ 1000 := by
  have key : ∀ g : Gr, grB g = true → totG g ≤ 1000 := by
    intro g h
    obtain ⟨m, hm, hm1, hg1, hg2, hg3, _, hle, _⟩ := grB_n h
    have he : ∀ e ∈ g.es, totE e ≤ 4 := fun e he => by
      have := hle e he
      unfold totE
      omega
    have ht : ∀ es : List Ed, (∀ e ∈ es, totE e ≤ 4) → totEs es ≤ 4 * es.length := fun es => by
      induction es with
      | nil => intro _; simp [totEs]
      | cons e es ih => intro h; have := ih (fun x hx => h x (by simp [hx])); have := h e (by simp); simp only [totEs, List.length_cons]; omega
    have := ht g.es he
    unfold totG
    omega
  unfold snRes
  cases hb : snOk p k l x y
  · exact ⟨show totG sn0.n ≤ 1000 by decide, show totG sn0.g ≤ 1000 by decide⟩
  · simp only [if_true]
    unfold snOk at hb
    simp only [Bool.and_eq_true] at hb
    obtain ⟨_, ⟨h1, h2⟩, _, h3, h4⟩ := hb
    exact ⟨key _ (grT_ok h1 h3).1, key _ (grT_ok h2 h4).1⟩
/-- The two graphs of a session, as one part of memory. -/
def ON (u0 : Value) (xs : List XE) (u1 : Value) (is : List Int) (u2 : Value) (os : List Int) (v0 : Value) (ys : List XE) (v1 : Value) (js : List Int) (v2 : Value) (qs : List Int) : Asrt := Bag [OX3 u0 xs u1 is u2 os, OX3 v0 ys v1 js v2 qs]
theorem ON_own {u0 u1 u2 v0 v1 v2 : Value} {xs ys : List XE} {is os js qs : List Int} : ∀ k, (ON u0 xs u1 is u2 os v0 ys v1 js v2 qs).sees k → (ON u0 xs u1 is u2 os v0 ys v1 js v2 qs).foot k := by
  rintro k ⟨A, hA, hk⟩
  refine ⟨A, hA, ?_⟩
  simp only [List.mem_cons, List.not_mem_nil, or_false] at hA
  rcases hA with rfl | rfl
  · exact OX3_own k hk
  · exact OX3_own k hk
def RdN (w : World) (R : Sn) (u0 u1 u2 v0 v1 v2 : Value) : Prop := RdX w R.n u0 u1 u2 ∧ RdX w R.g v0 v1 v2
theorem ON.rd {w : World} {R : Sn} {u0 u1 u2 v0 v1 v2 : Value} {xs ys : List XE} (h : (ON u0 xs u1 R.n.i u2 R.n.o v0 ys v1 R.g.i v2 R.g.o).holds w) (e : eds xs = R.n.es ∧ eds ys = R.g.es) : RdN w R u0 u1 u2 v0 v1 v2 := by
  have hs : Sep w [OX3 u0 xs u1 R.n.i u2 R.n.o, OX3 v0 ys v1 R.g.i v2 R.g.o] := h
  exact ⟨OX3.read hs.hd e.1, OX3.read hs.tl.hd e.2⟩
theorem RdN.carry {w w' : World} {R : Sn} {u0 u1 u2 v0 v1 v2 : Value} (h : RdN w R u0 u1 u2 v0 v1 v2) (hg : w.grownBy w' none) : RdN w' R u0 u1 u2 v0 v1 v2 :=
  ⟨⟨h.1.1.carry hg, h.1.2.1.carry hg, h.1.2.2.carry hg⟩, h.2.1.carry hg, h.2.2.1.carry hg, h.2.2.2.carry hg⟩
theorem RdX.carry {w w' : World} {g : Gr} {u0 u1 u2 : Value} (h : RdX w g u0 u1 u2) (hg : w.grownBy w' none) : RdX w' g u0 u1 u2 := ⟨h.1.carry hg, h.2.1.carry hg, h.2.2.carry hg⟩
def snV (R : Sn) (u0 u1 u2 v0 v1 v2 : Value) : Value := .agg #[.int .i64 R.p, .int .i64 R.k, .int .i64 R.l, .slice none 0 0, .int .i64 R.n.n, u0, u1, u2, .slice none 0 0, .int .i64 R.g.n, v0, v1, v2]
theorem eqGs_nil (w : World) : Calls Tryz.prog 23 #[.slice none 0 0, .slice none 0 0] w fun e w' => e = .returned (.bool true) ∧ w.grownBy w' none :=
  eqGraphS_same (.slice none 0 0) (.slice none 0 0) [] w ⟨[], rfl, ⟨none, 0, rfl, fun h => absurd rfl h⟩, fun _ h => by cases h⟩ ⟨[], rfl, ⟨none, 0, rfl, fun h => absurd rfl h⟩, fun _ h => by cases h⟩ (by simp) (fun _ h => by cases h)
theorem markGs_nil (k : Int) (w : World) : Calls Tryz.prog 27 #[.slice none 0 0, .int .i64 k] w fun e w' => e = .returned (.int .i64 k) ∧ w.grownBy w' none := by
  go_enter Tryz.func27, Tryz.ntmps27
  go_wp2_with fail
  go_loopw [1, 5] (fun kv i wr => kv = .int .i64 k ∧ i = .int .i64 0 ∧ w.grownBy wr none) (fun _ _ _ => 0)
  case atStart => exact ⟨rfl, rfl, grownBy_refl _ _⟩
  case round =>
    obtain ⟨rfl, rfl, hg⟩ := hrel
    have HG := Lib.hid hg
    clear hg
    go_wp2_with fail
    go_ret
    exact ⟨rfl, HG.out⟩
theorem heldGs_nil (k : Int) (w : World) : Calls Tryz.prog 29 #[.slice none 0 0, .int .i64 k] w fun e w' => e = .returned (.int .i64 k) ∧ w.grownBy w' none := by
  go_enter Tryz.func29, Tryz.ntmps29
  go_wp2_with fail
  go_loopw [1, 5] (fun kv i wr => kv = .int .i64 k ∧ i = .int .i64 0 ∧ w.grownBy wr none) (fun _ _ _ => 0)
  case atStart => exact ⟨rfl, rfl, grownBy_refl _ _⟩
  case round =>
    obtain ⟨rfl, rfl, hg⟩ := hrel
    have HG := Lib.hid hg
    clear hg
    go_wp2_with fail
    go_ret
    exact ⟨rfl, HG.out⟩
set_option maxHeartbeats 2000000 in
theorem eqSn_any (R : Sn) (u0 u1 u2 v0 v1 v2 u0' u1' u2' v0' v1' v2' : Value) (w : World) (h : RdN w R u0 u1 u2 v0 v1 v2) (h' : RdN w R u0' u1' u2' v0' v1' v2') (hs : totG R.n ≤ 1000 ∧ totG R.g ≤ 1000) :
    Calls Tryz.prog 8 #[snV R u0 u1 u2 v0 v1 v2, snV R u0' u1' u2' v0' v1' v2'] w fun e w' => e = .returned (.bool true) ∧ w.grownBy w' none := by
  have HB := Lib.hid fun W (hW : w.grownBy W none) => eqGraph_sh R.n W _ _ _ _ _ _ (h.1.carry hW) (h'.1.carry hW) (by omega)
  have HD := Lib.hid fun W (hW : w.grownBy W none) => eqGraph_sh R.g W _ _ _ _ _ _ (h.2.carry hW) (h'.2.carry hW) (by omega)
  have HA := Lib.hid fun W => eqGs_nil W
  unfold snV
  unfold grV at HB HD
  obtain ⟨a1, s1, rfl⟩ := h.1.1.shape
  obtain ⟨b1, t1, rfl⟩ := h.1.2.1.shape
  obtain ⟨c1, u1, rfl⟩ := h.1.2.2.shape
  obtain ⟨d1, v1, rfl⟩ := h.2.1.shape
  obtain ⟨e1, q1, rfl⟩ := h.2.2.1.shape
  obtain ⟨f1, r1, rfl⟩ := h.2.2.2.shape
  obtain ⟨a2, s2, rfl⟩ := h'.1.1.shape
  obtain ⟨b2, t2, rfl⟩ := h'.1.2.1.shape
  obtain ⟨c2, u2, rfl⟩ := h'.1.2.2.shape
  obtain ⟨d2, v2, rfl⟩ := h'.2.1.shape
  obtain ⟨e2, q2, rfl⟩ := h'.2.2.1.shape
  obtain ⟨f2, r2, rfl⟩ := h'.2.2.2.shape
  clear h h' hs
  generalize R.n.es.length = n1 at *
  generalize R.n.i.length = n2 at *
  generalize R.n.o.length = n3 at *
  generalize R.g.es.length = m1 at *
  generalize R.g.i.length = m2 at *
  generalize R.g.o.length = m3 at *
  obtain ⟨p, k, l, ⟨nn, x1, x2, x3⟩, ⟨gn, y1, y2, y3⟩⟩ := R
  simp only at *
  have HS0 := Lib.hid (((Sep.start w).boxAt w.heap.size rfl #[.int .i64 p, .int .i64 k, .int .i64 l, .slice none 0 0, .int .i64 nn, .slice a1 n1 s1, .slice b1 n2 t1, .slice c1 n3 u1, .slice none 0 0, .int .i64 gn, .slice d1 m1 v1, .slice e1 m2 q1, .slice f1 m3 r1] 32).boxAt (w.heap.size + 1) (by simp) #[.int .i64 p, .int .i64 k, .int .i64 l, .slice none 0 0, .int .i64 nn, .slice a2 n1 s2, .slice b2 n2 t2, .slice c2 n3 u2, .slice none 0 0, .int .i64 gn, .slice d2 m1 v2, .slice e2 m2 q2, .slice f2 m3 r2] 32)
  have HK0 := Lib.hid (show w.grownBy _ none from HS0.out.tl.tl.hd)
  obtain ⟨x0_, x1_, x2_, x3_, x4_, x5_, x6_, x7_, x8_, x9_, x10_, x11_, x12_⟩ := cq13 HS0.out.tl.hd
  obtain ⟨y0_, y1_, y2_, y3_, y4_, y5_, y6_, y7_, y8_, y9_, y10_, y11_, y12_⟩ := cq13 HS0.out.hd
  have hp : (p != p) = false := by simp
  have hk : (k != k) = false := by simp
  have hl : (l != l) = false := by simp
  go_enter Tryz.func8, Tryz.ntmps8
  go_wp2_with (first
    | (go_at_call 23
       with_reducible refine (HA.out _).mono ?_
       rintro e w4 ⟨rfl, hg⟩
       have hs1 := HS0.out.grown hg
       clear x0_ y0_ x1_ y1_ x2_ y2_ x3_ y3_ x4_ y4_ x5_ y5_ x6_ y6_ x7_ y7_ x8_ y8_ x9_ y9_ x10_ y10_ x11_ y11_ x12_ y12_
       obtain ⟨x0_, x1_, x2_, x3_, x4_, x5_, x6_, x7_, x8_, x9_, x10_, x11_, x12_⟩ := cq13 hs1.tl.hd
       obtain ⟨y0_, y1_, y2_, y3_, y4_, y5_, y6_, y7_, y8_, y9_, y10_, y11_, y12_⟩ := cq13 hs1.hd
       have HS1 := Lib.hid hs1
       have HK1 := Lib.hid (show w.grownBy _ none from hs1.tl.tl.hd)
       clear hg hs1)
    | (go_at_call 24
       with_reducible refine (HB.out _ HK1.out).mono ?_
       rintro e w5 ⟨rfl, hg⟩
       have hs1 := HS1.out.grown hg
       clear x0_ y0_ x1_ y1_ x2_ y2_ x3_ y3_ x4_ y4_ x5_ y5_ x6_ y6_ x7_ y7_ x8_ y8_ x9_ y9_ x10_ y10_ x11_ y11_ x12_ y12_
       obtain ⟨x0_, x1_, x2_, x3_, x4_, x5_, x6_, x7_, x8_, x9_, x10_, x11_, x12_⟩ := cq13 hs1.tl.hd
       obtain ⟨y0_, y1_, y2_, y3_, y4_, y5_, y6_, y7_, y8_, y9_, y10_, y11_, y12_⟩ := cq13 hs1.hd
       have HS2 := Lib.hid hs1
       have HK2 := Lib.hid (show w.grownBy _ none from hs1.tl.tl.hd)
       clear hg hs1)
    | (go_at_call 23
       with_reducible refine (HA.out _).mono ?_
       rintro e w6 ⟨rfl, hg⟩
       have hs1 := HS2.out.grown hg
       clear x0_ y0_ x1_ y1_ x2_ y2_ x3_ y3_ x4_ y4_ x5_ y5_ x6_ y6_ x7_ y7_ x8_ y8_ x9_ y9_ x10_ y10_ x11_ y11_ x12_ y12_
       obtain ⟨x0_, x1_, x2_, x3_, x4_, x5_, x6_, x7_, x8_, x9_, x10_, x11_, x12_⟩ := cq13 hs1.tl.hd
       obtain ⟨y0_, y1_, y2_, y3_, y4_, y5_, y6_, y7_, y8_, y9_, y10_, y11_, y12_⟩ := cq13 hs1.hd
       have HS3 := Lib.hid hs1
       have HK3 := Lib.hid (show w.grownBy _ none from hs1.tl.tl.hd)
       clear hg hs1)
    | (go_at_call 24
       with_reducible refine (HD.out _ HK3.out).mono ?_
       rintro e w7 ⟨rfl, hg⟩
       have hs1 := HS3.out.grown hg
       clear x0_ y0_ x1_ y1_ x2_ y2_ x3_ y3_ x4_ y4_ x5_ y5_ x6_ y6_ x7_ y7_ x8_ y8_ x9_ y9_ x10_ y10_ x11_ y11_ x12_ y12_
       obtain ⟨x0_, x1_, x2_, x3_, x4_, x5_, x6_, x7_, x8_, x9_, x10_, x11_, x12_⟩ := cq13 hs1.tl.hd
       obtain ⟨y0_, y1_, y2_, y3_, y4_, y5_, y6_, y7_, y8_, y9_, y10_, y11_, y12_⟩ := cq13 hs1.hd
       have HS4 := Lib.hid hs1
       have HK4 := Lib.hid (show w.grownBy _ none from hs1.tl.tl.hd)
       clear hg hs1))
  go_ret
  exact ⟨rfl, HK4.out⟩
def mkSn (R : Sn) : Sn := ⟨R.p, R.k, R.l, mkX3 1 R.n, mkX3 (1 + wX R.n) R.g⟩
theorem wX_small {g : Gr} (h : totG g ≤ 1000) : wX g ≤ 3000 := by
  have := wEs_tot g.es
  unfold totG at h
  unfold wX
  omega
set_option maxHeartbeats 2000000 in
theorem markSn_any (R : Sn) (u0 u1 u2 v0 v1 v2 : Value) (xs ys : List XE) (w : World) (l : List Asrt) (hs : Sep w (ON u0 xs u1 R.n.i u2 R.n.o v0 ys v1 R.g.i v2 R.g.o :: l)) (hx : eds xs = R.n.es ∧ eds ys = R.g.es) (hz : totG R.n ≤ 1000 ∧ totG R.g ≤ 1000) :
    Calls Tryz.prog 11 #[snV R u0 u1 u2 v0 v1 v2, .int .i64 1] w fun e w' => e = .returned (.int .i64 (1 + wX R.n + wX R.g)) ∧ ∃ xs' ys', (eds xs' = (mkSn R).n.es ∧ eds ys' = (mkSn R).g.es) ∧ Sep w' (ON u0 xs' u1 (mkSn R).n.i u2 (mkSn R).n.o v0 ys' v1 (mkSn R).g.i v2 (mkSn R).g.o :: l) := by
  have h := ON.rd hs.hd hx
  have hw1 := wX_small hz.1
  have hw2 := wX_small hz.2
  have ha : Sep w (OX3 u0 xs u1 R.n.i u2 R.n.o :: OX3 v0 ys v1 R.g.i v2 R.g.o :: l) := Sep.unbag (l := [_, _]) hs
  have HB := Lib.hid fun W L (h : Sep W (OX3 u0 xs u1 R.n.i u2 R.n.o :: L)) => markGraph_sh u0 u1 u2 xs R.n 1 W L h hx.1 (by omega) (by decide) (by decide)
  have HD := Lib.hid fun W L (h : Sep W (OX3 v0 ys v1 R.g.i v2 R.g.o :: L)) => markGraph_sh v0 v1 v2 ys R.g (1 + wX R.n) W L h hx.2 (by omega) (by omega) (by omega)
  have HA := Lib.hid fun k W => markGs_nil k W
  unfold mkSn
  simp only
  unfold snV
  unfold grV at HB HD
  generalize mkX3 1 R.n = M1 at *
  generalize mkX3 (1 + wX R.n) R.g = M2 at *
  generalize mkXs 1 xs = xs1 at *
  generalize mkXs (1 + wX R.n) ys = ys1 at *
  obtain ⟨q1, hq1⟩ : ∃ q : Int, 1 + (wX R.n : Int) = q := ⟨_, rfl⟩
  rw [hq1] at HB HD
  rw [hq1]
  generalize q1 + (wX R.g : Int) = q2 at *
  obtain ⟨a1, s1, rfl⟩ := h.1.1.shape
  obtain ⟨b1, t1, rfl⟩ := h.1.2.1.shape
  obtain ⟨c1, u1, rfl⟩ := h.1.2.2.shape
  obtain ⟨d1, v1, rfl⟩ := h.2.1.shape
  obtain ⟨e1, q1, rfl⟩ := h.2.2.1.shape
  obtain ⟨f1, r1, rfl⟩ := h.2.2.2.shape
  clear h hs hx hz hw1 hw2 hq1
  obtain ⟨p, k, l_, ⟨nn, x1, x2, x3⟩, ⟨gn, y1, y2, y3⟩⟩ := R
  simp only at *
  generalize x1.length = n1 at *
  generalize x2.length = n2 at *
  generalize x3.length = n3 at *
  generalize y1.length = m1 at *
  generalize y2.length = m2 at *
  generalize y3.length = m3 at *
  have HS0 := Lib.hid (ha.boxAt w.heap.size rfl #[.int .i64 p, .int .i64 k, .int .i64 l_, .slice none 0 0, .int .i64 nn, .slice a1 n1 s1, .slice b1 n2 t1, .slice c1 n3 u1, .slice none 0 0, .int .i64 gn, .slice d1 m1 v1, .slice e1 m2 q1, .slice f1 m3 r1] 32)
  obtain ⟨x0_, x1_, x2_, x3_, x4_, x5_, x6_, x7_, x8_, x9_, x10_, x11_, x12_⟩ := cq13 HS0.out.hd
  clear ha
  go_enter Tryz.func11, Tryz.ntmps11
  go_wp2_with (first
    | (go_at_call 27
       with_reducible refine (HA.out _ _).mono ?_
       rintro e w3 ⟨rfl, hg⟩
       have hs1 := HS0.out.grown hg
       clear x0_ x1_ x2_ x3_ x4_ x5_ x6_ x7_ x8_ x9_ x10_ x11_ x12_
       obtain ⟨x0_, x1_, x2_, x3_, x4_, x5_, x6_, x7_, x8_, x9_, x10_, x11_, x12_⟩ := cq13 hs1.hd
       have HS1 := Lib.hid (Sep.blk (A := [_]) (B := [_]) hs1)
       clear hg hs1)
    | (go_at_call 28
       with_reducible refine (HB.out _ _ HS1.out).mono ?_
       rintro e w4 ⟨rfl, hs2, hx2⟩
       have HX1 := Lib.hid hx2
       have hs3 := Sep.blk (A := [_]) (B := [_]) hs2
       clear x0_ x1_ x2_ x3_ x4_ x5_ x6_ x7_ x8_ x9_ x10_ x11_ x12_
       obtain ⟨x0_, x1_, x2_, x3_, x4_, x5_, x6_, x7_, x8_, x9_, x10_, x11_, x12_⟩ := cq13 hs3.hd
       have HS2 := Lib.hid hs3
       clear hs2 hs3 hx2)
    | (go_at_call 27
       with_reducible refine (HA.out _ _).mono ?_
       rintro e w5 ⟨rfl, hg⟩
       have hs1 := HS2.out.grown hg
       clear x0_ x1_ x2_ x3_ x4_ x5_ x6_ x7_ x8_ x9_ x10_ x11_ x12_
       obtain ⟨x0_, x1_, x2_, x3_, x4_, x5_, x6_, x7_, x8_, x9_, x10_, x11_, x12_⟩ := cq13 hs1.hd
       have HS3 := Lib.hid (Sep.blk (A := [_, _]) (B := [_]) hs1)
       clear hg hs1)
    | (go_at_call 28
       with_reducible refine (HD.out _ _ HS3.out).mono ?_
       rintro e w6 ⟨rfl, hs2, hx2⟩
       have HX2 := Lib.hid hx2
       have HS4 := Lib.hid (Sep.bag (l := [_, _]) (Sep.blk (A := [_]) (B := [_]) (Sep.cutA (X := [_]) (A := [_]) hs2)))
       clear hs2 hx2))
  go_ret
  exact ⟨rfl, xs1, ys1, ⟨HX1.out, HX2.out⟩, HS4.out⟩
set_option maxHeartbeats 2000000 in
theorem heldSn_any (R : Sn) (u0 u1 u2 v0 v1 v2 : Value) (w : World) (h : RdN w (mkSn R) u0 u1 u2 v0 v1 v2) (hz : totG R.n ≤ 1000 ∧ totG R.g ≤ 1000) :
    Calls Tryz.prog 12 #[snV R u0 u1 u2 v0 v1 v2, .int .i64 1] w fun e w' => e = .returned (.int .i64 (1 + wX R.n + wX R.g)) ∧ w.grownBy w' none := by
  have hw1 := wX_small hz.1
  have hw2 := wX_small hz.2
  unfold mkSn at h
  have HB := Lib.hid fun W (hW : w.grownBy W none) => heldGraph_sh u0 u1 u2 R.n 1 W (h.1.carry hW) (by omega) (by decide) (by decide)
  have HD := Lib.hid fun W (hW : w.grownBy W none) => heldGraph_sh v0 v1 v2 R.g (1 + wX R.n) W (h.2.carry hW) (by omega) (by omega) (by omega)
  have HA := Lib.hid fun k W => heldGs_nil k W
  unfold snV
  unfold grV at HB HD
  obtain ⟨q1, hq1⟩ : ∃ q : Int, 1 + (wX R.n : Int) = q := ⟨_, rfl⟩
  obtain ⟨q2, hq2⟩ : ∃ q : Int, q1 + (wX R.g : Int) = q := ⟨_, rfl⟩
  rw [hq1] at HB HD
  rw [hq2] at HD
  rw [hq1, hq2]
  have k1 : ¬ q1 < 0 := by omega
  have k2 : ¬ q2 < 0 := by omega
  have k3 : ¬ (1 : Int) < 0 := by omega
  obtain ⟨a1, s1, rfl⟩ := h.1.1.shape
  obtain ⟨b1, t1, rfl⟩ := h.1.2.1.shape
  obtain ⟨c1, u1, rfl⟩ := h.1.2.2.shape
  obtain ⟨d1, v1, rfl⟩ := h.2.1.shape
  obtain ⟨e1, q1, rfl⟩ := h.2.2.1.shape
  obtain ⟨f1, r1, rfl⟩ := h.2.2.2.shape
  clear h hz hw1 hw2 hq1 hq2
  generalize (mkX3 1 R.n).es.length = n1 at *
  generalize (mkX3 1 R.n).i.length = n2 at *
  generalize (mkX3 1 R.n).o.length = n3 at *
  generalize (mkX3 (1 + wX R.n) R.g).es.length = m1 at *
  generalize (mkX3 (1 + wX R.n) R.g).i.length = m2 at *
  generalize (mkX3 (1 + wX R.n) R.g).o.length = m3 at *
  obtain ⟨p, k, l_, ⟨nn, x1, x2, x3⟩, ⟨gn, y1, y2, y3⟩⟩ := R
  simp only at *
  have HS0 := Lib.hid ((Sep.start w).boxAt w.heap.size rfl #[.int .i64 p, .int .i64 k, .int .i64 l_, .slice none 0 0, .int .i64 nn, .slice a1 n1 s1, .slice b1 n2 t1, .slice c1 n3 u1, .slice none 0 0, .int .i64 gn, .slice d1 m1 v1, .slice e1 m2 q1, .slice f1 m3 r1] 32)
  have HK0 := Lib.hid (show w.grownBy _ none from HS0.out.tl.hd)
  obtain ⟨x0_, x1_, x2_, x3_, x4_, x5_, x6_, x7_, x8_, x9_, x10_, x11_, x12_⟩ := cq13 HS0.out.hd
  go_enter Tryz.func12, Tryz.ntmps12
  go_wp2_with (first
    | (go_at_call 29
       with_reducible refine (HA.out _ _).mono ?_
       rintro e w4 ⟨rfl, hg⟩
       have hs1 := HS0.out.grown hg
       clear x0_ x1_ x2_ x3_ x4_ x5_ x6_ x7_ x8_ x9_ x10_ x11_ x12_
       obtain ⟨x0_, x1_, x2_, x3_, x4_, x5_, x6_, x7_, x8_, x9_, x10_, x11_, x12_⟩ := cq13 hs1.hd
       have HS1 := Lib.hid hs1
       have HK1 := Lib.hid (show w.grownBy _ none from hs1.tl.hd)
       clear hg hs1)
    | (go_at_call 30
       with_reducible refine (HB.out _ HK1.out).mono ?_
       rintro e w5 ⟨rfl, hg⟩
       have hs1 := HS1.out.grown hg
       clear x0_ x1_ x2_ x3_ x4_ x5_ x6_ x7_ x8_ x9_ x10_ x11_ x12_
       obtain ⟨x0_, x1_, x2_, x3_, x4_, x5_, x6_, x7_, x8_, x9_, x10_, x11_, x12_⟩ := cq13 hs1.hd
       have HS2 := Lib.hid hs1
       have HK2 := Lib.hid (show w.grownBy _ none from hs1.tl.hd)
       clear hg hs1)
    | (go_at_call 29
       with_reducible refine (HA.out _ _).mono ?_
       rintro e w6 ⟨rfl, hg⟩
       have hs1 := HS2.out.grown hg
       clear x0_ x1_ x2_ x3_ x4_ x5_ x6_ x7_ x8_ x9_ x10_ x11_ x12_
       obtain ⟨x0_, x1_, x2_, x3_, x4_, x5_, x6_, x7_, x8_, x9_, x10_, x11_, x12_⟩ := cq13 hs1.hd
       have HS3 := Lib.hid hs1
       have HK3 := Lib.hid (show w.grownBy _ none from hs1.tl.hd)
       clear hg hs1)
    | (go_at_call 30
       with_reducible refine (HD.out _ HK3.out).mono ?_
       rintro e w7 ⟨rfl, hg⟩
       have hs1 := HS3.out.grown hg
       clear x0_ x1_ x2_ x3_ x4_ x5_ x6_ x7_ x8_ x9_ x10_ x11_ x12_
       obtain ⟨x0_, x1_, x2_, x3_, x4_, x5_, x6_, x7_, x8_, x9_, x10_, x11_, x12_⟩ := cq13 hs1.hd
       have HS4 := Lib.hid hs1
       have HK4 := Lib.hid (show w.grownBy _ none from hs1.tl.hd)
       clear hg hs1))
  go_ret
  exact ⟨rfl, HK4.out⟩
end Go.Proofs.YtjagjhchnpmngaaGreatDoor

/-
  Are numbers elements of a field. Conditions: the table of small primes holds what its text lays.
-/
namespace Go.Proofs.YtjagjhchnpmngaaGreatDoor
open Go.RowKit
set_option linter.unusedVariables false
set_option maxRecDepth 100000

set_option maxHeartbeats 1000000 in
theorem areElements_any (p : Int) (v : Value) (zs : List Int) (w : World) (ht : Tab w) (hv : IntsV w v zs) (hl : zs.length ≤ 1000) :
    Calls Tryz.prog 20 #[.int .i64 p, v] w fun e w' => e = .returned (.bool (fldB p && zs.all (elB p))) ∧ w' = w := by
  have HF := Lib.hid (isField_any p w ht)
  have HV := Lib.hid hv
  obtain ⟨a, c, rfl⟩ := hv.shape
  clear hv ht
  generalize hn : zs.length = n at *
  have HN := Lib.hid hn
  clear hn
  cases hf : fldB p
  · rw [hf] at HF
    have HB := Lib.hid hf
    clear hf
    go_enter Tryz.func20, Tryz.ntmps20
    go_wp2_with (go_at_call 43; with_reducible refine HF.out.mono ?_; rintro e w3 ⟨rfl, rfl⟩)
    go_ret
    exact ⟨rfl, rfl⟩
  · rw [hf] at HF
    have HB := Lib.hid hf
    clear hf
    go_enter Tryz.func20, Tryz.ntmps20
    go_wp2_with (go_at_call 43; with_reducible refine HF.out.mono ?_; rintro e w3 ⟨rfl, rfl⟩)
    go_loopw [6, 12] (fun _ i wr => ∃ k : Nat, k ≤ n ∧ i = .int .i64 k ∧ (zs.take k).all (elB p) = true ∧ wr = w) (fun _ i _ => n - (intOf i).toNat)
    case atStart => exact ⟨0, by omega, rfl, by simp, rfl⟩
    case round =>
      obtain ⟨k, hk, rfl, ha, hwr⟩ := hrel
      subst hwr
      have HA := Lib.hid ha
      clear ha
      by_cases hlt : k < n
      · have hkx : k < zs.length := by rw [HN.out]; exact hlt
        obtain ⟨b, o, rfl⟩ := IntsV.addr HV.out (by omega)
        have hc0 := HV.out.cellN hkx
        have htk : (zs.take (k + 1)).all (elB p) = ((zs.take k).all (elB p) && elB p (zs.getD k 0)) := by
          rw [List.take_succ_eq_append_getElem hkx, List.all_append, List.getD_eq_getElem?_getD, List.getElem?_eq_getElem hkx]; simp
        have hbad : elB p (zs.getD k 0) = false → zs.all (elB p) = false := fun h => by
          cases hb : zs.all (elB p)
          · rfl
          · have := List.all_eq_true.1 hb _ (getD_mem (d := 0) hkx)
            rw [h] at this
            cases this
        have HTK := Lib.hid htk; have HBD := Lib.hid hbad
        generalize zs.getD k 0 = x at *
        have HE := Lib.hid fun W => isElement_any p x W
        clear htk hbad hkx
        cases hx : elB p x
        · rw [hx] at HE
          have HR := Lib.hid (HBD.out hx)
          clear hx
          go_wp2_with (go_at_call 44; with_reducible refine (HE.out _).mono ?_; rintro e w3 ⟨rfl, rfl⟩)
          go_ret
          exact ⟨by rw [HR.out]; rfl, rfl⟩
        · rw [hx] at HE
          have HR := Lib.hid (show (zs.take (k + 1)).all (elB p) = true by rw [HTK.out, HA.out, hx]; rfl)
          clear hx
          go_wp2_with (go_at_call 44; with_reducible refine (HE.out _).mono ?_; rintro e w3 ⟨rfl, rfl⟩)
          go_roundw
          case rel => exact ⟨k + 1, by omega, by go_num, HR.out, by trivial⟩
          case measure => simp [intOf]; omega
      · have hkn : k = n := by omega
        subst hkn
        have ha := HA.out
        rw [List.take_of_length_le (by rw [HN.out]; exact Nat.le_refl _)] at ha
        have HR := Lib.hid ha
        clear ha hlt
        go_wp2
        go_ret
        exact ⟨by rw [HR.out]; rfl, rfl⟩
theorem fdTwo_any (p a b : Int) (w : World) : Calls Tryz.prog 15 #[.int .i64 p, .int .i64 a, .int .i64 b] w fun e w' => e = .returned (.bool (fldB p && (elB p a && elB p b))) ∧ w' = w := by
  have HF := Lib.hid (fdGood_any p w)
  cases hf : fldB p
  · rw [hf] at HF
    clear hf
    go_enter Tryz.func15, Tryz.ntmps15
    go_wp2_with (go_at_call 33; with_reducible refine HF.out.mono ?_; rintro e w3 ⟨rfl, rfl⟩)
    go_ret
    exact ⟨rfl, rfl⟩
  · rw [hf] at HF
    have hp : 2 ≤ p ∧ p ≤ 97 := by unfold fldB at hf; rw [decide_eq_true_iff] at hf; exact ⟨hf.1, hf.2.1⟩
    have hw : IntKind.i64.wrap (p - 1) = p - 1 := by rw [IntKind.wrap_i64]; omega
    have he : ∀ x, decide (0 ≤ x ∧ x ≤ p - 1) = elB p x := fun x => by
      unfold elB
      rw [decide_eq_decide]
      omega
    have HA := Lib.hid fun W => l1In_any a 0 (p - 1) W
    have HB := Lib.hid fun W => l1In_any b 0 (p - 1) W
    rw [he] at HA HB
    clear hf hp he
    cases ha : elB p a
    · rw [ha] at HA
      clear ha
      go_enter Tryz.func15, Tryz.ntmps15
      go_wp2_with (first
        | (go_at_call 33; with_reducible refine HF.out.mono ?_; rintro e w3 ⟨rfl, rfl⟩)
        | (go_at_call 34; with_reducible refine (HA.out _).mono ?_; rintro e w3 ⟨rfl, rfl⟩))
      go_ret
      exact ⟨rfl, rfl⟩
    · rw [ha] at HA
      clear ha
      generalize elB p b = y at *
      go_enter Tryz.func15, Tryz.ntmps15
      go_wp2_with (first
        | (go_at_call 33; with_reducible refine HF.out.mono ?_; rintro e w3 ⟨rfl, rfl⟩)
        | (go_at_call 34; with_reducible refine (HA.out _).mono ?_; rintro e w3 ⟨rfl, rfl⟩)
        | (go_at_call 34; with_reducible refine (HB.out _).mono ?_; rintro e w3 ⟨rfl, rfl⟩))
      go_ret
      exact ⟨rfl, rfl⟩
end Go.Proofs.YtjagjhchnpmngaaGreatDoor

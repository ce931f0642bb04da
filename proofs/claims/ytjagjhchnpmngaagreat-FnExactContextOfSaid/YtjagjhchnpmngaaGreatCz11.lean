/-
 All lists of wires of a graph visited by a function that wants them in range; which classes are used. Conditions: wires are in range; lengths are small.
-/
import Derived.Test.YtjagjhchnpmngaaGreatCz06
import Derived.Test.YtjagjhchnpmngaaGreatCz05
import Derived.Test.YtjagjhchnpmngaaGreatCz03
import Derived.Test.YtjagjhchnpmngaaGreatCz02
import Derived.Test.YtjagjhchnpmngaaGreatCz01
import Derived.Test.YtjagjhchnpmngaaGreatCz10
import Derived.Test.YtjagjhchnpmngaaGreatCz04
import Derived.Test.YtjagjhchnpmngaaGreatCz00
set_option linter.unusedVariables false
set_option linter.unusedSimpArgs false
set_option maxRecDepth 100000
namespace Go.Proofs.YtjagjhchnpmngaaGreat
open Go.RowKit
def VisFnR (R : Int → Prop) (g : FuncId) (lb : Array Value) (A : List Int → Asrt) : Prop :=
 ∀ (P x : List Int) (v : Value) (w0 W : World) (l : List Asrt), Sep W (A P :: KeepA w0 :: l) → IntsV w0 v x → x.length ≤ 1000000 → (∀ y ∈ x, R y) → Calls Tryz.prog g (#[v] ++ lb) W fun e w' => e = .returned (.tuple #[]) ∧ Sep w' (A (P ++ x) :: KeepA w0 :: l)
set_option maxHeartbeats 2000000 in
theorem lists_anyR (g : FuncId) (lb : Array Value) (eg : ∀ args w, (callFunc g args).run Tryz.prog w = .ok (.enter g args) w) (A : List Int → Asrt) (R : Int → Prop) (hV : VisFnR R g lb A) (n : Int) (ev iv ov : Value) (G : Gr) (w0 w : World) (l : List Asrt)
 (he : RdE edgeE w0 ev G.es) (hi : IntsV w0 iv G.i) (ho : IntsV w0 ov G.o) (hl : G.es.length ≤ 1000000) (hli : G.i.length ≤ 1000000) (hlo : G.o.length ≤ 1000000) (hle : ∀ e ∈ G.es, e.i.length ≤ 1000000 ∧ e.o.length ≤ 1000000) (hR : ∀ y ∈ wiresL G, R y) (hs : Sep w (A [] :: KeepA w0 :: l)) :
 Calls Tryz.prog 79 #[grV n ev iv ov, .func (.func g) #[] lb] w fun e w' => e = .returned (.tuple #[]) ∧ Sep w' (A (wiresL G) :: KeepA w0 :: l) := by
 have HE := qd he; have HI := qd hi; have HO := qd ho; have HV := qd hV
 obtain ⟨ea, ec, rfl⟩ := he.shape
 obtain ⟨ia, ic, rfl⟩ := hi.shape
 obtain ⟨oa, oc, rfl⟩ := ho.shape
 unfold wiresL wiresE at hR
 unfold grV wiresL
 obtain ⟨_, es, is, os⟩ := G
 simp only at HE HI HO hl hli hlo hle hR ⊢
 have hRI : ∀ y ∈ is, R y := fun y hy => hR y (by simp [hy])
 have HRO := qd (show ∀ y ∈ os, R y from fun y hy => hR y (by simp [hy]))
 have HRE := qd (show ∀ e ∈ es, (∀ y ∈ e.i, R y) ∧ ∀ y ∈ e.o, R y from fun e he => ⟨fun y hy => hR y (by simp only [List.mem_append, List.mem_flatMap]; exact Or.inr (Or.inr ⟨e, he, Or.inl hy⟩)), fun y hy => hR y (by simp only [List.mem_append, List.mem_flatMap]; exact Or.inr (Or.inr ⟨e, he, Or.inr hy⟩))⟩)
 have HLE := qd hle; have HLO := qd (show ∀ y : List Int, y = os → y.length ≤ 1000000 from fun y e => by rw [e]; exact hlo)
 clear he hi ho hV
 have hs0 := (hs.box #[.int .i64 n, .slice ea es.length ec, .slice ia is.length ic, .slice oa os.length oc] 38).s2.under Sep.s2 (by simp +contextual)
 have HS0 := qd hs0
 have HA := qd (HV.out [] is _ w0 _ _ hs0 HI.out hli hRI)
 clear hs hs0 hli hlo hle hR hRI
 generalize hm : es.length = m at *
 have HM := qd hm
 clear hm
 generalize is.length = n1 at *
 generalize os.length = n2 at *
 have HIV := qd HI.out; have HOV := qd HO.out
 go_enter Tryz.func79, Tryz.ntmps79
 go_wp2_with (first
  |(go_at_fn g
    with_reducible refine HA.out.mono ?_
    rintro e w2 ⟨rfl, hs2⟩
    obtain ⟨x0, x1, x2, x3, _⟩ := bq4 hs2.tl.tl.hd
    have HS2 := qd hs2
    have HB := qd (HV.out _ os _ w0 _ _ hs2 HO.out (HLO.out _ rfl) HRO.out)
    clear hs2)
  |(go_at_fn g
    with_reducible refine HB.out.mono ?_
    rintro e w3 ⟨rfl, hs3⟩
    obtain ⟨y0, y1, y2, y3, _⟩ := bq4 hs3.tl.tl.hd
    have HS3 := qd hs3
    clear hs3))
 rw [List.nil_append] at HS3
 have HS3' := qd (show Sep w3 (A (is ++ (os ++ wiresE (es.take 0))) :: _) from by have := HS3.out; simpa [wiresE] using this)
 clear HS2 HS3 HA HB y0 y1 y2 y3 x0 x1 x2 x3
 go_loopw [5, 17] (fun _ i wr => ∃ k : Nat, k ≤ m ∧ i = .int .i64 k ∧ Sep wr (A (is ++ (os ++ wiresE (es.take k))) :: KeepA w0 :: BxA w.heap.size #[.int .i64 n, .slice ea m ec, .slice ia n1 ic, .slice oa n2 oc] 38 :: l)) (fun _ i _ => m - (intOf i).toNat)
 case atStart => exact ⟨0, by omega, rfl, HS3'.out⟩
 case round =>
  obtain ⟨k, hk, rfl, hs⟩ := hrel
  have HSX := qd hs
  clear hs HS3'
  by_cases hlt : k < m
  ·have hke : k < es.length := by rw [HM.out]; exact hlt
   obtain ⟨b, o, u1, u2, rfl, hat⟩ := HE.out.atK rfl rfl hke
   have HT := qd (wiresE_take es k hke)
   have hlm := HLE.out _ (show es.getD k e0 ∈ es by rw [List.getD_eq_getElem?_getD, List.getElem?_eq_getElem hke]; exact List.getElem_mem _)
   have hre := HRE.out _ (show es.getD k e0 ∈ es by rw [List.getD_eq_getElem?_getD, List.getElem?_eq_getElem hke]; exact List.getElem_mem _)
   generalize es.getD k e0 = e at *
   obtain ⟨ek, ev, ei, eo⟩ := e
   simp only at hat HT hlm hre
   have HRX := qd hre.2
   have HLM := qd (show ∀ y : List Int, y = eo → y.length ≤ 1000000 from fun y e => by rw [e]; exact hlm.2)
   obtain ⟨⟨q0, q1, q2, q3⟩, hi, ho⟩ := hat wr HSX.out.tl.hd
   obtain ⟨a1, c1, rfl⟩ := hi.shape
   obtain ⟨a2, c2, rfl⟩ := ho.shape
   have HAT := qd hat
   obtain ⟨⟨_, _, _, _⟩, hi0, ho0⟩ := hat w0 (grownBy_refl _ _)
   have hb := (HSX.out.box #[.int .i64 ek, .int .i64 ev, .slice a1 ei.length c1, .slice a2 eo.length c2] 104).s2.under Sep.s2 (by simp +contextual)
   have HA := qd (HV.out _ ei _ w0 _ _ hb hi0 hlm.1 hre.1)
   have HO0 := qd ho0
   clear hb hke hi ho hat hlm hi0 ho0 HAT hre
   generalize ei.length = m1 at *
   generalize eo.length = m2 at *
   go_wp2_with (first
    |(go_at_fn g
      with_reducible refine HA.out.mono ?_
      rintro e w5 ⟨rfl, hs5⟩
      obtain ⟨y0, y1, y2, y3, _⟩ := bq4 hs5.tl.tl.hd
      have HB := qd (HV.out _ eo _ w0 _ _ hs5 HO0.out (HLM.out _ rfl) HRX.out)
      clear hs5)
    |(go_at_fn g
      with_reducible refine HB.out.mono ?_
      rintro e w6 ⟨rfl, hs6⟩
      have hs7 := hs6.under Sep.drop2 (by simp +contextual)
      rw [show is ++ (os ++ wiresE (es.take k)) ++ ei ++ eo = is ++ (os ++ wiresE (es.take (k + 1))) by rw [HT.out]; simp] at hs7
      have HS7 := qd hs7
      clear hs6 hs7))
   go_roundw
   case rel => exact ⟨k + 1, by omega, by go_num, HS7.out⟩
   case measure => simp [intOf]; omega
  ·have hkm : k = m := by omega
   subst hkm
   have hs := HSX.out
   rw [List.take_of_length_le (by rw [HM.out]; exact Nat.le_refl _)] at hs
   have HF := qd (hs.under Sep.drop2 (by simp +contextual))
   clear hs hlt HSX
   go_wp2
   refine bodyPost_end (results_none rfl _ _ _) rfl ?_
   exact ⟨rfl, HF.out⟩
def usedL (n : Nat) (C P : List Int) : List Bool := (List.range n).map fun r : Nat => usedB C P r
theorem usedL_len (n : Nat) (C P : List Int) : (usedL n C P).length = n := by simp [usedL]
theorem usedL_nil (n : Nat) (C : List Int) : usedL n C [] = List.replicate n false := by
 unfold usedL
 rw [show (fun r : Nat => usedB C [] r) = fun _ => false from rfl, List.map_const', List.length_range]
theorem usedL_at {n : Nat} {C P : List Int} {r : Nat} (h : r < n) : (usedL n C P).getD r false = usedB C P r := by
 unfold usedL
 rw [List.getD_eq_getElem?_getD, List.getElem?_map, List.getElem?_range h]
 rfl
theorem usedB_snoc {C P : List Int} {x r : Int} : usedB C (P ++ [x]) r = (usedB C P r || decide (ofL C x = r)) := by unfold usedB; simp
theorem usedL_snoc {n : Nat} {C P : List Int} {x : Int} {r : Nat} (hr : ofL C x = r) (h : r < n) : usedL n C (P ++ [x]) = (usedL n C P).set r true := by
 apply List.ext_getElem (by simp [usedL])
 intro i h1 h2
 rw [List.getElem_set]
 have e1 : (usedL n C (P ++ [x]))[i] = usedB C (P ++ [x]) i := by simp [usedL]
 rw [e1, usedB_snoc, hr]
 by_cases e : r = i
 ·subst e
  rw [if_pos rfl]
  simp
 ·rw [if_neg e]
  have e2 : (usedL n C P)[i]'(by simpa [usedL] using h2) = usedB C P i := by simp [usedL]
  have : ¬ (r : Int) = i := by omega
  rw [e2, decide_eq_false this, Bool.or_false]
def UseA (m ub us cb tb tc : Nat) (F C P : List Int) : List Asrt :=
 [BxA ub #[.slice (some ⟨us, 0, none⟩) m m] 123, OR boolE (.slice (some ⟨us, 0, none⟩) m m) (usedL m C P), BxA cb #[.slice (some ⟨tb, 0, none⟩) m tc] 119, OI (.slice (some ⟨tb, 0, none⟩) m tc) F]
set_option maxHeartbeats 4000000 in
theorem glue1_fn (m ub us cb tb tc : Nat) (F C : List Int) (hr : Rep m F C) (hm : m ≤ 1000) :
 VisFnR (fun y => 0 ≤ y ∧ y < (m : Int)) 80 #[.pointer (some ⟨ub, 0, none⟩), .pointer (some ⟨cb, 0, none⟩)] (fun P => Bag (UseA m ub us cb tb tc F C P)) := by
 intro P xs v w0 W l hs hv hl hR
 have hs0 := Sep.unbag hs
 have HS0 := qd hs0
 have HV := qd hv; have HR := qd hR; have HREP := qd hr
 obtain ⟨a, c, rfl⟩ := hv.shape
 clear hs hs0 hv hR hr
 generalize hlen : xs.length = n at *
 have HN := qd hlen
 clear hlen
 go_enter Tryz.func80, Tryz.ntmps80
 go_wp2_with fail
 go_loopw [5, 8] (fun _ i wr => ∃ k : Nat, k ≤ n ∧ i = .int .i64 k ∧ Sep wr (UseA m ub us cb tb tc F C (P ++ xs.take k) ++ KeepA w0 :: l)) (fun _ i _ => n - (intOf i).toNat)
 case atStart => exact ⟨0, by omega, rfl, by simpa using HS0.out⟩
 case round =>
  obtain ⟨k, hk, rfl, hs⟩ := hrel
  have HSX := qd hs
  clear hs HS0
  by_cases hlt : k < n
  ·have hkx : k < xs.length := by rw [HN.out]; exact hlt
   obtain ⟨b, o, rfl⟩ := IntsV.addr HV.out (by omega)
   have hkeep : w0.grownBy wr none := HSX.out.tl.tl.tl.tl.hd
   have hc0 := (HV.out.carry hkeep).cellN hkx
   have hrx := HR.out (xs.getD k 0) (by rw [List.getD_eq_getElem?_getD, List.getElem?_eq_getElem hkx]; exact List.getElem_mem _)
   have htk : xs.take (k + 1) = xs.take k ++ [xs.getD k 0] := by rw [List.take_succ_eq_append_getElem hkx, List.getD_eq_getElem?_getD, List.getElem?_eq_getElem hkx]; rfl
   have HTK := qd (show P ++ xs.take (k + 1) = (P ++ xs.take k) ++ [xs.getD k 0] by rw [htk, List.append_assoc])
   generalize xs.getD k 0 = x at *
   obtain ⟨j, rfl⟩ := Int.eq_ofNat_of_zero_le hrx.1
   have hjm : j < m := by omega
   have hS : Sep wr (BxA ub #[.slice (some ⟨us, 0, none⟩) m m] 123 :: OR boolE (.slice (some ⟨us, 0, none⟩) m m) (usedL m C (P ++ xs.take k)) :: BxA cb #[.slice (some ⟨tb, 0, none⟩) m tc] 119 :: OI (.slice (some ⟨tb, 0, none⟩) m tc) F :: KeepA w0 :: l) := HSX.out
   have HSD := qd hS.dr
   have hc := HREP.out.c0 (j : Int) (by omega) (by omega)
   obtain ⟨r, hr⟩ := Int.eq_ofNat_of_zero_le hc.1
   have hrm : r < m := by omega
   have HRT := qd fun W (h : IntsV W (.slice (some ⟨tb, 0, none⟩) m tc) F) => root_any _ F C m j W h HREP.out hjm hm
   rw [hr] at HRT
   have hset := (hS.dr.s2.setBo (usedL_len m C _).symm hrm true).s2
   rw [← usedL_snoc hr hrm, ← HTK.out] at hset
   have HF := qd (show Sep _ (UseA m ub us cb tb tc F C (P ++ xs.take (k + 1)) ++ KeepA w0 :: l) from hset)
   have hsc := bool_cell hS.dr.tl.hd (usedL_len m C _).symm hrm
   have hsf := bool_free hS.dr.tl.hd (usedL_len m C _).symm r
   have X0 := qd (And.intro (bx1' HSD.out.hd).1 (bx1' HSD.out.tl.tl.hd).1)
   have X1 := qd (And.intro (bx1' hset.hd).1 (bx1' hset.tl.tl.hd).1)
   have HRQ := qd (HRT.out _ (OwnInts.read (show OwnInts 0 wr.drew (.slice (some ⟨tb, 0, none⟩) m tc) F from HSD.out.tl.tl.tl.hd)))
   clear hkx hkeep htk hrx hS hset hc hr
   go_upto_region 3 with fail
   refine AnyL.start (fun w' => w'.cell? ⟨ub, 0, none⟩ = some (.slice (some ⟨us, 0, none⟩) m m) ∧ w'.cell? ⟨cb, 0, none⟩ = some (.slice (some ⟨tb, 0, none⟩) m tc)) (fun _ => True) 99 (by kernel_rfl) ?_
   refine AnyL.tT 0 (by exact X0.out) ?_
   refine AnyL.tT 1 (by exact X0.out) ?_
   refine AnyL.tT 2 (by exact X0.out) ?_
   refine AnyL.step (i := 3) (by kernel_rfl) (by rfl) (fun K hK => ?_)
   go_simp
   go_at_call 81
   with_reducible refine HRQ.out.mono ?_
   rintro e w3 ⟨rfl, rfl⟩
   refine shutNx hK _ (by exact X0.out) (by exact fun _ => trivial) ?_
   clear hK K
   refine AnyL.tT 4 (by exact X0.out) ?_
   refine AnyL.step (i := 5) (by kernel_rfl) (by rfl) (fun K hK => ?_)
   go_simp
   refine shutNx hK _ (by exact X1.out) (by exact fun _ => trivial) ?_
   clear hK K
   refine AnyL.done (by kernel_rfl) ?_ _
   go_wp2_with fail
   go_roundw
   case rel => exact ⟨k + 1, by omega, by go_num, HF.out⟩
   case measure => simp [intOf]; omega
  ·have hkn : k = n := by omega
   subst hkn
   have hs := HSX.out
   rw [List.take_of_length_le (by rw [HN.out]; exact Nat.le_refl _)] at hs
   have HF := qd (Sep.bag hs)
   clear hs hlt HSX
   go_wp2
   refine bodyPost_end (results_none rfl _ _ _) rfl ?_
   exact ⟨rfl, HF.out⟩
set_option maxHeartbeats 4000000 in
theorem moved_any (ev iv ov tv : Value) (g : Gr) (n : Int) (ts : List Int) (w : World) (he : RdE edgeE w ev g.es) (hi : IntsV w iv g.i) (ho : IntsV w ov g.o) (ht : IntsV w tv ts) (l0 : g.es.length ≤ 1000) (l1 : g.i.length ≤ 1000000) (l2 : g.o.length ≤ 1000000) (hle : ∀ e ∈ g.es, e.i.length ≤ 1000000 ∧ e.o.length ≤ 1000000) (hr : ∀ x ∈ wiresL g, 0 ≤ x ∧ x < (ts.length : Int)) :
 Calls Tryz.prog 83 #[grV g.n ev iv ov, .int .i64 n, tv] w fun e w' => ∃ u0 xs u1 u2, e = .returned (grV n u0 u1 u2) ∧ eds xs = g.es.map (mapE ts) ∧ Sep w' [OE u0 xs, OI u1 (g.i.map (ofL ts)), OI u2 (g.o.map (ofL ts)), KeepA w] := by
 have HMI := qd fun W (h : w.grownBy W none) => mapped_any tv iv ts g.i W (ht.carry h) (hi.carry h) l1 (fun x hx => hr x (by unfold wiresL; simp [hx]))
 have HMO := qd fun W (h : w.grownBy W none) => mapped_any tv ov ts g.o W (ht.carry h) (ho.carry h) l2 (fun x hx => hr x (by unfold wiresL; simp [hx]))
 have HE := qd he; have HT := qd ht; have HR := qd hr; have HLE := qd hle
 unfold grV
 obtain ⟨a0, c0, rfl⟩ := he.shape
 obtain ⟨a1, c1, rfl⟩ := hi.shape
 obtain ⟨a2, c2, rfl⟩ := ho.shape
 obtain ⟨ta, tc, rfl⟩ := ht.shape
 clear he hi ho ht hr hle
 obtain ⟨gn, es, is, os⟩ := g
 simp only at HMI HMO HE HR HLE l0 l1 l2 ⊢
 generalize hm : es.length = m at *
 generalize is.length = m1 at *
 generalize os.length = m2 at *
 generalize hm3 : ts.length = m3 at *
 have HM := qd hm; have HM3 := qd hm3
 clear hm hm3 l1 l2
 have hs0 := ((Sep.start w).box #[.int .i64 gn, .slice a0 m c0, .slice a1 m1 c1, .slice a2 m2 c2] 38).box #[.int .i64 0, .slice none 0 0, .slice none 0 0, .slice none 0 0] 38
 have e1 : (w.alloc (.cells #[.int .i64 gn, .slice a0 m c0, .slice a1 m1 c1, .slice a2 m2 c2] 38)).heap.size = w.heap.size + 1 := by simp
 rw [e1] at hs0
 have HS0 := qd hs0
 clear hs0 e1
 go_enter Tryz.func83, Tryz.ntmps83
 go_upto_region 1 with fail
 go_cut [7] from 10 to 20 (fun t7 wx => ∃ (ob : Nat) (b1 : Option Addr) (d1 : Nat) (b2 : Option Addr) (d2 : Nat), t7 = .pointer (some ⟨ob, 0, none⟩) ∧ Sep wx [BxA ob #[.int .i64 n, .slice none 0 0, .slice b1 m1 d1, .slice b2 m2 d2] 38, OI (.slice b1 m1 d1) (is.map (ofL ts)), OI (.slice b2 m2 d2) (os.map (ofL ts)), BxA (w.heap.size + 1) #[.int .i64 0, .slice none 0 0, .slice none 0 0, .slice none 0 0] 38, BxA w.heap.size #[.int .i64 gn, .slice a0 m c0, .slice a1 m1 c1, .slice a2 m2 c2] 38, KeepA w])
 case first =>
  have hs1 := HS0.out.dr
  have HS1 := qd hs1
  have hs1a := (HS0.out.box #[.int .i64 0, .slice none 0 0, .slice none 0 0, .slice none 0 0] 38).dr
  rw [show ((w.alloc (.cells #[.int .i64 gn, .slice a0 m c0, .slice a1 m1 c1, .slice a2 m2 c2] 38)).alloc (.cells #[.int .i64 0, .slice none 0 0, .slice none 0 0, .slice none 0 0] 38)).heap.size = w.heap.size + 1 + 1 by simp] at hs1a
  have HS1a := qd hs1a
  have HK1 := qd (show w.grownBy _ none from hs1.tl.tl.hd)
  have HK1a := qd (show w.grownBy _ none from hs1a.tl.tl.tl.hd)
  obtain ⟨x0, x1, x2, x3, _⟩ := bq4 hs1.tl.hd
  obtain ⟨y0, y1, y2, y3, _⟩ := bq4 hs1a.tl.tl.hd
  clear hs1 hs1a
  go_region_law (first
   |(try go_simp
     go_at_call 76
     with_reducible refine (HMI.out _ HK1.out).mono ?_
     rintro e w2 ⟨b1, d1, rfl, hsg⟩
     have HS2 := qd (HS1.out.graft1 hsg OI_own)
     have HK2 := qd (show w.grownBy _ none from HS2.out.tl.tl.tl.hd)
     obtain ⟨p0, p1, p2, p3, _⟩ := bq4 HS2.out.tl.tl.hd
     have hs2b := HS2.out.box #[.int .i64 0, .slice none 0 0, .slice none 0 0, .slice none 0 0] 38
     have HS2b := qd hs2b
     have HK2b := qd (show w.grownBy _ none from hs2b.tl.tl.tl.tl.hd)
     obtain ⟨r0, r1, r2, r3, _⟩ := bq4 hs2b.tl.tl.tl.hd
     clear hsg hs2b)
   |(try go_simp
     go_at_call 76
     with_reducible refine (HMI.out _ HK1a.out).mono ?_
     rintro e w2 ⟨b1, d1, rfl, hsg⟩
     have HS2a := qd (HS1a.out.graft1 hsg OI_own)
     have HK2a := qd (show w.grownBy _ none from HS2a.out.tl.tl.tl.tl.hd)
     obtain ⟨p0, p1, p2, p3, _⟩ := bq4 HS2a.out.tl.tl.tl.hd
     clear hsg)
   |(try go_simp
     go_at_call 76
     with_reducible refine (HMO.out _ HK2.out).mono ?_
     rintro e w3 ⟨b2, d2, rfl, hsg⟩
     have HS3 := qd (HS2.out.graft1 hsg OI_own)
     have hs3 := (HS3.out).box #[.int .i64 n, .slice none 0 0, .slice b1 m1 d1, .slice b2 m2 d2] 38
     have HSF := qd (hs3.under (fun h => h.s2) (by simp +contextual [or_assoc, or_comm, or_left_comm]))
     clear hsg hs3)
   |(try go_simp
     go_at_call 76
     with_reducible refine (HMO.out _ HK2a.out).mono ?_
     rintro e w3 ⟨b2, d2, rfl, hsg⟩
     have hs3 := (HS2a.out.graft1 hsg OI_own).s3
     obtain ⟨q0, q1, q2, q3, q4, q5⟩ := bq4 hs3.hd
     have hs4 := (((hs3.setB 0 (.int .i64 n)).setB 1 (.slice none 0 0)).setB 2 (.slice b1 m1 d1)).setB 3 (.slice b2 m2 d2)
     have HSF := qd (hs4.under (fun h => h.s2) (by simp +contextual [or_assoc, or_comm, or_left_comm]))
     clear hsg hs3 hs4)
   |(try go_simp
     go_at_call 76
     with_reducible refine (HMO.out _ HK2b.out).mono ?_
     rintro e w3 ⟨b2, d2, rfl, hsg⟩
     have hs3 := (HS2b.out.graft1 hsg OI_own).s2
     obtain ⟨q0, q1, q2, q3, q4, q5⟩ := bq4 hs3.hd
     have hs4 := (((hs3.setB 0 (.int .i64 n)).setB 1 (.slice none 0 0)).setB 2 (.slice b1 m1 d1)).setB 3 (.slice b2 m2 d2)
     have HSF := qd (hs4.under (fun h => h.s2) (by simp +contextual [or_assoc, or_comm, or_left_comm]))
     clear hsg hs3 hs4))
  all_goals
   go_wp2_with fail
   go_meet
   exact ⟨_, b1, d1, b2, d2, rfl, HSF.out⟩
 case rest =>
  obtain ⟨ob, b1, d1, b2, d2, rfl, hs⟩ := hcut
  have HS := qd hs
  obtain ⟨x0, x1, x2, x3, _⟩ := bq4 hs.hd
  obtain ⟨y0, y1, y2, y3, _⟩ := bq4 hs.tl.tl.tl.tl.hd
  clear hs HS0 HMI HMO
  go_wp2_with fail
  go_loopw [9, 23] (fun _ i wr => ∃ (k : Nat) (e1 : Option Addr) (f1 : Nat) (xs : List XE), k ≤ m ∧ i = .int .i64 k ∧ xs.length = k ∧ eds xs = (es.take k).map (mapE ts) ∧ Sep wr [BxA ob #[.int .i64 n, .slice e1 k f1, .slice b1 m1 d1, .slice b2 m2 d2] 38, OR edgeE (.slice e1 k f1) xs, Bag (rowsE xs), OI (.slice b1 m1 d1) (is.map (ofL ts)), OI (.slice b2 m2 d2) (os.map (ofL ts)), BxA (w.heap.size + 1) #[.int .i64 0, .slice none 0 0, .slice none 0 0, .slice none 0 0] 38, KeepA w]) (fun _ i _ => m - (intOf i).toNat)
  case atStart => exact ⟨0, none, 0, [], by omega, rfl, rfl, rfl, ((HS.out.under (fun h => h.under (fun h => h.under (fun h => h.drop2) (by simp +contextual)) (by simp +contextual)) (by simp +contextual)).noBag.nilR edgeE).s3⟩
  case round =>
   obtain ⟨k, e1, f1, xs, hk, rfl, hxl, hxe, hs⟩ := hrel
   have HSX := qd hs; have HXL := qd hxl; have HXE := qd hxe
   have HKX := qd (show w.grownBy wr none from hs.tl.tl.tl.tl.tl.tl.hd)
   obtain ⟨x0, x1, x2, x3, _⟩ := bq4 hs.hd
   clear hs hxl hxe HS
   by_cases hlt : k < m
   ·have hke : k < es.length := by rw [HM.out]; exact hlt
    have hye : es.getD k e0 ∈ es := by rw [List.getD_eq_getElem?_getD, List.getElem?_eq_getElem hke]; exact List.getElem_mem _
    obtain ⟨eb, eo, iv, ov, rfl, _, q0, q1, q2, q3, hiv, hov⟩ := (HE.out.carry HKX.out).at rfl rfl hke
    have hlm := HLE.out _ hye
    have HMI := qd fun W (h : wr.grownBy W none) => mapped_any _ iv ts (es.getD k e0).i W (HT.out.carry (grownBy_trans HKX.out h)) (hiv.carry h) hlm.1 (fun x hx => by rw [HM3.out]; exact HR.out x ((wires_edge hye).1 hx))
    have HMO := qd fun W (h : wr.grownBy W none) => mapped_any _ ov ts (es.getD k e0).o W (HT.out.carry (grownBy_trans HKX.out h)) (hov.carry h) hlm.2 (fun x hx => by rw [HM3.out]; exact HR.out x ((wires_edge hye).2 hx))
    have HTK := qd (map_take ts hke)
    have HXN := qd (show ∀ x : XE, x.ed = mapE ts (es.getD k e0) → eds (xs ++ [x]) = (es.take (k + 1)).map (mapE ts) from fun x hx => by rw [eds_snoc, hx, HTK.out, HXE.out])
    generalize es.getD k e0 = y at *
    obtain ⟨yk, yv, yi, yo⟩ := y
    simp only at q0 q1 HMI HMO
    obtain ⟨s1, r1, rfl⟩ := hiv.shape
    obtain ⟨s2, r2, rfl⟩ := hov.shape
    simp only at q2 q3
    clear hke hye hiv hov hlm
    generalize yi.length = n1 at *
    generalize yo.length = n2 at *
    have hsb := (HSX.out.box #[.int .i64 yk, .int .i64 yv, .slice s1 n1 r1, .slice s2 n2 r2] 104)
    have HSD := qd hsb.dr
    have HKD := qd (show wr.grownBy (wr.alloc (.cells #[.int .i64 yk, .int .i64 yv, .slice s1 n1 r1, .slice s2 n2 r2] 104)).drew none from grownBy_trans (gr1 wr _) ⟨rfl, rfl, rfl, Nat.le_refl _, fun _ _ _ => rfl⟩)
    have t1 := (bq4 hsb.tl.hd).2.1
    have t1d := (bq4 hsb.dr.tl.hd).2.1
    clear hsb
    go_upto_region 5 with fail
    have hxb : ∃ xb, xb = wr.heap.size := ⟨_, rfl⟩
    obtain ⟨xb, hxb⟩ := hxb
    have SX := qd fun (W : World) (l : List Asrt) (h : Sep W (BxA wr.heap.size #[.int .i64 yk, .int .i64 yv, .slice s1 n1 r1, .slice s2 n2 r2] 104 :: l)) => And.intro (bq4 h.hd).1 (And.intro (bq4 h.hd).2.1 (And.intro (bq4 h.hd).2.2.1 (bq4 h.hd).2.2.2.1))
    have X0 := qd (SX.out _ _ HSD.out)
    rw [← hxb] at SX X0 HSD
    clear q0 q1 q2 q3 x0 x1 x2 x3
    simp only [← hxb]
    clear hxb
    generalize wr.alloc (.cells #[.int .i64 yk, .int .i64 yv, .slice s1 n1 r1, .slice s2 n2 r2] 104) = wx at *
    refine AnyL.start (fun w' => w'.cell? ⟨xb, 0, none⟩ = some (.int .i64 yk) ∧ w'.cell? ⟨xb, 1, none⟩ = some (.int .i64 yv) ∧ w'.cell? ⟨xb, 2, none⟩ = some (.slice s1 n1 r1) ∧ w'.cell? ⟨xb, 3, none⟩ = some (.slice s2 n2 r2)) (fun w' => w'.cell? ⟨ob, 1, none⟩ = some (.slice e1 k f1)) 16 (by kernel_rfl) ?_
    refine AnyL.tk 0 (by exact ⟨X0.out, fun _ => t1d⟩) ?_
    refine AnyL.tkA 1 (by exact ⟨X0.out, fun _ => t1d⟩) ?_
    refine AnyL.tk 2 (by exact ⟨X0.out, fun _ => t1d⟩) ?_
    refine AnyL.tk 3 (by exact ⟨X0.out, fun _ => t1d⟩) ?_
    refine AnyL.tk 4 (by exact ⟨X0.out, fun _ => t1d⟩) ?_
    refine AnyL.tk 5 (by exact ⟨X0.out, fun _ => t1d⟩) ?_
    refine AnyL.tk 6 (by exact ⟨X0.out, fun _ => t1d⟩) ?_
    refine AnyL.tk 7 (by exact ⟨X0.out, fun _ => t1d⟩) ?_
    refine AnyL.tk 8 (by exact ⟨X0.out, fun _ => t1d⟩) ?_
    refine AnyL.tk 10 (by exact ⟨X0.out, fun _ => t1d⟩) ?_
    refine AnyL.tk 11 (by exact ⟨X0.out, fun _ => t1d⟩) ?_
    refine AnyL.tk 12 (by exact ⟨X0.out, fun _ => t1d⟩) ?_
    refine AnyL.step (i := 9) (by kernel_rfl) (by rfl) (fun K hK => ?_)
    go_simp
    go_at_call 76
    with_reducible refine (HMI.out _ HKD.out).mono ?_
    rintro e w2 ⟨b3, d3, rfl, hsg⟩
    have HS2 := qd (HSD.out.graft1 hsg OI_own)
    have X2 := qd (SX.out _ _ HS2.out.tl)
    have HK2 := qd (show wr.grownBy w2 none from grownBy_trans HKD.out hsg.tl.hd)
    have t1a := (bq4 HS2.out.tl.tl.hd).2.1
    clear hsg
    refine shutNx hK _ (by exact X2.out) (by exact fun _ => t1a) ?_
    clear hK K
    refine AnyL.step (i := 13) (by kernel_rfl) (by rfl) (fun K hK => ?_)
    go_simp
    go_at_call 76
    with_reducible refine (HMO.out _ HK2.out).mono ?_
    rintro e w3 ⟨b4, d4, rfl, hsg⟩
    have HS3 := qd (HS2.out.graft1 hsg OI_own)
    have X3 := qd (SX.out _ _ HS3.out.tl.tl)
    have Y3 := qd fun ob' => SX.out _ _ (HS3.out.al ob').tl.tl
    have t1b := (bq4 HS3.out.tl.tl.tl.hd).2.1
    have t1c := fun ob' => (bq4 (HS3.out.al ob').tl.tl.tl.hd).2.1
    clear hsg
    refine shutNx hK _ (by exact X3.out) (by exact fun _ => t1b) ?_
    clear hK K
    refine AnyL.tk 14 (by exact ⟨X3.out, fun _ => t1b⟩) ?_
    refine AnyL.step (i := 15) (by kernel_rfl) (by rfl) (fun K hK => ?_)
    go_simp
    refine shutNx hK _ (by exact Y3.out _) (by exact fun _ => t1c _) ?_
    clear hK K
    refine AnyL.step (i := 16) (by kernel_rfl) (by rfl) (fun K hK => ?_)
    refine step_app_RG (E := edgeE) (y := ⟨⟨yk, yv, yi.map (ofL ts), yo.map (ofL ts)⟩, .slice b3 n1 d3, .slice b4 n2 d4⟩) info_edge rfl (by decide) Tryz.underlying36 (edge_one _ _ _ _ _ _ _) rfl (.tmp 28) (.tmp 42) rfl rfl rfl (by simp) rfl (HS3.out.s5) (by rw [HXL.out]; omega) ?_
    intro g c w4 h4
    rw [HXL.out] at h4 ⊢
    have X4 := qd (SX.out _ _ h4.tl.tl.tl)
    have X5 := qd (SX.out _ _ (h4.s5.setB 1 (.slice (some ⟨g, 0, none⟩) (k + 1) c)).tl.tl.tl.tl)
    have h5 := h4.edgeIn
    rw [← rowsE_snoc xs ⟨⟨yk, yv, yi.map (ofL ts), yo.map (ofL ts)⟩, .slice b3 n1 d3, .slice b4 n2 d4⟩] at h5
    obtain ⟨u0, u1, u2, u3, u4, u5, _⟩ := bq4 h5.hd
    have HS5 := qd (h5.setB 1 (.slice (some ⟨g, 0, none⟩) (k + 1) c))
    clear h4 h5
    refine shutNx hK _ (by exact X4.out) (by exact fun h => noTF (by kernel_rfl) h) ?_
    clear hK K
    refine AnyL.tk 17 (by exact ⟨X4.out, fun h => noTF (by kernel_rfl) h⟩) ?_
    refine AnyL.step (i := 18) (by kernel_rfl) (by rfl) (fun K hK => ?_)
    go_simp
    refine shutNx hK _ (by exact X5.out) (by exact fun h => noTF (by kernel_rfl) h) ?_
    clear hK K
    refine AnyL.done (by kernel_rfl) ?_ _
    all_goals
     go_wp2_with fail
     go_roundw
     case rel => exact ⟨k + 1, some ⟨g, 0, none⟩, c, xs ++ [(⟨⟨yk, yv, yi.map (ofL ts), yo.map (ofL ts)⟩, .slice b3 n1 d3, .slice b4 n2 d4⟩ : XE)], by omega, by go_num, by rw [List.length_append, HXL.out]; rfl, HXN.out ⟨⟨yk, yv, yi.map (ofL ts), yo.map (ofL ts)⟩, .slice b3 n1 d3, .slice b4 n2 d4⟩ rfl, HS5.out⟩
     case measure => simp [intOf]; omega
   ·have hkm : k = m := by omega
    subst hkm
    have hxe := HXE.out
    rw [List.take_of_length_le (by rw [HM.out]; exact Nat.le_refl _)] at hxe
    have HXF := qd hxe
    have hs1 := HSX.out.tl.s5
    obtain ⟨r0, r1, r2, r3, r4, r5⟩ := bq4 hs1.hd
    have hs2 := (((hs1.setB 0 (.int .i64 n)).setB 1 (.slice e1 k f1)).setB 2 (.slice b1 m1 d1)).setB 3 (.slice b2 m2 d2)
    obtain ⟨k0, k1, k2, k3, _⟩ := bq4 hs2.hd
    have HF := qd hs2.tl.intoBag
    clear hs1 hs2 hxe hlt
    go_wp2_with fail
    refine bodyPost_ret_by (v := .agg #[.int .i64 n, .slice e1 k f1, .slice b1 m1 d1, .slice b2 m2 d2]) ?_ rfl ⟨_, xs, _, _, rfl, HXF.out, HF.out⟩
    simp [results, go_sem, *]
end Go.Proofs.YtjagjhchnpmngaaGreat

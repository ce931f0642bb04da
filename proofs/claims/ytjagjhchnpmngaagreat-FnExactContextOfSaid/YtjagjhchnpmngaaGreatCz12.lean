/-
 Wires made one, in the program: the graph that is glued. Conditions: wires are in range; lengths are small.
-/
import Derived.Test.YtjagjhchnpmngaaGreatCz04
import Derived.Test.YtjagjhchnpmngaaGreatCz03
import Derived.Test.YtjagjhchnpmngaaGreatCz02
import Derived.Test.YtjagjhchnpmngaaGreatCz01
import Derived.Test.YtjagjhchnpmngaaGreatCz00
import Derived.Test.YtjagjhchnpmngaaGreatCz11
import Derived.Test.YtjagjhchnpmngaaGreatCz06
import Derived.Test.YtjagjhchnpmngaaGreatCz05
set_option linter.unusedVariables false
set_option linter.unusedSimpArgs false
set_option maxRecDepth 100000
namespace Go.Proofs.YtjagjhchnpmngaaGreat
open Go.RowKit
def pairE : Lay (Int × Int) := ⟨121, 2, fun p => [.int .i64 p.1, .int .i64 p.2], fun _ => rfl, by decide⟩
theorem pair_cells {w : World} {a : Option Addr} {n c : Nat} {ps : List (Int × Int)} (h : RdR pairE w (.slice a n c) ps) {k : Nat} (hk : k < ps.length) :
 ∃ b o, a = some ⟨b, o, none⟩ ∧ w.cell? ⟨b, o + k * 2, none⟩ = some (.int .i64 (ps.getD k (0, 0)).1) ∧ w.cell? ⟨b, o + k * 2 + 1, none⟩ = some (.int .i64 (ps.getD k (0, 0)).2) := by
 obtain ⟨b, o, ha, _, hc⟩ := h.at hk
 have e : ps.getD k (0, 0) = ps[k] := by rw [List.getD_eq_getElem?_getD, List.getElem?_eq_getElem hk]; rfl
 rw [e]
 exact ⟨b, o, ha, hc 0 (by decide), hc 1 (by decide)⟩
theorem numL_set {C ws : List Int} {m k : Nat} {v : Int} (hk : k < m) (hv : numX C ws (k : Int) = v) : ((numL C ws m).take k ++ List.replicate (m - k) (0 : Int)).set k v = (numL C ws m).take (k + 1) ++ List.replicate (m - (k + 1)) 0 := by
 have hl : ((numL C ws m).take k).length = k := by rw [List.length_take, numL_len]; omega
 rw [List.set_append_right _ _ (by omega), hl, Nat.sub_self, show m - k = (m - (k + 1)) + 1 by omega, List.replicate_succ, List.set_cons_zero]
 have h2 : (numL C ws m).take (k + 1) = (numL C ws m).take k ++ [v] := by
  rw [List.take_succ_eq_append_getElem (by rw [numL_len]; exact hk)]
  congr 1
  unfold numL
  rw [List.getElem_map, List.getElem_range, hv]
 rw [h2, List.append_assoc]
 rfl
theorem numL_get {C ws : List Int} {m k r : Nat} (hr : r < k) (hk : k < m) : ((numL C ws m).take k ++ List.replicate (m - k) (0 : Int)).getD r 0 = numX C ws (r : Int) := by
 rw [List.getD_eq_getElem?_getD, List.getElem?_append_left (by rw [List.length_take, numL_len]; omega), List.getElem?_take_of_lt hr]
 unfold numL
 rw [List.getElem?_map, List.getElem?_range (by omega)]
 rfl
theorem bq5 {w : World} {k : Nat} {x0 x1 x2 x3 x4 : Value} {t : TypeId} (h : w.heap[k]? = some (.cells #[x0, x1, x2, x3, x4] t (0, 0))) :
 w.cell? ⟨k, 0, none⟩ = some x0 ∧ w.cell? ⟨k, 1, none⟩ = some x1 ∧ w.cell? ⟨k, 2, none⟩ = some x2 ∧ w.cell? ⟨k, 3, none⟩ = some x3 ∧ w.cell? ⟨k, 4, none⟩ = some x4 :=
 ⟨cell_of_row w k 0 _ _ _ h, cell_of_row w k 1 _ _ _ h, cell_of_row w k 2 _ _ _ h, cell_of_row w k 3 _ _ _ h, cell_of_row w k 4 _ _ _ h⟩
theorem bf5 {w : World} {k : Nat} {x0 x1 x2 x3 x4 : Value} {t : TypeId} (h : w.heap[k]? = some (.cells #[x0, x1, x2, x3, x4] t (0, 0))) :
 w.frozen? ⟨k, 0, none⟩ = false ∧ w.frozen? ⟨k, 1, none⟩ = false ∧ w.frozen? ⟨k, 2, none⟩ = false ∧ w.frozen? ⟨k, 3, none⟩ = false ∧ w.frozen? ⟨k, 4, none⟩ = false :=
 ⟨frozen_of_row w k 0 _ _ h, frozen_of_row w k 1 _ _ h, frozen_of_row w k 2 _ _ h, frozen_of_row w k 3 _ _ h, frozen_of_row w k 4 _ _ h⟩
set_option maxHeartbeats 8000000 in
theorem glue_any (ev iv ov : Value) (g : Gr) (m : Nat) (pv : Value) (ps : List (Int × Int)) (w : World) (he : RdE edgeE w ev g.es) (hi : IntsV w iv g.i) (ho : IntsV w ov g.o) (hp : RdR pairE w pv ps) (hm : g.n = m) (hm1 : m ≤ 400) (h60 : g.es.length ≤ 200) (h12 : g.i.length ≤ 40) (h12' : g.o.length ≤ 40)
 (hle : ∀ e ∈ g.es, e.i.length ≤ 2 ∧ e.o.length ≤ 2) (hw : ∀ x ∈ wiresL g, 0 ≤ x ∧ x < (m : Int)) (hps : ∀ p ∈ ps, (0 ≤ p.1 ∧ p.1 < (m : Int)) ∧ 0 ≤ p.2 ∧ p.2 < (m : Int)) (hpl : ps.length ≤ 100) :
 Calls Tryz.prog 41 #[grV g.n ev iv ov, pv] w fun e w' => ∃ u0 xs u1 u2 t, e = .returned (.agg #[.int .i64 (glueG (classOf m ps) g).n, u0, u1, u2, t]) ∧ eds xs = (glueG (classOf m ps) g).es ∧
  Sep w' [OE u0 xs, OI u1 (glueG (classOf m ps) g).i, OI u2 (glueG (classOf m ps) g).o, KeepA w] := by
 obtain ⟨i0, hbi, hz0, hz1, hz2⟩ := info_parts info_bool
 have HBI := qd hbi; have HZ0 := qd hz0; have HZ1 := qd hz1; have HZ2 := qd hz2
 clear hbi hz0 hz1 hz2
 have HU := qd fun W => upTo_any m W (by omega)
 have HZ := qd fun W => zeros_full m W (by omega)
 have HP := qd fun W (h : w.grownBy W none) => hp.carry h
 have HPS := qd hps
 have HLS := qd fun (lb : Array Value) (A : List Int → Asrt) (hV : VisFnR (fun y => 0 ≤ y ∧ y < (m : Int)) 80 lb A) W l (hs : Sep W (A [] :: KeepA w :: l)) =>
  lists_anyR 80 lb (enters_of Tryz.func80 (by kernel_rfl) rfl) A _ hV g.n ev iv ov g w W l he hi ho (by omega) (by omega) (by omega) (fun e he => by have := hle e he; omega) hw hs
 have HMV := qd fun C tv W (h : w.grownBy W none) (ht : IntsV W tv (numL C (wiresL g) m)) => moved_any ev iv ov tv g (cntR C (wiresL g) m : Int) (numL C (wiresL g) m) W (he.carry h) (hi.carry h) (ho.carry h) ht (by omega) (by omega) (by omega) (fun e h => by have := hle e h; omega) (by rw [numL_len]; exact hw)
 have HGL := qd fun C => show (glueG C g).n = (cntR C (wiresL g) m : Int) ∧ (glueG C g).es = g.es.map (mapE (numL C (wiresL g) m)) ∧ (glueG C g).i = g.i.map (ofL (numL C (wiresL g) m)) ∧ (glueG C g).o = g.o.map (ofL (numL C (wiresL g) m)) from by
  unfold glueG mapG
  rw [hm, Int.toNat_natCast]
  exact ⟨rfl, rfl, rfl, rfl⟩
 obtain ⟨C, hC⟩ : ∃ C, C = classOf m ps := ⟨_, rfl⟩
 rw [← hC]
 have HCC := qd hC
 obtain ⟨gl1, gl2, gl3, gl4⟩ := HGL.out C
 rw [gl1, gl2, gl3, gl4]
 unfold grV at *
 obtain ⟨ea, ec, rfl⟩ := he.shape
 obtain ⟨ia, ic, rfl⟩ := hi.shape
 obtain ⟨oa, oc, rfl⟩ := ho.shape
 obtain ⟨pa, pc, rfl⟩ := hp.shape
 have HMM := qd hm1
 rw [hm] at *
 clear he hi ho hp h60 h12 h12' hle hps hC gl1 gl2 gl3 gl4 HGL hm
 have HW := qd hw
 clear hw
 generalize wiresL g = ws at *
 generalize g.es.length = m0 at *
 generalize g.i.length = n1 at *
 generalize g.o.length = n2 at *
 generalize hpn : ps.length = n at *
 have HPN := qd hpn
 clear hpn
 have hs0 := ((Sep.start w).box #[.int .i64 m, .slice ea m0 ec, .slice ia n1 ic, .slice oa n2 oc] 38).box #[.int .i64 0, .slice none 0 0, .slice none 0 0, .slice none 0 0, .slice none 0 0] 79
 have e1 : (w.alloc (.cells #[.int .i64 m, .slice ea m0 ec, .slice ia n1 ic, .slice oa n2 oc] 38)).heap.size = w.heap.size + 1 := by simp
 rw [e1] at hs0
 obtain ⟨x0, x1, x2, x3, _⟩ := bq4 hs0.tl.hd
 have HS0 := qd hs0
 clear hs0 e1
 go_enter Tryz.func41, Tryz.ntmps41
 go_wp2_with (
  go_at_call 77
  with_reducible refine (HU.out _).mono ?_
  rintro e w2 ⟨tb, tc, rfl, hsg⟩
  have hs2 := (HS0.out.graft1 hsg OI_own).box #[.slice (some ⟨tb, 0, none⟩) m tc] 119
  have HS2 := qd hs2
  clear hsg hs2)
 obtain ⟨cb, hcb⟩ : ∃ cb, cb = w2.heap.size := ⟨_, rfl⟩
 rw [← hcb] at HS2
 simp only [← hcb]
 clear hcb x0 x1 x2 x3
 go_loopw [7, 18] (fun _ i wr => ∃ (k : Nat) (F : List Int), k ≤ n ∧ i = .int .i64 k ∧ Rep m F (classOf m (ps.take k)) ∧ Sep wr [BxA cb #[.slice (some ⟨tb, 0, none⟩) m tc] 119, OI (.slice (some ⟨tb, 0, none⟩) m tc) F, BxA (w.heap.size + 1) #[.int .i64 0, .slice none 0 0, .slice none 0 0, .slice none 0 0, .slice none 0 0] 79, BxA w.heap.size #[.int .i64 m, .slice ea m0 ec, .slice ia n1 ic, .slice oa n2 oc] 38, KeepA w]) (fun _ i _ => n - (intOf i).toNat)
 case atStart => exact ⟨0, upL m, by omega, rfl, Rep.start m, HS2.out⟩
 case round =>
  obtain ⟨k, F, hk, rfl, hrep, hs⟩ := hrel
  have HREP := qd hrep; have HSX := qd hs
  clear hrep hs HS2
  by_cases hlt : k < n
  ·have hkp : k < ps.length := by rw [HPN.out]; exact hlt
   obtain ⟨b, o, rfl, q0, q1⟩ := pair_cells (HP.out _ HSX.out.tl.tl.tl.tl.hd) hkp
   have hpr := HPS.out _ (getD_mem (d := ((0, 0) : Int × Int)) hkp)
   have htk : ps.take (k + 1) = ps.take k ++ [ps.getD k (0, 0)] := by rw [List.take_succ_eq_append_getElem hkp, List.getD_eq_getElem?_getD, List.getElem?_eq_getElem hkp]; rfl
   have HTK := qd (show classOf m (ps.take (k + 1)) = joinC (classOf m (ps.take k)) (ps.getD k (0, 0)).1 (ps.getD k (0, 0)).2 by rw [htk, classOf_snoc])
   generalize ps.getD k (0, 0) = pp at *
   obtain ⟨p1, p2⟩ := pp
   simp only at q0 q1 hpr HTK
   obtain ⟨a, rfl⟩ := Int.eq_ofNat_of_zero_le hpr.1.1
   obtain ⟨c, rfl⟩ := Int.eq_ofNat_of_zero_le hpr.2.1
   have hj := HREP.out.join hpr.1.1 hpr.1.2 hpr.2.1 hpr.2.2
   rw [← HTK.out] at hj
   have HJR := qd hj
   have hsb := (HSX.out.box #[.int .i64 a, .int .i64 c] 121)
   have y0 := (bx1' hsb.tl.hd).1
   have HJ := qd (join_any tb m tc F (classOf m (ps.take k)) a c _ _ hsb.s3 HREP.out (by omega) (by omega) (by have := HMM.out; omega))
   clear hkp htk hpr hj hsb
   go_wp2_with (
    go_at_call 78
    with_reducible refine HJ.out.mono ?_
    rintro e w4 ⟨rfl, h4⟩
    have HS4 := qd (show Sep w4 [BxA cb _ _, OI _ _, BxA _ _ _, BxA _ _ _, KeepA w] from h4.s2.tl.s2)
    clear h4)
   go_roundw
   case rel => exact ⟨k + 1, _, by omega, by go_num, HJR.out, HS4.out⟩
   case measure => simp [intOf]; omega
  ·have hkn : k = n := by omega
   subst hkn
   have hrep := HREP.out
   rw [List.take_of_length_le (by rw [HPN.out]; exact Nat.le_refl _), ← HCC.out] at hrep
   have HR := qd hrep
   obtain ⟨y0, y1, y2, y3, _⟩ := bq4 HSX.out.tl.tl.tl.hd
   clear hlt hrep HREP
   go_upto_region 9 with (first
    |(at_make
      refine wpList_make_full _ rfl _ _ 123 rfl wr.heap.size 4 i0 _ 1 Tryz.underlying123 HBI.out HZ0.out HZ1.out _ _ _ _ m rfl rfl rfl rfl (by rw [HZ2.out]; have := HMM.out; omega) (by unfold maxLen; have := HMM.out; omega) (Nat.le_refl _) ?_
      intro w5 hown' hgr'
      have hs5 := (HSX.out.newR hgr' (OwnR.made (E := boolE) falseCells hown')).box #[.slice (some ⟨wr.heap.size, 0, none⟩) m m] 123
      rw [← usedL_nil m C] at hs5
      obtain ⟨y0, y1, y2, y3, _⟩ := bq4 hs5.tl.tl.tl.tl.tl.hd
      have hs6 := (Sep.bag (l := UseA m w5.heap.size wr.heap.size cb tb tc F C []) (r := [BxA (w.heap.size + 1) #[.int .i64 0, .slice none 0 0, .slice none 0 0, .slice none 0 0, .slice none 0 0] 79, BxA w.heap.size #[.int .i64 m, .slice ea m0 ec, .slice ia n1 ic, .slice oa n2 oc] 38, KeepA w]) hs5).under Sep.s3 (by simp +contextual)
      have HC := qd (HLS.out _ _ (glue1_fn m w5.heap.size wr.heap.size cb tb tc F C HR.out (by have := HMM.out; omega)) _ _ hs6)
      clear hs5 hs6 hown' hgr')
    |(go_at_call 79
      with_reducible refine HC.out.mono ?_
      rintro e w6 ⟨rfl, hs6⟩
      have hs7 := Sep.unbag hs6
      have hs8 : Sep w6 (([BxA (w.heap.size + 1) #[.int .i64 0, .slice none 0 0, .slice none 0 0, .slice none 0 0, .slice none 0 0] 79, BxA w.heap.size #[.int .i64 m, .slice ea m0 ec, .slice ia n1 ic, .slice oa n2 oc] 38] : List Asrt) ++ (UseA m w5.heap.size wr.heap.size cb tb tc F C ws ++ [KeepA w])) := Sep.perm (by
       have := List.perm_append_comm (l₁ := UseA m w5.heap.size wr.heap.size cb tb tc F C ws ++ [KeepA w]) (l₂ := [BxA (w.heap.size + 1) #[.int .i64 0, .slice none 0 0, .slice none 0 0, .slice none 0 0, .slice none 0 0] 79, BxA w.heap.size #[.int .i64 m, .slice ea m0 ec, .slice ia n1 ic, .slice oa n2 oc] 38])
       simpa using this) hs7
      obtain ⟨y0, y1, y2, y3, _⟩ := bq4 hs8.tl.hd
      have HS8 := qd (show Sep w6 (BxA (w.heap.size + 1) #[.int .i64 0, .slice none 0 0, .slice none 0 0, .slice none 0 0, .slice none 0 0] 79 :: BxA w.heap.size #[.int .i64 m, .slice ea m0 ec, .slice ia n1 ic, .slice oa n2 oc] 38 :: UseA m w5.heap.size wr.heap.size cb tb tc F C ws ++ [KeepA w]) from hs8)
      clear hs6 hs7 hs8))
   obtain ⟨us, hus⟩ : ∃ us, us = wr.heap.size := ⟨_, rfl⟩
   obtain ⟨ub, hub⟩ : ∃ ub, ub = w5.heap.size := ⟨_, rfl⟩
   rw [← hus, ← hub] at HS8
   simp only [← hus, ← hub]
   clear hus hub HSX HC
   go_wp2_with (
    go_at_call 82
    with_reducible refine (HZ.out _).mono ?_
    rintro e w7 ⟨tz, zc, rfl, hsg⟩
    have HS9 := qd (HS8.out.graft1 hsg OI_own)
    clear hsg)
   clear y0 y1 y2 y3
   go_loopw [10, 11, 12, 40, 52, 61] (fun cv _ _ i _ _ wr => ∃ k : Nat, k ≤ m ∧ i = .int .i64 k ∧ cv = .int .i64 (cntR C ws k) ∧ Sep wr (OI (.slice (some ⟨tz, 0, none⟩) m zc) ((numL C ws m).take k ++ List.replicate (m - k) 0) :: BxA (w.heap.size + 1) #[.int .i64 0, .slice none 0 0, .slice none 0 0, .slice none 0 0, .slice none 0 0] 79 :: BxA w.heap.size #[.int .i64 m, .slice ea m0 ec, .slice ia n1 ic, .slice oa n2 oc] 38 :: UseA m ub us cb tb tc F C ws ++ [KeepA w])) (fun _ _ _ i _ _ _ => m - (intOf i).toNat)
   case atStart => exact ⟨0, by omega, rfl, by simp [cntR], by simpa using HS9.out⟩
   case round =>
    obtain ⟨k, hk, rfl, rfl, hs⟩ := hrel
    have HSX := qd hs
    have hmm := HMM.out
    clear hs HS9 HS8
    by_cases hlt : k < m
    ·have hll : m = ((numL C ws m).take k ++ List.replicate (m - k) (0 : Int)).length := by rw [List.length_append, List.length_take, numL_len, List.length_replicate]; omega
     have hS : Sep wr (OI (.slice (some ⟨tz, 0, none⟩) m zc) ((numL C ws m).take k ++ List.replicate (m - k) 0) :: BxA (w.heap.size + 1) #[.int .i64 0, .slice none 0 0, .slice none 0 0, .slice none 0 0, .slice none 0 0] 79 :: BxA w.heap.size #[.int .i64 m, .slice ea m0 ec, .slice ia n1 ic, .slice oa n2 oc] 38 :: BxA ub #[.slice (some ⟨us, 0, none⟩) m m] 123 :: OR boolE (.slice (some ⟨us, 0, none⟩) m m) (usedL m C ws) :: BxA cb #[.slice (some ⟨tb, 0, none⟩) m tc] 119 :: OI (.slice (some ⟨tb, 0, none⟩) m tc) F :: [KeepA w]) := HSX.out
     have hf := hS.hd.free hll k
     obtain ⟨q, hc0⟩ := hS.hd.cellQ hll (j := k) hlt
     have hc := HR.out.c0 (k : Int) (by omega) (by omega)
     have hcc := HR.out.cc (k : Int) (by omega) (by omega)
     obtain ⟨r, hr⟩ := Int.eq_ofNat_of_zero_le hc.1
     rw [hr] at hcc hc
     have hrk : r ≤ k := by omega
     have hrm : r < m := by omega
     have HRT := qd (root_any _ F C m k wr (OwnInts.read (show OwnInts 0 wr _ F from hS.tl.tl.tl.tl.tl.tl.hd)) HR.out hlt (by omega))
     rw [hr] at HRT
     have hb0 := (bx1' hS.tl.tl.tl.hd).1
     have hb1 := (bx1' hS.tl.tl.tl.tl.tl.hd).1
     have hub := bool_cell hS.tl.tl.tl.tl.hd (usedL_len m C ws).symm hrm
     rw [usedL_at hrm] at hub
     have hnx : numX C ws (k : Int) = if usedB C ws (r : Int) = true then (cntR C ws r : Int) else -1 := by unfold numX; rw [hr, Int.toNat_natCast]
     have hcs := cntR_succ C ws k
     have hcl := cntR_le C ws k
     rw [hr] at hcs
     have hset := fun v (hv : numX C ws (k : Int) = v) => (show Sep _ _ from by have := hS.setI hll k v; rw [numL_set hlt hv] at this; exact this)
     have HSET := qd hset
     cases hu : usedB C ws (r : Int)
     ·rw [hu] at hub
      rw [hu, if_neg (by simp)] at hnx
      have HF := qd (HSET.out _ hnx)
      have HCN := qd (show cntR C ws (k + 1) = cntR C ws k from by
       rw [hcs]
       by_cases hrk' : r = k
       ·subst hrk'; rw [hu]; simp
       ·rw [decide_eq_false (by omega)]; simp)
      clear hll hS hc hcc hnx hcs hset HSET hr hcl
      go_wp2_with (go_at_call 81; with_reducible refine HRT.out.mono ?_; rintro e w8 ⟨rfl, rfl⟩)
      go_roundw
      case rel => exact ⟨k + 1, by omega, by go_num, by rw [HCN.out], HF.out⟩
      case measure => simp [intOf]; omega
     ·rw [hu] at hub
      rw [hu, if_pos rfl] at hnx
      by_cases hrk' : r = k
      ·subst hrk'
       have HF := qd (HSET.out _ hnx)
       have HCN := qd (show cntR C ws (r + 1) = cntR C ws r + 1 from by rw [hcs, hu, decide_eq_true rfl]; rfl)
       have hwc : wrap64 ((cntR C ws r : Int) + 1) = ((cntR C ws (r + 1) : Nat) : Int) := by rw [HCN.out, wrap64_id (by omega) (by omega)]; omega
       have hnl : ¬ (r : Int) < (r : Int) := by omega
       clear hll hS hc hcc hnx hcs hset HSET hr hcl
       go_wp2_with (go_at_call 81; with_reducible refine HRT.out.mono ?_; rintro e w8 ⟨rfl, rfl⟩)
       go_roundw
       case rel => exact ⟨r + 1, by omega, by go_num, by rw [hwc], HF.out⟩
       case measure => simp [intOf]; omega
      ·have hrl : r < k := by omega
       have hcr := hS.hd.cell hll (j := r) (by rw [← hll]; exact hrm)
       have hgr := numL_get (C := C) (ws := ws) hrl hlt
       rw [List.getD_eq_getElem?_getD, List.getElem?_eq_getElem (by rw [← hll]; exact hrm)] at hgr
       have hxr : numX C ws (r : Int) = (cntR C ws r : Int) := by unfold numX; rw [hcc, Int.toNat_natCast, hu, if_pos rfl]
       rw [show ((numL C ws m).take k ++ List.replicate (m - k) (0 : Int))[r]'(by rw [← hll]; exact hrm) = (cntR C ws r : Int) from hgr.trans hxr] at hcr
       have HF := qd (HSET.out _ hnx)
       have HCN := qd (show cntR C ws (k + 1) = cntR C ws k from by rw [hcs, decide_eq_false (by omega)]; simp)
       have hrl' : (r : Int) < (k : Int) := by omega
       clear hll hS hc hcc hnx hcs hset HSET hr hgr hxr hcl
       go_wp2_with (go_at_call 81; with_reducible refine HRT.out.mono ?_; rintro e w8 ⟨rfl, rfl⟩)
       go_roundw
       case rel => exact ⟨k + 1, by omega, by go_num, by rw [HCN.out], HF.out⟩
       case measure => simp [intOf]; omega
    ·have hkm : k = m := by omega
     subst hkm
     have hs := HSX.out
     rw [Nat.sub_self, List.replicate_zero, List.append_nil, List.take_of_length_le (by rw [numL_len]; exact Nat.le_refl _)] at hs
     obtain ⟨y0, y1, y2, y3, _⟩ := bq4 hs.tl.tl.hd
     have HMC := qd (HMV.out C _ wr (show w.grownBy wr none from hs.tl.tl.tl.tl.tl.tl.tl.hd) (OwnInts.read (show OwnInts 0 wr _ _ from hs.hd)))
     have HSY := qd hs
     clear hlt hs
     go_wp2_with (
      go_at_call 83
      with_reducible refine HMC.out.mono ?_
      rintro e w9 ⟨u0, xs, u1, u2, rfl, hxs, hsg⟩
      have HXS := qd hxs
      obtain ⟨s0, r0, rfl⟩ := OE.shape hsg.hd
      obtain ⟨s1, r1, rfl⟩ := own_shape hsg.tl.hd
      obtain ⟨s2, r2, rfl⟩ := own_shape hsg.tl.tl.hd
      simp only [List.length_map] at hsg
      have hs1 := (HSY.out.graft3 hsg OE_own OI_own OI_own).s5
      obtain ⟨v0, v1, v2, v3, v4⟩ := bq5 hs1.hd
      obtain ⟨f0, f1, f2, f3, f4⟩ := bf5 hs1.hd
      have hs2 := ((((hs1.setB 0 (.int .i64 (cntR C ws k))).setB 1 (.slice s0 xs.length r0)).setB 2 (.slice s1 g.i.length r1)).setB 3 (.slice s2 g.o.length r2)).setB 4 (.slice (some ⟨tz, 0, none⟩) k zc)
      obtain ⟨k0, k1, k2, k3, k4⟩ := bq5 hs2.hd
      have HSF := qd (hs2.tl.under (fun h => h.under (fun h => h.under (fun h => h.tl.tl.tl.tl.tl.tl) (by simp +contextual [UseA])) (by simp +contextual [UseA])) (by simp +contextual [UseA]))
      clear hsg hs1 hs2 hxs)
     refine bodyPost_ret_by (v := .agg #[.int .i64 (cntR C ws k), .slice s0 xs.length r0, .slice s1 g.i.length r1, .slice s2 g.o.length r2, .slice (some ⟨tz, 0, none⟩) k zc]) ?_ rfl ⟨_, xs, _, _, _, rfl, HXS.out, HSF.out⟩
     simp [results, go_sem, *]
structure RX where
 v : Value
 zs : List Int
def rowE : Lay RX := ⟨23, 1, fun x => [x.v], fun _ => rfl, by decide⟩
def rx0 : RX := ⟨nilS, []⟩
theorem info_row : (Tryz.prog.info? rowE.ty).map (fun i => (i.zero, i.size, i.bytes)) = some (some (.slice none 0 0), rowE.sz, 24) := by kernel_rfl
def RdL (w : World) (v : Value) (xs : List RX) : Prop := RdR rowE w v xs ∧ ∀ x ∈ xs, IntsV w x.v x.zs
theorem RdL.carry {w w' : World} {v : Value} {xs : List RX} (h : RdL w v xs) (hg : w.grownBy w' none) : RdL w' v xs := ⟨h.1.carry hg, fun x hx => (h.2 x hx).carry hg⟩
def joinL (xs : List RX) : List Int := xs.flatMap RX.zs
theorem joinL_take {xs : List RX} {k : Nat} (hk : k < xs.length) : joinL (xs.take (k + 1)) = joinL (xs.take k) ++ (xs.getD k rx0).zs := by
 unfold joinL
 rw [List.take_succ_eq_append_getElem hk, List.flatMap_append, List.getD_eq_getElem?_getD, List.getElem?_eq_getElem hk]
 simp
theorem joinL_le (xs : List RX) (k : Nat) : (joinL (xs.take k)).length ≤ (joinL xs).length := by
 have h : joinL xs = joinL (xs.take k) ++ joinL (xs.drop k) := by unfold joinL; rw [← List.flatMap_append, List.take_append_drop]
 rw [h, List.length_append]
 omega
theorem RdL.at {w : World} {a : Option Addr} {n c : Nat} {xs : List RX} (h : RdL w (.slice a n c) xs) {i : Nat} (hi : i < xs.length) : ∃ b o, a = some ⟨b, o, none⟩ ∧ w.cell? ⟨b, o + i, none⟩ = some (xs.getD i rx0).v ∧ IntsV w (xs.getD i rx0).v (xs.getD i rx0).zs := by
 obtain ⟨b, o, ha, _, hc⟩ := h.1.at hi
 have e : xs.getD i rx0 = xs[i] := by rw [List.getD_eq_getElem?_getD, List.getElem?_eq_getElem hi]; rfl
 rw [e]
 refine ⟨b, o, ha, ?_, h.2 _ (List.getElem_mem _)⟩
 have := hc 0 (by decide)
 simpa [rowE] using this
set_option maxHeartbeats 1000000 in
theorem joined_any (v : Value) (xs : List RX) (w : World) (hv : RdL w v xs) (hl : xs.length ≤ 1000000) (hj : (joinL xs).length ≤ 1000000) :
 Calls Tryz.prog 40 #[v] w fun e w' => ∃ u, e = .returned u ∧ Sep w' [OI u (joinL xs), KeepA w] := by
 have HV := qd hv; have HJ := qd hj
 obtain ⟨a, c, rfl⟩ := hv.1.shape
 clear hv hj
 generalize hn : xs.length = n at *
 have HN := qd hn
 clear hn
 have HS0 := qd ((Sep.start w).emptyI)
 go_enter Tryz.func40, Tryz.ntmps40
 go_wp2_with fail
 go_loopw [3, 5, 9] (fun ov _ i wr => ∃ k : Nat, k ≤ n ∧ i = .int .i64 k ∧ Sep wr [OI ov (joinL (xs.take k)), KeepA w]) (fun _ _ i _ => n - (intOf i).toNat)
 case atStart => exact ⟨0, by omega, rfl, by simpa [joinL] using HS0.out⟩
 case round =>
  obtain ⟨k, hk, rfl, hs⟩ := hrel
  have HSX := qd hs
  clear hs HS0
  by_cases hlt : k < n
  ·have hkx : k < xs.length := by rw [HN.out]; exact hlt
   obtain ⟨b, o, rfl, hc, hi⟩ := (HV.out.carry HSX.out.tl.hd).at hkx
   have HT := qd (joinL_take hkx)
   have hle := joinL_le xs (k + 1)
   have hle2 := HJ.out
   rw [HT.out, List.length_append] at hle
   have HL := qd (show (joinL (xs.take k)).length + (xs.getD k rx0).zs.length ≤ 1000000000 by omega)
   generalize xs.getD k rx0 = y at *
   obtain ⟨yv, yz⟩ := y
   simp only at hc hi HL
   have HI := qd hi
   obtain ⟨a1, c1, rfl⟩ := hi.shape
   obtain ⟨a2, c2, rfl⟩ := own_shape (show OwnInts 0 wr u3 _ from HSX.out.hd)
   clear hkx hle hle2 hi
   go_wp2_with (
    refine app_intsS rfl (.tmp 13) (.tmp 14) rfl rfl rfl HSX.out HI.out HL.out ?_
    intro v' w' h'
    have HS2 := qd h'
    clear h')
   go_roundw
   case rel => exact ⟨k + 1, by omega, by go_num, by rw [HT.out]; exact HS2.out⟩
   case measure => simp [intOf]; omega
  ·have hkn : k = n := by omega
   subst hkn
   have hs := HSX.out
   rw [List.take_of_length_le (by rw [HN.out]; exact Nat.le_refl _)] at hs
   have HF := qd hs
   clear hs hlt
   go_wp2
   go_ret
   exact ⟨_, rfl, HF.out⟩
theorem take_mem_split {zs : List Int} {k : Nat} (hk : k < zs.length) : zs.take (k + 1) = zs.take k ++ [zs.getD k 0] := by
 rw [List.take_succ_eq_append_getElem hk, List.getD_eq_getElem?_getD, List.getElem?_eq_getElem hk]; rfl
theorem perm_bad_rng {zs : List Int} {m k : Nat} (hk : k < zs.length) (h : ¬ (0 ≤ zs.getD k 0 ∧ zs.getD k 0 ≤ (m : Int) - 1)) : permB zs m = false := by
 unfold permB
 have : rngB m zs = false := by
  cases hr : rngB m zs
  ·rfl
  ·have := rngB_iff.1 hr _ (getD_mem (d := 0) hk)
   omega
 rw [this]
 simp
theorem perm_bad_dup {zs : List Int} {m k : Nat} (hk : k < zs.length) (h : zs.getD k 0 ∈ zs.take k) : permB zs m = false := by
 unfold permB
 have : ¬ zs.Nodup := by
  intro hd
  have h2 : (zs.take (k + 1)).Nodup := List.Nodup.sublist (List.take_sublist _ _) hd
  rw [take_mem_split hk] at h2
  have := (List.nodup_append.1 h2).2.2
  exact this _ h _ (by simp) rfl
 rw [decide_eq_false this]
 simp
theorem perm_good {zs : List Int} {m : Nat} (hl : zs.length = m) (hr : ∀ x ∈ zs, 0 ≤ x ∧ x < (m : Int)) (hd : zs.Nodup) : permB zs m = true := by
 unfold permB
 rw [decide_eq_true (by omega : ((zs.length : Int) = m)), rngB_iff.2 hr, decide_eq_true hd]
 rfl
theorem perm_step {zs : List Int} {m k : Nat} (hk : k < zs.length) (h : ¬ zs.getD k 0 ∈ zs.take k) (hd : (zs.take k).Nodup) : (zs.take (k + 1)).Nodup := by
 rw [take_mem_split hk, List.nodup_append]
 refine ⟨hd, by simp, fun a ha b hb e => ?_⟩
 have hb' : b = zs.getD k 0 := List.mem_singleton.1 hb
 exact h (by rw [← hb', ← e]; exact ha)
set_option maxHeartbeats 2000000 in
theorem isPermutation_any (v : Value) (zs : List Int) (m : Nat) (w : World) (hv : IntsV w v zs) (hm : m ≤ 1000000) (hl : zs.length ≤ 1000000) :
 Calls Tryz.prog 134 #[v, .int .i64 m] w fun e w' => e = .returned (.bool (permB zs m)) ∧ w.grownBy w' none := by
 obtain ⟨i0, hi, hz0, hz1, hz2⟩ := info_parts info_bool
 have HBI := qd hi; have HZ0 := qd hz0; have HZ1 := qd hz1; have HZ2 := qd hz2
 have HV := qd hv
 obtain ⟨a, c, rfl⟩ := hv.shape
 clear hi hz0 hz1 hz2 hv
 generalize hn : zs.length = n at *
 have HN := qd hn
 clear hn
 by_cases hne : n = m
 ·subst hne
  have hn1 : ((n : Int) != (n : Int)) = false := by simp
  have hwr : IntKind.i64.wrap ((n : Int) - 1) = (n : Int) - 1 := by rw [IntKind.wrap_i64]; omega
  go_enter Tryz.func134, Tryz.ntmps134
  go_wp2_with (
   at_make
   refine wpList_make_full _ rfl _ _ 123 rfl w.heap.size 4 i0 _ 1 Tryz.underlying123 HBI.out HZ0.out HZ1.out _ _ _ _ n rfl rfl rfl rfl (by rw [HZ2.out]; omega) (by unfold maxLen; omega) (Nat.le_refl _) ?_
   intro w1 hown' hgr'
   have hs1 := (Sep.start w).newR hgr' (OwnR.made (E := boolE) falseCells hown')
   rw [← seen_nil] at hs1
   have HS1 := qd hs1
   clear hs1 hown' hgr')
  go_loopw [7, 16] (fun _ i wr => ∃ k : Nat, k ≤ n ∧ i = .int .i64 k ∧ (zs.take k).Nodup ∧ (∀ x ∈ zs.take k, 0 ≤ x ∧ x < (n : Int)) ∧ Sep wr [OR boolE (.slice (some ⟨w.heap.size, 0, none⟩) n n) (seenL n (zs.take k)), KeepA w]) (fun _ i _ => n - (intOf i).toNat)
  case atStart => exact ⟨0, by omega, rfl, by simp, by simp, by simpa using HS1.out⟩
  case round =>
   obtain ⟨k, hk, rfl, hd, hr, hs⟩ := hrel
   have HSX := qd hs; have HD := qd hd; have HR := qd hr
   clear hs hd hr HS1
   by_cases hlt : k < n
   ·have hkx : k < zs.length := by rw [HN.out]; exact hlt
    obtain ⟨b, o, rfl⟩ := IntsV.addr HV.out (by omega)
    have hc0 := (HV.out.carry HSX.out.tl.hd).cellN hkx
    have HTK := qd (take_mem_split hkx)
    have HBR := qd (@perm_bad_rng zs n k hkx)
    have HBD := qd (@perm_bad_dup zs n k hkx)
    have HST := qd (fun h => @perm_step zs n k hkx h HD.out)
    generalize zs.getD k 0 = x at *
    have HW := qd fun W => within_any x 0 ((n : Int) - 1) W
    by_cases hin : 0 ≤ x ∧ x ≤ (n : Int) - 1
    ·rw [decide_eq_true hin] at HW
     obtain ⟨j, rfl⟩ := Int.eq_ofNat_of_zero_le hin.1
     have hjm : j < n := by omega
     have hsc := bool_cell HSX.out.hd (seen_len n _).symm hjm
     have hsf := bool_free HSX.out.hd (seen_len n _).symm j
     rw [seen_at hjm] at hsc
     by_cases hold : (j : Int) ∈ zs.take k
     ·rw [decide_eq_true hold] at hsc
      have HF := qd (HBD.out hold)
      have HK := qd (show w.grownBy wr none from HSX.out.tl.hd)
      clear hold hin hkx
      go_wp2_with (go_at_call 84; with_reducible refine (HW.out _).mono ?_; rintro e w3 ⟨rfl, rfl⟩)
      go_ret
      exact ⟨by rw [HF.out]; try rfl, HK.out⟩
     ·rw [decide_eq_false hold] at hsc
      have hsn := seen_new hjm hold
      have h1 := HSX.out.setBo (seen_len n _).symm hjm true
      rw [← hsn.1, ← HTK.out] at h1
      have HF := qd h1
      have HD2 := qd (HST.out hold)
      have HR2 := qd (show ∀ x ∈ zs.take (k + 1), 0 ≤ x ∧ x < (n : Int) from by
       intro x hx
       rw [HTK.out] at hx
       rcases List.mem_append.1 hx with hx | hx
       ·exact HR.out x hx
       ·simp at hx
        omega)
      clear hold hin hkx hsn h1
      go_wp2_with (go_at_call 84; with_reducible refine (HW.out _).mono ?_; rintro e w3 ⟨rfl, rfl⟩)
      go_roundw
      case rel => exact ⟨k + 1, by omega, by go_num, HD2.out, HR2.out, HF.out⟩
      case measure => simp [intOf]; omega
    ·rw [decide_eq_false hin] at HW
     have HF := qd (HBR.out hin)
     have HK := qd (show w.grownBy wr none from HSX.out.tl.hd)
     clear hin hkx
     go_wp2_with (go_at_call 84; with_reducible refine (HW.out _).mono ?_; rintro e w3 ⟨rfl, rfl⟩)
     go_ret
     exact ⟨by rw [HF.out]; try rfl, HK.out⟩
   ·have hkn : k = n := by omega
    subst hkn
    have hd := HD.out
    have hr := HR.out
    rw [List.take_of_length_le (by rw [HN.out]; exact Nat.le_refl _)] at hd hr
    have HF := qd (perm_good HN.out hr hd)
    have HK := qd (show w.grownBy wr none from HSX.out.tl.hd)
    clear hlt hd hr
    go_wp2
    go_ret
    exact ⟨by rw [HF.out]; try rfl, HK.out⟩
 ·have hn1 : ((n : Int) != (m : Int)) = true := by simp; omega
  have HF := qd (show permB zs m = false by unfold permB; rw [HN.out, decide_eq_false (by omega)]; simp)
  clear hne
  go_enter Tryz.func134, Tryz.ntmps134
  go_wp2
  go_ret
  exact ⟨by rw [HF.out]; try rfl, grownBy_refl _ _⟩
theorem occursOnce_any (v : Value) (xs : List RX) (m : Nat) (w : World) (hv : RdL w v xs) (hm : m ≤ 1000000) (hl : xs.length ≤ 1000000) (hj : (joinL xs).length ≤ 1000000) :
 Calls Tryz.prog 106 #[.int .i64 m, v] w fun e w' => e = .returned (.bool (permB (joinL xs) m)) ∧ w.grownBy w' none := by
 have HA := qd (joined_any v xs w hv hl hj)
 have HB := qd fun u W (h : IntsV W u (joinL xs)) => isPermutation_any u (joinL xs) m W h hm hj
 obtain ⟨a, c, rfl⟩ := hv.1.shape
 clear hv
 generalize permB (joinL xs) m = b at *
 go_enter Tryz.func106, Tryz.ntmps106
 go_wp2_with (first
  |(go_at_call 40
    with_reducible refine HA.out.mono ?_
    rintro e w2 ⟨u, rfl, hs⟩
    have HC := qd (HB.out u w2 (OwnInts.read (show OwnInts 0 w2 u _ from hs.hd)))
    have HK := qd (show w.grownBy w2 none from hs.tl.hd)
    clear hs)
  |(go_at_call 134
    with_reducible refine HC.out.mono ?_
    rintro e w3 ⟨rfl, hg⟩
    have HK2 := qd (grownBy_trans HK.out hg)
    clear hg))
 go_ret
 exact ⟨rfl, HK2.out⟩
end Go.Proofs.YtjagjhchnpmngaaGreat

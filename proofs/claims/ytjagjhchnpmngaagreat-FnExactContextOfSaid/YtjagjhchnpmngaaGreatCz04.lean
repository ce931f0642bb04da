/-
 How often each wire of a graph occurs, in the reference. Conditions: wires are in range; lengths are small.
-/
import Derived.Test.YtjagjhchnpmngaaGreatCz02
import Derived.Test.YtjagjhchnpmngaaGreatCz01
import Derived.Test.YtjagjhchnpmngaaGreatCz00
import Derived.Test.YtjagjhchnpmngaaGreatCz03
set_option linter.unusedVariables false
set_option linter.unusedSimpArgs false
set_option maxRecDepth 100000
namespace Go.Proofs.YtjagjhchnpmngaaGreat
open Go.RowKit
def cntL (m : Nat) (P : List Int) : List Int := (List.range m).map fun w : Nat => ((P.count (w : Int) : Nat) : Int)
theorem cntL_len (m : Nat) (P : List Int) : (cntL m P).length = m := by simp [cntL]
theorem cntL_nil (m : Nat) : cntL m [] = List.replicate m 0 := by
 apply List.ext_getElem (by simp [cntL])
 intro i h1 h2
 simp [cntL]
theorem cntL_at {m : Nat} {P : List Int} {j : Nat} (h : j < m) : (cntL m P).getD j 0 = ((P.count (j : Int) : Nat) : Int) := by
 unfold cntL
 rw [List.getD_eq_getElem?_getD, List.getElem?_map, List.getElem?_range h]
 rfl
theorem cntL_snoc {m : Nat} {P : List Int} {j : Nat} (h : j < m) : cntL m (P ++ [(j : Int)]) = (cntL m P).set j (((P.count (j : Int) : Nat) : Int) + 1) := by
 apply List.ext_getElem (by simp [cntL])
 intro i h1 h2
 rw [List.getElem_set]
 unfold cntL
 simp only [List.getElem_map, List.getElem_range, List.count_append]
 by_cases e : j = i
 ·subst e
  simp
 ·rw [if_neg e]
  have : ¬ (j : Int) = i := by omega
  simp [this]
theorem cntL_step {w : World} {fb m : Nat} {P : List Int} {l : List Asrt} {j : Nat} (h : Sep w (OI (.slice (some ⟨fb, 0, none⟩) m m) (cntL m P) :: l)) (hj : j < m) (hP : P.length ≤ 10000000) :
 ∃ c : Int, w.cell? ⟨fb, j, none⟩ = some (.int .i64 c) ∧ w.frozen? ⟨fb, j, none⟩ = false ∧ IntKind.i64.wrap (c + 1) = c + 1 ∧ wrap64 (c + 1) = c + 1 ∧ Sep (w.setCell ⟨fb, j, none⟩ (.int .i64 (c + 1))) (OI (.slice (some ⟨fb, 0, none⟩) m m) (cntL m (P ++ [(j : Int)])) :: l) := by
 refine ⟨((P.count (j : Int) : Nat) : Int), ?_, h.hd.free (cntL_len m P).symm j, ?_, ?_, ?_⟩
 ·have := OwnInts.cell h.hd (cntL_len m P).symm (j := j) (by rw [cntL_len]; exact hj)
  rw [this]
  have e := cntL_at (P := P) hj
  rw [List.getD_eq_getElem?_getD, List.getElem?_eq_getElem (by rw [cntL_len]; exact hj)] at e
  simp only [Option.getD_some] at e
  rw [e]
 ·have := List.count_le_length (a := (j : Int)) (l := P)
  exact wrap_id (by omega) (by omega)
 ·have := List.count_le_length (a := (j : Int)) (l := P)
  exact wrap64_id (by omega) (by omega)
 ·rw [cntL_snoc hj]
  exact h.setI (cntL_len m P).symm j _
def outE (es : List Ed) : List Int := es.flatMap fun e => e.o
def inE (es : List Ed) : List Int := es.flatMap fun e => e.i
theorem outE_take (es : List Ed) (k : Nat) (hk : k < es.length) : outE (es.take (k + 1)) = outE (es.take k) ++ (es.getD k e0).o := by
 unfold outE
 rw [List.take_succ_eq_append_getElem hk, List.flatMap_append, List.getD_eq_getElem?_getD, List.getElem?_eq_getElem hk]
 simp
theorem inE_take (es : List Ed) (k : Nat) (hk : k < es.length) : inE (es.take (k + 1)) = inE (es.take k) ++ (es.getD k e0).i := by
 unfold inE
 rw [List.take_succ_eq_append_getElem hk, List.flatMap_append, List.getD_eq_getElem?_getD, List.getElem?_eq_getElem hk]
 simp
theorem outE_le (es : List Ed) (k : Nat) : (outE (es.take k)).length ≤ (outE es).length := by
 have h : outE es = outE (es.take k) ++ outE (es.drop k) := by unfold outE; rw [← List.flatMap_append, List.take_append_drop]
 rw [h, List.length_append]
 omega
theorem inE_le (es : List Ed) (k : Nat) : (inE (es.take k)).length ≤ (inE es).length := by
 have h : inE es = inE (es.take k) ++ inE (es.drop k) := by unfold inE; rw [← List.flatMap_append, List.take_append_drop]
 rw [h, List.length_append]
 omega
set_option maxHeartbeats 8000000 in
theorem hgCounts_any (ev iv ov : Value) (g : Gr) (m : Nat) (w : World) (he : RdE edgeE w ev g.es) (hi : IntsV w iv g.i) (ho : IntsV w ov g.o) (hm : g.n = m) (hm2 : m ≤ 1000000) (hr : rngB g.n (wiresL g) = true) (l0 : g.es.length ≤ 1000000) (l1 : g.i.length ≤ 1000000) (l2 : g.o.length ≤ 1000000) (l3 : (outE g.es).length ≤ 1000000) (l4 : (inE g.es).length ≤ 1000000) :
 Calls Tryz.prog 94 #[grV g.n ev iv ov] w fun e w' => ∃ u1 u2, e = .returned (.tuple #[u1, u2]) ∧ Sep w' [OI u1 (cntL m (fromL g)), OI u2 (cntL m (toL g)), KeepA w] := by
 obtain ⟨i0, hbi, hz0, hz1, hz2⟩ := info_parts info_int
 have HBI := qd hbi; have HZ0 := qd hz0; have HZ1 := qd hz1; have HZ2 := qd hz2
 clear hbi hz0 hz1 hz2
 have hrg := rngB_iff.1 hr
 unfold wiresL wiresE at hrg
 unfold fromL toL
 obtain ⟨n, es, is, os⟩ := g
 simp only at he hi ho hm hrg l0 l1 l2 l3 l4 ⊢
 subst hm
 have HRI := qd (show ∀ x ∈ is, 0 ≤ x ∧ x < (m : Int) from fun x hx => hrg x (by simp [hx]))
 have HRO := qd (show ∀ x ∈ os, 0 ≤ x ∧ x < (m : Int) from fun x hx => hrg x (by simp [hx]))
 have HRE := qd (show ∀ e ∈ es, (∀ x ∈ e.i, 0 ≤ x ∧ x < (m : Int)) ∧ ∀ x ∈ e.o, 0 ≤ x ∧ x < (m : Int) from fun e he => ⟨fun x hx => hrg x (by simp only [List.mem_append, List.mem_flatMap]; exact Or.inr (Or.inr ⟨e, he, Or.inl hx⟩)), fun x hx => hrg x (by simp only [List.mem_append, List.mem_flatMap]; exact Or.inr (Or.inr ⟨e, he, Or.inr hx⟩))⟩)
 have HE := qd he; have HI := qd hi; have HO := qd ho
 obtain ⟨ea, ec, rfl⟩ := he.shape
 obtain ⟨ia, ic, rfl⟩ := hi.shape
 obtain ⟨oa, oc, rfl⟩ := ho.shape
 have HLI := qd l1; have HLO := qd l2; have HL3 := qd l3; have HL4 := qd l4; have HL0 := qd l0
 rw [show (es.flatMap fun e => e.o) = outE es from rfl, show (es.flatMap fun e => e.i) = inE es from rfl]
 unfold grV
 generalize hm0 : es.length = m0 at *
 generalize hn1 : is.length = n1 at *
 generalize hn2 : os.length = n2 at *
 have HM0 := qd hm0; have HN1 := qd hn1; have HN2 := qd hn2
 have HS0 := qd ((Sep.start w).box #[.int .i64 m, .slice ea m0 ec, .slice ia n1 ic, .slice oa n2 oc] 38)
 have HE1 := qd (show (w.alloc (.cells #[.int .i64 m, .slice ea m0 ec, .slice ia n1 ic, .slice oa n2 oc] 38)).heap.size = w.heap.size + 1 by simp)
 clear he hi ho hr hrg hm0 hn1 hn2 l3 l4
 go_enter Tryz.func94, Tryz.ntmps94
 go_upto_region 2 with (
  at_make
  refine wpList_make_full _ rfl _ _ 23 rfl _ 3 i0 (.int .i64 0) 1 Tryz.underlying23 HBI.out HZ0.out HZ1.out _ _ _ _ m rfl rfl rfl rfl (by rw [HZ2.out]; omega) (by unfold maxLen; omega) (Nat.le_refl _) ?_
  intro w1 hown' hgr'
  have hs1 := HS0.out.newI (zs := List.replicate m 0) hgr' (by rw [madeCells_int] at hown'; unfold OwnInts; rw [List.length_replicate]; exact hown')
  rw [HE1.out] at hs1
  obtain ⟨x0, x1, x2, x3, _⟩ := bq4 hs1.tl.hd
  have HS1 := qd hs1
  clear hs1 hown' hgr')
 go_wp2_with (
  at_make
  refine wpList_make_full _ rfl _ _ 23 rfl _ 3 i0 (.int .i64 0) 1 Tryz.underlying23 HBI.out HZ0.out HZ1.out _ _ _ _ m rfl rfl rfl rfl (by rw [HZ2.out]; omega) (by unfold maxLen; omega) (Nat.le_refl _) ?_
  intro w2 hown' hgr'
  have hs2 := (HS1.out.newI (zs := List.replicate m 0) hgr' (by rw [madeCells_int] at hown'; unfold OwnInts; rw [List.length_replicate]; exact hown')).s2
  obtain ⟨y0, y1, y2, y3, _⟩ := bq4 hs2.tl.tl.hd
  have HS2 := qd (by rw [← cntL_nil] at hs2; exact hs2)
  clear hs2 hown' hgr')
 obtain ⟨fb, hfb⟩ : ∃ fb, fb = w.heap.size + 1 := ⟨_, rfl⟩
 rw [← hfb] at HS2 ⊢
 clear hfb
 generalize w1.heap.size = tb at *
 go_loopw [7, 25] (fun _ i wr => ∃ k : Nat, k ≤ n1 ∧ i = .int .i64 k ∧ Sep wr [OI (.slice (some ⟨fb, 0, none⟩) m m) (cntL m (is.take k)), OI (.slice (some ⟨tb, 0, none⟩) m m) (cntL m ([])), BxA w.heap.size #[.int .i64 m, .slice ea m0 ec, .slice ia n1 ic, .slice oa n2 oc] 38, KeepA w]) (fun _ i _ => n1 - (intOf i).toNat)
 case atStart => exact ⟨0, by omega, rfl, by simpa using HS2.out⟩
 case round =>
  obtain ⟨k, hk, rfl, hs⟩ := hrel
  have HSX := qd hs
  clear hs HS2
  by_cases hltk : k < n1
  ·have hkx : k < is.length := by rw [HN1.out]; exact hltk
   obtain ⟨xb, xo, rfl⟩ := IntsV.addr HI.out (by omega)
   have hc0 := (HI.out.carry HSX.out.tl.tl.tl.hd).cellN hkx
   have hxr := HRI.out _ (getD_mem' hkx)
   have htk : is.take (k + 1) = is.take k ++ [is.getD k 0] := by rw [List.take_succ_eq_append_getElem hkx, List.getD_eq_getElem?_getD, List.getElem?_eq_getElem hkx]; rfl
   have hple : (is.take k).length ≤ is.length := by rw [List.length_take]; omega
   have HTK := qd htk
   generalize is.getD k 0 = x at *
   obtain ⟨j, rfl⟩ := Int.eq_ofNat_of_zero_le hxr.1
   have hjm : j < m := by omega
   obtain ⟨c, hc, hf, hw1, hw2, hs2⟩ := cntL_step HSX.out hjm (show (is.take k).length ≤ 10000000 by have := HN1.out; have := HLI.out; omega)
   have HS2 := qd (show Sep _ (OI _ (cntL m (is.take (k + 1))) :: _) from by rw [HTK.out]; exact hs2)
   clear hs2 hxr htk hkx hple
   go_wp2
   go_roundw
   case rel => exact ⟨k + 1, by omega, by go_num, HS2.out⟩
   case measure => simp [intOf]; omega
  ·have hkm : n1 = k := by omega
   subst hkm
   have hs := HSX.out
   rw [List.take_of_length_le (by rw [HN1.out]; exact Nat.le_refl _)] at hs
   obtain ⟨y0, y1, y2, y3, _⟩ := bq4 hs.tl.tl.hd
   have HS3 := qd hs
   clear hs HSX hltk
   go_wp2_with fail
   go_loopw [9, 39] (fun _ i wr => ∃ k : Nat, k ≤ n2 ∧ i = .int .i64 k ∧ Sep wr [OI (.slice (some ⟨fb, 0, none⟩) m m) (cntL m (is)), OI (.slice (some ⟨tb, 0, none⟩) m m) (cntL m (os.take k)), BxA w.heap.size #[.int .i64 m, .slice ea m0 ec, .slice ia n1 ic, .slice oa n2 oc] 38, KeepA w]) (fun _ i _ => n2 - (intOf i).toNat)
   case atStart => exact ⟨0, by omega, rfl, by simpa using HS3.out⟩
   case round =>
    obtain ⟨k, hk, rfl, hs⟩ := hrel
    have HSX := qd hs
    clear hs HS3
    by_cases hltk : k < n2
    ·have hkx : k < os.length := by rw [HN2.out]; exact hltk
     obtain ⟨xb, xo, rfl⟩ := IntsV.addr HO.out (by omega)
     have hc0 := (HO.out.carry HSX.out.tl.tl.tl.hd).cellN hkx
     have hxr := HRO.out _ (getD_mem' hkx)
     have htk : os.take (k + 1) = os.take k ++ [os.getD k 0] := by rw [List.take_succ_eq_append_getElem hkx, List.getD_eq_getElem?_getD, List.getElem?_eq_getElem hkx]; rfl
     have hple : (os.take k).length ≤ os.length := by rw [List.length_take]; omega
     have HTK := qd htk
     generalize os.getD k 0 = x at *
     obtain ⟨j, rfl⟩ := Int.eq_ofNat_of_zero_le hxr.1
     have hjm : j < m := by omega
     obtain ⟨c, hc, hf, hw1, hw2, hs2⟩ := cntL_step HSX.out.s2 hjm (show (os.take k).length ≤ 10000000 by have := HN2.out; have := HLO.out; omega)
     have HS2 := qd (show Sep _ (OI _ (cntL m (os.take (k + 1))) :: _) from by rw [HTK.out]; exact hs2)
     clear hs2 hxr htk hkx hple
     go_wp2
     go_roundw
     case rel => exact ⟨k + 1, by omega, by go_num, HS2.out.s2⟩
     case measure => simp [intOf]; omega
    ·have hkm : n2 = k := by omega
     subst hkm
     have hs := HSX.out
     rw [List.take_of_length_le (by rw [HN2.out]; exact Nat.le_refl _)] at hs
     obtain ⟨y0, y1, y2, y3, _⟩ := bq4 hs.tl.tl.hd
     have HS4 := qd hs
     clear hs HSX hltk
     go_wp2_with fail
     go_loopw [11, 53] (fun _ i wr => ∃ k : Nat, k ≤ m0 ∧ i = .int .i64 k ∧ Sep wr [OI (.slice (some ⟨fb, 0, none⟩) m m) (cntL m (is ++ outE (es.take k))), OI (.slice (some ⟨tb, 0, none⟩) m m) (cntL m (os ++ inE (es.take k))), BxA w.heap.size #[.int .i64 m, .slice ea m0 ec, .slice ia n1 ic, .slice oa n2 oc] 38, KeepA w]) (fun _ i _ => m0 - (intOf i).toNat)
     case atStart => exact ⟨0, by omega, rfl, by simpa [outE, inE] using HS4.out⟩
     case round =>
      obtain ⟨k, hk, rfl, hs⟩ := hrel
      have HSX := qd hs
      clear hs HS4
      by_cases hltk : k < m0
      ·have hke : k < es.length := by rw [HM0.out]; exact hltk
       obtain ⟨b, o, u1, u2, rfl, hat⟩ := HE.out.atK rfl rfl hke
       have hem : es.getD k e0 ∈ es := by rw [List.getD_eq_getElem?_getD, List.getElem?_eq_getElem hke]; exact List.getElem_mem _
       have hre := HRE.out _ hem
       have HTO := qd (outE_take es k hke)
       have HTI := qd (inE_take es k hke)
       have hlo : (es.getD k e0).o.length ≤ 1000000 := by have h1 := HTO.out; have h2 := outE_le es (k + 1); have h3 := HL3.out; rw [h1, List.length_append] at h2; omega
       have hli : (es.getD k e0).i.length ≤ 1000000 := by have h1 := HTI.out; have h2 := inE_le es (k + 1); have h3 := HL4.out; rw [h1, List.length_append] at h2; omega
       generalize es.getD k e0 = e at *
       obtain ⟨ek, ev, ei, eo⟩ := e
       simp only at hat hre HTO HTI hlo hli
       have HREI := qd hre.1; have HREO := qd hre.2
       obtain ⟨⟨q0, q1', q2', q3'⟩, _, _⟩ := hat wr HSX.out.tl.tl.tl.hd
       obtain ⟨-, hiv, hov⟩ := hat w (grownBy_refl _ _)
       obtain ⟨s1, r1, rfl⟩ := hiv.shape
       obtain ⟨s2, r2, rfl⟩ := hov.shape
       have HEI := qd hiv; have HEO := qd hov
       have HLEI := qd hli; have HLEO := qd hlo
       have hs5 := (HSX.out.box #[.int .i64 ek, .int .i64 ev, .slice s1 ei.length r1, .slice s2 eo.length r2] 104).s2.under Sep.s2 (by simp +contextual)
       have HS5 := qd hs5
       clear hat hre hke hem hiv hov hs5
       generalize hq1 : ei.length = q1 at *
       generalize hq2 : eo.length = q2 at *
       have HQ1 := qd hq1; have HQ2 := qd hq2
       clear hq1 hq2
       go_wp2_with fail
       generalize wr.heap.size = eb at *
       go_loopw [13, 60] (fun _ i wr => ∃ t : Nat, t ≤ q2 ∧ i = .int .i64 t ∧ Sep wr [OI (.slice (some ⟨fb, 0, none⟩) m m) (cntL m ((is ++ outE (es.take k)) ++ eo.take t)), OI (.slice (some ⟨tb, 0, none⟩) m m) (cntL m (os ++ inE (es.take k))), BxA eb #[.int .i64 ek, .int .i64 ev, .slice s1 q1 r1, .slice s2 q2 r2] 104, BxA w.heap.size #[.int .i64 m, .slice (some ⟨b, o, none⟩) m0 ec, .slice ia n1 ic, .slice oa n2 oc] 38, KeepA w]) (fun _ i _ => q2 - (intOf i).toNat)
       case atStart => exact ⟨0, by omega, rfl, by simpa using HS5.out⟩
       case round =>
        obtain ⟨t, ht, rfl, hs⟩ := hrel
        have HSX := qd hs
        clear hs HS5
        by_cases hltt : t < q2
        ·have hkx : t < eo.length := by rw [HQ2.out]; exact hltt
         obtain ⟨xb, xo, rfl⟩ := IntsV.addr HEO.out (by omega)
         have hc0 := (HEO.out.carry HSX.out.tl.tl.tl.tl.hd).cellN hkx
         have hxr := HREO.out _ (getD_mem' hkx)
         have htk : eo.take (t + 1) = eo.take t ++ [eo.getD t 0] := by rw [List.take_succ_eq_append_getElem hkx, List.getD_eq_getElem?_getD, List.getElem?_eq_getElem hkx]; rfl
         have hple : (eo.take t).length ≤ eo.length := by rw [List.length_take]; omega
         have HTK := qd htk
         generalize eo.getD t 0 = x at *
         obtain ⟨j, rfl⟩ := Int.eq_ofNat_of_zero_le hxr.1
         have hjm : j < m := by omega
         obtain ⟨c, hc, hf, hw1, hw2, hs2⟩ := cntL_step HSX.out hjm (show ((is ++ outE (es.take k)) ++ eo.take t).length ≤ 10000000 by simp only [List.length_append]; have := HN1.out; have := HN2.out; have := HLI.out; have := HLO.out; have := outE_le es k; have := inE_le es k; have := HL3.out; have := HL4.out; have := HLEO.out; have := HLEI.out; have := HQ1.out; have := HQ2.out; omega)
         have HS2 := qd (show Sep _ (OI _ (cntL m ((is ++ outE (es.take k)) ++ eo.take (t + 1))) :: _) from by rw [HTK.out, ← List.append_assoc]; exact hs2)
         clear hs2 hxr htk hkx hple
         go_wp2
         go_roundw
         case rel => exact ⟨t + 1, by omega, by go_num, HS2.out⟩
         case measure => simp [intOf]; omega
        ·have hkm : q2 = t := by omega
         subst hkm
         have hs := HSX.out
         rw [List.take_of_length_le (l := eo) (by rw [HQ2.out]; exact Nat.le_refl _)] at hs
         obtain ⟨y0, y1, y2, y3, _⟩ := bq4 hs.tl.tl.hd
         have HS5 := qd hs
         clear hs HSX hltt
         go_wp2_with fail
         go_loopw [15, 74] (fun _ i wr => ∃ t : Nat, t ≤ q1 ∧ i = .int .i64 t ∧ Sep wr [OI (.slice (some ⟨fb, 0, none⟩) m m) (cntL m ((is ++ outE (es.take k)) ++ eo)), OI (.slice (some ⟨tb, 0, none⟩) m m) (cntL m ((os ++ inE (es.take k)) ++ ei.take t)), BxA eb #[.int .i64 ek, .int .i64 ev, .slice s1 q1 r1, .slice s2 q2 r2] 104, BxA w.heap.size #[.int .i64 m, .slice (some ⟨b, o, none⟩) m0 ec, .slice ia n1 ic, .slice oa n2 oc] 38, KeepA w]) (fun _ i _ => q1 - (intOf i).toNat)
         case atStart => exact ⟨0, by omega, rfl, by simpa using HS5.out⟩
         case round =>
          obtain ⟨t, ht, rfl, hs⟩ := hrel
          have HSX := qd hs
          clear hs HS5
          by_cases hltt : t < q1
          ·have hkx : t < ei.length := by rw [HQ1.out]; exact hltt
           obtain ⟨xb, xo, rfl⟩ := IntsV.addr HEI.out (by omega)
           have hc0 := (HEI.out.carry HSX.out.tl.tl.tl.tl.hd).cellN hkx
           have hxr := HREI.out _ (getD_mem' hkx)
           have htk : ei.take (t + 1) = ei.take t ++ [ei.getD t 0] := by rw [List.take_succ_eq_append_getElem hkx, List.getD_eq_getElem?_getD, List.getElem?_eq_getElem hkx]; rfl
           have hple : (ei.take t).length ≤ ei.length := by rw [List.length_take]; omega
           have HTK := qd htk
           generalize ei.getD t 0 = x at *
           obtain ⟨j, rfl⟩ := Int.eq_ofNat_of_zero_le hxr.1
           have hjm : j < m := by omega
           obtain ⟨c, hc, hf, hw1, hw2, hs2⟩ := cntL_step HSX.out.s2 hjm (show ((os ++ inE (es.take k)) ++ ei.take t).length ≤ 10000000 by simp only [List.length_append]; have := HN1.out; have := HN2.out; have := HLI.out; have := HLO.out; have := outE_le es k; have := inE_le es k; have := HL3.out; have := HL4.out; have := HLEO.out; have := HLEI.out; have := HQ1.out; have := HQ2.out; omega)
           have HS2 := qd (show Sep _ (OI _ (cntL m ((os ++ inE (es.take k)) ++ ei.take (t + 1))) :: _) from by rw [HTK.out, ← List.append_assoc]; exact hs2)
           clear hs2 hxr htk hkx hple
           go_wp2
           go_roundw
           case rel => exact ⟨t + 1, by omega, by go_num, HS2.out.s2⟩
           case measure => simp [intOf]; omega
          ·have hkm : q1 = t := by omega
           subst hkm
           have hs := HSX.out
           rw [List.take_of_length_le (l := ei) (by rw [HQ1.out]; exact Nat.le_refl _)] at hs
           have hs2 := hs.under (fun h => h.under (fun h => h.tl) (by simp +contextual)) (by simp +contextual)
           rw [List.append_assoc, List.append_assoc, ← HTO.out, ← HTI.out] at hs2
           have HS6 := qd hs2
           clear hs hs2 HSX hltt
           go_wp2
           go_roundw
           case rel => exact ⟨k + 1, by omega, by go_num, HS6.out⟩
           case measure => simp [intOf]; omega
      ·have hkm : m0 = k := by omega
       subst hkm
       have hs := HSX.out
       rw [List.take_of_length_le (by rw [HM0.out]; exact Nat.le_refl _)] at hs
       have HF := qd (hs.under (fun h => h.drop2) (by simp +contextual))
       clear hs hltk HSX
       go_wp2
       refine bodyPost_ret_by (v := .tuple #[.slice (some ⟨fb, 0, none⟩) m m, .slice (some ⟨tb, 0, none⟩) m m]) ?_ rfl ⟨_, _, rfl, HF.out⟩
       simp [results, go_sem, *]
theorem cnt_all (n : Nat) (P : List Int) : decide (cntS n P = n) = (List.range n).all fun w : Nat => decide ((w : Int) ∈ P) := by
 unfold cntS
 have h := List.countP_eq_length (l := List.range n) (p := fun w : Nat => decide ((w : Int) ∈ P))
 rw [List.length_range] at h
 by_cases he : List.countP (fun w : Nat => decide ((w : Int) ∈ P)) (List.range n) = n
 ·rw [decide_eq_true he]
  symm
  rw [List.all_eq_true]
  exact h.1 he
 ·rw [decide_eq_false he]
  symm
  rw [Bool.eq_false_iff]
  intro ha
  exact he (h.2 (List.all_eq_true.1 ha))
theorem seen_nil (m : Nat) : seenL m [] = List.replicate m false := by
 apply List.ext_getElem (by simp [seenL])
 intro i h1 h2
 simp [seenL]
theorem cnt_nil (m : Nat) : cntS m [] = 0 := by simp [cntS]
theorem rng_nil (n : Int) : rngB n [] = true := rfl
theorem all_take {es : List Ed} {k : Nat} (hk : k < es.length) : (es.take (k + 1)).all edB = ((es.take k).all edB && edB (es.getD k e0)) := by
 rw [List.take_succ_eq_append_getElem hk, List.all_append, List.getD_eq_getElem?_getD, List.getElem?_eq_getElem hk]
 simp
theorem all_bad {es : List Ed} {k : Nat} (hk : k < es.length) (h : edB (es.getD k e0) = false) : es.all edB = false := by
 rw [Bool.eq_false_iff]
 intro ha
 have := List.all_eq_true.1 ha (es.getD k e0) (by rw [List.getD_eq_getElem?_getD, List.getElem?_eq_getElem hk]; exact List.getElem_mem _)
 rw [h] at this
 cases this
set_option maxHeartbeats 8000000 in
theorem isGraph_any (ev iv ov : Value) (g : Gr) (w : World) (he : RdE edgeE w ev g.es) (hi : IntsV w iv g.i) (ho : IntsV w ov g.o) (l0 : g.es.length ≤ 2000000) (l1 : g.i.length ≤ 2000000) (l2 : g.o.length ≤ 2000000) :
 Calls Tryz.prog 42 #[grV g.n ev iv ov] w fun e w' => e = .returned (.bool (grB g)) ∧ w.grownBy w' none := by
 obtain ⟨i0, hbi, hz0, hz1, hz2⟩ := info_parts info_bool
 have HBI := qd hbi; have HZ0 := qd hz0; have HZ1 := qd hz1; have HZ2 := qd hz2
 clear hbi hz0 hz1 hz2
 have HE := qd he; have HI := qd hi; have HO := qd ho
 have HW := qd fun W => within_any g.n 0 100 W
 rw [show decide (0 ≤ g.n ∧ g.n ≤ 100) = inB g.n 0 100 from rfl] at HW
 obtain ⟨ea, ec, rfl⟩ := he.shape
 obtain ⟨ia, ic, rfl⟩ := hi.shape
 obtain ⟨oa, oc, rfl⟩ := ho.shape
 have HS0 := qd ((Sep.start w).box #[.int .i64 g.n, .slice ea g.es.length ec, .slice ia g.i.length ic, .slice oa g.o.length oc] 38)
 have HK0 := qd (show w.grownBy _ none from HS0.out.tl.hd)
 unfold grV
 clear he hi ho
 have hgr : grB g = (inB g.n 0 100 && (decide (g.es.length ≤ 60) && (decide (g.i.length ≤ 12) && (decide (g.o.length ≤ 12) && (g.es.all edB && (rngB g.n (wiresL g) && (List.range g.n.toNat).all fun w : Nat => decide ((w : Int) ∈ wiresL g))))))) := by
  unfold grB
  simp only [Bool.and_assoc, Bool.decide_and]
 rw [hgr]
 clear hgr
 cases h1 : inB g.n 0 100
 ·rw [h1] at HW
  clear h1
  generalize g.es.length = m0 at *
  generalize g.i.length = m1 at *
  generalize g.o.length = m2 at *
  generalize g.n = n at *
  go_enter Tryz.func42, Tryz.ntmps42
  go_wp2_with (go_at_call 84; with_reducible refine (HW.out _).mono ?_; rintro e w3 ⟨rfl, rfl⟩)
  go_ret
  exact ⟨by rw [Bool.false_and]; rfl, HK0.out⟩
 ·rw [h1] at HW
  rw [Bool.true_and]
  by_cases a0 : g.es.length ≤ 60
  ·have b0 : ¬ (60 : Int) < (g.es.length : Int) := by omega
   rw [decide_eq_true a0, Bool.true_and]
   by_cases a1 : g.i.length ≤ 12
   ·have b1 : ¬ (12 : Int) < (g.i.length : Int) := by omega
    rw [decide_eq_true a1, Bool.true_and]
    by_cases a2 : g.o.length ≤ 12
    ·have b2 : ¬ (12 : Int) < (g.o.length : Int) := by omega
     rw [decide_eq_true a2, Bool.true_and]
     have hn := inB_iff.1 h1
     obtain ⟨m, hm⟩ := Int.eq_ofNat_of_zero_le hn.1
     have hm100 : m ≤ 100 := by omega
     rw [hm] at HW HS0 HK0 ⊢
     rw [Int.toNat_natCast, ← cnt_all]
     have HWL := qd (Eq.refl (wiresL g))
     have HLI := qd a1; have HLO := qd a2
     have HM := qd hm
     clear h1 hn hm l0 l1 l2 a1 a2
     obtain ⟨m0, hm0⟩ : ∃ m0, m0 = g.es.length := ⟨_, rfl⟩
     obtain ⟨m1, hm1⟩ : ∃ m1, m1 = g.i.length := ⟨_, rfl⟩
     obtain ⟨m2, hm2⟩ : ∃ m2, m2 = g.o.length := ⟨_, rfl⟩
     rw [← hm0, ← hm1, ← hm2] at HS0 HK0 ⊢
     rw [← hm0] at a0 b0 HE
     rw [← hm1] at b1 HI
     rw [← hm2] at b2 HO
     have HM0 := qd hm0
     clear hm0 hm1 hm2
     go_enter Tryz.func42, Tryz.ntmps42
     go_wp2_with (go_at_call 84; with_reducible refine (HW.out _).mono ?_; rintro e w3 ⟨rfl, rfl⟩)
     go_loopw [4, 33] (fun _ i wr => ∃ k : Nat, k ≤ m0 ∧ i = .int .i64 k ∧ (g.es.take k).all edB = true ∧ Sep wr [BxA w.heap.size #[.int .i64 m, .slice ea m0 ec, .slice ia m1 ic, .slice oa m2 oc] 38, KeepA w]) (fun _ i _ => m0 - (intOf i).toNat)
     case atStart => exact ⟨0, by omega, rfl, rfl, HS0.out⟩
     case round =>
      obtain ⟨k, hk, rfl, hall, hs⟩ := hrel
      have HSX := qd hs; have HAL := qd hall
      obtain ⟨x0, x1, x2, x3, _⟩ := bq4 hs.hd
      clear hs hall HS0 HK0
      by_cases hlt : k < m0
      ·have hke : k < g.es.length := by rw [← HM0.out]; exact hlt
       obtain ⟨b, o, iv, ov, rfl, hat⟩ := HE.out.atK rfl rfl hke
       obtain ⟨⟨q0, q1, q2, q3⟩, hiv, hov⟩ := hat wr HSX.out.tl.hd
       have HIE := qd fun W (h : wr.grownBy W none) => isEdge_any (g.es.getD k e0).k (g.es.getD k e0).v iv ov (g.es.getD k e0).i (g.es.getD k e0).o W (hiv.carry h) (hov.carry h)
       have HTK := qd (all_take hke)
       have HBD := qd fun h => all_bad hke h
       obtain ⟨s1, r1, rfl⟩ := hiv.shape
       obtain ⟨s2, r2, rfl⟩ := hov.shape
       rw [show (⟨(g.es.getD k e0).k, (g.es.getD k e0).v, (g.es.getD k e0).i, (g.es.getD k e0).o⟩ : Ed) = g.es.getD k e0 from rfl] at HIE
       have HGR := qd (gr1 wr (.cells #[.int .i64 (g.es.getD k e0).k, .int .i64 (g.es.getD k e0).v, .slice s1 (g.es.getD k e0).i.length r1, .slice s2 (g.es.getD k e0).o.length r2] 104))
       cases hbe : edB (g.es.getD k e0)
       ·rw [hbe] at HIE
        have HF := qd (HBD.out hbe)
        clear hat hke hbe HTK HBD hiv hov
        generalize (g.es.getD k e0).i.length = n1 at *
        generalize (g.es.getD k e0).o.length = n2 at *
        generalize (g.es.getD k e0).k = ek at *
        generalize (g.es.getD k e0).v = ev at *
        go_wp2_with (
         go_at_call 85
         with_reducible refine (HIE.out _ HGR.out).mono ?_
         rintro e w5 ⟨rfl, hg5⟩
         have HKF := qd (show w.grownBy w5 none from grownBy_trans HSX.out.tl.hd (grownBy_trans HGR.out hg5))
         clear hg5)
        go_ret
        exact ⟨by rw [HF.out, Bool.false_and]; rfl, HKF.out⟩
       ·rw [hbe] at HIE
        have HNX := qd (show (g.es.take (k + 1)).all edB = true by rw [HTK.out, HAL.out, hbe]; rfl)
        clear hat hke hbe HTK HBD hiv hov
        generalize (g.es.getD k e0).i.length = n1 at *
        generalize (g.es.getD k e0).o.length = n2 at *
        generalize (g.es.getD k e0).k = ek at *
        generalize (g.es.getD k e0).v = ev at *
        go_wp2_with (
         go_at_call 85
         with_reducible refine (HIE.out _ HGR.out).mono ?_
         rintro e w5 ⟨rfl, hg5⟩
         have HS5 := qd (HSX.out.grown (grownBy_trans HGR.out hg5))
         clear hg5)
        go_roundw
        case rel => exact ⟨k + 1, by omega, by go_num, HNX.out, HS5.out⟩
        case measure => simp [intOf]; omega
      ·have hkm : k = m0 := by omega
       subst hkm
       rw [List.take_of_length_le (by rw [← HM0.out]; exact Nat.le_refl _)] at HAL
       clear hlt
       have HLL := qd fun (q sa : Nat) W (hs : Sep W (Bag (SeenA m w.heap.size q sa (q + 1) (q + 2) (.slice ea k ec) (.slice ia m1 ic) (.slice oa m2 oc) []) :: KeepA w :: [])) =>
        lists_any 86 #[.pointer (some ⟨w.heap.size, 0, none⟩), .pointer (some ⟨q + 1, 0, none⟩), .pointer (some ⟨q, 0, none⟩), .pointer (some ⟨q + 2, 0, none⟩)] (enters_of Tryz.func86 (by kernel_rfl) rfl)
         (fun P => Bag (SeenA m w.heap.size q sa (q + 1) (q + 2) (.slice ea k ec) (.slice ia m1 ic) (.slice oa m2 oc) P)) (isGraph1_fn m w.heap.size q sa (q + 1) (q + 2) (.slice ea k ec) (.slice ia m1 ic) (.slice oa m2 oc) hm100)
         m (.slice ea k ec) (.slice ia m1 ic) (.slice oa m2 oc) g w W [] HE.out HI.out HO.out (by have := HM0.out; omega) (by have := HLI.out; omega) (by have := HLO.out; omega) (fun e he => by
          have := List.all_eq_true.1 HAL.out e he
          unfold edB at this
          simp only [Bool.and_eq_true, decide_eq_true_iff] at this
          have h2 := this.2
          have hw : (edW e.k).1 ≤ 2 ∧ (edW e.k).2 ≤ 2 := by unfold edW; (repeat' split) <;> simp
          rw [← h2] at hw
          simp only at hw
          omega) hs
       unfold grV at HLL
       have HCE := qd (show ∀ c : Nat, ((c : Int) == (m : Int)) = decide (c = m) from fun c => by
        by_cases h : c = m
        ·rw [decide_eq_true h, h]; simp
        ·rw [decide_eq_false h, beq_eq_false_iff_ne]; omega)
       cases hrb : rngB m (wiresL g)
       ·have HRB := qd hrb
        clear hrb
        go_wp2_with (first
         |(at_make
           refine wpList_make_full _ rfl _ _ 123 rfl wr.heap.size 4 i0 _ 1 Tryz.underlying123 HBI.out HZ0.out HZ1.out _ _ _ _ m rfl rfl rfl rfl (by rw [HZ2.out]; omega) (by unfold maxLen; omega) (Nat.le_refl _) ?_
           intro w1 hown' hgr'
           have hs1 := HSX.out.newR hgr' (OwnR.made (E := boolE) falseCells hown')
           have hs2 := ((hs1.box #[.slice (some ⟨wr.heap.size, 0, none⟩) m m] 123).box #[.bool true] 4).box #[.int .i64 0] 3
           rw [show (w1.alloc (.cells #[.slice (some ⟨wr.heap.size, 0, none⟩) m m] 123)).heap.size = w1.heap.size + 1 by simp, show ((w1.alloc (.cells #[.slice (some ⟨wr.heap.size, 0, none⟩) m m] 123)).alloc (.cells #[.bool true] 4)).heap.size = w1.heap.size + 2 by simp] at hs2
           have hs3 := Sep.bag (l := SeenA m w.heap.size w1.heap.size wr.heap.size (w1.heap.size + 1) (w1.heap.size + 2) (.slice ea k ec) (.slice ia m1 ic) (.slice oa m2 oc) []) (r := [KeepA w]) (by
            have h := hs2.s2.s4.s4.s5
            unfold SeenA
            rw [seen_nil, cnt_nil, rng_nil]
            exact h)
           obtain ⟨y0, y1, y2, y3, _⟩ := bq4 hs2.tl.tl.tl.tl.hd
           have HC := qd (HLL.out _ _ _ hs3)
           clear hs1 hs2 hs3 hown' hgr')
         |(go_at_call 79
           with_reducible refine HC.out.mono ?_
           rintro e w6 ⟨rfl, hs6⟩
           have hs7 := Sep.unbag hs6
           unfold SeenA at hs7
           obtain ⟨t0, t1, t2, t3, _⟩ := bq4 hs7.hd
           have v0 := (bx1' hs7.tl.tl.tl.hd).1
           have v1 := show w6.cell? ⟨w1.heap.size + 1 + 1, 0, none⟩ = _ from (bx1' hs7.tl.tl.tl.tl.hd).1
           have HKF := qd (show w.grownBy w6 none from hs7.tl.tl.tl.tl.tl.hd)
           rw [HRB.out] at v0
           clear hs6 hs7))
        go_ret
        exact ⟨(by rw [HAL.out, HRB.out, Bool.true_and, Bool.false_and]; rfl), HKF.out⟩
       ·have HRB := qd hrb
        clear hrb
        obtain ⟨d, hd⟩ : ∃ d, d = decide (cntS m (wiresL g) = m) := ⟨_, rfl⟩
        have HD := qd hd
        have hce := HCE.out (cntS m (wiresL g))
        rw [← hd] at hce
        clear hd
        go_wp2_with (first
         |(at_make
           refine wpList_make_full _ rfl _ _ 123 rfl wr.heap.size 4 i0 _ 1 Tryz.underlying123 HBI.out HZ0.out HZ1.out _ _ _ _ m rfl rfl rfl rfl (by rw [HZ2.out]; omega) (by unfold maxLen; omega) (Nat.le_refl _) ?_
           intro w1 hown' hgr'
           have hs1 := HSX.out.newR hgr' (OwnR.made (E := boolE) falseCells hown')
           have hs2 := ((hs1.box #[.slice (some ⟨wr.heap.size, 0, none⟩) m m] 123).box #[.bool true] 4).box #[.int .i64 0] 3
           rw [show (w1.alloc (.cells #[.slice (some ⟨wr.heap.size, 0, none⟩) m m] 123)).heap.size = w1.heap.size + 1 by simp, show ((w1.alloc (.cells #[.slice (some ⟨wr.heap.size, 0, none⟩) m m] 123)).alloc (.cells #[.bool true] 4)).heap.size = w1.heap.size + 2 by simp] at hs2
           have hs3 := Sep.bag (l := SeenA m w.heap.size w1.heap.size wr.heap.size (w1.heap.size + 1) (w1.heap.size + 2) (.slice ea k ec) (.slice ia m1 ic) (.slice oa m2 oc) []) (r := [KeepA w]) (by
            have h := hs2.s2.s4.s4.s5
            unfold SeenA
            rw [seen_nil, cnt_nil, rng_nil]
            exact h)
           obtain ⟨y0, y1, y2, y3, _⟩ := bq4 hs2.tl.tl.tl.tl.hd
           have HC := qd (HLL.out _ _ _ hs3)
           clear hs1 hs2 hs3 hown' hgr')
         |(go_at_call 79
           with_reducible refine HC.out.mono ?_
           rintro e w6 ⟨rfl, hs6⟩
           have hs7 := Sep.unbag hs6
           unfold SeenA at hs7
           obtain ⟨t0, t1, t2, t3, _⟩ := bq4 hs7.hd
           have v0 := (bx1' hs7.tl.tl.tl.hd).1
           have v1 := show w6.cell? ⟨w1.heap.size + 1 + 1, 0, none⟩ = _ from (bx1' hs7.tl.tl.tl.tl.hd).1
           have HKF := qd (show w.grownBy w6 none from hs7.tl.tl.tl.tl.tl.hd)
           rw [HRB.out] at v0
           clear hs6 hs7))
        go_ret
        exact ⟨(by rw [HAL.out, HRB.out, Bool.true_and, Bool.true_and, ← HD.out]; rfl), HKF.out⟩
    ·have b2 : (12 : Int) < (g.o.length : Int) := by omega
     rw [decide_eq_false a2, Bool.false_and]
     clear h1 a0 a1 a2
     generalize g.es.length = m0 at *
     generalize g.i.length = m1 at *
     generalize g.o.length = m2 at *
     generalize g.n = n at *
     go_enter Tryz.func42, Tryz.ntmps42
     go_wp2_with (go_at_call 84; with_reducible refine (HW.out _).mono ?_; rintro e w3 ⟨rfl, rfl⟩)
     go_ret
     exact ⟨rfl, HK0.out⟩
   ·have b1 : (12 : Int) < (g.i.length : Int) := by omega
    rw [decide_eq_false a1, Bool.false_and]
    clear h1 a0 a1
    generalize g.es.length = m0 at *
    generalize g.i.length = m1 at *
    generalize g.o.length = m2 at *
    generalize g.n = n at *
    go_enter Tryz.func42, Tryz.ntmps42
    go_wp2_with (go_at_call 84; with_reducible refine (HW.out _).mono ?_; rintro e w3 ⟨rfl, rfl⟩)
    go_ret
    exact ⟨rfl, HK0.out⟩
  ·have b0 : (60 : Int) < (g.es.length : Int) := by omega
   rw [decide_eq_false a0, Bool.false_and]
   clear h1 a0
   generalize g.es.length = m0 at *
   generalize g.i.length = m1 at *
   generalize g.o.length = m2 at *
   generalize g.n = n at *
   go_enter Tryz.func42, Tryz.ntmps42
   go_wp2_with (go_at_call 84; with_reducible refine (HW.out _).mono ?_; rintro e w3 ⟨rfl, rfl⟩)
   go_ret
   exact ⟨rfl, HK0.out⟩
end Go.Proofs.YtjagjhchnpmngaaGreat

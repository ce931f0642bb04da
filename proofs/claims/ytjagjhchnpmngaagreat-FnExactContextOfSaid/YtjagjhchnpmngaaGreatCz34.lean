/-
 A graph cut open at a match, in the reference. Conditions: the graphs are valid, the match is one, the pattern's inputs are different.
-/
import Derived.Test.YtjagjhchnpmngaaGreatCz06
import Derived.Test.YtjagjhchnpmngaaGreatCz05
import Derived.Test.YtjagjhchnpmngaaGreatCz04
import Derived.Test.YtjagjhchnpmngaaGreatCz03
import Derived.Test.YtjagjhchnpmngaaGreatCz02
import Derived.Test.YtjagjhchnpmngaaGreatCz01
import Derived.Test.YtjagjhchnpmngaaGreatCz00
import Derived.Test.YtjagjhchnpmngaaGreatCz33
import Derived.Test.YtjagjhchnpmngaaGreatCz31
import Derived.Test.YtjagjhchnpmngaaGreatCz13
import Derived.Test.YtjagjhchnpmngaaGreatCz14
import Derived.Test.YtjagjhchnpmngaaGreatCz07
import Derived.Test.YtjagjhchnpmngaaGreatCz15
set_option linter.unusedVariables false
set_option linter.unusedSimpArgs false
set_option maxRecDepth 100000
namespace Go.Proofs.YtjagjhchnpmngaaGreat
open Go.RowKit
def edTo (E : List Int) (k : Nat) : List Int := (List.range k).map fun e : Nat => if (e : Int) ∈ E then -1 else ((keptN E e).length : Int)
theorem edTo_len (E : List Int) (k : Nat) : (edTo E k).length = k := by simp [edTo]
theorem edTo_yes {E : List Int} {k : Nat} (h : (k : Int) ∈ E) : edTo E (k + 1) = edTo E k ++ [-1] := by
 unfold edTo; rw [List.range_succ, List.map_append]; simp [h]
theorem edTo_no {E : List Int} {k : Nat} (h : (k : Int) ∉ E) : edTo E (k + 1) = edTo E k ++ [((keptN E k).length : Int)] := by
 unfold edTo; rw [List.range_succ, List.map_append]; simp [h]
theorem rq7 {w : World} {k : Nat} {x0 x1 x2 x3 x4 x5 x6 : Value} {t : TypeId} (h : w.heap[k]? = some (.cells #[x0, x1, x2, x3, x4, x5, x6] t (0, 0))) :
 w.cell? ⟨k, 0, none⟩ = some x0 ∧ w.cell? ⟨k, 1, none⟩ = some x1 ∧ w.cell? ⟨k, 2, none⟩ = some x2 ∧ w.cell? ⟨k, 3, none⟩ = some x3 ∧ w.cell? ⟨k, 4, none⟩ = some x4 ∧ w.cell? ⟨k, 5, none⟩ = some x5 ∧ w.cell? ⟨k, 6, none⟩ = some x6 :=
 ⟨cell_of_row w k 0 _ _ _ h, cell_of_row w k 1 _ _ _ h, cell_of_row w k 2 _ _ _ h, cell_of_row w k 3 _ _ _ h, cell_of_row w k 4 _ _ _ h, cell_of_row w k 5 _ _ _ h, cell_of_row w k 6 _ _ _ h⟩
theorem rf7 {w : World} {k : Nat} {x0 x1 x2 x3 x4 x5 x6 : Value} {t : TypeId} (h : w.heap[k]? = some (.cells #[x0, x1, x2, x3, x4, x5, x6] t (0, 0))) :
 w.frozen? ⟨k, 0, none⟩ = false ∧ w.frozen? ⟨k, 1, none⟩ = false ∧ w.frozen? ⟨k, 2, none⟩ = false ∧ w.frozen? ⟨k, 3, none⟩ = false ∧ w.frozen? ⟨k, 4, none⟩ = false ∧ w.frozen? ⟨k, 5, none⟩ = false ∧ w.frozen? ⟨k, 6, none⟩ = false :=
 ⟨frozen_of_row w k 0 _ _ h, frozen_of_row w k 1 _ _ h, frozen_of_row w k 2 _ _ h, frozen_of_row w k 3 _ _ h, frozen_of_row w k 4 _ _ h, frozen_of_row w k 5 _ _ h, frozen_of_row w k 6 _ _ h⟩
def CutR (g p : Gr) (W E : List Int) (N r : Nat) (w : World) (x : Ending) (w' : World) : Prop :=
 ∃ u0 xs u1 u2 f t d, x = .returned (.agg #[.int .i64 (((N + r : Nat) : Int) + ((thru p W).length : Int)), u0, u1, u2, f, t, d]) ∧ eds xs = cutEs g E (thru p W) ((N + r : Nat) : Int) g.es.length ∧
  Sep w' [OE u0 xs, OI u1 g.i, OI u2 (g.o.map (dstF (thru p W) ((N + r : Nat) : Int))), OI f (insL p W), OI t (outsL p W ((N + r : Nat) : Int)), OI d (edTo E g.es.length), KeepA w]
set_option maxHeartbeats 16000000 in
theorem rwOpen_any (g p : Gr) (W E : List Int) (N r : Nat) (hg : grB g = true) (hp : grB p = true) (hM : IsMt g p ⟨W, E⟩) (hdi : p.i.Nodup) (hgn : g.n = N) (hr : r ≤ 200) (gev giv gov pev piv pov : Value) (wa ea : Option Addr) (wc ec : Nat) (w : World) (hge : RdE edgeE w gev g.es) (hgi : IntsV w giv g.i) (hgo : IntsV w gov g.o)
 (hpe : RdE edgeE w pev p.es) (hpi : IntsV w piv p.i) (hpo : IntsV w pov p.o) (hw : IntsV w (.slice wa W.length wc) W) (he : IntsV w (.slice ea E.length ec) E) :
 Calls Tryz.prog 30 #[grV g.n gev giv gov, grV p.n pev piv pov, .agg #[.slice wa W.length wc, .slice ea E.length ec], .int .i64 r] w (CutR g p W E N r w) := by
 obtain ⟨B, hB⟩ : ∃ B, N + r = B := ⟨_, rfl⟩
 obtain ⟨n1, hn1, g1, g2, g3, g4, g5, g6, _⟩ := grB_n hg
 obtain ⟨n2, hn2, b1, b2, b3, b4, b5, b6, _⟩ := grB_n hp
 have hNN : N ≤ 100 := by omega
 have hmi : p.i.length ≤ 12 := b3
 have hmo : p.o.length ≤ 12 := b4
 have ra := rngB_iff.1 g5
 have rb := rngB_iff.1 b5
 rw [hgn] at ra
 have hlw := hM.lw
 simp only at hlw
 have hWr : ∀ x ∈ W, 0 ≤ x ∧ x < (N : Int) := fun x hx => by have := hM.rw x hx; rw [hgn] at this; exact this
 have hpiR : ∀ x ∈ p.i, 0 ≤ x ∧ x < (W.length : Int) := fun x hx => by have := rb x (mem_wiresG.2 (Or.inl hx)); omega
 have hpoR : ∀ x ∈ p.o, 0 ≤ x ∧ x < (W.length : Int) := fun x hx => by have := rb x (mem_wiresG.2 (Or.inr (Or.inl hx))); omega
 have HWR := qd hWr; have HPIR := qd hpiR; have HPOR := qd hpoR
 have HNEW := qd fun k (hk : k < p.i.length) => thru_new (n := W.length) rfl hM.dw hpiR hdi hk
 have HTS := qd fun k (hk : k < p.i.length) => thruL_succ (W := W) hk
 have HTL := qd fun k => thru_len p W k
 have HOW := qd fun W1 (hW : w.grownBy W1 none) => hgOwn_any gev giv gov g W1 (hge.carry hW) (hgi.carry hW) (hgo.carry hW) hg
 have HHA := qd fun (a : Int) W1 (hW : w.grownBy W1 none) => l1Has_r pov p.o a W1 (hpo.carry hW) (by omega)
 have HHE := qd fun (a : Int) W1 (hW : w.grownBy W1 none) => l1Has_r (.slice ea E.length ec) E a W1 (he.carry hW) (by have := hM.le; simp only at this; omega)
 have HLO := qd fun (D : List Int) (hD : D.length = N) v W1 (hW : w.grownBy W1 none) (hv : IntsV W1 v D) => hgList_any gov v g.o D W1 (hgo.carry hW) hv (by omega) (fun x hx => by rw [hD]; exact ra x (mem_wiresG.2 (Or.inr (Or.inl hx))))
 have HLE := qd fun (e : Ed) (hme : e ∈ g.es) (D : List Int) (hD : D.length = N) u v W1 (hu : IntsV W1 u e.i) (hv : IntsV W1 v D) => hgList_any u v e.i D W1 hu hv (by have := g6 e hme; omega) (fun x hx => by rw [hD]; exact ra x (mem_wiresG.2 (Or.inr (Or.inr ⟨e, hme, Or.inl hx⟩))))
 have HLV := qd fun (e : Ed) (hme : e ∈ g.es) u W1 (hu : IntsV W1 u e.o) => l1Own_any u e.o W1 hu (by have := g6 e hme; omega)
 have HDO := qd fun (T : List Int) => show g.o.map (ofL (tabD N T (B : Int))) = g.o.map (dstF T (B : Int)) from List.map_congr_left fun x hx => by have := ra x (mem_wiresG.2 (Or.inr (Or.inl hx))); exact ofL_tabD this.1 this.2
 have HDE := qd fun (e : Ed) (hme : e ∈ g.es) (T : List Int) => show e.i.map (ofL (tabD N T (B : Int))) = e.i.map (dstF T (B : Int)) from List.map_congr_left fun x hx => by have := ra x (mem_wiresG.2 (Or.inr (Or.inr ⟨e, hme, Or.inl hx⟩))); exact ofL_tabD this.1 this.2
 have HGE := qd hge; have HPI := qd hpi; have HPO := qd hpo; have HW := qd hw
 obtain ⟨i0, hbi, hz0, hz1, hz2⟩ := info_parts info_int
 have HII := qd hbi; have HY0 := qd hz0; have HY1 := qd hz1; have HY2 := qd hz2
 clear hbi hz0 hz1 hz2
 unfold CutR grV at *
 rw [hB]
 obtain ⟨ga, gc, rfl⟩ := hge.shape
 obtain ⟨gi, gd, rfl⟩ := hgi.shape
 obtain ⟨go_, ge, rfl⟩ := hgo.shape
 obtain ⟨pa, pc, rfl⟩ := hpe.shape
 obtain ⟨pi_, pd, rfl⟩ := hpi.shape
 obtain ⟨po, pe, rfl⟩ := hpo.shape
 have HGN := qd hgn
 rw [hgn] at HOW ⊢
 obtain ⟨T0, hT0⟩ : ∃ T, thru p W = T := ⟨_, rfl⟩
 have HT0 := qd (show thruL p W p.i.length = T0 from hT0)
 have HOT := qd (show outsL p W (B : Int) = p.o.map fun x => dstF T0 (B : Int) (ofL W x) from by unfold outsL; rw [hT0])
 have HTN := qd (show T0.length ≤ 12 by rw [← hT0]; have := thru_len p W p.i.length; unfold thru; omega)
 rw [hT0]
 have hlW2 : W.length ≤ 100 := by omega
 have hne2 : g.es.length ≤ 60 := by omega
 clear hge hgi hgo hpe hpi hpo hw he hM hg hp hn1 hn2 g1 g2 g3 g4 g5 g6 b1 b2 b3 b4 b5 b6 ra rb hlw hWr hpiR hpoR hgn hdi hT0
 generalize hxne : g.es.length = ne at *
 have HXne := qd hxne
 clear hxne
 generalize hxni : g.i.length = ni at *
 have HXni := qd hxni
 clear hxni
 generalize hxno : g.o.length = no at *
 have HXno := qd hxno
 clear hxno
 generalize hxme : p.es.length = me at *
 have HXme := qd hxme
 clear hxme
 generalize hxmi : p.i.length = mi at *
 have HXmi := qd hxmi
 clear hxmi
 generalize hxmo : p.o.length = mo at *
 have HXmo := qd hxmo
 clear hxmo
 generalize hxlw : W.length = lw at *
 have HXlw := qd hxlw
 clear hxlw
 generalize hxle : E.length = le at *
 have HXle := qd hxle
 clear hxle
 generalize p.n = pn at *
 have HS0 := qd (((((Sep.start w).boxAt w.heap.size rfl #[.int .i64 N, .slice ga ne gc, .slice gi ni gd, .slice go_ no ge] 38).boxAt (w.heap.size + 1) (by simp) #[.int .i64 pn, .slice pa me pc, .slice pi_ mi pd, .slice po mo pe] 38).boxAt (w.heap.size + 2) (by simp) #[.slice wa lw wc, .slice ea le ec] 48).boxAt (w.heap.size + 3) (by simp) #[.int .i64 0, .slice none 0 0, .slice none 0 0, .slice none 0 0, .slice none 0 0, .slice none 0 0, .slice none 0 0] 65)
 have HK0 := qd (show w.grownBy _ none from HS0.out.tl.tl.tl.tl.hd)
 obtain ⟨g0, g1, g2, g3, _⟩ := gq4 HS0.out.tl.tl.tl.hd
 go_enter Tryz.func30, Tryz.ntmps30
 go_wp2_with (first
  |(go_at_call 59
    with_reducible refine (HOW.out _ HK0.out).mono ?_
    rintro e w1 ⟨u0, xs, u1, u2, rfl, _, hsg⟩
    obtain ⟨s0, r0, rfl⟩ := OE.shape hsg.hd
    obtain ⟨s1, r1, rfl⟩ := own_shape hsg.tl.hd
    obtain ⟨s2, r2, rfl⟩ := own_shape hsg.tl.tl.hd
    unfold grV
    rw [HGN.out, HXni.out, HXno.out]
    rw [HXni.out, HXno.out] at hsg
    have HS1a := qd ((HS0.out.graft3 hsg OE_own OI_own OI_own).tl.under (fun h => h.tl) (by simp +contextual))
    have HS1 := qd (HS1a.out.boxAt w1.heap.size rfl #[.int .i64 (N), .slice none 0 0, .slice s1 ni r1, .slice s2 no r2, .slice none 0 0, .slice none 0 0, .slice none 0 0] 65)
    clear hsg g0 g1 g2 g3
    obtain ⟨g0, g1, g2, g3, _⟩ := gq4 (HS1.out.tl.tl.tl.tl.tl.hd))
  |(at_make
    refine wpList_make_full _ rfl _ _ 23 rfl _ 3 i0 (.int .i64 0) 1 Tryz.underlying23 HII.out HY0.out HY1.out _ _ _ _ N rfl rfl rfl rfl (by rw [HY2.out]; omega) (by unfold maxLen; omega) (Nat.le_refl _) ?_
    intro w2 hown' hgr'
    have HS2 := qd (HS1.out.newI (zs := List.replicate N 0) hgr' (by rw [madeCells_int] at hown'; unfold OwnInts; rw [List.length_replicate]; exact hown'))
    clear hown' hgr'))
 have hs2 := HS2.out
 rw [show (w1.alloc (.cells #[.int .i64 (N), .slice none 0 0, .slice s1 ni r1, .slice s2 no r2, .slice none 0 0, .slice none 0 0, .slice none 0 0] 65)).heap.size = w1.heap.size + 1 by simp] at hs2
 have HS3 := qd hs2
 clear hs2 HS2 HS1 HS1a HS0 HK0 HOW g0 g1 g2 g3
 generalize w1.heap.size + 1 = db at *
 generalize w1.heap.size = ob at *
 go_loopw [11, 30] (fun _ i wr => ∃ k : Nat, k ≤ N ∧ i = .int .i64 k ∧ Sep wr [OI (.slice (some ⟨db, 0, none⟩) N N) (upL k ++ List.replicate (N - k) 0), BxA ob #[.int .i64 (N), .slice none 0 0, .slice s1 ni r1, .slice s2 no r2, .slice none 0 0, .slice none 0 0, .slice none 0 0] 65, OI (.slice s1 ni r1) g.i, BxA (w.heap.size + 3) #[.int .i64 0, .slice none 0 0, .slice none 0 0, .slice none 0 0, .slice none 0 0, .slice none 0 0, .slice none 0 0] 65, BxA (w.heap.size + 2) #[.slice wa lw wc, .slice ea le ec] 48, BxA (w.heap.size + 1) #[.int .i64 pn, .slice pa me pc, .slice pi_ mi pd, .slice po mo pe] 38, BxA w.heap.size #[.int .i64 N, .slice ga ne gc, .slice gi ni gd, .slice go_ no ge] 38, KeepA w]) (fun _ i _ => N - (intOf i).toNat)
 case atStart => exact ⟨0, by omega, rfl, by simpa [upL] using HS3.out⟩
 case round =>
  obtain ⟨k, hk, rfl, hs⟩ := hrel
  have HSX := qd hs
  clear hs HS3
  by_cases hlt : k < N
  ·have hll : N = (upL k ++ List.replicate (N - k) (0 : Int)).length := by rw [List.length_append, upL_len, List.length_replicate]; omega
   have hf := HSX.out.hd.free hll k
   obtain ⟨q, hc0⟩ := HSX.out.hd.cellQ hll (j := k) hlt
   have hset := HSX.out.setI hll k (k : Int)
   rw [up_set hlt] at hset
   have HSET := qd hset
   clear hll hset
   go_wp2
   go_roundw
   case rel => exact ⟨k + 1, by omega, by go_num, HSET.out⟩
   case measure => simp [intOf]; omega
  ·have hkn : N = k := by omega
   subst hkn
   have hs := HSX.out
   rw [Nat.sub_self, List.replicate_zero, List.append_nil, ← tabD_nil N (B : Int)] at hs
   have HS4 := qd hs.s2
   clear hlt hs HSX hk
   obtain ⟨c0, c1, c2, c3, c4, c5, c6⟩ := rq7 HS4.out.hd
   obtain ⟨f0, f1, f2, f3, f4, f5, f6⟩ := rf7 HS4.out.hd
   have HS5 := qd (HS4.out.setB 0 (.int .i64 (B : Int)))
   have hnr : (N : Int) + (r : Int) = (B : Int) := by omega
   go_upto_region 10 with fail
   try simp only [hnr]
   clear c0 f0 c1 f1 c2 f2 c3 f3 c4 f4 c5 f5 c6 f6
   generalize wr.setCell ⟨ob, 0, none⟩ (.int .i64 (B : Int)) = w5 at *
   clear HS4
   obtain ⟨p0, p1, p2, p3, _⟩ := gq4 HS5.out.tl.tl.tl.tl.tl.hd
   go_wp2_with fail
   go_loopw [13, 48] (fun _ i wr => ∃ k u : Nat, k ≤ mi ∧ i = .int .i64 k ∧ u = B + (thruL p W k).length ∧ Sep wr [BxA ob #[.int .i64 (u), .slice none 0 0, .slice s1 ni r1, .slice s2 no r2, .slice none 0 0, .slice none 0 0, .slice none 0 0] 65, OI (.slice (some ⟨db, 0, none⟩) N N) (tabD N (thruL p W k) (B : Int)), OI (.slice s1 ni r1) g.i, BxA (w.heap.size + 3) #[.int .i64 0, .slice none 0 0, .slice none 0 0, .slice none 0 0, .slice none 0 0, .slice none 0 0, .slice none 0 0] 65, BxA (w.heap.size + 2) #[.slice wa lw wc, .slice ea le ec] 48, BxA (w.heap.size + 1) #[.int .i64 pn, .slice pa me pc, .slice pi_ mi pd, .slice po mo pe] 38, BxA w.heap.size #[.int .i64 N, .slice ga ne gc, .slice gi ni gd, .slice go_ no ge] 38, KeepA w]) (fun _ i _ => mi - (intOf i).toNat)
   case atStart => exact ⟨0, B, by omega, rfl, rfl, HS5.out⟩
   case round =>
    obtain ⟨k, u, hk, rfl, hu, hs⟩ := hrel
    have HSX := qd hs
    have HU := qd hu
    have htl := HTL.out k
    have hkw : w.grownBy wr none := HSX.out.tl.tl.tl.tl.tl.tl.tl.hd
    clear hs hu HS5 p0 p1 p2 p3
    by_cases hlt : k < mi
    ·have hke : k < p.i.length := by rw [HXmi.out]; exact hlt
     obtain ⟨b1, o1, hpa, _, hc1⟩ := (HPI.out.carry hkw).atD hke
     subst hpa
     have hpr := HPIR.out _ (getD_memI hke)
     obtain ⟨a, ha⟩ : ∃ a : Nat, p.i.getD k 0 = a := ⟨(p.i.getD k 0).toNat, by omega⟩
     have hT := HTS.out k hlt
     have hN := HNEW.out k hlt
     rw [ha] at hT hN
     rw [ha] at hc1 hpr
     have halw : a < lw := by omega
     have haW : a < W.length := by rw [HXlw.out]; exact halw
     obtain ⟨b2, o2, hwa, _, hc2⟩ := (HW.out.carry hkw).atD haW
     subst hwa
     have hwr2 := HWR.out _ (getD_memI haW)
     obtain ⟨v, hv⟩ : ∃ v : Nat, W.getD a 0 = v := ⟨(W.getD a 0).toNat, by omega⟩
     have hof : ofL W (a : Int) = (v : Int) := by unfold ofL; rw [Int.toNat_natCast]; exact hv
     rw [hv] at hc2 hwr2
     have hvN : v < N := by omega
     have HAW := qd haW; have HV0 := qd hv
     have hz0 : (0 : Int) ≤ (a : Int) := by omega
     have hz1 : (a : Int) < (lw : Int) := by omega
     have hz2 : (0 : Int) ≤ (v : Int) := by omega
     have hz3 : (v : Int) < (N : Int) := by omega
     rw [hof] at hT hN
     generalize thruL p W k = T at *
     have huB : u ≤ 400 := by have := HU.out; omega
     have HHK := qd (HHA.out (a : Int) wr hkw)
     obtain ⟨p0, p1, p2, p3, _⟩ := gq4 HSX.out.tl.tl.tl.tl.tl.hd
     clear hpr hwr2 ha hv halw haW hke hof hc2
     by_cases hm : (a : Int) ∈ p.o
     ·rw [decide_eq_true hm] at HHK
      rw [if_pos hm] at hT
      have HT1 := qd hT
      have hll : N = (tabD N T (B : Int)).length := (tabD_len _ _ _).symm
      have he : (tabD N T (B : Int)).set v (u : Int) = tabD N (T ++ [(v : Int)]) (B : Int) := by rw [show (u : Int) = (B : Int) + (T.length : Int) by have := HU.out; omega]; exact tabD_push hN
      have hset := (HSX.out.dr.s2).setI hll v (u : Int)
      rw [he] at hset
      have HSET := qd hset
      have hf := HSX.out.dr.tl.hd.free hll v
      obtain ⟨q, hcd⟩ := HSX.out.dr.tl.hd.cellQ hll (j := v) hvN
      clear hT hset he hll hm hN
      go_upto_region 14 with (
       go_at_call 60
       with_reducible refine HHK.out.mono ?_
       rintro e w6 ⟨rfl, rfl⟩)
      have HBM := qd fun (W1 : World) (L : List Asrt) (h : Sep W1 L) (h1 : BxA ob #[.int .i64 (u), .slice none 0 0, .slice s1 ni r1, .slice s2 no r2, .slice none 0 0, .slice none 0 0, .slice none 0 0] 65 ∈ L) (h2 : BxA (w.heap.size + 2) #[.slice (some ⟨b2, o2, none⟩) lw wc, .slice ea le ec] 48 ∈ L) (h3 : KeepA w ∈ L) => show W1.cell? ⟨ob, 0, none⟩ = some (.int .i64 u) ∧ W1.cell? ⟨w.heap.size + 2, 0, none⟩ = some (.slice (some ⟨b2, o2, none⟩) lw wc) ∧ W1.cell? ⟨b2, o2 + a, none⟩ = some (.int .i64 v) from by
       have q0 := (rq7 (show W1.heap[ob]? = some (.cells #[.int .i64 (u), .slice none 0 0, .slice s1 ni r1, .slice s2 no r2, .slice none 0 0, .slice none 0 0, .slice none 0 0] 65 (0, 0)) from Sep.all h _ h1)).1
       have q1 := (bw2 (show W1.heap[(w.heap.size + 2)]? = some (.cells #[.slice (some ⟨b2, o2, none⟩) lw wc, .slice ea le ec] 48 (0, 0)) from Sep.all h _ h2)).1
       obtain ⟨b', o', e', _, hc⟩ := (HW.out.carry (show w.grownBy W1 none from Sep.all h _ h3)).atD HAW.out
       cases e'
       rw [HV0.out] at hc
       exact ⟨q0, q1, hc⟩
      have X0 := qd (HBM.out _ _ HSX.out.dr (by simp) (by simp) (by simp))
      refine AnyL.start (fun W1 => W1.cell? ⟨ob, 0, none⟩ = some (.int .i64 u) ∧ W1.cell? ⟨w.heap.size + 2, 0, none⟩ = some (.slice (some ⟨b2, o2, none⟩) lw wc) ∧ W1.cell? ⟨b2, o2 + a, none⟩ = some (.int .i64 v)) (fun _ => True) 99 (by kernel_rfl) ?_
      generalize wr.drew = wd at *
      clear p0 p1 p2 p3 hc1
      refine AnyL.tT 0 (by exact X0.out) ?_
      refine AnyL.tT 1 (by exact X0.out) ?_
      refine AnyL.tT 2 (by exact X0.out) ?_
      refine AnyL.tT 3 (by exact X0.out) ?_
      refine AnyL.tT 4 (by exact X0.out) ?_
      refine AnyL.tT 5 (by exact X0.out) ?_
      refine AnyL.tT 6 (by exact X0.out) ?_
      refine AnyL.tT 7 (by exact X0.out) ?_
      refine AnyL.tT 8 (by exact X0.out) ?_
      refine AnyL.tT 9 (by exact X0.out) ?_
      refine AnyL.step (i := 10) (by kernel_rfl) (by rfl) (fun K hK => ?_)
      go_simp
      refine shutNx hK (wd.setCell ⟨db, v, none⟩ (.int .i64 u)) (by exact HBM.out _ _ HSET.out (by simp) (by simp) (by simp)) (by exact fun _ => trivial) ?_
      clear hK K
      refine AnyL.done (by kernel_rfl) ?_ _
      clear hf hcd X0 HBM
      generalize wd.setCell ⟨db, v, none⟩ (.int .i64 u) = w7 at *
      obtain ⟨c0, c1, c2, c3, c4, c5, c6⟩ := rq7 HSET.out.tl.hd
      obtain ⟨f0, f1, f2, f3, f4, f5, f6⟩ := rf7 HSET.out.tl.hd
      have HS6 := qd (HSET.out.s2.setB 0 (.int .i64 ((u : Int) + 1)))
      go_wp2_with fail
      go_roundw
      case rel => exact ⟨k + 1, u + 1, by omega, by go_num, by rw [HT1.out, List.length_append]; have := HU.out; simp; omega, by rw [HT1.out, show ((u + 1 : Nat) : Int) = (u : Int) + 1 by omega]; exact HS6.out⟩
      case measure => simp [intOf]; omega
     ·rw [decide_eq_false hm] at HHK
      rw [if_neg hm] at hT
      have HT1 := qd hT
      clear hT hm hN
      go_wp2_with (
       go_at_call 60
       with_reducible refine HHK.out.mono ?_
       rintro e w6 ⟨rfl, rfl⟩)
      go_roundw
      case rel => exact ⟨k + 1, u, by omega, by go_num, by rw [HT1.out]; exact HU.out, by rw [HT1.out]; exact HSX.out⟩
      case measure => simp [intOf]; omega
    ·have hkm : mi = k := by omega
     subst hkm
     have hu := HU.out
     have hs := HSX.out
     rw [HT0.out] at hu hs
     have HU7 := qd hu; have HS7 := qd hs
     have huB : u ≤ 400 := by have := HTN.out; omega
     have HLW := qd (HLO.out (tabD N T0 (B : Int)) (tabD_len _ _ _) _ wr hkw (OwnInts.read (show OwnInts 0 wr (.slice (some ⟨db, 0, none⟩) N N) (tabD N T0 (B : Int)) from HS7.out.tl.hd)))
     obtain ⟨g0, g1, g2, g3, _⟩ := gq4 HS7.out.tl.tl.tl.tl.tl.tl.hd
     clear hlt hu hs HSX HU hk htl hnr
     go_upto_region 18 with (
      go_at_call 61
      with_reducible refine HLW.out.mono ?_
      rintro e w8 ⟨a8, c8, rfl, hsg⟩
      rw [HDO.out T0] at hsg
      have HS8 := qd (HS7.out.graft1 hsg OI_own)
      obtain ⟨c0, c1, c2, c3, c4, c5, c6⟩ := rq7 HS8.out.tl.hd
      obtain ⟨f0, f1, f2, f3, f4, f5, f6⟩ := rf7 HS8.out.tl.hd
      clear hsg)
     have HS9 := qd (HS8.out.s2.setB 3 (.slice a8 no c8))
     generalize w8.setCell ⟨ob, 3, none⟩ (.slice a8 no c8) = w9 at *
     clear c0 f0 c1 f1 c2 f2 c3 f3 c4 f4 c5 f5 c6 f6
     clear g0 g1 g2 g3 HS8 HS7 hkw HLW
     obtain ⟨g0, g1, g2, g3, _⟩ := gq4 HS9.out.tl.tl.tl.tl.tl.tl.tl.hd
     go_wp2_with fail
     go_loopw [14, 15, 82] (fun _ _ i wr => ∃ (k m : Nat) (ee : Option Addr) (ef : Nat) (de : Option Addr) (df : Nat) (xs : List XE), k ≤ ne ∧ i = .int .i64 k ∧ xs.length = m ∧ eds xs = cutEs g E T0 (B : Int) k ∧ Sep wr [BxA ob #[.int .i64 (u), .slice ee m ef, .slice s1 ni r1, .slice a8 no c8, .slice none 0 0, .slice none 0 0, .slice de k df] 65, OR edgeE (.slice ee m ef) xs, Bag (rowsE xs), OI (.slice de k df) (edTo E k), OI (.slice a8 no c8) (g.o.map (dstF T0 (B : Int))), OI (.slice (some ⟨db, 0, none⟩) N N) (tabD N T0 (B : Int)), OI (.slice s1 ni r1) g.i, BxA (w.heap.size + 3) #[.int .i64 0, .slice none 0 0, .slice none 0 0, .slice none 0 0, .slice none 0 0, .slice none 0 0, .slice none 0 0] 65, BxA (w.heap.size + 2) #[.slice wa lw wc, .slice ea le ec] 48, BxA (w.heap.size + 1) #[.int .i64 pn, .slice pa me pc, .slice pi_ mi pd, .slice po mo pe] 38, BxA w.heap.size #[.int .i64 N, .slice ga ne gc, .slice gi ni gd, .slice go_ no ge] 38, KeepA w]) (fun _ _ i _ => ne - (intOf i).toNat)
     case atStart => exact ⟨0, 0, none, 0, none, 0, [], by omega, rfl, rfl, rfl, ((HS9.out.nilI).noBag.nilR edgeE).s4⟩
     case round =>
      obtain ⟨k, m, ee, ef, de, df, xs, hk, rfl, hxl, hxe, hs⟩ := hrel
      have hmk : m = (keptN E k).length := by rw [← hxl, ← cutEs_len g E T0 (B : Int) k, ← hxe]; simp [eds]
      have hmb : m ≤ 60 := by have := keptN_len E k; omega
      have HSX := qd hs; have HXL := qd hxl; have HXE := qd hxe; have HMK := qd hmk
      have hkw : w.grownBy wr none := HSX.out.tl.tl.tl.tl.tl.tl.tl.tl.tl.tl.tl.hd
      clear hs hxl hxe hmk HS9 g0 g1 g2 g3
      by_cases hlt : k < ne
      ·have hke : k < g.es.length := by rw [HXne.out]; exact hlt
       have hye : g.es.getD k e0 ∈ g.es := by rw [List.getD_eq_getElem?_getD, List.getElem?_eq_getElem hke]; exact List.getElem_mem _
       obtain ⟨eb, eo, iv, ov, hga, hq⟩ := HGE.out.atK rfl rfl hke
       subst hga
       obtain ⟨⟨q0, q1, q2, q3⟩, hiv, hov⟩ := hq wr hkw
       have HQ := qd hq
       have HMI := qd fun W1 u v hu hv (hW : w.grownBy W1 none) => HLE.out (g.es.getD k e0) hye (tabD N T0 (B : Int)) (tabD_len _ _ _) u v W1 hu hv
       have HMO := qd fun u W1 hu => HLV.out (g.es.getD k e0) hye u W1 hu
       have HDK := qd (HDE.out (g.es.getD k e0) hye T0)
       have HCN := qd fun (h : (k : Int) ∉ E) => cutEs_no (g := g) (T := T0) (base := (B : Int)) h
       have HCY := qd fun (h : (k : Int) ∈ E) => cutEs_yes (g := g) (T := T0) (base := (B : Int)) h
       clear hke hye hq
       generalize g.es.getD k e0 = y at *
       obtain ⟨yk, yv, yi, yo⟩ := y
       simp only at q0 q1 hiv hov HMI HMO HDK HQ
       obtain ⟨ja, jc, rfl⟩ := hiv.shape
       obtain ⟨qa, qc, rfl⟩ := hov.shape
       try simp only at q2 q3
       clear hiv hov
       generalize yi.length = n1 at *
       generalize yo.length = n2 at *
       have HSA := qd (HSX.out.boxAt wr.heap.size rfl #[.int .i64 yk, .int .i64 yv, .slice ja n1 jc, .slice qa n2 qc] 104)
       have HKA := qd (show w.grownBy _ none from HSA.out.tl.tl.tl.tl.tl.tl.tl.tl.tl.tl.tl.tl.hd)
       have HHK := qd (HHE.out (k : Int) _ HKA.out)
       obtain ⟨m0, m1, _⟩ := bw2 HSA.out.tl.tl.tl.tl.tl.tl.tl.tl.tl.hd
       obtain ⟨c0, c1, c2, c3, c4, c5, c6⟩ := rq7 HSA.out.tl.hd
       obtain ⟨f0, f1, f2, f3, f4, f5, f6⟩ := rf7 HSA.out.tl.hd
       go_upto_region 21 with fail
       generalize wr.alloc (.cells #[.int .i64 yk, .int .i64 yv, .slice ja n1 jc, .slice qa n2 qc] 104) = wx at *
       clear q0 q1 q2 q3
       by_cases hm : (k : Int) ∈ E
       ·rw [decide_eq_true hm] at HHK
        have HCE := qd (HCY.out hm); have HED := qd (edTo_yes hm)
        clear hm
        go_wp2_with (first
         |(go_at_call 60
           with_reducible refine HHK.out.mono ?_
           rintro e w6 ⟨rfl, rfl⟩)
         |(at_builtin
           refine app_intS rfl _ _ rfl rfl rfl HSA.out.tl.s4 (by rw [edTo_len]; omega) ?_
           intro g9 c9 w9 h9
           rw [edTo_len, ← HED.out] at h9
           try rw [edTo_len]
           have HS9 := qd h9
           clear c0 f0 c1 f1 c2 f2 c3 f3 c4 f4 c5 f5 c6 f6
           obtain ⟨c0, c1, c2, c3, c4, c5, c6⟩ := rq7 HS9.out.tl.hd
           obtain ⟨f0, f1, f2, f3, f4, f5, f6⟩ := rf7 HS9.out.tl.hd
           clear h9))
        have hs10 := HS9.out.s2.setB 6 (.slice (some ⟨g9, 0, none⟩) (k + 1) c9)
        have HS10 := qd (Sep.blk3 (X := [_]) (A := [_]) (B := [_, _]) hs10)
        go_roundw
        case rel => exact ⟨k + 1, m, ee, ef, some ⟨g9, 0, none⟩, c9, xs, by omega, by go_num, HXL.out, by rw [HCE.out]; exact HXE.out, HS10.out⟩
        case measure => simp [intOf]; omega
       ·rw [decide_eq_false hm] at HHK
        have HCE := qd (HCN.out hm); have HED := qd (show edTo E (k + 1) = edTo E k ++ [(m : Int)] from by rw [HMK.out]; exact edTo_no hm)
        clear hm
        go_upto_region 24 with (first
         |(go_at_call 60
           with_reducible refine HHK.out.mono ?_
           rintro e w6 ⟨rfl, rfl⟩)
         |(at_builtin
           refine app_intS rfl _ _ rfl rfl rfl HSA.out.s5 (by rw [edTo_len]; omega) ?_
           intro g9 c9 w9 h9
           rw [edTo_len, ← HED.out] at h9
           try rw [edTo_len]
           have HS9 := qd h9
           clear c0 f0 c1 f1 c2 f2 c3 f3 c4 f4 c5 f5 c6 f6
           obtain ⟨c0, c1, c2, c3, c4, c5, c6⟩ := rq7 HS9.out.tl.tl.hd
           obtain ⟨f0, f1, f2, f3, f4, f5, f6⟩ := rf7 HS9.out.tl.tl.hd
           clear h9))
        have hs10 := HS9.out.s3.setB 6 (.slice (some ⟨g9, 0, none⟩) (k + 1) c9)
        have HSD := qd (Sep.blk3 (X := [_]) (A := [_]) (B := [_, _, _]) hs10).s2.dr
        clear hs10 m0 m1
        clear c0 f0 c1 f1 c2 f2 c3 f3 c4 f4 c5 f5 c6 f6
        obtain ⟨xb, hxb⟩ : ∃ xb, wr.heap.size = xb := ⟨_, rfl⟩
        rw [hxb] at HSD
        simp only [hxb]
        clear hxb HSA HKA HHK HS9 HSX
        have HBM := qd fun (W1 : World) (L : List Asrt) (h : Sep W1 L) (h1 : BxA xb #[.int .i64 yk, .int .i64 yv, .slice ja n1 jc, .slice qa n2 qc] 104 ∈ L) => show W1.cell? ⟨xb, 0, none⟩ = some (.int .i64 yk) ∧ W1.cell? ⟨xb, 1, none⟩ = some (.int .i64 yv) ∧ W1.cell? ⟨xb, 2, none⟩ = some (.slice ja n1 jc) ∧ W1.cell? ⟨xb, 3, none⟩ = some (.slice qa n2 qc) from by
         obtain ⟨p0, p1, p2, p3, _⟩ := bq4 (show W1.heap[xb]? = some (.cells #[.int .i64 yk, .int .i64 yv, .slice ja n1 jc, .slice qa n2 qc] 104 (0, 0)) from Sep.all h _ h1)
         exact ⟨p0, p1, p2, p3⟩
        have HBA := qd fun (W1 : World) (L : List Asrt) (h : Sep W1 L) (h1 : BxA ob #[.int .i64 (u), .slice ee m ef, .slice s1 ni r1, .slice a8 no c8, .slice none 0 0, .slice none 0 0, .slice (some ⟨g9, 0, none⟩) (k + 1) c9] 65 ∈ L) => show W1.cell? ⟨ob, 1, none⟩ = some (.slice ee m ef) from (rq7 (show W1.heap[ob]? = some (.cells #[.int .i64 (u), .slice ee m ef, .slice s1 ni r1, .slice a8 no c8, .slice none 0 0, .slice none 0 0, .slice (some ⟨g9, 0, none⟩) (k + 1) c9] 65 (0, 0)) from Sep.all h _ h1)).2.1
        have X0 := qd (HBM.out _ _ HSD.out (by simp)); have Y0 := qd (HBA.out _ _ HSD.out (by simp))
        refine AnyL.start (fun W1 => W1.cell? ⟨xb, 0, none⟩ = some (.int .i64 yk) ∧ W1.cell? ⟨xb, 1, none⟩ = some (.int .i64 yv) ∧ W1.cell? ⟨xb, 2, none⟩ = some (.slice ja n1 jc) ∧ W1.cell? ⟨xb, 3, none⟩ = some (.slice qa n2 qc)) (fun W1 => W1.cell? ⟨ob, 1, none⟩ = some (.slice ee m ef)) 16 (by kernel_rfl) ?_
        generalize (w9.setCell ⟨ob, 6, none⟩ (.slice (some ⟨g9, 0, none⟩) (k + 1) c9)).drew = wd at *
        have HKD := qd (show w.grownBy wd none from HSD.out.tl.tl.tl.tl.tl.tl.tl.tl.tl.tl.tl.tl.hd)
        have HCA := qd (HMI.out wd _ _ (HQ.out wd HKD.out).2.1 (OwnInts.read (show OwnInts 0 wd (.slice (some ⟨db, 0, none⟩) N N) (tabD N T0 (B : Int)) from HSD.out.tl.tl.tl.tl.tl.tl.hd)) HKD.out)
        refine AnyL.tk 0 (by exact ⟨X0.out, fun _ => Y0.out⟩) ?_
        refine AnyL.tk 1 (by exact ⟨X0.out, fun _ => Y0.out⟩) ?_
        refine AnyL.tkA 2 (by exact ⟨X0.out, fun _ => Y0.out⟩) ?_
        refine AnyL.tk 3 (by exact ⟨X0.out, fun _ => Y0.out⟩) ?_
        refine AnyL.tk 4 (by exact ⟨X0.out, fun _ => Y0.out⟩) ?_
        refine AnyL.tk 5 (by exact ⟨X0.out, fun _ => Y0.out⟩) ?_
        refine AnyL.tk 6 (by exact ⟨X0.out, fun _ => Y0.out⟩) ?_
        refine AnyL.tk 7 (by exact ⟨X0.out, fun _ => Y0.out⟩) ?_
        refine AnyL.tk 8 (by exact ⟨X0.out, fun _ => Y0.out⟩) ?_
        refine AnyL.tk 9 (by exact ⟨X0.out, fun _ => Y0.out⟩) ?_
        refine AnyL.tk 11 (by exact ⟨X0.out, fun _ => Y0.out⟩) ?_
        refine AnyL.tk 12 (by exact ⟨X0.out, fun _ => Y0.out⟩) ?_
        refine AnyL.step (i := 10) (by kernel_rfl) (by rfl) (fun K hK => ?_)
        go_simp
        go_at_call 61
        with_reducible refine HCA.out.mono ?_
        rintro e w2 ⟨b3, d3, rfl, hsg⟩
        rw [HDK.out] at hsg
        have HS2 := qd (HSD.out.graft1 hsg OI_own)
        clear hsg HCA
        have HK2 := qd (show w.grownBy w2 none from HS2.out.tl.tl.tl.tl.tl.tl.tl.tl.tl.tl.tl.tl.tl.hd)
        have HCB := qd (HMO.out _ w2 (HQ.out w2 HK2.out).2.2)
        refine shutNx hK _ (by exact HBM.out _ _ HS2.out (by simp)) (by exact fun _ => HBA.out _ _ HS2.out (by simp)) ?_
        clear hK K
        refine AnyL.step (i := 13) (by kernel_rfl) (by rfl) (fun K hK => ?_)
        go_simp
        go_at_call 62
        with_reducible refine HCB.out.mono ?_
        rintro e w3 ⟨b4, d4, rfl, hsg⟩
        have HS3 := qd (HS2.out.graft1 hsg OI_own)
        clear hsg HCB
        refine shutNx hK _ (by exact HBM.out _ _ HS3.out (by simp)) (by exact fun _ => HBA.out _ _ HS3.out (by simp)) ?_
        clear hK K
        refine AnyL.tk 14 (by exact ⟨HBM.out _ _ HS3.out (by simp), fun _ => HBA.out _ _ HS3.out (by simp)⟩) ?_
        refine AnyL.step (i := 15) (by kernel_rfl) (by rfl) (fun K hK => ?_)
        go_simp
        refine shutNx hK _ (by exact HBM.out _ _ (HS3.out.al _) (by simp)) (by exact fun _ => HBA.out _ _ (HS3.out.al _) (by simp)) ?_
        clear hK K
        refine AnyL.step (i := 16) (by kernel_rfl) (by rfl) (fun K hK => ?_)
        refine step_app_RG (E := edgeE) (y := ⟨⟨yk, yv, yi.map (dstF T0 (B : Int)), yo⟩, .slice b3 n1 d3, .slice b4 n2 d4⟩) info_edge rfl (by decide) Tryz.underlying36 (edge_one _ _ _ _ _ _ _) rfl (.tmp 107) (.tmp 120) rfl rfl rfl (by simp) rfl (HS3.out.s5) (by rw [HXL.out]; omega) ?_
        intro gq cq w4 h4
        rw [HXL.out] at h4 ⊢
        have X4 := qd (HBM.out _ _ h4 (by simp))
        have X5 := qd (HBM.out _ _ (h4.s5.setB 1 (.slice (some ⟨gq, 0, none⟩) (m + 1) cq)) (by simp))
        have h5 := h4.edgeIn
        rw [← rowsE_snoc xs ⟨⟨yk, yv, yi.map (dstF T0 (B : Int)), yo⟩, .slice b3 n1 d3, .slice b4 n2 d4⟩] at h5
        obtain ⟨c0, c1, c2, c3, c4, c5, c6⟩ := rq7 h5.hd
        obtain ⟨f0, f1, f2, f3, f4, f5, f6⟩ := rf7 h5.hd
        have HS5 := qd (h5.setB 1 (.slice (some ⟨gq, 0, none⟩) (m + 1) cq))
        clear h4 h5
        refine shutNx hK _ (by exact X4.out) (by exact fun h => noTF (by kernel_rfl) h) ?_
        clear hK K
        refine AnyL.tk 17 (by exact ⟨X4.out, fun h => noTF (by kernel_rfl) h⟩) ?_
        refine AnyL.tk 18 (by exact ⟨X4.out, fun h => noTF (by kernel_rfl) h⟩) ?_
        refine AnyL.step (i := 19) (by kernel_rfl) (by rfl) (fun K hK => ?_)
        go_simp
        refine shutNx hK _ (by exact X5.out) (by exact fun h => noTF (by kernel_rfl) h) ?_
        clear hK K
        refine AnyL.done (by kernel_rfl) ?_ _
        go_wp2_with fail
        go_roundw
        case rel => exact ⟨k + 1, m + 1, some ⟨gq, 0, none⟩, cq, some ⟨g9, 0, none⟩, c9, xs ++ [(⟨⟨yk, yv, yi.map (dstF T0 (B : Int)), yo⟩, .slice b3 n1 d3, .slice b4 n2 d4⟩ : XE)], by omega, by go_num, by rw [List.length_append, HXL.out]; rfl, by rw [eds_snoc, HXE.out, HCE.out]; rfl, HS5.out⟩
        case measure => simp [intOf]; omega
      ·have hkm : ne = k := by omega
       subst hkm
       obtain ⟨p0, p1, p2, p3, _⟩ := gq4 HSX.out.tl.tl.tl.tl.tl.tl.tl.tl.tl.hd
       clear hlt hk
       go_wp2_with fail
       go_loopw [17, 128] (fun _ i wr => ∃ (k : Nat) (a4 : Option Addr) (c4_ : Nat), k ≤ mi ∧ i = .int .i64 k ∧ Sep wr [BxA ob #[.int .i64 (u), .slice ee m ef, .slice s1 ni r1, .slice a8 no c8, .slice a4 k c4_, .slice none 0 0, .slice de ne df] 65, OI (.slice a4 k c4_) ((p.i.take k).map (ofL W)), OR edgeE (.slice ee m ef) xs, Bag (rowsE xs), OI (.slice de ne df) (edTo E ne), OI (.slice a8 no c8) (g.o.map (dstF T0 (B : Int))), OI (.slice (some ⟨db, 0, none⟩) N N) (tabD N T0 (B : Int)), OI (.slice s1 ni r1) g.i, BxA (w.heap.size + 3) #[.int .i64 0, .slice none 0 0, .slice none 0 0, .slice none 0 0, .slice none 0 0, .slice none 0 0, .slice none 0 0] 65, BxA (w.heap.size + 2) #[.slice wa lw wc, .slice ea le ec] 48, BxA (w.heap.size + 1) #[.int .i64 pn, .slice pa me pc, .slice pi_ mi pd, .slice po mo pe] 38, BxA w.heap.size #[.int .i64 N, .slice ga ne gc, .slice gi ni gd, .slice go_ no ge] 38, KeepA w]) (fun _ i _ => mi - (intOf i).toNat)
       case atStart => exact ⟨0, none, 0, by omega, rfl, HSX.out.nilI.s2⟩
       case round =>
        obtain ⟨k, a4, c4_, hk, rfl, hs⟩ := hrel
        clear HSX hkw
        have HSX := qd hs
        have hkw : w.grownBy wr none := HSX.out.tl.tl.tl.tl.tl.tl.tl.tl.tl.tl.tl.tl.hd
        clear hs p0 p1 p2 p3
        by_cases hlt : k < mi
        ·have hke : k < p.i.length := by rw [HXmi.out]; exact hlt
         obtain ⟨b1, o1, hpa, _, hc1⟩ := (HPI.out.carry hkw).atD hke
         subst hpa
         have hpr := HPIR.out _ (getD_memI hke)
         obtain ⟨a, ha⟩ : ∃ a : Nat, p.i.getD k 0 = a := ⟨(p.i.getD k 0).toNat, by omega⟩
         have HTK := qd (show (p.i.take (k + 1)).map (ofL W) = (p.i.take k).map (ofL W) ++ [ofL W (p.i.getD k 0)] from by rw [take_snocI hke, List.map_append]; rfl)
         rw [ha] at HTK
         rw [ha] at hc1 hpr
         have halw : a < lw := by omega
         have haW : a < W.length := by rw [HXlw.out]; exact halw
         obtain ⟨b2, o2, hwa, _, hc2⟩ := (HW.out.carry hkw).atD haW
         subst hwa
         have hwr2 := HWR.out _ (getD_memI haW)
         obtain ⟨v, hv⟩ : ∃ v : Nat, W.getD a 0 = v := ⟨(W.getD a 0).toNat, by omega⟩
         have hof : ofL W (a : Int) = (v : Int) := by unfold ofL; rw [Int.toNat_natCast]; exact hv
         rw [hv] at hc2 hwr2
         have hvN : v < N := by omega
         have HAW := qd haW; have HV0 := qd hv
         have hz0 : (0 : Int) ≤ (a : Int) := by omega
         have hz1 : (a : Int) < (lw : Int) := by omega
         have hz2 : (0 : Int) ≤ (v : Int) := by omega
         have hz3 : (v : Int) < (N : Int) := by omega
         rw [hof] at HTK
         have HLK := qd (show ((p.i.take k).map (ofL W)).length = k from by rw [List.length_map, List.length_take, HXmi.out]; omega)
         clear hpr hwr2 ha hv halw haW hke hof hc2
         go_upto_region 29 with fail
         clear hc1
         have HSD := qd HSX.out.dr
         have HBM := qd fun (W1 : World) (L : List Asrt) (h : Sep W1 L) (h2 : BxA (w.heap.size + 2) #[.slice (some ⟨b2, o2, none⟩) lw wc, .slice ea le ec] 48 ∈ L) (h3 : KeepA w ∈ L) => show W1.cell? ⟨w.heap.size + 2, 0, none⟩ = some (.slice (some ⟨b2, o2, none⟩) lw wc) ∧ W1.cell? ⟨b2, o2 + a, none⟩ = some (.int .i64 v) from by
          have q1 := (bw2 (show W1.heap[(w.heap.size + 2)]? = some (.cells #[.slice (some ⟨b2, o2, none⟩) lw wc, .slice ea le ec] 48 (0, 0)) from Sep.all h _ h2)).1
          obtain ⟨b', o', e', _, hc⟩ := (HW.out.carry (show w.grownBy W1 none from Sep.all h _ h3)).atD HAW.out
          cases e'
          rw [HV0.out] at hc
          exact ⟨q1, hc⟩
         have HBA := qd fun (W1 : World) (L : List Asrt) (h : Sep W1 L) (h1 : BxA ob #[.int .i64 (u), .slice ee m ef, .slice s1 ni r1, .slice a8 no c8, .slice a4 k c4_, .slice none 0 0, .slice de ne df] 65 ∈ L) => show W1.cell? ⟨ob, 4, none⟩ = some (.slice a4 k c4_) from (rq7 (show W1.heap[ob]? = some (.cells #[.int .i64 (u), .slice ee m ef, .slice s1 ni r1, .slice a8 no c8, .slice a4 k c4_, .slice none 0 0, .slice de ne df] 65 (0, 0)) from Sep.all h _ h1)).2.2.2.2.1
         have X0 := qd (HBM.out _ _ HSD.out (by simp) (by simp)); have Y0 := qd (HBA.out _ _ HSD.out (by simp))
         refine AnyL.start (fun W1 => W1.cell? ⟨w.heap.size + 2, 0, none⟩ = some (.slice (some ⟨b2, o2, none⟩) lw wc) ∧ W1.cell? ⟨b2, o2 + a, none⟩ = some (.int .i64 v)) (fun W1 => W1.cell? ⟨ob, 4, none⟩ = some (.slice a4 k c4_)) 8 (by kernel_rfl) ?_
         generalize wr.drew = wd at *
         refine AnyL.tk 0 (by exact ⟨X0.out, fun _ => Y0.out⟩) ?_
         refine AnyL.tkA 1 (by exact ⟨X0.out, fun _ => Y0.out⟩) ?_
         refine AnyL.tk 2 (by exact ⟨X0.out, fun _ => Y0.out⟩) ?_
         refine AnyL.tk 3 (by exact ⟨X0.out, fun _ => Y0.out⟩) ?_
         refine AnyL.tk 4 (by exact ⟨X0.out, fun _ => Y0.out⟩) ?_
         refine AnyL.tk 5 (by exact ⟨X0.out, fun _ => Y0.out⟩) ?_
         refine AnyL.tk 6 (by exact ⟨X0.out, fun _ => Y0.out⟩) ?_
         refine AnyL.step (i := 7) (by kernel_rfl) (by rfl) (fun K hK => ?_)
         go_simp
         refine shutNx hK _ (by exact HBM.out _ _ (HSD.out.al _) (by simp) (by simp)) (by exact fun _ => HBA.out _ _ (HSD.out.al _) (by simp)) ?_
         clear hK K
         refine AnyL.step (i := 8) (by kernel_rfl) (by rfl) (fun K hK => ?_)
         refine step_app_intS rfl (.tmp 133) (.tmp 139) rfl rfl rfl HSD.out.s2 (by rw [HLK.out]; omega) ?_
         intro gk ck w6 h6
         rw [HLK.out, ← HTK.out] at h6
         try rw [HLK.out]
         have HS6 := qd h6
         clear h6
         refine shutNx hK _ (by exact HBM.out _ _ HS6.out (by simp) (by simp)) (by exact fun _ => HBA.out _ _ HS6.out (by simp)) ?_
         clear hK K
         refine AnyL.tk 9 (by exact ⟨HBM.out _ _ HS6.out (by simp) (by simp), fun h => noTF (by kernel_rfl) h⟩) ?_
         obtain ⟨c0, c1, c2, c3, c4, c5, c6⟩ := rq7 HS6.out.tl.hd
         obtain ⟨f0, f1, f2, f3, f4, f5, f6⟩ := rf7 HS6.out.tl.hd
         have HS8 := qd (HS6.out.s2.setB 4 (.slice (some ⟨gk, 0, none⟩) (k + 1) ck))
         refine AnyL.step (i := 10) (by kernel_rfl) (by rfl) (fun K hK => ?_)
         go_simp
         refine shutNx hK _ (by exact HBM.out _ _ HS8.out (by simp) (by simp)) (by exact fun h => noTF (by kernel_rfl) h) ?_
         clear hK K
         refine AnyL.done (by kernel_rfl) ?_ _
         clear c0 f0 c1 f1 c2 f2 c3 f3 c4 f4 c5 f5 c6 f6
         go_wp2_with fail
         go_roundw
         case rel => exact ⟨k + 1, some ⟨gk, 0, none⟩, ck, by omega, by go_num, HS8.out⟩
         case measure => simp [intOf]; omega
        ·have hkm : mi = k := by omega
         subst hkm
         have hs := HSX.out
         rw [List.take_of_length_le (by rw [HXmi.out]; exact Nat.le_refl _)] at hs
         have HS7 := qd (show Sep wr [BxA ob #[.int .i64 (u), .slice ee m ef, .slice s1 ni r1, .slice a8 no c8, .slice a4 mi c4_, .slice none 0 0, .slice de ne df] 65, OI (.slice a4 mi c4_) (insL p W), OR edgeE (.slice ee m ef) xs, Bag (rowsE xs), OI (.slice de ne df) (edTo E ne), OI (.slice a8 no c8) (g.o.map (dstF T0 (B : Int))), OI (.slice (some ⟨db, 0, none⟩) N N) (tabD N T0 (B : Int)), OI (.slice s1 ni r1) g.i, BxA (w.heap.size + 3) #[.int .i64 0, .slice none 0 0, .slice none 0 0, .slice none 0 0, .slice none 0 0, .slice none 0 0, .slice none 0 0] 65, BxA (w.heap.size + 2) #[.slice wa lw wc, .slice ea le ec] 48, BxA (w.heap.size + 1) #[.int .i64 pn, .slice pa me pc, .slice pi_ mi pd, .slice po mo pe] 38, BxA w.heap.size #[.int .i64 N, .slice ga ne gc, .slice gi ni gd, .slice go_ no ge] 38, KeepA w] from hs)
         obtain ⟨p0, p1, p2, p3, _⟩ := gq4 HS7.out.tl.tl.tl.tl.tl.tl.tl.tl.tl.tl.hd
         clear hlt hk hs HSX
         go_wp2_with fail
         go_loopw [19, 146] (fun _ i wr => ∃ (k : Nat) (a5 : Option Addr) (c5_ : Nat), k ≤ mo ∧ i = .int .i64 k ∧ Sep wr [BxA ob #[.int .i64 (u), .slice ee m ef, .slice s1 ni r1, .slice a8 no c8, .slice a4 mi c4_, .slice a5 k c5_, .slice de ne df] 65, OI (.slice a5 k c5_) ((p.o.take k).map (fun x => dstF T0 (B : Int) (ofL W x))), OI (.slice a4 mi c4_) (insL p W), OR edgeE (.slice ee m ef) xs, Bag (rowsE xs), OI (.slice de ne df) (edTo E ne), OI (.slice a8 no c8) (g.o.map (dstF T0 (B : Int))), OI (.slice (some ⟨db, 0, none⟩) N N) (tabD N T0 (B : Int)), OI (.slice s1 ni r1) g.i, BxA (w.heap.size + 3) #[.int .i64 0, .slice none 0 0, .slice none 0 0, .slice none 0 0, .slice none 0 0, .slice none 0 0, .slice none 0 0] 65, BxA (w.heap.size + 2) #[.slice wa lw wc, .slice ea le ec] 48, BxA (w.heap.size + 1) #[.int .i64 pn, .slice pa me pc, .slice pi_ mi pd, .slice po mo pe] 38, BxA w.heap.size #[.int .i64 N, .slice ga ne gc, .slice gi ni gd, .slice go_ no ge] 38, KeepA w]) (fun _ i _ => mo - (intOf i).toNat)
         case atStart => exact ⟨0, none, 0, by omega, rfl, HS7.out.nilI.s2⟩
         case round =>
          obtain ⟨k, a5, c5_, hk, rfl, hs⟩ := hrel
          clear hkw
          have HSX := qd hs
          have hkw : w.grownBy wr none := HSX.out.tl.tl.tl.tl.tl.tl.tl.tl.tl.tl.tl.tl.tl.hd
          clear hs p0 p1 p2 p3 HS7
          by_cases hlt : k < mo
          ·have hke : k < p.o.length := by rw [HXmo.out]; exact hlt
           obtain ⟨b1, o1, hpa, _, hc1⟩ := (HPO.out.carry hkw).atD hke
           subst hpa
           have hpr := HPOR.out _ (getD_memI hke)
           obtain ⟨a, ha⟩ : ∃ a : Nat, p.o.getD k 0 = a := ⟨(p.o.getD k 0).toNat, by omega⟩
           have HTK := qd (show (p.o.take (k + 1)).map (fun x => dstF T0 (B : Int) (ofL W x)) = (p.o.take k).map (fun x => dstF T0 (B : Int) (ofL W x)) ++ [dstF T0 (B : Int) (ofL W (p.o.getD k 0))] from by rw [take_snocI hke, List.map_append]; rfl)
           rw [ha] at HTK
           rw [ha] at hc1 hpr
           have halw : a < lw := by omega
           have haW : a < W.length := by rw [HXlw.out]; exact halw
           obtain ⟨b2, o2, hwa, _, hc2⟩ := (HW.out.carry hkw).atD haW
           subst hwa
           have hwr2 := HWR.out _ (getD_memI haW)
           obtain ⟨v, hv⟩ : ∃ v : Nat, W.getD a 0 = v := ⟨(W.getD a 0).toNat, by omega⟩
           have hof : ofL W (a : Int) = (v : Int) := by unfold ofL; rw [Int.toNat_natCast]; exact hv
           rw [hv] at hc2 hwr2
           have hvN : v < N := by omega
           have HAW := qd haW; have HV0 := qd hv
           have hz0 : (0 : Int) ≤ (a : Int) := by omega
           have hz1 : (a : Int) < (lw : Int) := by omega
           have hz2 : (0 : Int) ≤ (v : Int) := by omega
           have hz3 : (v : Int) < (N : Int) := by omega
           rw [hof] at HTK
           have HLK := qd (show ((p.o.take k).map (fun x => dstF T0 (B : Int) (ofL W x))).length = k from by rw [List.length_map, List.length_take, HXmo.out]; omega)
           have HZT := qd (show (tabD N T0 (B : Int)).getD v 0 = dstF T0 (B : Int) (v : Int) from by have := ofL_tabD (n := N) (T := T0) (base := (B : Int)) (w := (v : Int)) hz2 hz3; unfold ofL at this; rwa [Int.toNat_natCast] at this)
           generalize hzq : dstF T0 (B : Int) (v : Int) = zv at *
           have HVN := qd hvN
           clear hpr hwr2 ha hv halw haW hke hof hc2 hzq
           go_upto_region 34 with fail
           clear hc1
           have HSD := qd HSX.out.dr
           have HBM := qd fun (W1 : World) (L : List Asrt) (h : Sep W1 L) (h2 : BxA (w.heap.size + 2) #[.slice (some ⟨b2, o2, none⟩) lw wc, .slice ea le ec] 48 ∈ L) (h3 : KeepA w ∈ L) (h4 : OI (.slice (some ⟨db, 0, none⟩) N N) (tabD N T0 (B : Int)) ∈ L) => show W1.cell? ⟨w.heap.size + 2, 0, none⟩ = some (.slice (some ⟨b2, o2, none⟩) lw wc) ∧ W1.cell? ⟨b2, o2 + a, none⟩ = some (.int .i64 v) ∧ W1.cell? ⟨db, v, none⟩ = some (.int .i64 zv) from by
            have q1 := (bw2 (show W1.heap[(w.heap.size + 2)]? = some (.cells #[.slice (some ⟨b2, o2, none⟩) lw wc, .slice ea le ec] 48 (0, 0)) from Sep.all h _ h2)).1
            obtain ⟨b', o', e', _, hc⟩ := (HW.out.carry (show w.grownBy W1 none from Sep.all h _ h3)).atD HAW.out
            cases e'
            rw [HV0.out] at hc
            have hd := own_atT (show OwnInts 0 W1 (.slice (some ⟨db, 0, none⟩) N N) (tabD N T0 (B : Int)) from Sep.all h _ h4) (tabD_len _ _ _).symm HVN.out
            rw [HZT.out] at hd
            exact ⟨q1, hc, hd⟩
           have HBA := qd fun (W1 : World) (L : List Asrt) (h : Sep W1 L) (h1 : BxA ob #[.int .i64 (u), .slice ee m ef, .slice s1 ni r1, .slice a8 no c8, .slice a4 mi c4_, .slice a5 k c5_, .slice de ne df] 65 ∈ L) => show W1.cell? ⟨ob, 5, none⟩ = some (.slice a5 k c5_) from (rq7 (show W1.heap[ob]? = some (.cells #[.int .i64 (u), .slice ee m ef, .slice s1 ni r1, .slice a8 no c8, .slice a4 mi c4_, .slice a5 k c5_, .slice de ne df] 65 (0, 0)) from Sep.all h _ h1)).2.2.2.2.2.1
           have X0 := qd (HBM.out _ _ HSD.out (by simp) (by simp) (by simp)); have Y0 := qd (HBA.out _ _ HSD.out (by simp))
           refine AnyL.start (fun W1 => W1.cell? ⟨w.heap.size + 2, 0, none⟩ = some (.slice (some ⟨b2, o2, none⟩) lw wc) ∧ W1.cell? ⟨b2, o2 + a, none⟩ = some (.int .i64 v) ∧ W1.cell? ⟨db, v, none⟩ = some (.int .i64 zv)) (fun W1 => W1.cell? ⟨ob, 5, none⟩ = some (.slice a5 k c5_)) 11 (by kernel_rfl) ?_
           generalize wr.drew = wd at *
           refine AnyL.tk 0 (by exact ⟨X0.out, fun _ => Y0.out⟩) ?_
           refine AnyL.tkA 1 (by exact ⟨X0.out, fun _ => Y0.out⟩) ?_
           refine AnyL.tk 2 (by exact ⟨X0.out, fun _ => Y0.out⟩) ?_
           refine AnyL.tk 3 (by exact ⟨X0.out, fun _ => Y0.out⟩) ?_
           refine AnyL.tk 4 (by exact ⟨X0.out, fun _ => Y0.out⟩) ?_
           refine AnyL.tk 5 (by exact ⟨X0.out, fun _ => Y0.out⟩) ?_
           refine AnyL.tk 6 (by exact ⟨X0.out, fun _ => Y0.out⟩) ?_
           refine AnyL.tk 7 (by exact ⟨X0.out, fun _ => Y0.out⟩) ?_
           refine AnyL.tk 8 (by exact ⟨X0.out, fun _ => Y0.out⟩) ?_
           refine AnyL.tk 9 (by exact ⟨X0.out, fun _ => Y0.out⟩) ?_
           refine AnyL.step (i := 10) (by kernel_rfl) (by rfl) (fun K hK => ?_)
           go_simp
           refine shutNx hK _ (by exact HBM.out _ _ (HSD.out.al _) (by simp) (by simp) (by simp)) (by exact fun _ => HBA.out _ _ (HSD.out.al _) (by simp)) ?_
           clear hK K
           refine AnyL.step (i := 11) (by kernel_rfl) (by rfl) (fun K hK => ?_)
           refine step_app_intS rfl (.tmp 151) (.tmp 160) rfl rfl rfl HSD.out.s2 (by rw [HLK.out]; omega) ?_
           intro gk ck w6 h6
           rw [HLK.out, ← HTK.out] at h6
           try rw [HLK.out]
           have HS6 := qd h6
           clear h6
           refine shutNx hK _ (by exact HBM.out _ _ HS6.out (by simp) (by simp) (by simp)) (by exact fun _ => HBA.out _ _ HS6.out (by simp)) ?_
           clear hK K
           refine AnyL.tk 12 (by exact ⟨HBM.out _ _ HS6.out (by simp) (by simp) (by simp), fun h => noTF (by kernel_rfl) h⟩) ?_
           obtain ⟨c0, c1, c2, c3, c4, c5, c6⟩ := rq7 HS6.out.tl.hd
           obtain ⟨f0, f1, f2, f3, f4, f5, f6⟩ := rf7 HS6.out.tl.hd
           have HS8 := qd (HS6.out.s2.setB 5 (.slice (some ⟨gk, 0, none⟩) (k + 1) ck))
           refine AnyL.step (i := 13) (by kernel_rfl) (by rfl) (fun K hK => ?_)
           go_simp
           refine shutNx hK _ (by exact HBM.out _ _ HS8.out (by simp) (by simp) (by simp)) (by exact fun h => noTF (by kernel_rfl) h) ?_
           clear hK K
           refine AnyL.done (by kernel_rfl) ?_ _
           clear c0 f0 c1 f1 c2 f2 c3 f3 c4 f4 c5 f5 c6 f6
           go_wp2_with fail
           go_roundw
           case rel => exact ⟨k + 1, some ⟨gk, 0, none⟩, ck, by omega, by go_num, HS8.out⟩
           case measure => simp [intOf]; omega
          ·have hkm : mo = k := by omega
           subst hkm
           have hs := HSX.out
           rw [List.take_of_length_le (by rw [HXmo.out]; exact Nat.le_refl _), ← HOT.out] at hs
           clear hlt hk HSX
           have HUC := qd (show (B : Int) + (T0.length : Int) = (u : Int) by have := HU7.out; omega)
           obtain ⟨c0, c1, c2, c3, c4, c5, c6⟩ := rq7 hs.hd
           obtain ⟨f0, f1, f2, f3, f4, f5, f6⟩ := rf7 hs.hd
           have h1 := Sep.blk (A := [_, _, _, _, _, _, _, _, _]) (B := [_]) hs
           obtain ⟨y0, y1, y2, y3, y4, y5, y6⟩ := rq7 h1.hd
           obtain ⟨z0, z1, z2, z3, z4, z5, z6⟩ := rf7 h1.hd
           have h2 := (((((((h1.setB 0 (.int .i64 u)).setB 1 (.slice ee m ef)).setB 2 (.slice s1 ni r1)).setB 3 (.slice a8 no c8)).setB 4 (.slice a4 mi c4_)).setB 5 (.slice a5 mo c5_)).setB 6 (.slice de ne df))
           obtain ⟨k0, k1, k2, k3, k4, k5, k6⟩ := rq7 h2.hd
           have h3 := h2.tl.tl
           have h4 := Sep.cutA (X := [_, _, _, _, _, _]) (A := [_]) h3
           have h5 := Sep.cutA (X := [_, _, _, _, _, _, _]) (A := [_, _, _]) h4
           have h6 := Sep.blk3 (X := []) (A := [_, _]) (B := [_, _]) h5
           have h7 := Sep.blk3 (X := [_, _]) (A := [_, _, _, _]) (B := [_]) h6
           have h8 := Sep.blk3 (X := [_, _, _]) (A := [_, _, _]) (B := [_]) h7
           have h9 := Sep.blk3 (X := [_, _, _, _]) (A := [_]) (B := [_]) h8
           have HF := qd (show Sep _ [OE (.slice ee m ef) xs, OI (.slice s1 ni r1) g.i, OI (.slice a8 no c8) (g.o.map (dstF T0 (B : Int))), OI (.slice a4 mi c4_) (insL p W), OI (.slice a5 mo c5_) (outsL p W (B : Int)), OI (.slice de ne df) (edTo E ne), KeepA w] from Sep.intoBag h9)
           clear h1 h2 h3 h4 h5 h6 h7 h8 h9 hs
           go_wp2_with fail
           refine bodyPost_ret_by (v := .agg #[.int .i64 u, .slice ee m ef, .slice s1 ni r1, .slice a8 no c8, .slice a4 mi c4_, .slice a5 mo c5_, .slice de ne df]) ?_ rfl ⟨_, xs, _, _, _, _, _, by rw [HUC.out], HXE.out, HF.out⟩
           simp [results, go_sem, *]
end Go.Proofs.YtjagjhchnpmngaaGreat

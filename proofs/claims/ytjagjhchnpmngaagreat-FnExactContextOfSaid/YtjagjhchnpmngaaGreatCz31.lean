/-
 Is it a match? The reference's writing. Conditions: the pattern is valid; lengths are small.
-/
import Derived.Test.YtjagjhchnpmngaaGreatCz06
import Derived.Test.YtjagjhchnpmngaaGreatCz05
import Derived.Test.YtjagjhchnpmngaaGreatCz04
import Derived.Test.YtjagjhchnpmngaaGreatCz03
import Derived.Test.YtjagjhchnpmngaaGreatCz02
import Derived.Test.YtjagjhchnpmngaaGreatCz01
import Derived.Test.YtjagjhchnpmngaaGreatCz00
import Derived.Test.YtjagjhchnpmngaaGreatCz30
import Derived.Test.YtjagjhchnpmngaaGreatCz27
import Derived.Deep.QuietTactic
import Derived.BigQuiet
set_option linter.unusedVariables false
set_option linter.unusedSimpArgs false
set_option maxRecDepth 100000
namespace Go.Proofs.YtjagjhchnpmngaaGreat
open Go.RowKit
theorem l1SameR_q (v1 v2 : Value) (x y : List Int) (w : World) (h1 : IntsV w v1 x) (h2 : IntsV w v2 y) (l1 : x.length ≤ 1000000000) (l2 : y.length ≤ 1000000000) :
 Calls Tryz.prog 102 #[v1, v2] w fun e w' => e = .returned (.bool (x == y)) ∧ ∃ q, w' = w.drewN q := by
 obtain ⟨a1, c1, rfl, r1⟩ := h1
 obtain ⟨a2, c2, rfl, r2⟩ := h2
 have R1 := qd r1; have R2 := qd r2
 clear r1 r2
 by_cases hl : x.length = y.length
 ·generalize hlx : x.length = l at *
  have HLX := qd hlx; have HLY := qd hl
  rw [← HLY.out]
  clear hlx hl
  go_enter Tryz.func102, Tryz.ntmps102
  go_wp2
  go_loopw [13] (fun i wr => ∃ k : Nat, k ≤ l ∧ i = .int .i64 k ∧ (∀ j (h : j < x.length) (h' : j < y.length), j < k → x[j] = y[j]) ∧ ∃ q, wr = w.drewN q) (fun i _ => l - (intOf i).toNat)
  case atStart => exact ⟨0, by omega, rfl, fun _ _ _ h => absurd h (by omega), 0, rfl⟩
  case round =>
   obtain ⟨k, hk, rfl, ho, q0, rfl⟩ := hrel
   have HO := qd ho
   clear ho
   by_cases hlt : k < l
   ·have hkx : k < x.length := by rw [HLX.out]; exact hlt
    have hky : k < y.length := by rw [← HLY.out]; exact hlt
    obtain ⟨d1, ha1, hs1, hd1, hi1⟩ := R1.out (by intro h; rw [h] at hkx; simp at hkx)
    obtain ⟨d2, ha2, hs2, hd2, hi2⟩ := R2.out (by intro h; rw [h] at hky; simp at hky)
    subst ha1 ha2
    obtain ⟨b1, o1, _⟩ := d1
    obtain ⟨b2, o2, _⟩ := d2
    simp only at hs1 hs2 hd1 hd2
    subst hs1 hs2
    have hc1 := hi1 k hkx
    have hc2 := hi2 k hky
    generalize hzx : x[k] = zx at hc1
    generalize hzy : y[k] = zy at hc2
    have HZX := qd hzx; have HZY := qd hzy
    clear hzx hzy hi1 hi2 hd1 hd2
    by_cases he : zx = zy
    ·subst he
     go_wp2
     go_quiet (fail)
     go_wp2
     go_roundw
     case rel => exact ⟨k + 1, by omega, by go_num, fun j h h' hj => by
      by_cases hjk : j = k
      ·subst hjk; rw [HZX.out, HZY.out]
      ·exact HO.out j h h' (by omega), ⟨_, rfl⟩⟩
     case measure => simp [intOf]; omega
    ·have hb : (zx != zy) = true := by rw [bne_iff_ne]; exact he
     have hfin : (x == y) = false := by
      rw [beq_eq_false_iff_ne]
      intro h
      subst h
      exact he (HZX.out.symm.trans HZY.out)
     have HF := qd hfin
     clear hfin he
     go_wp2
     go_quiet (fail)
     go_wp2
     go_ret
     exact ⟨by rw [HF.out]; rfl, _, World.drewN_drewN _ _ _⟩
   ·have hfin : (x == y) = true := by
     rw [beq_iff_eq]
     refine List.ext_getElem (by rw [HLX.out, HLY.out]) fun j h h' => HO.out j h h' (by have := HLX.out; omega)
    have HF := qd hfin
    clear hfin
    go_wp2
    go_ret
    exact ⟨by rw [HF.out]; rfl, _, rfl⟩
 ·have hfin : (x == y) = false := by
   rw [beq_eq_false_iff_ne]
   intro h
   exact hl (by rw [h])
  have hb : ((x.length : Int) != y.length) = true := by rw [bne_iff_ne]; omega
  have HF := qd hfin
  clear hfin hl
  go_enter Tryz.func102, Tryz.ntmps102
  go_wp2
  go_ret
  exact ⟨by rw [HF.out]; rfl, 0, rfl⟩
theorem l1SameR_any (v1 v2 : Value) (x y : List Int) (w : World) (h1 : IntsV w v1 x) (h2 : IntsV w v2 y) (l1 : x.length ≤ 1000000000) (l2 : y.length ≤ 1000000000) :
 Calls Tryz.prog 102 #[v1, v2] w fun e w' => e = .returned (.bool (decide (x = y))) ∧ w.grownBy w' none := by
 refine (l1SameR_q v1 v2 x y w h1 h2 l1 l2).mono ?_
 rintro e w' ⟨rfl, q, rfl⟩
 refine ⟨?_, rfl, rfl, rfl, Nat.le_refl _, fun _ _ _ => rfl⟩
 rw [show (x == y) = decide (x = y) from by rw [Bool.eq_iff_iff]; simp]
set_option maxHeartbeats 16000000 in
theorem mtIs_any (g p : Gr) (N : Nat) (hgn : g.n = N) (hN : N ≤ 1000000) (hp0 : 0 ≤ p.n) (hpr : ∀ e ∈ p.es, (∀ x ∈ e.i, 0 ≤ x ∧ x < p.n) ∧ (∀ x ∈ e.o, 0 ≤ x ∧ x < p.n) ∧ e.i.length ≤ 1000000 ∧ e.o.length ≤ 1000000) (W E : List Int) (gev giv gov pev piv pov : Value) (wa ea : Option Addr) (wc ec : Nat) (w : World) (hge : RdE edgeE w gev g.es) (hgi : IntsV w giv g.i) (hgo : IntsV w gov g.o) (hgl : g.es.length ≤ 1000000) (hgs : ∀ e ∈ g.es, e.i.length ≤ 1000000 ∧ e.o.length ≤ 1000000)
 (hpe : RdE edgeE w pev p.es) (hpi : IntsV w piv p.i) (hpo : IntsV w pov p.o) (hpl : p.es.length ≤ 1000000) (hw : IntsV w (.slice wa W.length wc) W) (hwc : W.length ≤ wc) (he : IntsV w (.slice ea E.length ec) E) (hec : E.length ≤ ec) (hWl : W.length ≤ 2000000) (hEl : E.length ≤ 2000000) :
 Calls Tryz.prog 58 #[grV g.n gev giv gov, grV p.n pev piv pov, .agg #[.slice wa W.length wc, .slice ea E.length ec]] w fun x w' => x = .returned (.bool (tst (IsMt g p ⟨W, E⟩))) ∧ w.grownBy w' none := by
 have HGE := qd hge; have HPE := qd hpe; have HE := qd he; have HW := qd hw; have HPR := qd hpr; have HGS := qd hgs
 have hnn : ∀ e ∈ p.es, (∀ x ∈ e.i, 0 ≤ x) ∧ ∀ x ∈ e.o, 0 ≤ x := fun e h => ⟨fun x hx => ((hpr e h).1 x hx).1, fun x hx => ((hpr e h).2.1 x hx).1⟩
 have HNO := qd fun (h : ¬ MtOk g p N W E) => isMt_no hgn hp0 h
 have HNE := qd fun j (hj : j < p.es.length) h => isMt_edge (g := g) (p := p) (W := W) (E := E) hj hnn h
 have HYE := qd fun h he => isMt_yes (W := W) (E := E) hgn hp0 hnn h he
 have HDW := qd fun W1 (hW : w.grownBy W1 none) => mtDifferent_any wa W.length wc W N W1 (hw.carry hW) rfl hwc hWl hN
 have HDE := qd fun W1 (hW : w.grownBy W1 none) => mtDifferent_any ea E.length ec E g.es.length W1 (he.carry hW) rfl hec hEl hgl
 obtain ⟨ga, gc, rfl⟩ := hge.shape
 obtain ⟨gi, gd, rfl⟩ := hgi.shape
 obtain ⟨go_, ge, rfl⟩ := hgo.shape
 obtain ⟨pa, pc, rfl⟩ := hpe.shape
 obtain ⟨pi_, pd, rfl⟩ := hpi.shape
 obtain ⟨po, pe, rfl⟩ := hpo.shape
 unfold grV
 rw [hgn]
 obtain ⟨rb, hrb⟩ : ∃ x, tst (IsMt g p ⟨W, E⟩) = x := ⟨_, rfl⟩
 rw [hrb] at HNO HNE HYE ⊢
 obtain ⟨ne, hne⟩ : ∃ x, g.es.length = x := ⟨_, rfl⟩
 obtain ⟨me, hme⟩ : ∃ x, p.es.length = x := ⟨_, rfl⟩
 obtain ⟨lw, hlw⟩ : ∃ x, W.length = x := ⟨_, rfl⟩
 obtain ⟨le, hle⟩ : ∃ x, E.length = x := ⟨_, rfl⟩
 obtain ⟨pn, hpn⟩ : ∃ x, p.n = x := ⟨_, rfl⟩
 have HOK := qd (show MtOk g p N W E ↔ ((lw : Int) = pn ∧ le = me ∧ difB W N = true ∧ difB E ne = true) from ⟨fun h => ⟨by have := h.lw; omega, by have := h.le; omega, h.dw, by rw [← hne]; exact h.de⟩, fun h => ⟨by omega, by omega, h.2.2.1, by rw [hne]; exact h.2.2.2⟩⟩)
 have HMB := qd (show me ≤ 1000000 from by omega)
 have HNEL := qd hne; have HMEL := qd hme; have HLW := qd hlw; have HLE := qd hle; have HPN := qd hpn
 rw [hne, hle] at HDE
 rw [hlw] at HDW HW
 rw [hle] at HE
 rw [hne] at HGE
 rw [hme] at HPE
 rw [hme] at HNE HYE
 rw [hne, hme, hlw, hle, hpn]
 generalize g.i.length = ni at *
 generalize g.o.length = no at *
 generalize p.i.length = mi at *
 generalize p.o.length = mo at *
 clear hge hgi hgo hgs hpe hpi hpo hpr hw he hWl hEl hnn hne hme hlw hle hpn hrb hgn hp0 hgl hpl hwc hec
 have HS0 := qd ((((Sep.start w).boxAt w.heap.size rfl #[.int .i64 N, .slice ga ne gc, .slice gi ni gd, .slice go_ no ge] 38).boxAt (w.heap.size + 1) (by simp) #[.int .i64 pn, .slice pa me pc, .slice pi_ mi pd, .slice po mo pe] 38).boxAt (w.heap.size + 2) (by simp) #[.slice wa lw wc, .slice ea le ec] 48)
 have HK0 := qd (show w.grownBy _ none from HS0.out.tl.tl.tl.hd)
 obtain ⟨m0, m1, _⟩ := bw2 HS0.out.hd
 obtain ⟨p0, p1, _⟩ := gq4 HS0.out.tl.hd
 obtain ⟨g0, g1, _⟩ := gq4 HS0.out.tl.tl.hd
 by_cases h1 : (lw : Int) = pn
 ·by_cases h2 : le = me
  ·cases h3 : difB W N
   ·have HF := qd (show rb = false from HNO.out fun h => by have := (HOK.out.1 h).2.2.1; rw [h3] at this; cases this)
    have hnf : ((lw : Int) != pn) = false := by simpa using h1
    have hng : ((le : Int) != (me : Int)) = false := by simp; omega
    rw [h3] at HDW
    clear h1 h2 h3
    go_enter Tryz.func58, Tryz.ntmps58
    go_wp2_with (first
     |(go_at_call 101
       with_reducible refine (HDW.out _ HK0.out).mono ?_
       rintro e w3 ⟨rfl, hw3⟩
       have HS1 := qd (show Sep w3 _ from hw3 ▸ HS0.out)
       have HK1 := qd (show w.grownBy w3 none from hw3 ▸ HK0.out)
       clear hw3
       clear m0 m1 p0 p1 g0 g1
       obtain ⟨m0, m1, _⟩ := bw2 HS1.out.hd
       obtain ⟨p0, p1, _⟩ := gq4 HS1.out.tl.hd
       obtain ⟨g0, g1, _⟩ := gq4 HS1.out.tl.tl.hd))
    go_ret
    exact ⟨by rw [HF.out]; rfl, HK1.out⟩
   ·cases h4 : difB E ne
    ·have HF := qd (show rb = false from HNO.out fun h => by have := (HOK.out.1 h).2.2.2; rw [h4] at this; cases this)
     have hnf : ((lw : Int) != pn) = false := by simpa using h1
     have hng : ((le : Int) != (me : Int)) = false := by simp; omega
     rw [h3] at HDW
     rw [h4] at HDE
     clear h1 h2 h3 h4
     go_enter Tryz.func58, Tryz.ntmps58
     go_wp2_with (first
      |(go_at_call 101
        with_reducible refine (HDW.out _ HK0.out).mono ?_
        rintro e w3 ⟨rfl, hw3⟩
        have HS1 := qd (show Sep w3 _ from hw3 ▸ HS0.out)
        have HK1 := qd (show w.grownBy w3 none from hw3 ▸ HK0.out)
        clear hw3
        clear m0 m1 p0 p1 g0 g1
        obtain ⟨m0, m1, _⟩ := bw2 HS1.out.hd
        obtain ⟨p0, p1, _⟩ := gq4 HS1.out.tl.hd
        obtain ⟨g0, g1, _⟩ := gq4 HS1.out.tl.tl.hd)
      |(go_at_call 101
        with_reducible refine (HDE.out _ HK1.out).mono ?_
        rintro e w4 ⟨rfl, hw4⟩
        have HS2 := qd (show Sep w4 _ from hw4 ▸ HS1.out)
        have HK2 := qd (show w.grownBy w4 none from hw4 ▸ HK1.out)
        clear hw4
        clear m0 m1 p0 p1 g0 g1
        obtain ⟨m0, m1, _⟩ := bw2 HS2.out.hd
        obtain ⟨p0, p1, _⟩ := gq4 HS2.out.tl.hd
        obtain ⟨g0, g1, _⟩ := gq4 HS2.out.tl.tl.hd))
     go_ret
     exact ⟨by rw [HF.out]; rfl, HK2.out⟩
    ·have HMO := qd (HOK.out.2 ⟨h1, h2, h3, h4⟩)
     have HRW := qd (dif_iff.1 h3); have HRE := qd (dif_iff.1 h4)
     have hnf : ((lw : Int) != pn) = false := by simpa using h1
     have hng : ((le : Int) != (me : Int)) = false := by simp; omega
     rw [h3] at HDW
     rw [h4] at HDE
     have HLPN := qd h1; have HLM := qd h2
     clear h1 h2 h3 h4
     go_enter Tryz.func58, Tryz.ntmps58
     go_upto_region 4 with (first
      |(go_at_call 101
        with_reducible refine (HDW.out _ HK0.out).mono ?_
        rintro e w3 ⟨rfl, hw3⟩
        have HS1 := qd (show Sep w3 _ from hw3 ▸ HS0.out)
        have HK1 := qd (show w.grownBy w3 none from hw3 ▸ HK0.out)
        clear hw3
        clear m0 m1 p0 p1 g0 g1
        obtain ⟨m0, m1, _⟩ := bw2 HS1.out.hd
        obtain ⟨p0, p1, _⟩ := gq4 HS1.out.tl.hd
        obtain ⟨g0, g1, _⟩ := gq4 HS1.out.tl.tl.hd)
      |(go_at_call 101
        with_reducible refine (HDE.out _ HK1.out).mono ?_
        rintro e w4 ⟨rfl, hw4⟩
        have HS2 := qd (show Sep w4 _ from hw4 ▸ HS1.out)
        have HK2 := qd (show w.grownBy w4 none from hw4 ▸ HK1.out)
        clear hw4
        clear m0 m1 p0 p1 g0 g1
        obtain ⟨m0, m1, _⟩ := bw2 HS2.out.hd
        obtain ⟨p0, p1, _⟩ := gq4 HS2.out.tl.hd
        obtain ⟨g0, g1, _⟩ := gq4 HS2.out.tl.tl.hd))
     clear m0 m1 p0 p1 g0 g1
     clear hnf hng HS0 HS1 HK0 HK1 HDW HDE HNO
     go_loopw [45] (fun i wr => ∃ k : Nat, k ≤ me ∧ i = .int .i64 k ∧ (∀ j, j < k → mvE W (p.es.getD j e0) = edAt g.es (E.getD j 0)) ∧ Sep wr [BxA (w.heap.size + 2) #[.slice wa lw wc, .slice ea le ec] 48, BxA (w.heap.size + 1) #[.int .i64 pn, .slice pa me pc, .slice pi_ mi pd, .slice po mo pe] 38, BxA w.heap.size #[.int .i64 N, .slice ga ne gc, .slice gi ni gd, .slice go_ no ge] 38, KeepA w]) (fun i _ => me - (intOf i).toNat)
     case atStart => exact ⟨0, by omega, rfl, fun j h => by omega, HS2.out⟩
     case round =>
      obtain ⟨k, hk, rfl, hn, hs⟩ := hrel
      have HN := qd hn; have HSX := qd hs
      clear hn hs HS2 HK2
      by_cases hlt : k < me
      ·have hke : k < p.es.length := by rw [HMEL.out]; exact hlt
       obtain ⟨b, o, iv, ov, rfl, hq⟩ := HPE.out.atK rfl rfl hke
       have HQ := qd hq
       have hkw := (show w.grownBy wr none from HSX.out.tl.tl.tl.hd)
       obtain ⟨⟨q0, q1, q2, q3⟩, hi, ho⟩ := hq wr hkw
       have HKE := qd hlt
       have hpk := HPR.out (p.es.getD k e0) (by rw [List.getD_eq_getElem?_getD, List.getElem?_eq_getElem hke]; exact List.getElem_mem _)
       have hle2 : k < E.length := by rw [HLE.out, HLM.out]; exact hlt
       obtain ⟨b2, o2, hea, _, _⟩ := (HE.out.carry hkw).atD hle2
       subst hea
       have hfr := HRE.out.1 _ (getD_memI hle2)
       obtain ⟨f, hf⟩ : ∃ f : Nat, E.getD k 0 = f := ⟨(E.getD k 0).toNat, by omega⟩
       have HLE2 := qd hle2
       have HFF := qd hf
       have hfe : f < g.es.length := by rw [HNEL.out]; omega
       have HFN := qd (show f < ne from by rw [← HNEL.out]; exact hfe)
       obtain ⟨b3, o3, iv3, ov3, hga, hr⟩ := HGE.out.atK rfl rfl hfe
       subst hga
       have HR := qd hr
       have hgk := HGS.out (g.es.getD f e0) (by rw [List.getD_eq_getElem?_getD, List.getElem?_eq_getElem hfe]; exact List.getElem_mem _)
       have HED := qd (show edAt g.es (E.getD k 0) = g.es.getD f e0 from by unfold edAt; rw [hf]; rfl)
       have HNK := qd (HNE.out k hlt)
       rw [HED.out] at HNK
       obtain ⟨y, hy⟩ : ∃ y, p.es.getD k e0 = y := ⟨_, rfl⟩
       obtain ⟨z, hz⟩ : ∃ z, g.es.getD f e0 = z := ⟨_, rfl⟩
       have HY := qd hy
       rw [hy] at q0 q1 hi ho hpk HNK HQ
       rw [hz] at hgk HED HNK HR
       obtain ⟨_, hi3, ho3⟩ := HR.out w (grownBy_refl _ _)
       obtain ⟨ek, ev, ei, eo⟩ := y
       obtain ⟨fk, fv, fi, fo⟩ := z
       simp only at q0 q1 hi ho hpk hgk hi3 ho3 HQ HR
       obtain ⟨ia, ic, rfl⟩ := hi.shape
       obtain ⟨oa, oc, rfl⟩ := ho.shape
       obtain ⟨ja, jc, rfl⟩ := hi3.shape
       obtain ⟨ra, rc, rfl⟩ := ho3.shape
       have HMI := qd fun W1 (hW : w.grownBy W1 none) => hgList_any (.slice ia ei.length ic) (.slice wa lw wc) ei W W1 (HQ.out W1 hW).2.1 (HW.out.carry hW) hpk.2.2.1 (fun x hx => by have := hpk.1 x hx; have := HLPN.out; rw [HLW.out]; have := HPN.out; omega)
       have HMO2 := qd fun W1 (hW : w.grownBy W1 none) => hgList_any (.slice oa eo.length oc) (.slice wa lw wc) eo W W1 (HQ.out W1 hW).2.2 (HW.out.carry hW) hpk.2.2.2 (fun x hx => by have := hpk.2.1 x hx; have := HLPN.out; rw [HLW.out]; have := HPN.out; omega)
       have HEI := qd fun W1 (hW : w.grownBy W1 none) u1 (h1 : IntsV W1 u1 (ei.map (ofL W))) => l1SameR_any u1 (.slice ja fi.length jc) (ei.map (ofL W)) fi W1 h1 (HR.out W1 hW).2.1 (by rw [List.length_map]; omega) (by omega)
       have HEO := qd fun W1 (hW : w.grownBy W1 none) u1 (h1 : IntsV W1 u1 (eo.map (ofL W))) => l1SameR_any u1 (.slice ra fo.length rc) (eo.map (ofL W)) fo W1 h1 (HR.out W1 hW).2.2 (by rw [List.length_map]; omega) (by omega)
       have HRC := qd fun W1 (hW : w.grownBy W1 none) => (HR.out W1 hW).1
       have HEDQ := qd (edEq_eq (mvE W ⟨ek, ev, ei, eo⟩) ⟨fk, fv, fi, fo⟩)
       rw [show (mvE W ⟨ek, ev, ei, eo⟩).k = ek from rfl, show (mvE W ⟨ek, ev, ei, eo⟩).v = ev from rfl, show (mvE W ⟨ek, ev, ei, eo⟩).i = ei.map (ofL W) from rfl, show (mvE W ⟨ek, ev, ei, eo⟩).o = eo.map (ofL W) from rfl] at HEDQ
       simp only at HEDQ
       obtain ⟨qi, hqi⟩ : ∃ x, decide (ei.map (ofL W) = fi) = x := ⟨_, rfl⟩
       obtain ⟨qo, hqo⟩ : ∃ x, decide (eo.map (ofL W) = fo) = x := ⟨_, rfl⟩
       rw [hqi] at HEI HEDQ
       rw [hqo] at HEO HEDQ
       have HFALSE := qd (show edEq (mvE W ⟨ek, ev, ei, eo⟩) ⟨fk, fv, fi, fo⟩ = false → rb = false from fun h0 => HNK.out fun h => by have h2 : edEq _ _ = true := tst_iff.2 h; rw [h0] at h2; cases h2)
       have HTRUE := qd (show edEq (mvE W ⟨ek, ev, ei, eo⟩) ⟨fk, fv, fi, fo⟩ = true → mvE W (p.es.getD k e0) = edAt g.es (E.getD k 0) from fun h0 => by rw [HY.out, HED.out]; exact tst_iff.1 h0)
       generalize edEq (mvE W ⟨ek, ev, ei, eo⟩) ⟨fk, fv, fi, fo⟩ = bb at *
       generalize ei.length = la at *
       generalize eo.length = lo at *
       generalize fi.length = lf at *
       generalize fo.length = lg at *
       generalize ei.map (ofL W) = mi_ at *
       generalize eo.map (ofL W) = mo_ at *
       clear hy hz hf hke hle2 hfe hfr hq hr hi ho hi3 ho3 hpk hgk hqi hqo hkw HQ HR
       go_upto_region 6 with fail
       have HS3 := qd (HSX.out.boxAt wr.heap.size rfl #[.int .i64 ek, .int .i64 ev, .slice ia la ic, .slice oa lo oc] 104).dr
       clear q0 q1 q2 q3
       have HBN := qd fun (W1 : World) (L : List Asrt) (h : Sep W1 L) (h2 : BxA (w.heap.size + 2) #[.slice wa lw wc, .slice (some ⟨b2, o2, none⟩) le ec] 48 ∈ L) (h3 : BxA w.heap.size #[.int .i64 N, .slice (some ⟨b3, o3, none⟩) ne gc, .slice gi ni gd, .slice go_ no ge] 38 ∈ L) (h4 : KeepA w ∈ L) => show W1.cell? ⟨w.heap.size, 1, none⟩ = some (.slice (some ⟨b3, o3, none⟩) ne gc) ∧ W1.cell? ⟨w.heap.size + 2, 1, none⟩ = some (.slice (some ⟨b2, o2, none⟩) le ec) ∧ W1.cell? ⟨b2, o2 + k, none⟩ = some (.int .i64 f) ∧ W1.cell? ⟨b3, o3 + f * 4, none⟩ = some (.int .i64 fk) ∧ W1.cell? ⟨b3, o3 + f * 4 + 1, none⟩ = some (.int .i64 fv) ∧ W1.cell? ⟨b3, o3 + f * 4 + 2, none⟩ = some (.slice ja lf jc) ∧ W1.cell? ⟨b3, o3 + f * 4 + 3, none⟩ = some (.slice ra lg rc) from by
        have hK : w.grownBy W1 none := Sep.all h _ h4
        obtain ⟨b', o', e', _, hc⟩ := (HE.out.carry hK).atD HLE2.out
        cases e'
        rw [HFF.out] at hc
        obtain ⟨r0, r1, r2, r3⟩ := HRC.out W1 hK
        exact ⟨(gq4 (show W1.heap[w.heap.size]? = some (.cells #[.int .i64 N, .slice (some ⟨b3, o3, none⟩) ne gc, .slice gi ni gd, .slice go_ no ge] 38 (0, 0)) from Sep.all h _ h3)).2.1, (bw2 (show W1.heap[w.heap.size + 2]? = some (.cells #[.slice wa lw wc, .slice (some ⟨b2, o2, none⟩) le ec] 48 (0, 0)) from Sep.all h _ h2)).2.1, hc, r0, r1, r2, r3⟩
       have hk0 : (0 : Int) ≤ (k : Int) := by omega
       have hkl : (k : Int) < (le : Int) := by have := HLM.out; have := HKE.out; omega
       have hf0 : (0 : Int) ≤ (f : Int) := by omega
       have hfn : (f : Int) < (ne : Int) := by have := HFN.out; omega
       have X1 := qd (HBN.out _ _ HS3.out (by simp) (by simp) (by simp))
       refine AnyL.start (fun W1 => W1.cell? ⟨w.heap.size, 1, none⟩ = some (.slice (some ⟨b3, o3, none⟩) ne gc) ∧ W1.cell? ⟨w.heap.size + 2, 1, none⟩ = some (.slice (some ⟨b2, o2, none⟩) le ec) ∧ W1.cell? ⟨b2, o2 + k, none⟩ = some (.int .i64 f) ∧ W1.cell? ⟨b3, o3 + f * 4, none⟩ = some (.int .i64 fk) ∧ W1.cell? ⟨b3, o3 + f * 4 + 1, none⟩ = some (.int .i64 fv) ∧ W1.cell? ⟨b3, o3 + f * 4 + 2, none⟩ = some (.slice ja lf jc) ∧ W1.cell? ⟨b3, o3 + f * 4 + 3, none⟩ = some (.slice ra lg rc)) (fun _ => True) 99 (by kernel_rfl) ?_
       generalize hw4 : (wr.alloc (.cells #[.int .i64 ek, .int .i64 ev, .slice ia la ic, .slice oa lo oc] 104)).drew = w4 at *
       clear hw4
       refine AnyL.tT 0 (by exact X1.out) ?_
       refine AnyL.tT 1 (by exact X1.out) ?_
       refine AnyL.tT 2 (by exact X1.out) ?_
       refine AnyL.tT 3 (by exact X1.out) ?_
       refine AnyL.tT 4 (by exact X1.out) ?_
       refine AnyL.tT 5 (by exact X1.out) ?_
       refine AnyL.tT 6 (by exact X1.out) ?_
       refine AnyL.tT 7 (by exact X1.out) ?_
       refine AnyL.tT 8 (by exact X1.out) ?_
       refine AnyL.step (i := 9) (by kernel_rfl) (by rfl) (fun K hK => ?_)
       go_simp
       have HS4 := qd (HS3.out.boxAt w4.heap.size rfl #[.int .i64 0, .int .i64 0, .slice none 0 0, .slice none 0 0] 104)
       refine shutNx hK (w4.alloc (.cells #[.int .i64 0, .int .i64 0, .slice none 0 0, .slice none 0 0] 104)) (by exact HBN.out _ _ HS4.out (by simp) (by simp) (by simp)) (by exact fun _ => trivial) ?_
       clear hK K
       generalize w4.alloc (.cells #[.int .i64 0, .int .i64 0, .slice none 0 0, .slice none 0 0] 104) = w5 at *
       generalize w4.heap.size = nb at *
       obtain ⟨y0, y1, y2, y3, ff0, ff1, ff2, ff3⟩ := gq4 HS4.out.hd
       have HS5 := qd ((((HS4.out.setB 0 (.int .i64 fk)).setB 1 (.int .i64 fv)).setB 2 (.slice ja lf jc)).setB 3 (.slice ra lg rc))
       refine AnyL.step (i := 10) (by kernel_rfl) (by rfl) (fun K hK => ?_)
       go_simp
       refine shutNx hK ((((w5.setCell ⟨nb, 0, none⟩ (.int .i64 fk)).setCell ⟨nb, 1, none⟩ (.int .i64 fv)).setCell ⟨nb, 2, none⟩ (.slice ja lf jc)).setCell ⟨nb, 3, none⟩ (.slice ra lg rc)) (by exact HBN.out _ _ HS5.out (by simp) (by simp) (by simp)) (by exact fun _ => trivial) ?_
       clear hK K
       refine AnyL.done (by kernel_rfl) ?_ _
       generalize ((((w5.setCell ⟨nb, 0, none⟩ (.int .i64 fk)).setCell ⟨nb, 1, none⟩ (.int .i64 fv)).setCell ⟨nb, 2, none⟩ (.slice ja lf jc)).setCell ⟨nb, 3, none⟩ (.slice ra lg rc)) = w9 at *
       clear y0 y1 y2 y3 ff0 ff1 ff2 ff3 hk0 hkl hf0 hfn X1 HBN HS3 HS4 HSX
       have HBM := qd fun (W1 : World) (L : List Asrt) (h : Sep W1 L) (h1 : BxA wr.heap.size #[.int .i64 ek, .int .i64 ev, .slice ia la ic, .slice oa lo oc] 104 ∈ L) (h2 : BxA (w.heap.size + 2) #[.slice wa lw wc, .slice (some ⟨b2, o2, none⟩) le ec] 48 ∈ L) (h3 : BxA nb #[.int .i64 fk, .int .i64 fv, .slice ja lf jc, .slice ra lg rc] 104 ∈ L) => show (W1.cell? ⟨wr.heap.size, 0, none⟩ = some (.int .i64 ek) ∧ W1.cell? ⟨wr.heap.size, 1, none⟩ = some (.int .i64 ev) ∧ W1.cell? ⟨wr.heap.size, 2, none⟩ = some (.slice ia la ic) ∧ W1.cell? ⟨wr.heap.size, 3, none⟩ = some (.slice oa lo oc)) ∧ (W1.cell? ⟨nb, 0, none⟩ = some (.int .i64 fk) ∧ W1.cell? ⟨nb, 1, none⟩ = some (.int .i64 fv) ∧ W1.cell? ⟨nb, 2, none⟩ = some (.slice ja lf jc) ∧ W1.cell? ⟨nb, 3, none⟩ = some (.slice ra lg rc)) ∧ W1.cell? ⟨w.heap.size + 2, 0, none⟩ = some (.slice wa lw wc) from by
        obtain ⟨p0, p1, p2, p3, _⟩ := gq4 (show W1.heap[wr.heap.size]? = some (.cells #[.int .i64 ek, .int .i64 ev, .slice ia la ic, .slice oa lo oc] 104 (0, 0)) from Sep.all h _ h1)
        obtain ⟨p4, p5, p6, p7, _⟩ := gq4 (show W1.heap[nb]? = some (.cells #[.int .i64 fk, .int .i64 fv, .slice ja lf jc, .slice ra lg rc] 104 (0, 0)) from Sep.all h _ h3)
        exact ⟨⟨p0, p1, p2, p3⟩, ⟨p4, p5, p6, p7⟩, (bw2 (show W1.heap[w.heap.size + 2]? = some (.cells #[.slice wa lw wc, .slice (some ⟨b2, o2, none⟩) le ec] 48 (0, 0)) from Sep.all h _ h2)).1⟩
       go_upto_region 7 with fail
       have HS6 := qd HS5.out.dr
       by_cases hA : ek = fk
       ·by_cases hB : ev = fv
        ·cases qi
         ·have HF := qd (HFALSE.out (by rw [HEDQ.out, show (false && qo) = false from rfl]; simp))
          have hkn : (ek != fk) = false := by simpa using hA
          have hvn : (ev != fv) = false := by simpa using hB
          clear hA hB
          have X2 := qd (HBM.out _ _ HS6.out (by simp) (by simp) (by simp))
          refine AnyL.start (fun W1 => (W1.cell? ⟨wr.heap.size, 0, none⟩ = some (.int .i64 ek) ∧ W1.cell? ⟨wr.heap.size, 1, none⟩ = some (.int .i64 ev) ∧ W1.cell? ⟨wr.heap.size, 2, none⟩ = some (.slice ia la ic) ∧ W1.cell? ⟨wr.heap.size, 3, none⟩ = some (.slice oa lo oc)) ∧ (W1.cell? ⟨nb, 0, none⟩ = some (.int .i64 fk) ∧ W1.cell? ⟨nb, 1, none⟩ = some (.int .i64 fv) ∧ W1.cell? ⟨nb, 2, none⟩ = some (.slice ja lf jc) ∧ W1.cell? ⟨nb, 3, none⟩ = some (.slice ra lg rc)) ∧ W1.cell? ⟨w.heap.size + 2, 0, none⟩ = some (.slice wa lw wc)) (fun _ => True) 99 (by kernel_rfl) ?_
          generalize w9.drew = wd at *
          refine AnyL.tT 0 (by exact HBM.out _ _ HS6.out (by simp) (by simp) (by simp)) ?_
          refine AnyL.tT 1 (by exact HBM.out _ _ HS6.out (by simp) (by simp) (by simp)) ?_
          refine AnyL.tT 2 (by exact HBM.out _ _ HS6.out (by simp) (by simp) (by simp)) ?_
          refine AnyL.tT 3 (by exact HBM.out _ _ HS6.out (by simp) (by simp) (by simp)) ?_
          refine AnyL.tT 4 (by exact HBM.out _ _ HS6.out (by simp) (by simp) (by simp)) ?_
          refine AnyL.tT 5 (by exact HBM.out _ _ HS6.out (by simp) (by simp) (by simp)) ?_
          refine AnyL.tT 6 (by exact HBM.out _ _ HS6.out (by simp) (by simp) (by simp)) ?_
          refine AnyL.tT 7 (by exact HBM.out _ _ HS6.out (by simp) (by simp) (by simp)) ?_
          refine AnyL.tT 8 (by exact HBM.out _ _ HS6.out (by simp) (by simp) (by simp)) ?_
          refine AnyL.tT 9 (by exact HBM.out _ _ HS6.out (by simp) (by simp) (by simp)) ?_
          refine AnyL.tT 10 (by exact HBM.out _ _ HS6.out (by simp) (by simp) (by simp)) ?_
          refine AnyL.tT 11 (by exact HBM.out _ _ HS6.out (by simp) (by simp) (by simp)) ?_
          refine AnyL.tT 12 (by exact HBM.out _ _ HS6.out (by simp) (by simp) (by simp)) ?_
          refine AnyL.tT 13 (by exact HBM.out _ _ HS6.out (by simp) (by simp) (by simp)) ?_
          refine AnyL.tT 14 (by exact HBM.out _ _ HS6.out (by simp) (by simp) (by simp)) ?_
          refine AnyL.tT 15 (by exact HBM.out _ _ HS6.out (by simp) (by simp) (by simp)) ?_
          refine AnyL.tT 16 (by exact HBM.out _ _ HS6.out (by simp) (by simp) (by simp)) ?_
          refine AnyL.tT 18 (by exact HBM.out _ _ HS6.out (by simp) (by simp) (by simp)) ?_
          refine AnyL.tT 19 (by exact HBM.out _ _ HS6.out (by simp) (by simp) (by simp)) ?_
          refine AnyL.step (i := 17) (by kernel_rfl) (by rfl) (fun KK hKK => ?_)
          refine want_yes (by rfl) ?_
          go_simp
          have HCC := qd (HMI.out _ (show w.grownBy _ none from HS6.out.tl.tl.tl.tl.tl.hd))
          go_at_call 61
          with_reducible refine HCC.out.mono ?_
          rintro e wc1 ⟨aCI, cCI, rfl, hsg⟩
          have HSc1 := qd (HS6.out.graft1 hsg OI_own)
          clear HCC hsg
          refine shutNx hKK _ (by exact HBM.out _ _ HSc1.out (by simp) (by simp) (by simp)) (by exact fun _ => trivial) ?_
          clear hKK KK
          refine AnyL.step (i := 20) (by kernel_rfl) (by rfl) (fun KK hKK => ?_)
          refine want_yes (by rfl) ?_
          go_simp
          have HCC := qd (HEI.out _ (show w.grownBy _ none from HSc1.out.tl.tl.tl.tl.tl.tl.hd) _ (show OwnInts 0 _ (.slice aCI la cCI) mi_ from HSc1.out.hd).read)
          go_at_call 102
          with_reducible refine HCC.out.mono ?_
          rintro e wc2 ⟨rfl, hg⟩
          have HSc2 := qd (HSc1.out.grown hg)
          clear HCC hg
          refine shutNx hKK _ (by exact HBM.out _ _ HSc2.out (by simp) (by simp) (by simp)) (by exact fun _ => trivial) ?_
          clear hKK KK
          refine AnyL.tT 21 (by exact HBM.out _ _ HSc2.out (by simp) (by simp) (by simp)) ?_
          refine AnyL.tT 22 (by exact HBM.out _ _ HSc2.out (by simp) (by simp) (by simp)) ?_
          refine AnyL.tT 23 (by exact HBM.out _ _ HSc2.out (by simp) (by simp) (by simp)) ?_
          refine AnyL.skip (i := 24) (by rfl) (by kernel_rfl) (by kernel_rfl) (by kernel_rfl) rfl (by exact fun _ _ _ h => h) (by rfl) (by exact ⟨HBM.out _ _ HSc2.out (by simp) (by simp) (by simp), fun _ => trivial⟩) ?_
          try simp only [Act.put, List.setIfInBounds_toArray, List.set_cons_zero, List.set_cons_succ]
          refine AnyL.skip (i := 25) (by rfl) (by kernel_rfl) (by kernel_rfl) (by kernel_rfl) rfl (by exact fun _ _ _ h => h) (by rfl) (by exact ⟨HBM.out _ _ HSc2.out (by simp) (by simp) (by simp), fun _ => trivial⟩) ?_
          try simp only [Act.put, List.setIfInBounds_toArray, List.set_cons_zero, List.set_cons_succ]
          refine AnyL.skip (i := 26) (by rfl) (by kernel_rfl) (by kernel_rfl) (by kernel_rfl) rfl (by exact fun _ _ _ h => h) (by rfl) (by exact ⟨HBM.out _ _ HSc2.out (by simp) (by simp) (by simp), fun _ => trivial⟩) ?_
          try simp only [Act.put, List.setIfInBounds_toArray, List.set_cons_zero, List.set_cons_succ]
          refine AnyL.skip (i := 27) (by rfl) (by kernel_rfl) (by kernel_rfl) (by kernel_rfl) rfl (by exact fun _ _ _ h => h) (by rfl) (by exact ⟨HBM.out _ _ HSc2.out (by simp) (by simp) (by simp), fun _ => trivial⟩) ?_
          try simp only [Act.put, List.setIfInBounds_toArray, List.set_cons_zero, List.set_cons_succ]
          refine AnyL.skip (i := 29) (by rfl) (by kernel_rfl) (by kernel_rfl) (by kernel_rfl) rfl (by exact fun _ _ _ h => h) (by rfl) (by exact ⟨HBM.out _ _ HSc2.out (by simp) (by simp) (by simp), fun _ => trivial⟩) ?_
          try simp only [Act.put, List.setIfInBounds_toArray, List.set_cons_zero, List.set_cons_succ]
          refine AnyL.skip (i := 30) (by rfl) (by kernel_rfl) (by kernel_rfl) (by kernel_rfl) rfl (by exact fun _ _ _ h => h) (by rfl) (by exact ⟨HBM.out _ _ HSc2.out (by simp) (by simp) (by simp), fun _ => trivial⟩) ?_
          try simp only [Act.put, List.setIfInBounds_toArray, List.set_cons_zero, List.set_cons_succ]
          refine AnyL.step (i := 28) (by kernel_rfl) (by rfl) (fun KK hKK => ?_)
          refine want_no (fun h => by cases (show false = true from h)) ?_
          refine shutNx hKK _ (by exact HBM.out _ _ HSc2.out (by simp) (by simp) (by simp)) (by exact fun _ => trivial) ?_
          clear hKK KK
          refine AnyL.step (i := 31) (by kernel_rfl) (by rfl) (fun KK hKK => ?_)
          refine want_no (fun h => by cases (show false = true from h)) ?_
          refine shutNx hKK _ (by exact HBM.out _ _ HSc2.out (by simp) (by simp) (by simp)) (by exact fun _ => trivial) ?_
          clear hKK KK
          refine AnyL.skip (i := 32) (by rfl) (by kernel_rfl) (by kernel_rfl) (by kernel_rfl) rfl (by exact fun _ _ _ h => h) (by rfl) (by exact ⟨HBM.out _ _ HSc2.out (by simp) (by simp) (by simp), fun _ => trivial⟩) ?_
          try simp only [Act.put, List.setIfInBounds_toArray, List.set_cons_zero, List.set_cons_succ]
          refine AnyL.tT 33 (by exact HBM.out _ _ HSc2.out (by simp) (by simp) (by simp)) ?_
          refine AnyL.done (by kernel_rfl) ?_ _
          clear X2 HBM
          have HKZ := qd (show w.grownBy _ none from HSc2.out.tl.tl.tl.tl.tl.tl.hd)
          go_wp2_with fail
          go_ret
          exact ⟨by rw [HF.out]; rfl, HKZ.out⟩
         ·cases qo
          ·have HF := qd (HFALSE.out (by rw [HEDQ.out, decide_eq_true hA]; simp))
           have hkn : (ek != fk) = false := by simpa using hA
           have hvn : (ev != fv) = false := by simpa using hB
           clear hA hB
           have X2 := qd (HBM.out _ _ HS6.out (by simp) (by simp) (by simp))
           refine AnyL.start (fun W1 => (W1.cell? ⟨wr.heap.size, 0, none⟩ = some (.int .i64 ek) ∧ W1.cell? ⟨wr.heap.size, 1, none⟩ = some (.int .i64 ev) ∧ W1.cell? ⟨wr.heap.size, 2, none⟩ = some (.slice ia la ic) ∧ W1.cell? ⟨wr.heap.size, 3, none⟩ = some (.slice oa lo oc)) ∧ (W1.cell? ⟨nb, 0, none⟩ = some (.int .i64 fk) ∧ W1.cell? ⟨nb, 1, none⟩ = some (.int .i64 fv) ∧ W1.cell? ⟨nb, 2, none⟩ = some (.slice ja lf jc) ∧ W1.cell? ⟨nb, 3, none⟩ = some (.slice ra lg rc)) ∧ W1.cell? ⟨w.heap.size + 2, 0, none⟩ = some (.slice wa lw wc)) (fun _ => True) 99 (by kernel_rfl) ?_
           generalize w9.drew = wd at *
           refine AnyL.tT 0 (by exact HBM.out _ _ HS6.out (by simp) (by simp) (by simp)) ?_
           refine AnyL.tT 1 (by exact HBM.out _ _ HS6.out (by simp) (by simp) (by simp)) ?_
           refine AnyL.tT 2 (by exact HBM.out _ _ HS6.out (by simp) (by simp) (by simp)) ?_
           refine AnyL.tT 3 (by exact HBM.out _ _ HS6.out (by simp) (by simp) (by simp)) ?_
           refine AnyL.tT 4 (by exact HBM.out _ _ HS6.out (by simp) (by simp) (by simp)) ?_
           refine AnyL.tT 5 (by exact HBM.out _ _ HS6.out (by simp) (by simp) (by simp)) ?_
           refine AnyL.tT 6 (by exact HBM.out _ _ HS6.out (by simp) (by simp) (by simp)) ?_
           refine AnyL.tT 7 (by exact HBM.out _ _ HS6.out (by simp) (by simp) (by simp)) ?_
           refine AnyL.tT 8 (by exact HBM.out _ _ HS6.out (by simp) (by simp) (by simp)) ?_
           refine AnyL.tT 9 (by exact HBM.out _ _ HS6.out (by simp) (by simp) (by simp)) ?_
           refine AnyL.tT 10 (by exact HBM.out _ _ HS6.out (by simp) (by simp) (by simp)) ?_
           refine AnyL.tT 11 (by exact HBM.out _ _ HS6.out (by simp) (by simp) (by simp)) ?_
           refine AnyL.tT 12 (by exact HBM.out _ _ HS6.out (by simp) (by simp) (by simp)) ?_
           refine AnyL.tT 13 (by exact HBM.out _ _ HS6.out (by simp) (by simp) (by simp)) ?_
           refine AnyL.tT 14 (by exact HBM.out _ _ HS6.out (by simp) (by simp) (by simp)) ?_
           refine AnyL.tT 15 (by exact HBM.out _ _ HS6.out (by simp) (by simp) (by simp)) ?_
           refine AnyL.tT 16 (by exact HBM.out _ _ HS6.out (by simp) (by simp) (by simp)) ?_
           refine AnyL.tT 18 (by exact HBM.out _ _ HS6.out (by simp) (by simp) (by simp)) ?_
           refine AnyL.tT 19 (by exact HBM.out _ _ HS6.out (by simp) (by simp) (by simp)) ?_
           refine AnyL.step (i := 17) (by kernel_rfl) (by rfl) (fun KK hKK => ?_)
           refine want_yes (by rfl) ?_
           go_simp
           have HCC := qd (HMI.out _ (show w.grownBy _ none from HS6.out.tl.tl.tl.tl.tl.hd))
           go_at_call 61
           with_reducible refine HCC.out.mono ?_
           rintro e wc3 ⟨aCI, cCI, rfl, hsg⟩
           have HSc3 := qd (HS6.out.graft1 hsg OI_own)
           clear HCC hsg
           refine shutNx hKK _ (by exact HBM.out _ _ HSc3.out (by simp) (by simp) (by simp)) (by exact fun _ => trivial) ?_
           clear hKK KK
           refine AnyL.step (i := 20) (by kernel_rfl) (by rfl) (fun KK hKK => ?_)
           refine want_yes (by rfl) ?_
           go_simp
           have HCC := qd (HEI.out _ (show w.grownBy _ none from HSc3.out.tl.tl.tl.tl.tl.tl.hd) _ (show OwnInts 0 _ (.slice aCI la cCI) mi_ from HSc3.out.hd).read)
           go_at_call 102
           with_reducible refine HCC.out.mono ?_
           rintro e wc4 ⟨rfl, hg⟩
           have HSc4 := qd (HSc3.out.grown hg)
           clear HCC hg
           refine shutNx hKK _ (by exact HBM.out _ _ HSc4.out (by simp) (by simp) (by simp)) (by exact fun _ => trivial) ?_
           clear hKK KK
           refine AnyL.tT 21 (by exact HBM.out _ _ HSc4.out (by simp) (by simp) (by simp)) ?_
           refine AnyL.tT 22 (by exact HBM.out _ _ HSc4.out (by simp) (by simp) (by simp)) ?_
           refine AnyL.tT 23 (by exact HBM.out _ _ HSc4.out (by simp) (by simp) (by simp)) ?_
           refine AnyL.tT 24 (by exact HBM.out _ _ HSc4.out (by simp) (by simp) (by simp)) ?_
           refine AnyL.tT 25 (by exact HBM.out _ _ HSc4.out (by simp) (by simp) (by simp)) ?_
           refine AnyL.tT 26 (by exact HBM.out _ _ HSc4.out (by simp) (by simp) (by simp)) ?_
           refine AnyL.tT 27 (by exact HBM.out _ _ HSc4.out (by simp) (by simp) (by simp)) ?_
           refine AnyL.tT 29 (by exact HBM.out _ _ HSc4.out (by simp) (by simp) (by simp)) ?_
           refine AnyL.tT 30 (by exact HBM.out _ _ HSc4.out (by simp) (by simp) (by simp)) ?_
           refine AnyL.step (i := 28) (by kernel_rfl) (by rfl) (fun KK hKK => ?_)
           refine want_yes (by rfl) ?_
           go_simp
           have HCC := qd (HMO2.out _ (show w.grownBy _ none from HSc4.out.tl.tl.tl.tl.tl.tl.hd))
           go_at_call 61
           with_reducible refine HCC.out.mono ?_
           rintro e wc5 ⟨aCO, cCO, rfl, hsg⟩
           have HSc5 := qd (HSc4.out.graft1 hsg OI_own)
           clear HCC hsg
           refine shutNx hKK _ (by exact HBM.out _ _ HSc5.out (by simp) (by simp) (by simp)) (by exact fun _ => trivial) ?_
           clear hKK KK
           refine AnyL.step (i := 31) (by kernel_rfl) (by rfl) (fun KK hKK => ?_)
           refine want_yes (by rfl) ?_
           go_simp
           have HCC := qd (HEO.out _ (show w.grownBy _ none from HSc5.out.tl.tl.tl.tl.tl.tl.tl.hd) _ (show OwnInts 0 _ (.slice aCO lo cCO) mo_ from HSc5.out.hd).read)
           go_at_call 102
           with_reducible refine HCC.out.mono ?_
           rintro e wc6 ⟨rfl, hg⟩
           have HSc6 := qd (HSc5.out.grown hg)
           clear HCC hg
           refine shutNx hKK _ (by exact HBM.out _ _ HSc6.out (by simp) (by simp) (by simp)) (by exact fun _ => trivial) ?_
           clear hKK KK
           refine AnyL.tT 32 (by exact HBM.out _ _ HSc6.out (by simp) (by simp) (by simp)) ?_
           refine AnyL.tT 33 (by exact HBM.out _ _ HSc6.out (by simp) (by simp) (by simp)) ?_
           refine AnyL.done (by kernel_rfl) ?_ _
           clear X2 HBM
           have HKZ := qd (show w.grownBy _ none from HSc6.out.tl.tl.tl.tl.tl.tl.tl.hd)
           go_wp2_with fail
           go_ret
           exact ⟨by rw [HF.out]; rfl, HKZ.out⟩
          ·have HNW := qd (HTRUE.out (by rw [HEDQ.out, decide_eq_true hA, decide_eq_true hB]; rfl))
           have hkn : (ek != fk) = false := by simpa using hA
           have hvn : (ev != fv) = false := by simpa using hB
           clear hA hB
           have X2 := qd (HBM.out _ _ HS6.out (by simp) (by simp) (by simp))
           refine AnyL.start (fun W1 => (W1.cell? ⟨wr.heap.size, 0, none⟩ = some (.int .i64 ek) ∧ W1.cell? ⟨wr.heap.size, 1, none⟩ = some (.int .i64 ev) ∧ W1.cell? ⟨wr.heap.size, 2, none⟩ = some (.slice ia la ic) ∧ W1.cell? ⟨wr.heap.size, 3, none⟩ = some (.slice oa lo oc)) ∧ (W1.cell? ⟨nb, 0, none⟩ = some (.int .i64 fk) ∧ W1.cell? ⟨nb, 1, none⟩ = some (.int .i64 fv) ∧ W1.cell? ⟨nb, 2, none⟩ = some (.slice ja lf jc) ∧ W1.cell? ⟨nb, 3, none⟩ = some (.slice ra lg rc)) ∧ W1.cell? ⟨w.heap.size + 2, 0, none⟩ = some (.slice wa lw wc)) (fun _ => True) 99 (by kernel_rfl) ?_
           generalize w9.drew = wd at *
           refine AnyL.tT 0 (by exact HBM.out _ _ HS6.out (by simp) (by simp) (by simp)) ?_
           refine AnyL.tT 1 (by exact HBM.out _ _ HS6.out (by simp) (by simp) (by simp)) ?_
           refine AnyL.tT 2 (by exact HBM.out _ _ HS6.out (by simp) (by simp) (by simp)) ?_
           refine AnyL.tT 3 (by exact HBM.out _ _ HS6.out (by simp) (by simp) (by simp)) ?_
           refine AnyL.tT 4 (by exact HBM.out _ _ HS6.out (by simp) (by simp) (by simp)) ?_
           refine AnyL.tT 5 (by exact HBM.out _ _ HS6.out (by simp) (by simp) (by simp)) ?_
           refine AnyL.tT 6 (by exact HBM.out _ _ HS6.out (by simp) (by simp) (by simp)) ?_
           refine AnyL.tT 7 (by exact HBM.out _ _ HS6.out (by simp) (by simp) (by simp)) ?_
           refine AnyL.tT 8 (by exact HBM.out _ _ HS6.out (by simp) (by simp) (by simp)) ?_
           refine AnyL.tT 9 (by exact HBM.out _ _ HS6.out (by simp) (by simp) (by simp)) ?_
           refine AnyL.tT 10 (by exact HBM.out _ _ HS6.out (by simp) (by simp) (by simp)) ?_
           refine AnyL.tT 11 (by exact HBM.out _ _ HS6.out (by simp) (by simp) (by simp)) ?_
           refine AnyL.tT 12 (by exact HBM.out _ _ HS6.out (by simp) (by simp) (by simp)) ?_
           refine AnyL.tT 13 (by exact HBM.out _ _ HS6.out (by simp) (by simp) (by simp)) ?_
           refine AnyL.tT 14 (by exact HBM.out _ _ HS6.out (by simp) (by simp) (by simp)) ?_
           refine AnyL.tT 15 (by exact HBM.out _ _ HS6.out (by simp) (by simp) (by simp)) ?_
           refine AnyL.tT 16 (by exact HBM.out _ _ HS6.out (by simp) (by simp) (by simp)) ?_
           refine AnyL.tT 18 (by exact HBM.out _ _ HS6.out (by simp) (by simp) (by simp)) ?_
           refine AnyL.tT 19 (by exact HBM.out _ _ HS6.out (by simp) (by simp) (by simp)) ?_
           refine AnyL.step (i := 17) (by kernel_rfl) (by rfl) (fun KK hKK => ?_)
           refine want_yes (by rfl) ?_
           go_simp
           have HCC := qd (HMI.out _ (show w.grownBy _ none from HS6.out.tl.tl.tl.tl.tl.hd))
           go_at_call 61
           with_reducible refine HCC.out.mono ?_
           rintro e wc7 ⟨aCI, cCI, rfl, hsg⟩
           have HSc7 := qd (HS6.out.graft1 hsg OI_own)
           clear HCC hsg
           refine shutNx hKK _ (by exact HBM.out _ _ HSc7.out (by simp) (by simp) (by simp)) (by exact fun _ => trivial) ?_
           clear hKK KK
           refine AnyL.step (i := 20) (by kernel_rfl) (by rfl) (fun KK hKK => ?_)
           refine want_yes (by rfl) ?_
           go_simp
           have HCC := qd (HEI.out _ (show w.grownBy _ none from HSc7.out.tl.tl.tl.tl.tl.tl.hd) _ (show OwnInts 0 _ (.slice aCI la cCI) mi_ from HSc7.out.hd).read)
           go_at_call 102
           with_reducible refine HCC.out.mono ?_
           rintro e wc8 ⟨rfl, hg⟩
           have HSc8 := qd (HSc7.out.grown hg)
           clear HCC hg
           refine shutNx hKK _ (by exact HBM.out _ _ HSc8.out (by simp) (by simp) (by simp)) (by exact fun _ => trivial) ?_
           clear hKK KK
           refine AnyL.tT 21 (by exact HBM.out _ _ HSc8.out (by simp) (by simp) (by simp)) ?_
           refine AnyL.tT 22 (by exact HBM.out _ _ HSc8.out (by simp) (by simp) (by simp)) ?_
           refine AnyL.tT 23 (by exact HBM.out _ _ HSc8.out (by simp) (by simp) (by simp)) ?_
           refine AnyL.tT 24 (by exact HBM.out _ _ HSc8.out (by simp) (by simp) (by simp)) ?_
           refine AnyL.tT 25 (by exact HBM.out _ _ HSc8.out (by simp) (by simp) (by simp)) ?_
           refine AnyL.tT 26 (by exact HBM.out _ _ HSc8.out (by simp) (by simp) (by simp)) ?_
           refine AnyL.tT 27 (by exact HBM.out _ _ HSc8.out (by simp) (by simp) (by simp)) ?_
           refine AnyL.tT 29 (by exact HBM.out _ _ HSc8.out (by simp) (by simp) (by simp)) ?_
           refine AnyL.tT 30 (by exact HBM.out _ _ HSc8.out (by simp) (by simp) (by simp)) ?_
           refine AnyL.step (i := 28) (by kernel_rfl) (by rfl) (fun KK hKK => ?_)
           refine want_yes (by rfl) ?_
           go_simp
           have HCC := qd (HMO2.out _ (show w.grownBy _ none from HSc8.out.tl.tl.tl.tl.tl.tl.hd))
           go_at_call 61
           with_reducible refine HCC.out.mono ?_
           rintro e wc9 ⟨aCO, cCO, rfl, hsg⟩
           have HSc9 := qd (HSc8.out.graft1 hsg OI_own)
           clear HCC hsg
           refine shutNx hKK _ (by exact HBM.out _ _ HSc9.out (by simp) (by simp) (by simp)) (by exact fun _ => trivial) ?_
           clear hKK KK
           refine AnyL.step (i := 31) (by kernel_rfl) (by rfl) (fun KK hKK => ?_)
           refine want_yes (by rfl) ?_
           go_simp
           have HCC := qd (HEO.out _ (show w.grownBy _ none from HSc9.out.tl.tl.tl.tl.tl.tl.tl.hd) _ (show OwnInts 0 _ (.slice aCO lo cCO) mo_ from HSc9.out.hd).read)
           go_at_call 102
           with_reducible refine HCC.out.mono ?_
           rintro e wc10 ⟨rfl, hg⟩
           have HSc10 := qd (HSc9.out.grown hg)
           clear HCC hg
           refine shutNx hKK _ (by exact HBM.out _ _ HSc10.out (by simp) (by simp) (by simp)) (by exact fun _ => trivial) ?_
           clear hKK KK
           refine AnyL.tT 32 (by exact HBM.out _ _ HSc10.out (by simp) (by simp) (by simp)) ?_
           refine AnyL.tT 33 (by exact HBM.out _ _ HSc10.out (by simp) (by simp) (by simp)) ?_
           refine AnyL.done (by kernel_rfl) ?_ _
           clear X2 HBM
           have hmb := HMB.out
           have hkm := HKE.out
           go_wp2_with fail
           go_roundw
           case rel => exact ⟨k + 1, by have := HKE.out; omega, by go_num, fun j hj => by
            by_cases e : j = k
            ·subst e; exact HNW.out
            ·exact HN.out j (by omega), HSc10.out.tl.tl.tl.tl⟩
           case measure => have := HKE.out; simp [intOf]; omega
        ·have HF := qd (HFALSE.out (by rw [HEDQ.out, decide_eq_false hB]; simp))
         have hkn : (ek != fk) = false := by simpa using hA
         have hvn : (ev != fv) = true := by simpa using hB
         clear hA hB
         have X2 := qd (HBM.out _ _ HS6.out (by simp) (by simp) (by simp))
         refine AnyL.start (fun W1 => (W1.cell? ⟨wr.heap.size, 0, none⟩ = some (.int .i64 ek) ∧ W1.cell? ⟨wr.heap.size, 1, none⟩ = some (.int .i64 ev) ∧ W1.cell? ⟨wr.heap.size, 2, none⟩ = some (.slice ia la ic) ∧ W1.cell? ⟨wr.heap.size, 3, none⟩ = some (.slice oa lo oc)) ∧ (W1.cell? ⟨nb, 0, none⟩ = some (.int .i64 fk) ∧ W1.cell? ⟨nb, 1, none⟩ = some (.int .i64 fv) ∧ W1.cell? ⟨nb, 2, none⟩ = some (.slice ja lf jc) ∧ W1.cell? ⟨nb, 3, none⟩ = some (.slice ra lg rc)) ∧ W1.cell? ⟨w.heap.size + 2, 0, none⟩ = some (.slice wa lw wc)) (fun _ => True) 99 (by kernel_rfl) ?_
         generalize w9.drew = wd at *
         refine AnyL.tT 0 (by exact HBM.out _ _ HS6.out (by simp) (by simp) (by simp)) ?_
         refine AnyL.tT 1 (by exact HBM.out _ _ HS6.out (by simp) (by simp) (by simp)) ?_
         refine AnyL.tT 2 (by exact HBM.out _ _ HS6.out (by simp) (by simp) (by simp)) ?_
         refine AnyL.tT 3 (by exact HBM.out _ _ HS6.out (by simp) (by simp) (by simp)) ?_
         refine AnyL.tT 4 (by exact HBM.out _ _ HS6.out (by simp) (by simp) (by simp)) ?_
         refine AnyL.tT 5 (by exact HBM.out _ _ HS6.out (by simp) (by simp) (by simp)) ?_
         refine AnyL.tT 6 (by exact HBM.out _ _ HS6.out (by simp) (by simp) (by simp)) ?_
         refine AnyL.tT 7 (by exact HBM.out _ _ HS6.out (by simp) (by simp) (by simp)) ?_
         refine AnyL.tT 8 (by exact HBM.out _ _ HS6.out (by simp) (by simp) (by simp)) ?_
         refine AnyL.tT 9 (by exact HBM.out _ _ HS6.out (by simp) (by simp) (by simp)) ?_
         refine AnyL.tT 10 (by exact HBM.out _ _ HS6.out (by simp) (by simp) (by simp)) ?_
         refine AnyL.tT 11 (by exact HBM.out _ _ HS6.out (by simp) (by simp) (by simp)) ?_
         refine AnyL.tT 12 (by exact HBM.out _ _ HS6.out (by simp) (by simp) (by simp)) ?_
         refine AnyL.skip (i := 13) (by rfl) (by kernel_rfl) (by kernel_rfl) (by kernel_rfl) rfl (by exact fun _ _ _ h => h) (by rfl) (by exact ⟨HBM.out _ _ HS6.out (by simp) (by simp) (by simp), fun _ => trivial⟩) ?_
         try simp only [Act.put, List.setIfInBounds_toArray, List.set_cons_zero, List.set_cons_succ]
         refine AnyL.skip (i := 14) (by rfl) (by kernel_rfl) (by kernel_rfl) (by kernel_rfl) rfl (by exact fun _ _ _ h => h) (by rfl) (by exact ⟨HBM.out _ _ HS6.out (by simp) (by simp) (by simp), fun _ => trivial⟩) ?_
         try simp only [Act.put, List.setIfInBounds_toArray, List.set_cons_zero, List.set_cons_succ]
         refine AnyL.skip (i := 15) (by rfl) (by kernel_rfl) (by kernel_rfl) (by kernel_rfl) rfl (by exact fun _ _ _ h => h) (by rfl) (by exact ⟨HBM.out _ _ HS6.out (by simp) (by simp) (by simp), fun _ => trivial⟩) ?_
         try simp only [Act.put, List.setIfInBounds_toArray, List.set_cons_zero, List.set_cons_succ]
         refine AnyL.skip (i := 16) (by rfl) (by kernel_rfl) (by kernel_rfl) (by kernel_rfl) rfl (by exact fun _ _ _ h => h) (by rfl) (by exact ⟨HBM.out _ _ HS6.out (by simp) (by simp) (by simp), fun _ => trivial⟩) ?_
         try simp only [Act.put, List.setIfInBounds_toArray, List.set_cons_zero, List.set_cons_succ]
         refine AnyL.skip (i := 18) (by rfl) (by kernel_rfl) (by kernel_rfl) (by kernel_rfl) rfl (by exact fun _ _ _ h => h) (by rfl) (by exact ⟨HBM.out _ _ HS6.out (by simp) (by simp) (by simp), fun _ => trivial⟩) ?_
         try simp only [Act.put, List.setIfInBounds_toArray, List.set_cons_zero, List.set_cons_succ]
         refine AnyL.skip (i := 19) (by rfl) (by kernel_rfl) (by kernel_rfl) (by kernel_rfl) rfl (by exact fun _ _ _ h => h) (by rfl) (by exact ⟨HBM.out _ _ HS6.out (by simp) (by simp) (by simp), fun _ => trivial⟩) ?_
         try simp only [Act.put, List.setIfInBounds_toArray, List.set_cons_zero, List.set_cons_succ]
         refine AnyL.step (i := 17) (by kernel_rfl) (by rfl) (fun KK hKK => ?_)
         refine want_no (fun h => by cases (show false = true from h)) ?_
         refine shutNx hKK _ (by exact HBM.out _ _ HS6.out (by simp) (by simp) (by simp)) (by exact fun _ => trivial) ?_
         clear hKK KK
         refine AnyL.step (i := 20) (by kernel_rfl) (by rfl) (fun KK hKK => ?_)
         refine want_no (fun h => by cases (show false = true from h)) ?_
         refine shutNx hKK _ (by exact HBM.out _ _ HS6.out (by simp) (by simp) (by simp)) (by exact fun _ => trivial) ?_
         clear hKK KK
         refine AnyL.skip (i := 21) (by rfl) (by kernel_rfl) (by kernel_rfl) (by kernel_rfl) rfl (by exact fun _ _ _ h => h) (by rfl) (by exact ⟨HBM.out _ _ HS6.out (by simp) (by simp) (by simp), fun _ => trivial⟩) ?_
         try simp only [Act.put, List.setIfInBounds_toArray, List.set_cons_zero, List.set_cons_succ]
         refine AnyL.tT 22 (by exact HBM.out _ _ HS6.out (by simp) (by simp) (by simp)) ?_
         refine AnyL.tT 23 (by exact HBM.out _ _ HS6.out (by simp) (by simp) (by simp)) ?_
         refine AnyL.skip (i := 24) (by rfl) (by kernel_rfl) (by kernel_rfl) (by kernel_rfl) rfl (by exact fun _ _ _ h => h) (by rfl) (by exact ⟨HBM.out _ _ HS6.out (by simp) (by simp) (by simp), fun _ => trivial⟩) ?_
         try simp only [Act.put, List.setIfInBounds_toArray, List.set_cons_zero, List.set_cons_succ]
         refine AnyL.skip (i := 25) (by rfl) (by kernel_rfl) (by kernel_rfl) (by kernel_rfl) rfl (by exact fun _ _ _ h => h) (by rfl) (by exact ⟨HBM.out _ _ HS6.out (by simp) (by simp) (by simp), fun _ => trivial⟩) ?_
         try simp only [Act.put, List.setIfInBounds_toArray, List.set_cons_zero, List.set_cons_succ]
         refine AnyL.skip (i := 26) (by rfl) (by kernel_rfl) (by kernel_rfl) (by kernel_rfl) rfl (by exact fun _ _ _ h => h) (by rfl) (by exact ⟨HBM.out _ _ HS6.out (by simp) (by simp) (by simp), fun _ => trivial⟩) ?_
         try simp only [Act.put, List.setIfInBounds_toArray, List.set_cons_zero, List.set_cons_succ]
         refine AnyL.skip (i := 27) (by rfl) (by kernel_rfl) (by kernel_rfl) (by kernel_rfl) rfl (by exact fun _ _ _ h => h) (by rfl) (by exact ⟨HBM.out _ _ HS6.out (by simp) (by simp) (by simp), fun _ => trivial⟩) ?_
         try simp only [Act.put, List.setIfInBounds_toArray, List.set_cons_zero, List.set_cons_succ]
         refine AnyL.skip (i := 29) (by rfl) (by kernel_rfl) (by kernel_rfl) (by kernel_rfl) rfl (by exact fun _ _ _ h => h) (by rfl) (by exact ⟨HBM.out _ _ HS6.out (by simp) (by simp) (by simp), fun _ => trivial⟩) ?_
         try simp only [Act.put, List.setIfInBounds_toArray, List.set_cons_zero, List.set_cons_succ]
         refine AnyL.skip (i := 30) (by rfl) (by kernel_rfl) (by kernel_rfl) (by kernel_rfl) rfl (by exact fun _ _ _ h => h) (by rfl) (by exact ⟨HBM.out _ _ HS6.out (by simp) (by simp) (by simp), fun _ => trivial⟩) ?_
         try simp only [Act.put, List.setIfInBounds_toArray, List.set_cons_zero, List.set_cons_succ]
         refine AnyL.step (i := 28) (by kernel_rfl) (by rfl) (fun KK hKK => ?_)
         refine want_no (fun h => by cases (show false = true from h)) ?_
         refine shutNx hKK _ (by exact HBM.out _ _ HS6.out (by simp) (by simp) (by simp)) (by exact fun _ => trivial) ?_
         clear hKK KK
         refine AnyL.step (i := 31) (by kernel_rfl) (by rfl) (fun KK hKK => ?_)
         refine want_no (fun h => by cases (show false = true from h)) ?_
         refine shutNx hKK _ (by exact HBM.out _ _ HS6.out (by simp) (by simp) (by simp)) (by exact fun _ => trivial) ?_
         clear hKK KK
         refine AnyL.skip (i := 32) (by rfl) (by kernel_rfl) (by kernel_rfl) (by kernel_rfl) rfl (by exact fun _ _ _ h => h) (by rfl) (by exact ⟨HBM.out _ _ HS6.out (by simp) (by simp) (by simp), fun _ => trivial⟩) ?_
         try simp only [Act.put, List.setIfInBounds_toArray, List.set_cons_zero, List.set_cons_succ]
         refine AnyL.tT 33 (by exact HBM.out _ _ HS6.out (by simp) (by simp) (by simp)) ?_
         refine AnyL.done (by kernel_rfl) ?_ _
         clear X2 HBM
         have HKZ := qd (show w.grownBy _ none from HS6.out.tl.tl.tl.tl.tl.hd)
         go_wp2_with fail
         go_ret
         exact ⟨by rw [HF.out]; rfl, HKZ.out⟩
       ·have HF := qd (HFALSE.out (by rw [HEDQ.out, decide_eq_false hA]; simp))
        have hkn : (ek != fk) = true := by simpa using hA
        clear hA
        have X2 := qd (HBM.out _ _ HS6.out (by simp) (by simp) (by simp))
        refine AnyL.start (fun W1 => (W1.cell? ⟨wr.heap.size, 0, none⟩ = some (.int .i64 ek) ∧ W1.cell? ⟨wr.heap.size, 1, none⟩ = some (.int .i64 ev) ∧ W1.cell? ⟨wr.heap.size, 2, none⟩ = some (.slice ia la ic) ∧ W1.cell? ⟨wr.heap.size, 3, none⟩ = some (.slice oa lo oc)) ∧ (W1.cell? ⟨nb, 0, none⟩ = some (.int .i64 fk) ∧ W1.cell? ⟨nb, 1, none⟩ = some (.int .i64 fv) ∧ W1.cell? ⟨nb, 2, none⟩ = some (.slice ja lf jc) ∧ W1.cell? ⟨nb, 3, none⟩ = some (.slice ra lg rc)) ∧ W1.cell? ⟨w.heap.size + 2, 0, none⟩ = some (.slice wa lw wc)) (fun _ => True) 99 (by kernel_rfl) ?_
        generalize w9.drew = wd at *
        refine AnyL.tT 0 (by exact HBM.out _ _ HS6.out (by simp) (by simp) (by simp)) ?_
        refine AnyL.tT 1 (by exact HBM.out _ _ HS6.out (by simp) (by simp) (by simp)) ?_
        refine AnyL.tT 2 (by exact HBM.out _ _ HS6.out (by simp) (by simp) (by simp)) ?_
        refine AnyL.tT 3 (by exact HBM.out _ _ HS6.out (by simp) (by simp) (by simp)) ?_
        refine AnyL.tT 4 (by exact HBM.out _ _ HS6.out (by simp) (by simp) (by simp)) ?_
        refine AnyL.tT 5 (by exact HBM.out _ _ HS6.out (by simp) (by simp) (by simp)) ?_
        refine AnyL.skip (i := 6) (by rfl) (by kernel_rfl) (by kernel_rfl) (by kernel_rfl) rfl (by exact fun _ _ _ h => h) (by rfl) (by exact ⟨HBM.out _ _ HS6.out (by simp) (by simp) (by simp), fun _ => trivial⟩) ?_
        try simp only [Act.put, List.setIfInBounds_toArray, List.set_cons_zero, List.set_cons_succ]
        refine AnyL.skip (i := 7) (by rfl) (by kernel_rfl) (by kernel_rfl) (by kernel_rfl) rfl (by exact fun _ _ _ h => h) (by rfl) (by exact ⟨HBM.out _ _ HS6.out (by simp) (by simp) (by simp), fun _ => trivial⟩) ?_
        try simp only [Act.put, List.setIfInBounds_toArray, List.set_cons_zero, List.set_cons_succ]
        refine AnyL.skip (i := 8) (by rfl) (by kernel_rfl) (by kernel_rfl) (by kernel_rfl) rfl (by exact fun _ _ _ h => h) (by rfl) (by exact ⟨HBM.out _ _ HS6.out (by simp) (by simp) (by simp), fun _ => trivial⟩) ?_
        try simp only [Act.put, List.setIfInBounds_toArray, List.set_cons_zero, List.set_cons_succ]
        refine AnyL.skip (i := 9) (by rfl) (by kernel_rfl) (by kernel_rfl) (by kernel_rfl) rfl (by exact fun _ _ _ h => h) (by rfl) (by exact ⟨HBM.out _ _ HS6.out (by simp) (by simp) (by simp), fun _ => trivial⟩) ?_
        try simp only [Act.put, List.setIfInBounds_toArray, List.set_cons_zero, List.set_cons_succ]
        refine AnyL.skip (i := 10) (by rfl) (by kernel_rfl) (by kernel_rfl) (by kernel_rfl) rfl (by exact fun _ _ _ h => h) (by rfl) (by exact ⟨HBM.out _ _ HS6.out (by simp) (by simp) (by simp), fun _ => trivial⟩) ?_
        try simp only [Act.put, List.setIfInBounds_toArray, List.set_cons_zero, List.set_cons_succ]
        refine AnyL.tT 11 (by exact HBM.out _ _ HS6.out (by simp) (by simp) (by simp)) ?_
        refine AnyL.tT 12 (by exact HBM.out _ _ HS6.out (by simp) (by simp) (by simp)) ?_
        refine AnyL.skip (i := 13) (by rfl) (by kernel_rfl) (by kernel_rfl) (by kernel_rfl) rfl (by exact fun _ _ _ h => h) (by rfl) (by exact ⟨HBM.out _ _ HS6.out (by simp) (by simp) (by simp), fun _ => trivial⟩) ?_
        try simp only [Act.put, List.setIfInBounds_toArray, List.set_cons_zero, List.set_cons_succ]
        refine AnyL.skip (i := 14) (by rfl) (by kernel_rfl) (by kernel_rfl) (by kernel_rfl) rfl (by exact fun _ _ _ h => h) (by rfl) (by exact ⟨HBM.out _ _ HS6.out (by simp) (by simp) (by simp), fun _ => trivial⟩) ?_
        try simp only [Act.put, List.setIfInBounds_toArray, List.set_cons_zero, List.set_cons_succ]
        refine AnyL.skip (i := 15) (by rfl) (by kernel_rfl) (by kernel_rfl) (by kernel_rfl) rfl (by exact fun _ _ _ h => h) (by rfl) (by exact ⟨HBM.out _ _ HS6.out (by simp) (by simp) (by simp), fun _ => trivial⟩) ?_
        try simp only [Act.put, List.setIfInBounds_toArray, List.set_cons_zero, List.set_cons_succ]
        refine AnyL.skip (i := 16) (by rfl) (by kernel_rfl) (by kernel_rfl) (by kernel_rfl) rfl (by exact fun _ _ _ h => h) (by rfl) (by exact ⟨HBM.out _ _ HS6.out (by simp) (by simp) (by simp), fun _ => trivial⟩) ?_
        try simp only [Act.put, List.setIfInBounds_toArray, List.set_cons_zero, List.set_cons_succ]
        refine AnyL.skip (i := 18) (by rfl) (by kernel_rfl) (by kernel_rfl) (by kernel_rfl) rfl (by exact fun _ _ _ h => h) (by rfl) (by exact ⟨HBM.out _ _ HS6.out (by simp) (by simp) (by simp), fun _ => trivial⟩) ?_
        try simp only [Act.put, List.setIfInBounds_toArray, List.set_cons_zero, List.set_cons_succ]
        refine AnyL.skip (i := 19) (by rfl) (by kernel_rfl) (by kernel_rfl) (by kernel_rfl) rfl (by exact fun _ _ _ h => h) (by rfl) (by exact ⟨HBM.out _ _ HS6.out (by simp) (by simp) (by simp), fun _ => trivial⟩) ?_
        try simp only [Act.put, List.setIfInBounds_toArray, List.set_cons_zero, List.set_cons_succ]
        refine AnyL.step (i := 17) (by kernel_rfl) (by rfl) (fun KK hKK => ?_)
        refine want_no (fun h => by cases (show false = true from h)) ?_
        refine shutNx hKK _ (by exact HBM.out _ _ HS6.out (by simp) (by simp) (by simp)) (by exact fun _ => trivial) ?_
        clear hKK KK
        refine AnyL.step (i := 20) (by kernel_rfl) (by rfl) (fun KK hKK => ?_)
        refine want_no (fun h => by cases (show false = true from h)) ?_
        refine shutNx hKK _ (by exact HBM.out _ _ HS6.out (by simp) (by simp) (by simp)) (by exact fun _ => trivial) ?_
        clear hKK KK
        refine AnyL.skip (i := 21) (by rfl) (by kernel_rfl) (by kernel_rfl) (by kernel_rfl) rfl (by exact fun _ _ _ h => h) (by rfl) (by exact ⟨HBM.out _ _ HS6.out (by simp) (by simp) (by simp), fun _ => trivial⟩) ?_
        try simp only [Act.put, List.setIfInBounds_toArray, List.set_cons_zero, List.set_cons_succ]
        refine AnyL.tT 22 (by exact HBM.out _ _ HS6.out (by simp) (by simp) (by simp)) ?_
        refine AnyL.tT 23 (by exact HBM.out _ _ HS6.out (by simp) (by simp) (by simp)) ?_
        refine AnyL.skip (i := 24) (by rfl) (by kernel_rfl) (by kernel_rfl) (by kernel_rfl) rfl (by exact fun _ _ _ h => h) (by rfl) (by exact ⟨HBM.out _ _ HS6.out (by simp) (by simp) (by simp), fun _ => trivial⟩) ?_
        try simp only [Act.put, List.setIfInBounds_toArray, List.set_cons_zero, List.set_cons_succ]
        refine AnyL.skip (i := 25) (by rfl) (by kernel_rfl) (by kernel_rfl) (by kernel_rfl) rfl (by exact fun _ _ _ h => h) (by rfl) (by exact ⟨HBM.out _ _ HS6.out (by simp) (by simp) (by simp), fun _ => trivial⟩) ?_
        try simp only [Act.put, List.setIfInBounds_toArray, List.set_cons_zero, List.set_cons_succ]
        refine AnyL.skip (i := 26) (by rfl) (by kernel_rfl) (by kernel_rfl) (by kernel_rfl) rfl (by exact fun _ _ _ h => h) (by rfl) (by exact ⟨HBM.out _ _ HS6.out (by simp) (by simp) (by simp), fun _ => trivial⟩) ?_
        try simp only [Act.put, List.setIfInBounds_toArray, List.set_cons_zero, List.set_cons_succ]
        refine AnyL.skip (i := 27) (by rfl) (by kernel_rfl) (by kernel_rfl) (by kernel_rfl) rfl (by exact fun _ _ _ h => h) (by rfl) (by exact ⟨HBM.out _ _ HS6.out (by simp) (by simp) (by simp), fun _ => trivial⟩) ?_
        try simp only [Act.put, List.setIfInBounds_toArray, List.set_cons_zero, List.set_cons_succ]
        refine AnyL.skip (i := 29) (by rfl) (by kernel_rfl) (by kernel_rfl) (by kernel_rfl) rfl (by exact fun _ _ _ h => h) (by rfl) (by exact ⟨HBM.out _ _ HS6.out (by simp) (by simp) (by simp), fun _ => trivial⟩) ?_
        try simp only [Act.put, List.setIfInBounds_toArray, List.set_cons_zero, List.set_cons_succ]
        refine AnyL.skip (i := 30) (by rfl) (by kernel_rfl) (by kernel_rfl) (by kernel_rfl) rfl (by exact fun _ _ _ h => h) (by rfl) (by exact ⟨HBM.out _ _ HS6.out (by simp) (by simp) (by simp), fun _ => trivial⟩) ?_
        try simp only [Act.put, List.setIfInBounds_toArray, List.set_cons_zero, List.set_cons_succ]
        refine AnyL.step (i := 28) (by kernel_rfl) (by rfl) (fun KK hKK => ?_)
        refine want_no (fun h => by cases (show false = true from h)) ?_
        refine shutNx hKK _ (by exact HBM.out _ _ HS6.out (by simp) (by simp) (by simp)) (by exact fun _ => trivial) ?_
        clear hKK KK
        refine AnyL.step (i := 31) (by kernel_rfl) (by rfl) (fun KK hKK => ?_)
        refine want_no (fun h => by cases (show false = true from h)) ?_
        refine shutNx hKK _ (by exact HBM.out _ _ HS6.out (by simp) (by simp) (by simp)) (by exact fun _ => trivial) ?_
        clear hKK KK
        refine AnyL.skip (i := 32) (by rfl) (by kernel_rfl) (by kernel_rfl) (by kernel_rfl) rfl (by exact fun _ _ _ h => h) (by rfl) (by exact ⟨HBM.out _ _ HS6.out (by simp) (by simp) (by simp), fun _ => trivial⟩) ?_
        try simp only [Act.put, List.setIfInBounds_toArray, List.set_cons_zero, List.set_cons_succ]
        refine AnyL.tT 33 (by exact HBM.out _ _ HS6.out (by simp) (by simp) (by simp)) ?_
        refine AnyL.done (by kernel_rfl) ?_ _
        clear X2 HBM
        have HKZ := qd (show w.grownBy _ none from HS6.out.tl.tl.tl.tl.tl.hd)
        go_wp2_with fail
        go_ret
        exact ⟨by rw [HF.out]; rfl, HKZ.out⟩
      ·have hkm : k = me := by omega
       subst hkm
       have HF := qd (show rb = true from HYE.out HMO.out fun j hj => HN.out j hj)
       have HKZ := qd (show w.grownBy wr none from HSX.out.tl.tl.tl.hd)
       have hkk : ¬ (k : Int) < (k : Int) := by omega
       clear hlt
       go_wp2_with fail
       go_ret
       exact ⟨by rw [HF.out]; rfl, HKZ.out⟩
  ·have HF := qd (show rb = false from HNO.out fun h => h2 (HOK.out.1 h).2.1)
   have hnf : ((lw : Int) != pn) = false := by simpa using h1
   have hng : ((le : Int) != (me : Int)) = true := by simp; omega
   clear h1 h2
   go_enter Tryz.func58, Tryz.ntmps58
   go_wp2_with fail
   go_ret
   exact ⟨by rw [HF.out]; rfl, HK0.out⟩
 ·have HF := qd (show rb = false from HNO.out fun h => h1 (HOK.out.1 h).1)
  have hne : ((lw : Int) != pn) = true := by simpa using h1
  clear h1
  go_enter Tryz.func58, Tryz.ntmps58
  go_wp2_with fail
  go_ret
  exact ⟨by rw [HF.out]; rfl, HK0.out⟩
end Go.Proofs.YtjagjhchnpmngaaGreat

/-
 Is it a match? The program's writing. Conditions: the pattern is valid; lengths are small.
-/
import Derived.Test.YtjagjhchnpmngaaGreatCz06
import Derived.Test.YtjagjhchnpmngaaGreatCz05
import Derived.Test.YtjagjhchnpmngaaGreatCz04
import Derived.Test.YtjagjhchnpmngaaGreatCz03
import Derived.Test.YtjagjhchnpmngaaGreatCz02
import Derived.Test.YtjagjhchnpmngaaGreatCz01
import Derived.Test.YtjagjhchnpmngaaGreatCz00
import Derived.Test.YtjagjhchnpmngaaGreatCz29
import Derived.Test.YtjagjhchnpmngaaGreatCz16
set_option linter.unusedVariables false
set_option linter.unusedSimpArgs false
set_option maxRecDepth 100000
namespace Go.Proofs.YtjagjhchnpmngaaGreat
open Go.RowKit
def mvE (W : List Int) (e : Ed) : Ed := ⟨e.k, e.v, e.i.map (ofL W), e.o.map (ofL W)⟩
theorem ofL_lk {W : List Int} {x : Int} (h : 0 ≤ x) : ofL W x = lkL W x := by
 unfold ofL lkL
 rw [if_pos h]
theorem mvE_lk {W : List Int} {e : Ed} (hi : ∀ x ∈ e.i, 0 ≤ x) (ho : ∀ x ∈ e.o, 0 ≤ x) : mvE W e = ⟨e.k, e.v, e.i.map (lkL W), e.o.map (lkL W)⟩ := by
 unfold mvE
 rw [List.map_congr_left fun x hx => ofL_lk (hi x hx), List.map_congr_left fun x hx => ofL_lk (ho x hx)]
structure MtOk (g p : Gr) (N : Nat) (W E : List Int) : Prop where
 lw : (W.length : Int) = p.n
 le : E.length = p.es.length
 dw : difB W N = true
 de : difB E g.es.length = true
theorem isMt_no {g p : Gr} {N : Nat} {W E : List Int} (hg : g.n = N) (hp : 0 ≤ p.n) (h : ¬ MtOk g p N W E) : tst (IsMt g p ⟨W, E⟩) = false := by
 cases hb : tst (IsMt g p ⟨W, E⟩)
 ·rfl
 ·exfalso
  have hm := tst_iff.1 hb
  refine h ⟨by have := hm.lw; simp only at this; omega, hm.le, dif_iff.2 ⟨fun x hx => by have := hm.rw x hx; omega, hm.dw⟩, dif_iff.2 ⟨hm.re, hm.de⟩⟩
theorem isMt_edge {g p : Gr} {W E : List Int} {j : Nat} (hj : j < p.es.length) (hi : ∀ e ∈ p.es, (∀ x ∈ e.i, 0 ≤ x) ∧ ∀ x ∈ e.o, 0 ≤ x) (h : mvE W (p.es.getD j e0) ≠ edAt g.es (E.getD j 0)) : tst (IsMt g p ⟨W, E⟩) = false := by
 cases hb : tst (IsMt g p ⟨W, E⟩)
 ·rfl
 ·exfalso
  have hm := (tst_iff.1 hb).ed j hj
  have hj2 := hi (p.es.getD j e0) (by rw [List.getD_eq_getElem?_getD, List.getElem?_eq_getElem hj]; exact List.getElem_mem _)
  exact h ((mvE_lk hj2.1 hj2.2).trans hm.symm)
theorem isMt_yes {g p : Gr} {N : Nat} {W E : List Int} (hg : g.n = N) (hp : 0 ≤ p.n) (hi : ∀ e ∈ p.es, (∀ x ∈ e.i, 0 ≤ x) ∧ ∀ x ∈ e.o, 0 ≤ x) (h : MtOk g p N W E) (he : ∀ j, j < p.es.length → mvE W (p.es.getD j e0) = edAt g.es (E.getD j 0)) : tst (IsMt g p ⟨W, E⟩) = true := by
 have h1 := dif_iff.1 h.dw
 have h2 := dif_iff.1 h.de
 refine tst_iff.2 ⟨by have := h.lw; simp only; omega, h.le, fun x hx => by have := h1.1 x hx; omega, h2.1, h1.2, h2.2, fun j hj => ?_⟩
 have hj2 := hi (p.es.getD j e0) (by rw [List.getD_eq_getElem?_getD, List.getElem?_eq_getElem hj]; exact List.getElem_mem _)
 exact (he j hj).symm.trans (mvE_lk hj2.1 hj2.2)
set_option maxHeartbeats 8000000 in
theorem isMatch_any (g p : Gr) (N : Nat) (hgn : g.n = N) (hN : N ≤ 1000000) (hp0 : 0 ≤ p.n) (hpr : ∀ e ∈ p.es, (∀ x ∈ e.i, 0 ≤ x ∧ x < p.n) ∧ (∀ x ∈ e.o, 0 ≤ x ∧ x < p.n) ∧ e.i.length ≤ 1000000 ∧ e.o.length ≤ 1000000) (W E : List Int) (gev giv gov pev piv pov wv ev : Value) (w : World) (hge : RdE edgeE w gev g.es) (hgi : IntsV w giv g.i) (hgo : IntsV w gov g.o) (hgl : g.es.length ≤ 1000000) (hgs : ∀ e ∈ g.es, e.i.length ≤ 1000000 ∧ e.o.length ≤ 1000000)
 (hpe : RdE edgeE w pev p.es) (hpi : IntsV w piv p.i) (hpo : IntsV w pov p.o) (hpl : p.es.length ≤ 1000000) (hw : IntsV w wv W) (he : IntsV w ev E) (hWl : W.length ≤ 2000000) (hEl : E.length ≤ 2000000) :
 Calls Tryz.prog 71 #[grV g.n gev giv gov, grV p.n pev piv pov, .agg #[wv, ev]] w fun x w' => x = .returned (.bool (tst (IsMt g p ⟨W, E⟩))) ∧ w.grownBy w' none := by
 have HGE := qd hge; have HPE := qd hpe; have HE := qd he; have HW := qd hw; have HPR := qd hpr; have HGS := qd hgs
 have hnn : ∀ e ∈ p.es, (∀ x ∈ e.i, 0 ≤ x) ∧ ∀ x ∈ e.o, 0 ≤ x := fun e h => ⟨fun x hx => ((hpr e h).1 x hx).1, fun x hx => ((hpr e h).2.1 x hx).1⟩
 have HNO := qd fun (h : ¬ MtOk g p N W E) => isMt_no hgn hp0 h
 have HNE := qd fun j (hj : j < p.es.length) h => isMt_edge (g := g) (p := p) (W := W) (E := E) hj hnn h
 have HYE := qd fun h he => isMt_yes (W := W) (E := E) hgn hp0 hnn h he
 have HDW := qd fun W1 (hW : w.grownBy W1 none) => areDifferent_any wv W N W1 (hw.carry hW) hWl hN
 have HDE := qd fun W1 (hW : w.grownBy W1 none) => areDifferent_any ev E g.es.length W1 (he.carry hW) hEl hgl
 obtain ⟨ga, gc, rfl⟩ := hge.shape
 obtain ⟨gi, gd, rfl⟩ := hgi.shape
 obtain ⟨go_, ge, rfl⟩ := hgo.shape
 obtain ⟨pa, pc, rfl⟩ := hpe.shape
 obtain ⟨pi_, pd, rfl⟩ := hpi.shape
 obtain ⟨po, pe, rfl⟩ := hpo.shape
 obtain ⟨wa, wc, rfl⟩ := hw.shape
 obtain ⟨ea, ec, rfl⟩ := he.shape
 unfold grV
 rw [hgn]
 obtain ⟨rb, hrb⟩ : ∃ x, tst (IsMt g p ⟨W, E⟩) = x := ⟨_, rfl⟩
 rw [hrb] at HNO HNE HYE ⊢
 obtain ⟨ne, hne⟩ : ∃ x, g.es.length = x := ⟨_, rfl⟩
 obtain ⟨me, hme⟩ : ∃ x, p.es.length = x := ⟨_, rfl⟩
 obtain ⟨lw, hlw⟩ : ∃ x, W.length = x := ⟨_, rfl⟩
 obtain ⟨le, hle⟩ : ∃ x, E.length = x := ⟨_, rfl⟩
 obtain ⟨pn, hpn⟩ : ∃ x, p.n = x := ⟨_, rfl⟩
 have HOK := qd (show MtOk g p N W E ↔ ((lw : Int) = pn ∧ le = me ∧ difB W N = true ∧ difB E ne = true) from ⟨fun h => ⟨by have := h.lw; omega, by have := h.le; omega, h.dw, by rw [← hne]; exact h.de⟩, fun h => ⟨by omega, by omega, h.2.2.1, by rw [hne]; exact h.2.2.2⟩⟩)
 have HMB := qd (show me ≤ 1000000 from by omega)
 have HNEL := qd hne; have HMEL := qd hme; have HLW := qd hlw; have HLE := qd hle; have HPN := qd hpn
 rw [hne, hle] at HDE
 rw [hlw] at HDW HW
 rw [hle] at HE
 rw [hne] at HGE
 rw [hme] at HPE
 rw [hme] at HNE HYE
 rw [hne, hme, hlw, hle, hpn]
 generalize g.i.length = ni at *
 generalize g.o.length = no at *
 generalize p.i.length = mi at *
 generalize p.o.length = mo at *
 clear hge hgi hgo hgs hpe hpi hpo hpr hw he hWl hEl hnn hne hme hlw hle hpn hrb hgn hp0 hgl hpl
 have HS0 := qd ((((Sep.start w).boxAt w.heap.size rfl #[.int .i64 N, .slice ga ne gc, .slice gi ni gd, .slice go_ no ge] 38).boxAt (w.heap.size + 1) (by simp) #[.int .i64 pn, .slice pa me pc, .slice pi_ mi pd, .slice po mo pe] 38).boxAt (w.heap.size + 2) (by simp) #[.slice wa lw wc, .slice ea le ec] 48)
 have HK0 := qd (show w.grownBy _ none from HS0.out.tl.tl.tl.hd)
 obtain ⟨m0, m1, _⟩ := bw2 HS0.out.hd
 obtain ⟨p0, p1, _⟩ := gq4 HS0.out.tl.hd
 obtain ⟨g0, g1, _⟩ := gq4 HS0.out.tl.tl.hd
 by_cases h1 : (lw : Int) = pn
 ·by_cases h2 : le = me
  ·cases h3 : difB W N
   ·have HF := qd (show rb = false from HNO.out fun h => by have := (HOK.out.1 h).2.2.1; rw [h3] at this; cases this)
    have hnf : ((lw : Int) != pn) = false := by simpa using h1
    have hng : ((le : Int) != (me : Int)) = false := by simp; omega
    rw [h3] at HDW
    clear h1 h2 h3
    go_enter Tryz.func71, Tryz.ntmps71
    go_wp2_with (first
     |(go_at_call 110
       with_reducible refine (HDW.out _ HK0.out).mono ?_
       rintro e w3 ⟨rfl, hg⟩
       have HS1 := qd (HS0.out.grown hg)
       clear hg
       clear m0 m1 p0 p1 g0 g1
       obtain ⟨m0, m1, _⟩ := bw2 HS1.out.hd
       obtain ⟨p0, p1, _⟩ := gq4 HS1.out.tl.hd
       obtain ⟨g0, g1, _⟩ := gq4 HS1.out.tl.tl.hd
       have HK1 := qd (show w.grownBy _ none from HS1.out.tl.tl.tl.hd)))
    go_ret
    exact ⟨by rw [HF.out]; rfl, HK1.out⟩
   ·cases h4 : difB E ne
    ·have HF := qd (show rb = false from HNO.out fun h => by have := (HOK.out.1 h).2.2.2; rw [h4] at this; cases this)
     have hnf : ((lw : Int) != pn) = false := by simpa using h1
     have hng : ((le : Int) != (me : Int)) = false := by simp; omega
     rw [h3] at HDW
     rw [h4] at HDE
     clear h1 h2 h3 h4
     go_enter Tryz.func71, Tryz.ntmps71
     go_wp2_with (first
      |(go_at_call 110
        with_reducible refine (HDW.out _ HK0.out).mono ?_
        rintro e w3 ⟨rfl, hg⟩
        have HS1 := qd (HS0.out.grown hg)
        clear hg
        clear m0 m1 p0 p1 g0 g1
        obtain ⟨m0, m1, _⟩ := bw2 HS1.out.hd
        obtain ⟨p0, p1, _⟩ := gq4 HS1.out.tl.hd
        obtain ⟨g0, g1, _⟩ := gq4 HS1.out.tl.tl.hd
        have HK1 := qd (show w.grownBy _ none from HS1.out.tl.tl.tl.hd))
      |(go_at_call 110
        with_reducible refine (HDE.out _ HK1.out).mono ?_
        rintro e w4 ⟨rfl, hg⟩
        have HS2 := qd (HS1.out.grown hg)
        clear hg
        clear m0 m1 p0 p1 g0 g1
        obtain ⟨m0, m1, _⟩ := bw2 HS2.out.hd
        obtain ⟨p0, p1, _⟩ := gq4 HS2.out.tl.hd
        obtain ⟨g0, g1, _⟩ := gq4 HS2.out.tl.tl.hd
        have HK2 := qd (show w.grownBy _ none from HS2.out.tl.tl.tl.hd)))
     go_ret
     exact ⟨by rw [HF.out]; rfl, HK2.out⟩
    ·have HMO := qd (HOK.out.2 ⟨h1, h2, h3, h4⟩)
     have HRW := qd (dif_iff.1 h3); have HRE := qd (dif_iff.1 h4)
     have hnf : ((lw : Int) != pn) = false := by simpa using h1
     have hng : ((le : Int) != (me : Int)) = false := by simp; omega
     rw [h3] at HDW
     rw [h4] at HDE
     have HLPN := qd h1; have HLM := qd h2
     clear h1 h2 h3 h4
     go_enter Tryz.func71, Tryz.ntmps71
     go_upto_region 4 with (first
      |(go_at_call 110
        with_reducible refine (HDW.out _ HK0.out).mono ?_
        rintro e w3 ⟨rfl, hg⟩
        have HS1 := qd (HS0.out.grown hg)
        clear hg
        clear m0 m1 p0 p1 g0 g1
        obtain ⟨m0, m1, _⟩ := bw2 HS1.out.hd
        obtain ⟨p0, p1, _⟩ := gq4 HS1.out.tl.hd
        obtain ⟨g0, g1, _⟩ := gq4 HS1.out.tl.tl.hd
        have HK1 := qd (show w.grownBy _ none from HS1.out.tl.tl.tl.hd))
      |(go_at_call 110
        with_reducible refine (HDE.out _ HK1.out).mono ?_
        rintro e w4 ⟨rfl, hg⟩
        have HS2 := qd (HS1.out.grown hg)
        clear hg
        clear m0 m1 p0 p1 g0 g1
        obtain ⟨m0, m1, _⟩ := bw2 HS2.out.hd
        obtain ⟨p0, p1, _⟩ := gq4 HS2.out.tl.hd
        obtain ⟨g0, g1, _⟩ := gq4 HS2.out.tl.tl.hd
        have HK2 := qd (show w.grownBy _ none from HS2.out.tl.tl.tl.hd)))
     clear m0 m1 p0 p1 g0 g1
     clear hnf hng HS0 HS1 HK0 HK1 HDW HDE HNO
     go_loopw [45] (fun i wr => ∃ k : Nat, k ≤ me ∧ i = .int .i64 k ∧ (∀ j, j < k → mvE W (p.es.getD j e0) = edAt g.es (E.getD j 0)) ∧ Sep wr [BxA (w.heap.size + 2) #[.slice wa lw wc, .slice ea le ec] 48, BxA (w.heap.size + 1) #[.int .i64 pn, .slice pa me pc, .slice pi_ mi pd, .slice po mo pe] 38, BxA w.heap.size #[.int .i64 N, .slice ga ne gc, .slice gi ni gd, .slice go_ no ge] 38, KeepA w]) (fun i _ => me - (intOf i).toNat)
     case atStart => exact ⟨0, by omega, rfl, fun j h => by omega, HS2.out⟩
     case round =>
      obtain ⟨k, hk, rfl, hn, hs⟩ := hrel
      have HN := qd hn; have HSX := qd hs
      clear hn hs HS2 HK2
      by_cases hlt : k < me
      ·have hke : k < p.es.length := by rw [HMEL.out]; exact hlt
       obtain ⟨b, o, iv, ov, rfl, hq⟩ := HPE.out.atK rfl rfl hke
       have HQ := qd hq
       have hkw := (show w.grownBy wr none from HSX.out.tl.tl.tl.hd)
       obtain ⟨⟨q0, q1, q2, q3⟩, hi, ho⟩ := hq wr hkw
       have HKE := qd hlt
       have hpk := HPR.out (p.es.getD k e0) (by rw [List.getD_eq_getElem?_getD, List.getElem?_eq_getElem hke]; exact List.getElem_mem _)
       have hle2 : k < E.length := by rw [HLE.out, HLM.out]; exact hlt
       obtain ⟨b2, o2, hea, _, _⟩ := (HE.out.carry hkw).atD hle2
       subst hea
       have hfr := HRE.out.1 _ (getD_memI hle2)
       obtain ⟨f, hf⟩ : ∃ f : Nat, E.getD k 0 = f := ⟨(E.getD k 0).toNat, by omega⟩
       have HLE2 := qd hle2
       have HFF := qd hf
       have hfe : f < g.es.length := by rw [HNEL.out]; omega
       have HFN := qd (show f < ne from by rw [← HNEL.out]; exact hfe)
       obtain ⟨b3, o3, iv3, ov3, hga, hr⟩ := HGE.out.atK rfl rfl hfe
       subst hga
       have HR := qd hr
       have hgk := HGS.out (g.es.getD f e0) (by rw [List.getD_eq_getElem?_getD, List.getElem?_eq_getElem hfe]; exact List.getElem_mem _)
       have HED := qd (show edAt g.es (E.getD k 0) = g.es.getD f e0 from by unfold edAt; rw [hf]; rfl)
       have HNK := qd (HNE.out k hlt)
       rw [HED.out] at HNK
       obtain ⟨y, hy⟩ : ∃ y, p.es.getD k e0 = y := ⟨_, rfl⟩
       obtain ⟨z, hz⟩ : ∃ z, g.es.getD f e0 = z := ⟨_, rfl⟩
       have HY := qd hy
       rw [hy] at q0 q1 hi ho hpk HNK HQ
       rw [hz] at hgk HED HNK HR
       obtain ⟨_, hi3, ho3⟩ := HR.out w (grownBy_refl _ _)
       obtain ⟨ek, ev, ei, eo⟩ := y
       obtain ⟨fk, fv, fi, fo⟩ := z
       simp only at q0 q1 hi ho hpk hgk hi3 ho3 HQ HR
       obtain ⟨ia, ic, rfl⟩ := hi.shape
       obtain ⟨oa, oc, rfl⟩ := ho.shape
       obtain ⟨ja, jc, rfl⟩ := hi3.shape
       obtain ⟨ra, rc, rfl⟩ := ho3.shape
       have HMI := qd fun W1 (hW : w.grownBy W1 none) => mapped_any (.slice wa lw wc) (.slice ia ei.length ic) W ei W1 (HW.out.carry hW) (HQ.out W1 hW).2.1 hpk.2.2.1 (fun x hx => by have := hpk.1 x hx; have := HLPN.out; rw [HLW.out]; have := HPN.out; omega)
       have HMO2 := qd fun W1 (hW : w.grownBy W1 none) => mapped_any (.slice wa lw wc) (.slice oa eo.length oc) W eo W1 (HW.out.carry hW) (HQ.out W1 hW).2.2 hpk.2.2.2 (fun x hx => by have := hpk.2.1 x hx; have := HLPN.out; rw [HLW.out]; have := HPN.out; omega)
       have HEE := qd fun W1 (hW : w.grownBy W1 none) u1 u2 (h1 : IntsV W1 u1 (ei.map (ofL W))) (h2 : IntsV W1 u2 (eo.map (ofL W))) => equalEdges_any (mvE W ⟨ek, ev, ei, eo⟩) ⟨fk, fv, fi, fo⟩ u1 u2 (.slice ja fi.length jc) (.slice ra fo.length rc) W1 h1 h2 (HR.out W1 hW).2.1 (HR.out W1 hW).2.2 (by show (ei.map _).length ≤ _; rw [List.length_map]; exact hpk.2.2.1) (by show (eo.map _).length ≤ _; rw [List.length_map]; exact hpk.2.2.2) hgk.1 hgk.2
       rw [show (mvE W ⟨ek, ev, ei, eo⟩).k = ek from rfl, show (mvE W ⟨ek, ev, ei, eo⟩).v = ev from rfl] at HEE
       have HRC := qd fun W1 (hW : w.grownBy W1 none) => (HR.out W1 hW).1
       obtain ⟨bb, hbb⟩ : ∃ x, edEq (mvE W ⟨ek, ev, ei, eo⟩) ⟨fk, fv, fi, fo⟩ = x := ⟨_, rfl⟩
       rw [hbb] at HEE
       have HBB := qd hbb
       generalize hla : ei.length = la at *
       generalize hlo : eo.length = lo at *
       generalize fi.length = lf at *
       generalize fo.length = lg at *
       generalize ei.map (ofL W) = mi_ at *
       generalize eo.map (ofL W) = mo_ at *
       clear hy hz hf hke hle2 hfe hfr hq hr hi ho hi3 ho3 hpk hgk hla hlo hbb hkw HQ HR
       go_upto_region 6 with fail
       have HS3 := qd (HSX.out.boxAt wr.heap.size rfl #[.int .i64 ek, .int .i64 ev, .slice ia la ic, .slice oa lo oc] 104).dr
       clear q0 q1 q2 q3
       have HBM := qd fun (W1 : World) (L : List Asrt) (h : Sep W1 L) (h1 : BxA wr.heap.size #[.int .i64 ek, .int .i64 ev, .slice ia la ic, .slice oa lo oc] 104 ∈ L) (h2 : BxA (w.heap.size + 2) #[.slice wa lw wc, .slice (some ⟨b2, o2, none⟩) le ec] 48 ∈ L) => show (W1.cell? ⟨wr.heap.size, 0, none⟩ = some (.int .i64 ek) ∧ W1.cell? ⟨wr.heap.size, 1, none⟩ = some (.int .i64 ev) ∧ W1.cell? ⟨wr.heap.size, 2, none⟩ = some (.slice ia la ic) ∧ W1.cell? ⟨wr.heap.size, 3, none⟩ = some (.slice oa lo oc)) ∧ W1.cell? ⟨w.heap.size + 2, 0, none⟩ = some (.slice wa lw wc) from by
        obtain ⟨p0, p1, p2, p3, _⟩ := gq4 (show W1.heap[wr.heap.size]? = some (.cells #[.int .i64 ek, .int .i64 ev, .slice ia la ic, .slice oa lo oc] 104 (0, 0)) from Sep.all h _ h1)
        exact ⟨⟨p0, p1, p2, p3⟩, (bw2 (show W1.heap[w.heap.size + 2]? = some (.cells #[.slice wa lw wc, .slice (some ⟨b2, o2, none⟩) le ec] 48 (0, 0)) from Sep.all h _ h2)).1⟩
       have X0 := qd (HBM.out _ _ HS3.out (by simp) (by simp))
       refine AnyL.start (fun W1 => (W1.cell? ⟨wr.heap.size, 0, none⟩ = some (.int .i64 ek) ∧ W1.cell? ⟨wr.heap.size, 1, none⟩ = some (.int .i64 ev) ∧ W1.cell? ⟨wr.heap.size, 2, none⟩ = some (.slice ia la ic) ∧ W1.cell? ⟨wr.heap.size, 3, none⟩ = some (.slice oa lo oc)) ∧ W1.cell? ⟨w.heap.size + 2, 0, none⟩ = some (.slice wa lw wc)) (fun _ => True) 99 (by kernel_rfl) ?_
       generalize (wr.alloc (.cells #[.int .i64 ek, .int .i64 ev, .slice ia la ic, .slice oa lo oc] 104)).drew = w4 at *
       refine AnyL.tT 0 (by exact X0.out) ?_
       refine AnyL.tT 1 (by exact X0.out) ?_
       refine AnyL.tT 2 (by exact X0.out) ?_
       refine AnyL.tT 3 (by exact X0.out) ?_
       refine AnyL.tT 4 (by exact X0.out) ?_
       refine AnyL.tT 5 (by exact X0.out) ?_
       refine AnyL.tT 6 (by exact X0.out) ?_
       refine AnyL.tT 7 (by exact X0.out) ?_
       refine AnyL.tT 9 (by exact X0.out) ?_
       refine AnyL.tT 10 (by exact X0.out) ?_
       refine AnyL.tT 11 (by exact X0.out) ?_
       refine AnyL.tT 12 (by exact X0.out) ?_
       refine AnyL.twoM (i := 8) (j := 15) (by kernel_rfl) (by rfl) (by rfl) (fun K hK => ?_) (fun K hK => ?_)
       ·go_simp
        have HCC := qd (HMI.out _ (show w.grownBy _ none from HS3.out.tl.tl.tl.tl.hd))
        go_at_call 76
        with_reducible refine HCC.out.mono ?_
        rintro e wqc ⟨aCI, cCI, rfl, hsg⟩
        have HSqc := qd (HS3.out.graft1 hsg OI_own)
        clear hsg HCC
        refine shutNx hK _ (by exact HBM.out _ _ HSqc.out (by simp) (by simp)) (by exact fun _ => trivial) ?_
        clear hK K
        refine AnyL.twoM (i := 13) (j := 15) (by kernel_rfl) (by rfl) (by rfl) (fun K hK => ?_) (fun K hK => ?_)
        ·go_simp
         have HCC := qd (HMO2.out _ (show w.grownBy _ none from HSqc.out.tl.tl.tl.tl.tl.hd))
         go_at_call 76
         with_reducible refine HCC.out.mono ?_
         rintro e wqcc ⟨aCO, cCO, rfl, hsg⟩
         have HSqcc := qd (HSqc.out.graft1 hsg OI_own)
         clear hsg HCC
         refine shutNx hK _ (by exact HBM.out _ _ HSqcc.out (by simp) (by simp)) (by exact fun _ => trivial) ?_
         clear hK K
         refine AnyL.tT 14 (by exact HBM.out _ _ HSqcc.out (by simp) (by simp)) ?_
         refine AnyL.step (i := 15) (by kernel_rfl) (by rfl) (fun K hK => ?_)
         go_simp
         have HSqccz := qd (HSqcc.out.boxAt (wqcc.heap.size) (by rfl) #[.int .i64 0, .int .i64 0, .slice none 0 0, .slice none 0 0] 104)
         refine shutNx hK (wqcc.alloc (.cells #[.int .i64 0, .int .i64 0, .slice none 0 0, .slice none 0 0] 104)) (by exact HBM.out _ _ HSqccz.out (by simp) (by simp)) (by exact fun _ => trivial) ?_
         clear hK K
         generalize wqcc.alloc (.cells #[.int .i64 0, .int .i64 0, .slice none 0 0, .slice none 0 0] 104) = wqccz at *
         generalize wqcc.heap.size = nb at *
         have hz := HSqccz.out
         obtain ⟨y0, y1, y2, y3, ff0, ff1, ff2, ff3⟩ := gq4 hz.hd
         have HZ9 := qd ((((hz.setB 0 (.int .i64 ek)).setB 1 (.int .i64 ev)).setB 2 (.slice aCI la cCI)).setB 3 (.slice aCO lo cCO))
         clear hz
         refine AnyL.step (i := 16) (by kernel_rfl) (by rfl) (fun K hK => ?_)
         go_simp
         refine shutNx hK ((((wqccz.setCell ⟨nb, 0, none⟩ (.int .i64 ek)).setCell ⟨nb, 1, none⟩ (.int .i64 ev)).setCell ⟨nb, 2, none⟩ (.slice aCI la cCI)).setCell ⟨nb, 3, none⟩ (.slice aCO lo cCO)) (by exact HBM.out _ _ HZ9.out (by simp) (by simp)) (by exact fun _ => trivial) ?_
         clear hK K
         refine AnyL.done (by kernel_rfl) ?_ _
         generalize ((((wqccz.setCell ⟨nb, 0, none⟩ (.int .i64 ek)).setCell ⟨nb, 1, none⟩ (.int .i64 ev)).setCell ⟨nb, 2, none⟩ (.slice aCI la cCI)).setCell ⟨nb, 3, none⟩ (.slice aCO lo cCO)) = w9 at *
         clear y0 y1 y2 y3 ff0 ff1 ff2 ff3
         have HSY := qd HZ9.out.dr
         clear HZ9 HBM X0
         have HBN := qd fun (W1 : World) (L : List Asrt) (h : Sep W1 L) (h1 : BxA nb #[.int .i64 ek, .int .i64 ev, .slice aCI la cCI, .slice aCO lo cCO] 104 ∈ L) (h2 : BxA (w.heap.size + 2) #[.slice wa lw wc, .slice (some ⟨b2, o2, none⟩) le ec] 48 ∈ L) (h3 : BxA w.heap.size #[.int .i64 N, .slice (some ⟨b3, o3, none⟩) ne gc, .slice gi ni gd, .slice go_ no ge] 38 ∈ L) (h4 : KeepA w ∈ L) => show (W1.cell? ⟨nb, 0, none⟩ = some (.int .i64 ek) ∧ W1.cell? ⟨nb, 1, none⟩ = some (.int .i64 ev) ∧ W1.cell? ⟨nb, 2, none⟩ = some (.slice aCI la cCI) ∧ W1.cell? ⟨nb, 3, none⟩ = some (.slice aCO lo cCO)) ∧ W1.cell? ⟨w.heap.size, 1, none⟩ = some (.slice (some ⟨b3, o3, none⟩) ne gc) ∧ W1.cell? ⟨w.heap.size + 2, 1, none⟩ = some (.slice (some ⟨b2, o2, none⟩) le ec) ∧ W1.cell? ⟨b2, o2 + k, none⟩ = some (.int .i64 f) ∧ W1.cell? ⟨b3, o3 + f * 4, none⟩ = some (.int .i64 fk) ∧ W1.cell? ⟨b3, o3 + f * 4 + 1, none⟩ = some (.int .i64 fv) ∧ W1.cell? ⟨b3, o3 + f * 4 + 2, none⟩ = some (.slice ja lf jc) ∧ W1.cell? ⟨b3, o3 + f * 4 + 3, none⟩ = some (.slice ra lg rc) from by
          obtain ⟨p0, p1, p2, p3, _⟩ := gq4 (show W1.heap[nb]? = some (.cells #[.int .i64 ek, .int .i64 ev, .slice aCI la cCI, .slice aCO lo cCO] 104 (0, 0)) from Sep.all h _ h1)
          have hK : w.grownBy W1 none := Sep.all h _ h4
          obtain ⟨b', o', e', _, hc⟩ := (HE.out.carry hK).atD HLE2.out
          cases e'
          rw [HFF.out] at hc
          obtain ⟨r0, r1, r2, r3⟩ := HRC.out W1 hK
          exact ⟨⟨p0, p1, p2, p3⟩, (gq4 (show W1.heap[w.heap.size]? = some (.cells #[.int .i64 N, .slice (some ⟨b3, o3, none⟩) ne gc, .slice gi ni gd, .slice go_ no ge] 38 (0, 0)) from Sep.all h _ h3)).2.1, (bw2 (show W1.heap[w.heap.size + 2]? = some (.cells #[.slice wa lw wc, .slice (some ⟨b2, o2, none⟩) le ec] 48 (0, 0)) from Sep.all h _ h2)).2.1, hc, r0, r1, r2, r3⟩
         have hk0 : (0 : Int) ≤ (k : Int) := by omega
         have hkl : (k : Int) < (le : Int) := by have := HLM.out; have := HKE.out; omega
         have hf0 : (0 : Int) ≤ (f : Int) := by omega
         have hfn : (f : Int) < (ne : Int) := by have := HFN.out; omega
         have X1 := qd (HBN.out _ _ HSY.out (by simp) (by simp) (by simp) (by simp))
         go_upto_region 7 with fail
         refine AnyL.start (fun W1 => (W1.cell? ⟨nb, 0, none⟩ = some (.int .i64 ek) ∧ W1.cell? ⟨nb, 1, none⟩ = some (.int .i64 ev) ∧ W1.cell? ⟨nb, 2, none⟩ = some (.slice aCI la cCI) ∧ W1.cell? ⟨nb, 3, none⟩ = some (.slice aCO lo cCO)) ∧ W1.cell? ⟨w.heap.size, 1, none⟩ = some (.slice (some ⟨b3, o3, none⟩) ne gc) ∧ W1.cell? ⟨w.heap.size + 2, 1, none⟩ = some (.slice (some ⟨b2, o2, none⟩) le ec) ∧ W1.cell? ⟨b2, o2 + k, none⟩ = some (.int .i64 f) ∧ W1.cell? ⟨b3, o3 + f * 4, none⟩ = some (.int .i64 fk) ∧ W1.cell? ⟨b3, o3 + f * 4 + 1, none⟩ = some (.int .i64 fv) ∧ W1.cell? ⟨b3, o3 + f * 4 + 2, none⟩ = some (.slice ja lf jc) ∧ W1.cell? ⟨b3, o3 + f * 4 + 3, none⟩ = some (.slice ra lg rc)) (fun _ => True) 99 (by kernel_rfl) ?_
         generalize w9.drew = wd at *
         refine AnyL.tT 0 (by exact X1.out) ?_
         refine AnyL.tT 1 (by exact X1.out) ?_
         refine AnyL.tT 2 (by exact X1.out) ?_
         refine AnyL.tT 3 (by exact X1.out) ?_
         refine AnyL.tT 4 (by exact X1.out) ?_
         refine AnyL.tT 5 (by exact X1.out) ?_
         refine AnyL.tT 6 (by exact X1.out) ?_
         refine AnyL.tT 7 (by exact X1.out) ?_
         refine AnyL.tT 8 (by exact X1.out) ?_
         refine AnyL.tT 9 (by exact X1.out) ?_
         have HKD := qd (show w.grownBy wd none from HSY.out.tl.tl.tl.tl.tl.tl.tl.hd)
         have HCE := qd (HEE.out wd HKD.out _ _ (show OwnInts 0 wd (.slice aCI la cCI) mi_ from HSY.out.tl.tl.hd).read (show OwnInts 0 wd (.slice aCO lo cCO) mo_ from HSY.out.tl.hd).read)
         refine AnyL.step (i := 10) (by kernel_rfl) (by rfl) (fun K hK => ?_)
         go_simp
         go_at_call 111
         with_reducible refine HCE.out.mono ?_
         rintro e we ⟨rfl, hg⟩
         have HSZ := qd (HSY.out.grown hg)
         clear hg HCE
         refine shutNx hK _ (by exact HBN.out _ _ HSZ.out (by simp) (by simp) (by simp) (by simp)) (by exact fun _ => trivial) ?_
         clear hK K
         refine AnyL.tT 11 (by exact HBN.out _ _ HSZ.out (by simp) (by simp) (by simp) (by simp)) ?_
         refine AnyL.done (by kernel_rfl) ?_ _
         clear hk0 hkl hf0 hfn X1 HBN
         cases bb
         ·have HF := qd (show rb = false from HNK.out fun h => by have h2 : edEq _ _ = true := tst_iff.2 h; rw [HBB.out] at h2; cases h2)
          have HKZ := qd (show w.grownBy we none from HSZ.out.tl.tl.tl.tl.tl.tl.tl.hd)
          go_wp2_with fail
          go_ret
          exact ⟨by rw [HF.out]; rfl, HKZ.out⟩
         ·have HNW := qd (show mvE W (p.es.getD k e0) = edAt g.es (E.getD k 0) from by rw [HY.out, HED.out]; exact tst_iff.1 HBB.out)
          have hmb := HMB.out
          have hkm := HKE.out
          go_wp2_with fail
          go_roundw
          case rel => exact ⟨k + 1, by have := HKE.out; omega, by go_num, fun j hj => by
           by_cases e : j = k
           ·subst e; exact HNW.out
           ·exact HN.out j (by omega), HSZ.out.tl.tl.tl.tl⟩
          case measure => have := HKE.out; simp [intOf]; omega
        ·go_simp
         have HSqcz := qd (HSqc.out.boxAt (wqc.heap.size) (by rfl) #[.int .i64 0, .int .i64 0, .slice none 0 0, .slice none 0 0] 104)
         refine shutNx hK (wqc.alloc (.cells #[.int .i64 0, .int .i64 0, .slice none 0 0, .slice none 0 0] 104)) (by exact HBM.out _ _ HSqcz.out (by simp) (by simp)) (by exact fun _ => trivial) ?_
         clear hK K
         generalize wqc.alloc (.cells #[.int .i64 0, .int .i64 0, .slice none 0 0, .slice none 0 0] 104) = wqcz at *
         generalize wqc.heap.size = nb at *
         refine AnyL.step (i := 13) (by kernel_rfl) (by rfl) (fun K hK => ?_)
         go_simp
         have HCC := qd (HMO2.out _ (show w.grownBy _ none from HSqcz.out.tl.tl.tl.tl.tl.tl.hd))
         go_at_call 76
         with_reducible refine HCC.out.mono ?_
         rintro e wqczc ⟨aCO, cCO, rfl, hsg⟩
         have HSqczc := qd (HSqcz.out.graft1 hsg OI_own)
         clear hsg HCC
         refine shutNx hK _ (by exact HBM.out _ _ HSqczc.out (by simp) (by simp)) (by exact fun _ => trivial) ?_
         clear hK K
         refine AnyL.tT 14 (by exact HBM.out _ _ HSqczc.out (by simp) (by simp)) ?_
         have hz := Sep.blk (A := [_]) (B := [_]) HSqczc.out
         obtain ⟨y0, y1, y2, y3, ff0, ff1, ff2, ff3⟩ := gq4 hz.hd
         have HZ9 := qd ((((hz.setB 0 (.int .i64 ek)).setB 1 (.int .i64 ev)).setB 2 (.slice aCI la cCI)).setB 3 (.slice aCO lo cCO))
         clear hz
         refine AnyL.step (i := 16) (by kernel_rfl) (by rfl) (fun K hK => ?_)
         go_simp
         refine shutNx hK ((((wqczc.setCell ⟨nb, 0, none⟩ (.int .i64 ek)).setCell ⟨nb, 1, none⟩ (.int .i64 ev)).setCell ⟨nb, 2, none⟩ (.slice aCI la cCI)).setCell ⟨nb, 3, none⟩ (.slice aCO lo cCO)) (by exact HBM.out _ _ HZ9.out (by simp) (by simp)) (by exact fun _ => trivial) ?_
         clear hK K
         refine AnyL.done (by kernel_rfl) ?_ _
         generalize ((((wqczc.setCell ⟨nb, 0, none⟩ (.int .i64 ek)).setCell ⟨nb, 1, none⟩ (.int .i64 ev)).setCell ⟨nb, 2, none⟩ (.slice aCI la cCI)).setCell ⟨nb, 3, none⟩ (.slice aCO lo cCO)) = w9 at *
         clear y0 y1 y2 y3 ff0 ff1 ff2 ff3
         have HSY := qd HZ9.out.dr
         clear HZ9 HBM X0
         have HBN := qd fun (W1 : World) (L : List Asrt) (h : Sep W1 L) (h1 : BxA nb #[.int .i64 ek, .int .i64 ev, .slice aCI la cCI, .slice aCO lo cCO] 104 ∈ L) (h2 : BxA (w.heap.size + 2) #[.slice wa lw wc, .slice (some ⟨b2, o2, none⟩) le ec] 48 ∈ L) (h3 : BxA w.heap.size #[.int .i64 N, .slice (some ⟨b3, o3, none⟩) ne gc, .slice gi ni gd, .slice go_ no ge] 38 ∈ L) (h4 : KeepA w ∈ L) => show (W1.cell? ⟨nb, 0, none⟩ = some (.int .i64 ek) ∧ W1.cell? ⟨nb, 1, none⟩ = some (.int .i64 ev) ∧ W1.cell? ⟨nb, 2, none⟩ = some (.slice aCI la cCI) ∧ W1.cell? ⟨nb, 3, none⟩ = some (.slice aCO lo cCO)) ∧ W1.cell? ⟨w.heap.size, 1, none⟩ = some (.slice (some ⟨b3, o3, none⟩) ne gc) ∧ W1.cell? ⟨w.heap.size + 2, 1, none⟩ = some (.slice (some ⟨b2, o2, none⟩) le ec) ∧ W1.cell? ⟨b2, o2 + k, none⟩ = some (.int .i64 f) ∧ W1.cell? ⟨b3, o3 + f * 4, none⟩ = some (.int .i64 fk) ∧ W1.cell? ⟨b3, o3 + f * 4 + 1, none⟩ = some (.int .i64 fv) ∧ W1.cell? ⟨b3, o3 + f * 4 + 2, none⟩ = some (.slice ja lf jc) ∧ W1.cell? ⟨b3, o3 + f * 4 + 3, none⟩ = some (.slice ra lg rc) from by
          obtain ⟨p0, p1, p2, p3, _⟩ := gq4 (show W1.heap[nb]? = some (.cells #[.int .i64 ek, .int .i64 ev, .slice aCI la cCI, .slice aCO lo cCO] 104 (0, 0)) from Sep.all h _ h1)
          have hK : w.grownBy W1 none := Sep.all h _ h4
          obtain ⟨b', o', e', _, hc⟩ := (HE.out.carry hK).atD HLE2.out
          cases e'
          rw [HFF.out] at hc
          obtain ⟨r0, r1, r2, r3⟩ := HRC.out W1 hK
          exact ⟨⟨p0, p1, p2, p3⟩, (gq4 (show W1.heap[w.heap.size]? = some (.cells #[.int .i64 N, .slice (some ⟨b3, o3, none⟩) ne gc, .slice gi ni gd, .slice go_ no ge] 38 (0, 0)) from Sep.all h _ h3)).2.1, (bw2 (show W1.heap[w.heap.size + 2]? = some (.cells #[.slice wa lw wc, .slice (some ⟨b2, o2, none⟩) le ec] 48 (0, 0)) from Sep.all h _ h2)).2.1, hc, r0, r1, r2, r3⟩
         have hk0 : (0 : Int) ≤ (k : Int) := by omega
         have hkl : (k : Int) < (le : Int) := by have := HLM.out; have := HKE.out; omega
         have hf0 : (0 : Int) ≤ (f : Int) := by omega
         have hfn : (f : Int) < (ne : Int) := by have := HFN.out; omega
         have X1 := qd (HBN.out _ _ HSY.out (by simp) (by simp) (by simp) (by simp))
         go_upto_region 7 with fail
         refine AnyL.start (fun W1 => (W1.cell? ⟨nb, 0, none⟩ = some (.int .i64 ek) ∧ W1.cell? ⟨nb, 1, none⟩ = some (.int .i64 ev) ∧ W1.cell? ⟨nb, 2, none⟩ = some (.slice aCI la cCI) ∧ W1.cell? ⟨nb, 3, none⟩ = some (.slice aCO lo cCO)) ∧ W1.cell? ⟨w.heap.size, 1, none⟩ = some (.slice (some ⟨b3, o3, none⟩) ne gc) ∧ W1.cell? ⟨w.heap.size + 2, 1, none⟩ = some (.slice (some ⟨b2, o2, none⟩) le ec) ∧ W1.cell? ⟨b2, o2 + k, none⟩ = some (.int .i64 f) ∧ W1.cell? ⟨b3, o3 + f * 4, none⟩ = some (.int .i64 fk) ∧ W1.cell? ⟨b3, o3 + f * 4 + 1, none⟩ = some (.int .i64 fv) ∧ W1.cell? ⟨b3, o3 + f * 4 + 2, none⟩ = some (.slice ja lf jc) ∧ W1.cell? ⟨b3, o3 + f * 4 + 3, none⟩ = some (.slice ra lg rc)) (fun _ => True) 99 (by kernel_rfl) ?_
         generalize w9.drew = wd at *
         refine AnyL.tT 0 (by exact X1.out) ?_
         refine AnyL.tT 1 (by exact X1.out) ?_
         refine AnyL.tT 2 (by exact X1.out) ?_
         refine AnyL.tT 3 (by exact X1.out) ?_
         refine AnyL.tT 4 (by exact X1.out) ?_
         refine AnyL.tT 5 (by exact X1.out) ?_
         refine AnyL.tT 6 (by exact X1.out) ?_
         refine AnyL.tT 7 (by exact X1.out) ?_
         refine AnyL.tT 8 (by exact X1.out) ?_
         refine AnyL.tT 9 (by exact X1.out) ?_
         have HKD := qd (show w.grownBy wd none from HSY.out.tl.tl.tl.tl.tl.tl.tl.hd)
         have HCE := qd (HEE.out wd HKD.out _ _ (show OwnInts 0 wd (.slice aCI la cCI) mi_ from HSY.out.tl.tl.hd).read (show OwnInts 0 wd (.slice aCO lo cCO) mo_ from HSY.out.tl.hd).read)
         refine AnyL.step (i := 10) (by kernel_rfl) (by rfl) (fun K hK => ?_)
         go_simp
         go_at_call 111
         with_reducible refine HCE.out.mono ?_
         rintro e we ⟨rfl, hg⟩
         have HSZ := qd (HSY.out.grown hg)
         clear hg HCE
         refine shutNx hK _ (by exact HBN.out _ _ HSZ.out (by simp) (by simp) (by simp) (by simp)) (by exact fun _ => trivial) ?_
         clear hK K
         refine AnyL.tT 11 (by exact HBN.out _ _ HSZ.out (by simp) (by simp) (by simp) (by simp)) ?_
         refine AnyL.done (by kernel_rfl) ?_ _
         clear hk0 hkl hf0 hfn X1 HBN
         cases bb
         ·have HF := qd (show rb = false from HNK.out fun h => by have h2 : edEq _ _ = true := tst_iff.2 h; rw [HBB.out] at h2; cases h2)
          have HKZ := qd (show w.grownBy we none from HSZ.out.tl.tl.tl.tl.tl.tl.tl.hd)
          go_wp2_with fail
          go_ret
          exact ⟨by rw [HF.out]; rfl, HKZ.out⟩
         ·have HNW := qd (show mvE W (p.es.getD k e0) = edAt g.es (E.getD k 0) from by rw [HY.out, HED.out]; exact tst_iff.1 HBB.out)
          have hmb := HMB.out
          have hkm := HKE.out
          go_wp2_with fail
          go_roundw
          case rel => exact ⟨k + 1, by have := HKE.out; omega, by go_num, fun j hj => by
           by_cases e : j = k
           ·subst e; exact HNW.out
           ·exact HN.out j (by omega), HSZ.out.tl.tl.tl.tl⟩
          case measure => have := HKE.out; simp [intOf]; omega
       ·go_simp
        have HSqz := qd (HS3.out.boxAt (w4.heap.size) (by rfl) #[.int .i64 0, .int .i64 0, .slice none 0 0, .slice none 0 0] 104)
        refine shutNx hK (w4.alloc (.cells #[.int .i64 0, .int .i64 0, .slice none 0 0, .slice none 0 0] 104)) (by exact HBM.out _ _ HSqz.out (by simp) (by simp)) (by exact fun _ => trivial) ?_
        clear hK K
        generalize w4.alloc (.cells #[.int .i64 0, .int .i64 0, .slice none 0 0, .slice none 0 0] 104) = wqz at *
        generalize w4.heap.size = nb at *
        refine AnyL.step (i := 8) (by kernel_rfl) (by rfl) (fun K hK => ?_)
        go_simp
        have HCC := qd (HMI.out _ (show w.grownBy _ none from HSqz.out.tl.tl.tl.tl.tl.hd))
        go_at_call 76
        with_reducible refine HCC.out.mono ?_
        rintro e wqzc ⟨aCI, cCI, rfl, hsg⟩
        have HSqzc := qd (HSqz.out.graft1 hsg OI_own)
        clear hsg HCC
        refine shutNx hK _ (by exact HBM.out _ _ HSqzc.out (by simp) (by simp)) (by exact fun _ => trivial) ?_
        clear hK K
        refine AnyL.step (i := 13) (by kernel_rfl) (by rfl) (fun K hK => ?_)
        go_simp
        have HCC := qd (HMO2.out _ (show w.grownBy _ none from HSqzc.out.tl.tl.tl.tl.tl.tl.hd))
        go_at_call 76
        with_reducible refine HCC.out.mono ?_
        rintro e wqzcc ⟨aCO, cCO, rfl, hsg⟩
        have HSqzcc := qd (HSqzc.out.graft1 hsg OI_own)
        clear hsg HCC
        refine shutNx hK _ (by exact HBM.out _ _ HSqzcc.out (by simp) (by simp)) (by exact fun _ => trivial) ?_
        clear hK K
        refine AnyL.tT 14 (by exact HBM.out _ _ HSqzcc.out (by simp) (by simp)) ?_
        have hz := Sep.blk (A := [_, _]) (B := [_]) HSqzcc.out
        obtain ⟨y0, y1, y2, y3, ff0, ff1, ff2, ff3⟩ := gq4 hz.hd
        have HZ9 := qd ((((hz.setB 0 (.int .i64 ek)).setB 1 (.int .i64 ev)).setB 2 (.slice aCI la cCI)).setB 3 (.slice aCO lo cCO))
        clear hz
        refine AnyL.step (i := 16) (by kernel_rfl) (by rfl) (fun K hK => ?_)
        go_simp
        refine shutNx hK ((((wqzcc.setCell ⟨nb, 0, none⟩ (.int .i64 ek)).setCell ⟨nb, 1, none⟩ (.int .i64 ev)).setCell ⟨nb, 2, none⟩ (.slice aCI la cCI)).setCell ⟨nb, 3, none⟩ (.slice aCO lo cCO)) (by exact HBM.out _ _ HZ9.out (by simp) (by simp)) (by exact fun _ => trivial) ?_
        clear hK K
        refine AnyL.done (by kernel_rfl) ?_ _
        generalize ((((wqzcc.setCell ⟨nb, 0, none⟩ (.int .i64 ek)).setCell ⟨nb, 1, none⟩ (.int .i64 ev)).setCell ⟨nb, 2, none⟩ (.slice aCI la cCI)).setCell ⟨nb, 3, none⟩ (.slice aCO lo cCO)) = w9 at *
        clear y0 y1 y2 y3 ff0 ff1 ff2 ff3
        have HSY := qd HZ9.out.dr
        clear HZ9 HBM X0
        have HBN := qd fun (W1 : World) (L : List Asrt) (h : Sep W1 L) (h1 : BxA nb #[.int .i64 ek, .int .i64 ev, .slice aCI la cCI, .slice aCO lo cCO] 104 ∈ L) (h2 : BxA (w.heap.size + 2) #[.slice wa lw wc, .slice (some ⟨b2, o2, none⟩) le ec] 48 ∈ L) (h3 : BxA w.heap.size #[.int .i64 N, .slice (some ⟨b3, o3, none⟩) ne gc, .slice gi ni gd, .slice go_ no ge] 38 ∈ L) (h4 : KeepA w ∈ L) => show (W1.cell? ⟨nb, 0, none⟩ = some (.int .i64 ek) ∧ W1.cell? ⟨nb, 1, none⟩ = some (.int .i64 ev) ∧ W1.cell? ⟨nb, 2, none⟩ = some (.slice aCI la cCI) ∧ W1.cell? ⟨nb, 3, none⟩ = some (.slice aCO lo cCO)) ∧ W1.cell? ⟨w.heap.size, 1, none⟩ = some (.slice (some ⟨b3, o3, none⟩) ne gc) ∧ W1.cell? ⟨w.heap.size + 2, 1, none⟩ = some (.slice (some ⟨b2, o2, none⟩) le ec) ∧ W1.cell? ⟨b2, o2 + k, none⟩ = some (.int .i64 f) ∧ W1.cell? ⟨b3, o3 + f * 4, none⟩ = some (.int .i64 fk) ∧ W1.cell? ⟨b3, o3 + f * 4 + 1, none⟩ = some (.int .i64 fv) ∧ W1.cell? ⟨b3, o3 + f * 4 + 2, none⟩ = some (.slice ja lf jc) ∧ W1.cell? ⟨b3, o3 + f * 4 + 3, none⟩ = some (.slice ra lg rc) from by
         obtain ⟨p0, p1, p2, p3, _⟩ := gq4 (show W1.heap[nb]? = some (.cells #[.int .i64 ek, .int .i64 ev, .slice aCI la cCI, .slice aCO lo cCO] 104 (0, 0)) from Sep.all h _ h1)
         have hK : w.grownBy W1 none := Sep.all h _ h4
         obtain ⟨b', o', e', _, hc⟩ := (HE.out.carry hK).atD HLE2.out
         cases e'
         rw [HFF.out] at hc
         obtain ⟨r0, r1, r2, r3⟩ := HRC.out W1 hK
         exact ⟨⟨p0, p1, p2, p3⟩, (gq4 (show W1.heap[w.heap.size]? = some (.cells #[.int .i64 N, .slice (some ⟨b3, o3, none⟩) ne gc, .slice gi ni gd, .slice go_ no ge] 38 (0, 0)) from Sep.all h _ h3)).2.1, (bw2 (show W1.heap[w.heap.size + 2]? = some (.cells #[.slice wa lw wc, .slice (some ⟨b2, o2, none⟩) le ec] 48 (0, 0)) from Sep.all h _ h2)).2.1, hc, r0, r1, r2, r3⟩
        have hk0 : (0 : Int) ≤ (k : Int) := by omega
        have hkl : (k : Int) < (le : Int) := by have := HLM.out; have := HKE.out; omega
        have hf0 : (0 : Int) ≤ (f : Int) := by omega
        have hfn : (f : Int) < (ne : Int) := by have := HFN.out; omega
        have X1 := qd (HBN.out _ _ HSY.out (by simp) (by simp) (by simp) (by simp))
        go_upto_region 7 with fail
        refine AnyL.start (fun W1 => (W1.cell? ⟨nb, 0, none⟩ = some (.int .i64 ek) ∧ W1.cell? ⟨nb, 1, none⟩ = some (.int .i64 ev) ∧ W1.cell? ⟨nb, 2, none⟩ = some (.slice aCI la cCI) ∧ W1.cell? ⟨nb, 3, none⟩ = some (.slice aCO lo cCO)) ∧ W1.cell? ⟨w.heap.size, 1, none⟩ = some (.slice (some ⟨b3, o3, none⟩) ne gc) ∧ W1.cell? ⟨w.heap.size + 2, 1, none⟩ = some (.slice (some ⟨b2, o2, none⟩) le ec) ∧ W1.cell? ⟨b2, o2 + k, none⟩ = some (.int .i64 f) ∧ W1.cell? ⟨b3, o3 + f * 4, none⟩ = some (.int .i64 fk) ∧ W1.cell? ⟨b3, o3 + f * 4 + 1, none⟩ = some (.int .i64 fv) ∧ W1.cell? ⟨b3, o3 + f * 4 + 2, none⟩ = some (.slice ja lf jc) ∧ W1.cell? ⟨b3, o3 + f * 4 + 3, none⟩ = some (.slice ra lg rc)) (fun _ => True) 99 (by kernel_rfl) ?_
        generalize w9.drew = wd at *
        refine AnyL.tT 0 (by exact X1.out) ?_
        refine AnyL.tT 1 (by exact X1.out) ?_
        refine AnyL.tT 2 (by exact X1.out) ?_
        refine AnyL.tT 3 (by exact X1.out) ?_
        refine AnyL.tT 4 (by exact X1.out) ?_
        refine AnyL.tT 5 (by exact X1.out) ?_
        refine AnyL.tT 6 (by exact X1.out) ?_
        refine AnyL.tT 7 (by exact X1.out) ?_
        refine AnyL.tT 8 (by exact X1.out) ?_
        refine AnyL.tT 9 (by exact X1.out) ?_
        have HKD := qd (show w.grownBy wd none from HSY.out.tl.tl.tl.tl.tl.tl.tl.hd)
        have HCE := qd (HEE.out wd HKD.out _ _ (show OwnInts 0 wd (.slice aCI la cCI) mi_ from HSY.out.tl.tl.hd).read (show OwnInts 0 wd (.slice aCO lo cCO) mo_ from HSY.out.tl.hd).read)
        refine AnyL.step (i := 10) (by kernel_rfl) (by rfl) (fun K hK => ?_)
        go_simp
        go_at_call 111
        with_reducible refine HCE.out.mono ?_
        rintro e we ⟨rfl, hg⟩
        have HSZ := qd (HSY.out.grown hg)
        clear hg HCE
        refine shutNx hK _ (by exact HBN.out _ _ HSZ.out (by simp) (by simp) (by simp) (by simp)) (by exact fun _ => trivial) ?_
        clear hK K
        refine AnyL.tT 11 (by exact HBN.out _ _ HSZ.out (by simp) (by simp) (by simp) (by simp)) ?_
        refine AnyL.done (by kernel_rfl) ?_ _
        clear hk0 hkl hf0 hfn X1 HBN
        cases bb
        ·have HF := qd (show rb = false from HNK.out fun h => by have h2 : edEq _ _ = true := tst_iff.2 h; rw [HBB.out] at h2; cases h2)
         have HKZ := qd (show w.grownBy we none from HSZ.out.tl.tl.tl.tl.tl.tl.tl.hd)
         go_wp2_with fail
         go_ret
         exact ⟨by rw [HF.out]; rfl, HKZ.out⟩
        ·have HNW := qd (show mvE W (p.es.getD k e0) = edAt g.es (E.getD k 0) from by rw [HY.out, HED.out]; exact tst_iff.1 HBB.out)
         have hmb := HMB.out
         have hkm := HKE.out
         go_wp2_with fail
         go_roundw
         case rel => exact ⟨k + 1, by have := HKE.out; omega, by go_num, fun j hj => by
          by_cases e : j = k
          ·subst e; exact HNW.out
          ·exact HN.out j (by omega), HSZ.out.tl.tl.tl.tl⟩
         case measure => have := HKE.out; simp [intOf]; omega
      ·have hkm : k = me := by omega
       subst hkm
       have HF := qd (show rb = true from HYE.out HMO.out fun j hj => HN.out j hj)
       have HKZ := qd (show w.grownBy wr none from HSX.out.tl.tl.tl.hd)
       have hkk : ¬ (k : Int) < (k : Int) := by omega
       clear hlt
       go_wp2_with fail
       go_ret
       exact ⟨by rw [HF.out]; rfl, HKZ.out⟩
  ·have HF := qd (show rb = false from HNO.out fun h => h2 (HOK.out.1 h).2.1)
   have hnf : ((lw : Int) != pn) = false := by simpa using h1
   have hng : ((le : Int) != (me : Int)) = true := by simp; omega
   clear h1 h2
   go_enter Tryz.func71, Tryz.ntmps71
   go_wp2_with fail
   go_ret
   exact ⟨by rw [HF.out]; rfl, HK0.out⟩
 ·have HF := qd (show rb = false from HNO.out fun h => h1 (HOK.out.1 h).1)
  have hne : ((lw : Int) != pn) = true := by simpa using h1
  clear h1
  go_enter Tryz.func71, Tryz.ntmps71
  go_wp2_with fail
  go_ret
  exact ⟨by rw [HF.out]; rfl, HK0.out⟩
end Go.Proofs.YtjagjhchnpmngaaGreat

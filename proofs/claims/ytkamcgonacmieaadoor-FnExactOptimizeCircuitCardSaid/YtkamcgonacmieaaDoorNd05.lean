/-
  OptimizeCircuit in the program: the walk. Conditions: the table of small primes holds what its text lays; at most 2,000,000 gates and outputs.
-/
import Derived.Test.YtkamcgonacmieaaDoorNd04
namespace Go.Proofs.YtkamcgonacmieaaDoor
open Go.RowKit
set_option linter.unusedVariables false
set_option maxRecDepth 100000

theorem CirRes.of {R : Circ} {w w' : World} {a1 a2 : Option Addr} {c1 c2 : Nat} (h : Sep w' [OR gateE (.slice a1 R.gs.length c1) R.gs, OI (.slice a2 R.os.length c2) R.os, KeepA w]) :
    CirRes R true w (.returned (.tuple #[.agg #[.int .i64 R.n, .slice a1 R.gs.length c1, .slice a2 R.os.length c2], .bool true])) w' := ⟨a1, c1, a2, c2, rfl, h⟩
set_option maxHeartbeats 8000000 in
theorem iOptimize_any (p n : Int) (gv ov : Value) (gs0 : List Gt) (os0 : List Int) (w : World) (ht : Tab w) (hg : RdR gateE w gv gs0) (ho : IntsV w ov os0) (l1 : gs0.length ≤ 2000000) (l2 : os0.length ≤ 2000000) :
    Calls Tryd.prog 12 #[.int .i64 p, cirV n gv ov] w (CirRes (optRes p ⟨n, gs0, os0⟩) (optOk p ⟨n, gs0, os0⟩) w) := by
  have HIC := Lib.hid fun W (h : w.grownBy W none) => isCircuit_any p n gv ov gs0 os0 W (ht.grown h) (hg.carry h) (ho.carry h) l1 l2
  cases hc : circE p ⟨n, gs0, os0⟩
  · have hok : optOk p ⟨n, gs0, os0⟩ = false := by unfold optOk; rw [hc]; rfl
    have hr : optRes p ⟨n, gs0, os0⟩ = circ0 := by unfold optRes; rw [hc]; rfl
    rw [hr, hok]
    rw [hc] at HIC
    obtain ⟨ga, gc, rfl⟩ := hg.shape
    obtain ⟨oa, oc, rfl⟩ := ho.shape
    unfold cirV at *
    clear hc hok hr hg ho
    have hs0 := ((Sep.start w).box #[.int .i64 n, .slice ga gs0.length gc, .slice oa os0.length oc] 29).box #[.int .i64 0, .slice none 0 0, .slice none 0 0] 29
    have e1 : (w.alloc (.cells #[.int .i64 n, .slice ga gs0.length gc, .slice oa os0.length oc] 29)).heap.size = w.heap.size + 1 := by simp
    rw [e1] at hs0
    have HS0 := Lib.hid hs0
    have HK0 := Lib.hid (show w.grownBy _ none from hs0.tl.tl.hd)
    clear hs0 e1
    generalize gs0.length = m at *
    generalize os0.length = m2 at *
    go_enter Tryd.func12, Tryd.ntmps12
    go_wp2_with fail
    refine wp_scope_straight ?_
    go_wp2_with (
      go_at_call 57
      with_reducible refine (HIC.out _ HK0.out).mono ?_
      rintro e w4 ⟨rfl, hg4⟩
      have hs1 := HS0.out.grown hg4
      obtain ⟨r0, r1, r2, r3, r4, r5⟩ := bx3 hs1.hd
      have hs2 := ((hs1.setB 0 (.int .i64 0)).setB 1 (.slice none 0 0)).setB 2 (.slice none 0 0)
      obtain ⟨t0, t1, t2, _⟩ := bx3 hs2.hd
      have HKF := Lib.hid (show w.grownBy _ none from hs2.tl.tl.hd)
      clear hg4 hs1 hs2)
    simp only [Exit.noGoto]
    refine bodyPost_ret_by (v := .tuple #[.agg #[.int .i64 0, .slice none 0 0, .slice none 0 0], .bool false]) ?_ rfl (CirRes.zero HKF.out)
    simp [results, go_sem, *]
  · have hF0 := pass_facts hc
    obtain ⟨RR, hRR⟩ : ∃ RR, RR = optC p ⟨n, gs0, os0⟩ := ⟨_, rfl⟩
    have hok : optOk p ⟨n, gs0, os0⟩ = RR.2 := by unfold optOk; rw [hc, hRR]; rfl
    have hr : optRes p ⟨n, gs0, os0⟩ = RR.1 := by unfold optRes; rw [if_pos hc, hRR]
    rw [hok, hr]
    rw [hc] at HIC
    obtain ⟨ga, gc, rfl⟩ := hg.shape
    obtain ⟨gd, rfl⟩ : ∃ d, ga = some d := by
      obtain ⟨b, o, e, _⟩ := hg.at (i := 0) (by have := hF0.l1; omega)
      exact ⟨_, e⟩
    have HCP := Lib.hid fun W (h : w.grownBy W none) => copy_any n gd gc ov gs0 os0 W (hg.carry h) (ho.carry h) (by have := hF0.l2; omega) (by have := hF0.l3; omega)
    obtain ⟨oa, oc, rfl⟩ := ho.shape
    have HC0 := Lib.hid hc; have HR0 := Lib.hid hRR; have HT := Lib.hid ht
    clear hc hok hr hg ho hRR hF0 ht
    unfold cirV at *
    have hs0 := ((Sep.start w).box #[.int .i64 n, .slice (some gd) gs0.length gc, .slice oa os0.length oc] 29).box #[.int .i64 0, .slice none 0 0, .slice none 0 0] 29
    have e1 : (w.alloc (.cells #[.int .i64 n, .slice (some gd) gs0.length gc, .slice oa os0.length oc] 29)).heap.size = w.heap.size + 1 := by simp
    rw [e1] at hs0
    have HS0 := Lib.hid hs0
    have HK0 := Lib.hid (show w.grownBy _ none from hs0.tl.tl.hd)
    clear hs0 e1
    go_enter Tryd.func12, Tryd.ntmps12
    go_wp2_with fail
    refine wp_scope_straight ?_
    go_wp2_with (first
      | (go_at_call 57
         with_reducible refine (HIC.out _ HK0.out).mono ?_
         rintro e w4 ⟨rfl, hg4⟩
         have HS1 := Lib.hid (HS0.out.grown hg4)
         have HK1 := Lib.hid (grownBy_trans HK0.out hg4)
         obtain ⟨x0, x1, x2, _⟩ := bx3 HS1.out.tl.hd
         clear hg4)
      | (go_at_call 58
         with_reducible refine (HCP.out _ HK1.out).mono ?_
         rintro e w5 ⟨a1, c1, a2, c2, rfl, hsg⟩
         have HS5 := Lib.hid ((HS1.out.graft2 hsg OR_own OI_own).box #[.int .i64 n, .slice a1 gs0.length c1, .slice a2 os0.length c2] 29)
         clear hsg))
    go_step3
    go_wp2_with fail
    generalize w5.heap.size = ob at *
    clear HIC HCP HK0
    obtain ⟨PB, hPB⟩ : ∃ PB, PB = #[Value.int .i64 n, .slice (some gd) gs0.length gc, .slice oa os0.length oc] := ⟨_, rfl⟩
    rw [← hPB] at HS5
    go_loopw [7] (fun _ wr => ∃ (gs : List Gt) (os : List Int) (a1 : Option Addr) (c1 : Nat) (a2 : Option Addr) (c2 : Nat), circE p ⟨n, gs, os⟩ = true ∧ optC p ⟨n, gs, os⟩ = RR ∧
      Sep wr [BxA ob #[.int .i64 n, .slice a1 gs.length c1, .slice a2 os.length c2] 29, OR gateE (.slice a1 gs.length c1) gs, OI (.slice a2 os.length c2) os, BxA (w.heap.size + 1) #[.int .i64 0, .slice none 0 0, .slice none 0 0] 29, BxA w.heap.size PB 29, KeepA w]) (fun _ wr => meaC (rdC wr ob))
    case atStart => exact ⟨gs0, os0, a1, c1, a2, c2, HC0.out, HR0.out.symm, HS5.out⟩
    case round =>
      obtain ⟨gs, os, a1, c1, a2, c2, hce, hop, hs⟩ := hrel
      clear HS5 HC0 HR0
      have HF := Lib.hid (pass_facts hce)
      obtain ⟨g1, rfl⟩ := OR_adr hs.tl.hd HF.out.l1
      have HME := Lib.hid (rdC_eq (CirAt.sep hs))
      have HS := Lib.hid hs
      have HCE := Lib.hid hce; have HOP := Lib.hid hop
      have HKW := Lib.hid (show w.grownBy wr none from hs.tl.tl.tl.tl.tl.hd)
      obtain ⟨x0, x1, x2, _⟩ := bx3 hs.hd
      have HRG := Lib.hid hs.tl.hd.read
      have HRO := Lib.hid hs.tl.tl.hd.read
      clear hs hop hce
      have HFZ := Lib.hid (foldZeros_any n ⟨g1, 0, none⟩ c1 (.slice a2 os.length c2) gs os wr HRG.out HRO.out (by have := HF.out.l1; omega) (by have := HF.out.l2; omega) (by have := HF.out.l3; omega) HF.out.hg.ops)
      have HSM := Lib.hid fun W d c ov (h1 : RdR gateE W (.slice (some d) (g1L gs).length c) (g1L gs)) (h2 : IntsV W ov os) => simplify_any n d c ov (g1L gs) os W HF.out.hg1 HF.out.ho1 h1 h2 (by rw [g1_len]; exact HF.out.l1) (by rw [g1_len]; have := HF.out.l2; omega) (by have := HF.out.l3; omega)
      have HSH := Lib.hid fun W d c ov (h1 : RdR gateE W (.slice (some d) (g2L gs).length c) (g2L gs)) (h2 : IntsV W ov (o2L gs os)) => share_any n d c ov (g2L gs) (o2L gs os) W HF.out.hg2 HF.out.ho2 h1 h2 (by rw [g2_len]; exact HF.out.l1) (by rw [g2_len]; have := HF.out.l2; omega) (by rw [o2_len]; have := HF.out.l3; omega) HF.out.wf2
      have HPR := Lib.hid fun W gv ov (h : w.grownBy W none) (h1 : RdR gateE W gv (g3L gs)) (h2 : IntsV W ov (o3L gs os)) => iPrune_any p n gv ov (g3L gs) (o3L gs os) W (HT.out.grown h) h1 h2 (by rw [g3_len]; have := HF.out.l2; omega) (by rw [o3_len]; have := HF.out.l3; omega)
      rw [show foldL (silL gs) gs = g1L gs from rfl] at HFZ
      rw [show (g1L gs).map (withL (finL (g1L gs))) = g2L gs from rfl, show os.map (finL (g1L gs)) = o2L gs os from rfl, g1_len] at HSM
      rw [show (g2L gs).map (withL (ofL (finC (g2L gs)))) = g3L gs from rfl, show (o2L gs os).map (ofL (finC (g2L gs))) = o3L gs os from rfl, g2_len, o2_len] at HSH
      rw [← pre_is] at HPR
      unfold CirRes cirV at HPR
      unfold cirV at HFZ HSM HSH
      have HGL : ∀ a c (h : RdR gateE wr (.slice a gs.length c) (g1L gs)), True := fun _ _ _ => trivial
      clear HGL
      cases hk : pruOk p (preC ⟨n, gs, os⟩)
      · have hbad := opt_bad HCE.out hk
        rw [HOP.out] at hbad
        have hpr0 : pruRes p (preC ⟨n, gs, os⟩) = circ0 := by unfold pruRes; rw [hk]; rfl
        rw [hk, hpr0] at HPR
        simp only [circ0, List.length_nil] at HPR
        have HB := Lib.hid hbad
        have HL1 := Lib.hid HF.out.l1
        clear hk hbad hpr0 HOP HCE
        have HLG1 := Lib.hid (g1_len gs)
        have HLG2 := Lib.hid (g2_len gs)
        generalize g1L gs = G1 at *
        generalize g2L gs = G2 at *
        generalize g3L gs = G3 at *
        generalize o2L gs os = O2 at *
        generalize o3L gs os = O3 at *
        have HL2 := Lib.hid (show 0 < gs.length from HL1.out)
        generalize gs.length = m at *
        generalize os.length = m2 at *
        go_wp2_with (first
          | (go_at_call 60
             with_reducible refine HFZ.out.mono ?_
             rintro e w6 ⟨b1, d1, b2, d2, rfl, hsg⟩
             obtain ⟨hR, hI, hk6⟩ := hsg.reads
             obtain ⟨q1, rfl⟩ := OR_adr (n := m) hsg.hd (by rw [HLG1.out]; exact HL2.out)
             have HR6 := Lib.hid hR
             have HI6 := Lib.hid hI
             have HK6 := Lib.hid hk6
             clear hR hI hk6 hsg)
          | (go_at_call 61
             with_reducible refine (HSM.out _ _ _ _ HR6.out HI6.out).mono ?_
             rintro e w7 ⟨b3, d3, b4, d4, rfl, hsg⟩
             obtain ⟨hR, hI, hk7⟩ := hsg.reads
             obtain ⟨q3, rfl⟩ := OR_adr (n := m) hsg.hd (by rw [HLG2.out]; exact HL2.out)
             have HR7 := Lib.hid hR
             have HI7 := Lib.hid hI
             have HK7 := Lib.hid (grownBy_trans HK6.out hk7)
             clear hR hI hk7 hsg)
          | (go_at_call 62
             with_reducible refine (HSH.out _ _ _ _ HR7.out HI7.out).mono ?_
             rintro e w8 ⟨b5, d5, b6, d6, rfl, hsg⟩
             obtain ⟨hR, hI, hk8⟩ := hsg.reads
             have HR8 := Lib.hid hR
             have HI8 := Lib.hid hI
             have HK8 := Lib.hid (grownBy_trans HK7.out hk8)
             have HW8 := Lib.hid (grownBy_trans HKW.out HK8.out)
             clear hR hI hk8 hsg)
          | (go_at_call 59
             with_reducible refine (HPR.out _ _ _ HW8.out HR8.out HI8.out).mono ?_
             rintro e w9 ⟨b7, d7, b8, d8, rfl, hsg⟩
             have hs9 := (HS.out.grown (grownBy_trans HK8.out hsg.tl.tl.hd)).s4
             obtain ⟨r0, r1, r2, r3, r4, r5⟩ := bx3 hs9.hd
             have va := fun ob' => (bx3 (hs9.al ob').hd)
             have hs10 := (((hs9.al (.cells #[.int .i64 0, .slice b7 0 d7, .slice b8 0 d8] 29)).setB 0 (.int .i64 0)).setB 1 (.slice none 0 0)).setB 2 (.slice none 0 0)
             obtain ⟨t0, t1, t2, _⟩ := bx3 hs10.hd
             have HKF := Lib.hid (show w.grownBy _ none from hs10.tl.tl.tl.tl.tl.hd)
             clear hs9 hs10 hsg))
        simp only [Exit.noGoto]
        rw [HB.out]
        refine bodyPost_ret_by (v := .tuple #[.agg #[.int .i64 0, .slice none 0 0, .slice none 0 0], .bool false]) ?_ rfl (CirRes.zero HKF.out)
        simp [results, go_sem, *]
      · obtain ⟨hNE, hNO⟩ := opt_ok HCE.out hk
        rw [HOP.out] at hNO
        have hprN : pruRes p (preC ⟨n, gs, os⟩) = pruC (preC ⟨n, gs, os⟩) := by unfold pruRes; rw [hk]; rfl
        rw [hk, hprN] at HPR
        have hPL := fun h => pass_less HCE.out h
        have hNn := pru_n n gs os
        have HNF := pass_facts (p := p) (n := n) (gs := (pruC (preC ⟨n, gs, os⟩)).gs) (os := (pruC (preC ⟨n, gs, os⟩)).os) hNE
        generalize pruC (preC ⟨n, gs, os⟩) = N at *
        obtain ⟨Nn, Ng, No⟩ := N
        simp only at hNn HPR HNF
        subst hNn
        have HEQ := Lib.hid fun W a c a' c' e d e' d' (h1 : RdR gateE W (.slice a Ng.length c) Ng) (h2 : IntsV W (.slice a' No.length c') No) (h3 : RdR gateE W (.slice e gs.length d) gs) (h4 : IntsV W (.slice e' os.length d') os) =>
          equalCircuits_any Nn Nn (.slice a Ng.length c) (.slice a' No.length c') (.slice e gs.length d) (.slice e' os.length d') Ng gs No os W h1 h2 h3 h4 (by have := HNF.l2; omega) (by have := HNF.l3; omega) (by have := HF.out.l2; omega) (by have := HF.out.l3; omega)
        unfold cirV at HEQ
        have HPL := Lib.hid hPL; have HNE := Lib.hid hNE
        have HL1 := Lib.hid HF.out.l1
        clear hk hprN HOP HPL HNF
        by_cases he : (⟨Nn, Ng, No⟩ : Circ) = ⟨Nn, gs, os⟩
        · rw [if_pos he] at hNO
          rw [decide_eq_true he] at HEQ
          have HNO := Lib.hid hNO
          clear hNO hNE hPL he HCE
          have HLG1 := Lib.hid (g1_len gs)
          have HLG2 := Lib.hid (g2_len gs)
          generalize g1L gs = G1 at *
          generalize g2L gs = G2 at *
          generalize g3L gs = G3 at *
          generalize o2L gs os = O2 at *
          generalize o3L gs os = O3 at *
          have HFIN := Lib.hid fun W a c a' c' (h : Sep W [OR gateE (.slice a gs.length c) gs, OI (.slice a' os.length c') os, KeepA w]) => CirRes.of (R := ⟨Nn, gs, os⟩) h
          simp only at HFIN
          have HL2 := Lib.hid (show 0 < gs.length from HL1.out)
          generalize hml : gs.length = m at *
          generalize hm2 : os.length = m2 at *
          generalize hm3 : Ng.length = m3 at *
          generalize hm4 : No.length = m4 at *
          have HM3 := Lib.hid hm3; have HM4 := Lib.hid hm4
          clear hml hm2 hm3 hm4
          go_wp2_with (first
            | (go_at_call 60
               with_reducible refine HFZ.out.mono ?_
               rintro e w6 ⟨b1, d1, b2, d2, rfl, hsg⟩
               obtain ⟨hR, hI, hk6⟩ := hsg.reads
               obtain ⟨q1, rfl⟩ := OR_adr (n := m) hsg.hd (by rw [HLG1.out]; exact HL2.out)
               have HR6 := Lib.hid hR
               have HI6 := Lib.hid hI
               have HK6 := Lib.hid hk6
               clear hR hI hk6 hsg)
            | (go_at_call 61
               with_reducible refine (HSM.out _ _ _ _ HR6.out HI6.out).mono ?_
               rintro e w7 ⟨b3, d3, b4, d4, rfl, hsg⟩
               obtain ⟨hR, hI, hk7⟩ := hsg.reads
               obtain ⟨q3, rfl⟩ := OR_adr (n := m) hsg.hd (by rw [HLG2.out]; exact HL2.out)
               have HR7 := Lib.hid hR
               have HI7 := Lib.hid hI
               have HK7 := Lib.hid (grownBy_trans HK6.out hk7)
               clear hR hI hk7 hsg)
            | (go_at_call 62
               with_reducible refine (HSH.out _ _ _ _ HR7.out HI7.out).mono ?_
               rintro e w8 ⟨b5, d5, b6, d6, rfl, hsg⟩
               obtain ⟨hR, hI, hk8⟩ := hsg.reads
               have HR8 := Lib.hid hR
               have HI8 := Lib.hid hI
               have HK8 := Lib.hid (grownBy_trans HK7.out hk8)
               have HW8 := Lib.hid (grownBy_trans HKW.out HK8.out)
               clear hR hI hk8 hsg)
            | (go_at_call 59
               with_reducible refine (HPR.out _ _ _ HW8.out HR8.out HI8.out).mono ?_
               rintro e w9 ⟨b7, d7, b8, d8, rfl, hsg⟩
               have hs9 := ((HS.out.grown HK8.out).graft2 hsg OR_own OI_own).box #[.int .i64 Nn, .slice b7 m3 d7, .slice b8 m4 d8] 29
               have HS10 := Lib.hid hs9
               have HA10 := Lib.hid hs9.tl.hd.read
               have HB10 := Lib.hid hs9.tl.tl.hd.read
               have HC10 := Lib.hid hs9.tl.tl.tl.tl.hd.read
               have HD10 := Lib.hid hs9.tl.tl.tl.tl.tl.hd.read
               obtain ⟨y0, y1, y2, _⟩ := bx3 hs9.tl.tl.tl.hd
               clear hs9 hsg)
            | (go_at_call 63
               with_reducible refine (HEQ.out _ _ _ _ _ _ _ _ _ HA10.out HB10.out HC10.out HD10.out).mono ?_
               rintro e w11 ⟨rfl, hg11⟩
               have hs11 := HS10.out.grown hg11
               obtain ⟨z0, z1, z2, _⟩ := bx3 hs11.tl.tl.tl.hd
               have hs12 := hs11.q7
               obtain ⟨r0, r1, r2, r3, r4, r5⟩ := bx3 hs12.hd
               have hs13 := ((hs12.setB 0 (.int .i64 Nn)).setB 1 (.slice (some ⟨g1, 0, none⟩) m c1)).setB 2 (.slice a2 m2 c2)
               obtain ⟨t0, t1, t2, _⟩ := bx3 hs13.hd
               have HSF := Lib.hid (hs13.tl.tl.tl.tl.tl.under (fun h => h.drop2) (by simp +contextual))
               clear hs11 hs12 hs13 hg11))
          simp only [Exit.noGoto]
          rw [HNO.out]
          refine bodyPost_ret_by (v := .tuple #[.agg #[.int .i64 Nn, .slice (some ⟨g1, 0, none⟩) m c1, .slice a2 m2 c2], .bool true]) ?_ rfl (HFIN.out _ _ _ _ _ HSF.out)
          simp [results, go_sem, *]
        · rw [if_neg he] at hNO
          rw [decide_eq_false he] at HEQ
          have HNO := Lib.hid hNO; have HPL := Lib.hid (hPL he)
          clear hNO hNE hPL he HCE
          have HLG1 := Lib.hid (g1_len gs)
          have HLG2 := Lib.hid (g2_len gs)
          generalize g1L gs = G1 at *
          generalize g2L gs = G2 at *
          generalize g3L gs = G3 at *
          generalize o2L gs os = O2 at *
          generalize o3L gs os = O3 at *
          have HL2 := Lib.hid (show 0 < gs.length from HL1.out)
          generalize hml : gs.length = m at *
          generalize hm2 : os.length = m2 at *
          generalize hm3 : Ng.length = m3 at *
          generalize hm4 : No.length = m4 at *
          have HM3 := Lib.hid hm3; have HM4 := Lib.hid hm4
          clear hml hm2 hm3 hm4
          go_wp2_with (first
            | (go_at_call 60
               with_reducible refine HFZ.out.mono ?_
               rintro e w6 ⟨b1, d1, b2, d2, rfl, hsg⟩
               obtain ⟨hR, hI, hk6⟩ := hsg.reads
               obtain ⟨q1, rfl⟩ := OR_adr (n := m) hsg.hd (by rw [HLG1.out]; exact HL2.out)
               have HR6 := Lib.hid hR
               have HI6 := Lib.hid hI
               have HK6 := Lib.hid hk6
               clear hR hI hk6 hsg)
            | (go_at_call 61
               with_reducible refine (HSM.out _ _ _ _ HR6.out HI6.out).mono ?_
               rintro e w7 ⟨b3, d3, b4, d4, rfl, hsg⟩
               obtain ⟨hR, hI, hk7⟩ := hsg.reads
               obtain ⟨q3, rfl⟩ := OR_adr (n := m) hsg.hd (by rw [HLG2.out]; exact HL2.out)
               have HR7 := Lib.hid hR
               have HI7 := Lib.hid hI
               have HK7 := Lib.hid (grownBy_trans HK6.out hk7)
               clear hR hI hk7 hsg)
            | (go_at_call 62
               with_reducible refine (HSH.out _ _ _ _ HR7.out HI7.out).mono ?_
               rintro e w8 ⟨b5, d5, b6, d6, rfl, hsg⟩
               obtain ⟨hR, hI, hk8⟩ := hsg.reads
               have HR8 := Lib.hid hR
               have HI8 := Lib.hid hI
               have HK8 := Lib.hid (grownBy_trans HK7.out hk8)
               have HW8 := Lib.hid (grownBy_trans HKW.out HK8.out)
               clear hR hI hk8 hsg)
            | (go_at_call 59
               with_reducible refine (HPR.out _ _ _ HW8.out HR8.out HI8.out).mono ?_
               rintro e w9 ⟨b7, d7, b8, d8, rfl, hsg⟩
               have hs9 := ((HS.out.grown HK8.out).graft2 hsg OR_own OI_own).box #[.int .i64 Nn, .slice b7 m3 d7, .slice b8 m4 d8] 29
               have HS10 := Lib.hid hs9
               have HA10 := Lib.hid hs9.tl.hd.read
               have HB10 := Lib.hid hs9.tl.tl.hd.read
               have HC10 := Lib.hid hs9.tl.tl.tl.tl.hd.read
               have HD10 := Lib.hid hs9.tl.tl.tl.tl.tl.hd.read
               obtain ⟨y0, y1, y2, _⟩ := bx3 hs9.tl.tl.tl.hd
               clear hs9 hsg)
            | (go_at_call 63
               with_reducible refine (HEQ.out _ _ _ _ _ _ _ _ _ HA10.out HB10.out HC10.out HD10.out).mono ?_
               rintro e w11 ⟨rfl, hg11⟩
               have hs11 := HS10.out.grown hg11
               obtain ⟨z0, z1, z2, _⟩ := bx3 hs11.hd
               have hs12 := hs11.s4
               obtain ⟨r0, r1, r2, r3, r4, r5⟩ := bx3 hs12.hd
               have hs13 := ((hs12.setB 0 (.int .i64 Nn)).setB 1 (.slice b7 m3 d7)).setB 2 (.slice b8 m4 d8)
               have HSF := Lib.hid (hs13.under (fun h => h.tl.under (fun h => h.under (fun h => h.tl.tl) (by simp +contextual)) (by simp +contextual)) (by simp +contextual))
               clear hs11 hs12 hs13 hg11))
          go_roundw
          case rel => exact ⟨Ng, No, b7, d7, b8, d8, HNE.out, HNO.out.symm, by rw [HM3.out, HM4.out]; exact HSF.out⟩
          case measure =>
            rw [HME.out]
            have h := HSF.out
            rw [← HM3.out, ← HM4.out] at h
            rw [← HM3.out, ← HM4.out, rdC_eq (CirAt.sep h)]
            exact HPL.out
end Go.Proofs.YtkamcgonacmieaaDoor

/-
  Lists that are only read, as parts of the memory; OptimizeCircuit in the reference: the walk. Conditions: at most 2,000,000 gates and outputs.
-/
namespace Go.Proofs.YtkamcgonacmieaaDoor
open Go.RowKit
set_option linter.unusedVariables false
set_option maxRecDepth 100000

section
variable {α : Type} {E : Lay α} {w w' : World} {v : Value} {xs : List α}
theorem RdR.only {S : Nat → Prop} (h : RdR E w v xs) (ho : Only S w w') (hs : xs ≠ [] → ∀ k, Value.blk' v = some k → ¬ S k) : RdR E w' v xs := by
  obtain ⟨a, cap, rfl, h⟩ := h
  refine ⟨a, cap, rfl, fun hz => ?_⟩
  obtain ⟨d, ha, hsp, hd, hi⟩ := h hz
  refine ⟨d, ha, hsp, Nat.lt_of_lt_of_le hd ho.size, fun i hi' j hj => ?_⟩
  exact (World.cell?_of_block (w := w) (a := ⟨d.block, d.off + i * E.sz + j, none⟩) (ho.block _ hd (hs hz _ (by rw [ha]; rfl)))).trans (hi i hi' j hj)
theorem RdR.blk_lt (h : RdR E w v xs) (hz : xs ≠ []) : ∀ k, Value.blk' v = some k → k < w.heap.size := by
  obtain ⟨a, cap, rfl, h⟩ := h
  obtain ⟨d, ha, hsp, hd, hi⟩ := h hz
  intro k hk
  rw [ha] at hk
  have : d.block = k := by simpa [Value.blk'] using hk
  omega
theorem IntsV.only' {S : Nat → Prop} {zs : List Int} (h : IntsV w v zs) (ho : Only S w w') (hs : zs ≠ [] → ∀ k, Value.blk' v = some k → ¬ S k) : IntsV w' v zs := by
  obtain ⟨a, cap, rfl, h⟩ := h
  refine ⟨a, cap, rfl, fun hz => ?_⟩
  obtain ⟨d, ha, hsp, hd, hi⟩ := h hz
  refine ⟨d, ha, hsp, Nat.lt_of_lt_of_le hd ho.size, fun i hi' => ?_⟩
  exact (World.cell?_of_block (w := w) (a := ⟨d.block, d.off + i, none⟩) (ho.block _ hd (hs hz _ (by rw [ha]; rfl)))).trans (hi i hi')
theorem IntsV.blk_lt {zs : List Int} (h : IntsV w v zs) (hz : zs ≠ []) : ∀ k, Value.blk' v = some k → k < w.heap.size := by
  obtain ⟨a, cap, rfl, h⟩ := h
  obtain ⟨d, ha, hsp, hd, hi⟩ := h hz
  intro k hk
  rw [ha] at hk
  have : d.block = k := by simpa [Value.blk'] using hk
  omega
/-- A list that is only read. -/
def RG (E : Lay α) (v : Value) (xs : List α) : Asrt := ⟨fun _ => False, fun k => xs ≠ [] ∧ Value.blk' v = some k, fun w => RdR E w v xs, fun _ h => h.elim, fun w k h hk => h.blk_lt hk.1 k hk.2, fun w w' h ho => h.only ho fun hz k hk h' => h' ⟨hz, hk⟩⟩
def RI (v : Value) (zs : List Int) : Asrt := ⟨fun _ => False, fun k => zs ≠ [] ∧ Value.blk' v = some k, fun w => IntsV w v zs, fun _ h => h.elim, fun w k h hk => h.blk_lt hk.1 k hk.2, fun w w' h ho => h.only' ho fun hz k hk h' => h' ⟨hz, hk⟩⟩
variable {l : List Asrt}
theorem OwnR.blk {B : Nat} (h : OwnR E B w v xs) : Value.blk' v = v.ownBlock := by
  obtain ⟨_, h2⟩ := h
  rcases h2 with ⟨rfl, _⟩ | ⟨g, cap, cur, rfl, _⟩ <;> rfl
theorem Sep.toRG (h : Sep w (OR E v xs :: l)) : Sep w (RG E v xs :: l) :=
  h.upd (Only.refl _ _) h.hd.read (fun k hk => hk.elim) fun k hk => Or.inl (by have e := OwnR.blk h.hd; have := hk.2; rw [e] at this; exact this)
theorem Sep.toRI {zs : List Int} (h : Sep w (OI v zs :: l)) : Sep w (RI v zs :: l) :=
  h.upd (Only.refl _ _) (OwnInts.read h.hd) (fun k hk => hk.elim) fun k hk => Or.inl (by have e := OwnInts.blk h.hd; have := hk.2; rw [e] at this; exact this)
end
theorem CirAt.sepR {w : World} {b : Nat} {n : Int} {gv ov : Value} {gs : List Gt} {os : List Int} {l : List Asrt} (h : Sep w (BxA b #[.int .i64 n, gv, ov] 29 :: RG gateE gv gs :: RI ov os :: l)) : CirAt w b ⟨n, gs, os⟩ :=
  ⟨gv, ov, h.hd, h.tl.hd, h.tl.tl.hd⟩
set_option maxHeartbeats 16000000 in
theorem sOptimize_any (p n : Int) (gv ov : Value) (gs0 : List Gt) (os0 : List Int) (w : World) (hg : RdR gateE w gv gs0) (ho : IntsV w ov os0) (l1 : gs0.length ≤ 2000000) (l2 : os0.length ≤ 2000000) :
    Calls Tryd.prog 10 #[.int .i64 p, cirV n gv ov] w (CirRes (optRes p ⟨n, gs0, os0⟩) (optOk p ⟨n, gs0, os0⟩) w) := by
  have HIC := Lib.hid fun W (h : w.grownBy W none) => crGood_any p n gv ov gs0 os0 W (hg.carry h) (ho.carry h) l1 l2
  cases hc : circE p ⟨n, gs0, os0⟩
  · have hok : optOk p ⟨n, gs0, os0⟩ = false := by unfold optOk; rw [hc]; rfl
    have hr : optRes p ⟨n, gs0, os0⟩ = circ0 := by unfold optRes; rw [hc]; rfl
    rw [hr, hok]
    rw [hc] at HIC
    obtain ⟨ga, gc, rfl⟩ := hg.shape
    obtain ⟨oa, oc, rfl⟩ := ho.shape
    unfold cirV at *
    clear hc hok hr hg ho
    have hs0 := ((Sep.start w).box #[.int .i64 n, .slice ga gs0.length gc, .slice oa os0.length oc] 29).box #[.int .i64 0, .slice none 0 0, .slice none 0 0] 29
    have e1 : (w.alloc (.cells #[.int .i64 n, .slice ga gs0.length gc, .slice oa os0.length oc] 29)).heap.size = w.heap.size + 1 := by simp
    rw [e1] at hs0
    have HS0 := Lib.hid hs0
    have HK0 := Lib.hid (show w.grownBy _ none from hs0.tl.tl.hd)
    clear hs0 e1
    generalize gs0.length = m at *
    generalize os0.length = m2 at *
    go_enter Tryd.func10, Tryd.ntmps10
    go_wp2_with (
      go_at_call 48
      with_reducible refine (HIC.out _ HK0.out).mono ?_
      rintro e w4 ⟨rfl, hg4⟩
      have hs1 := HS0.out.grown hg4
      obtain ⟨r0, r1, r2, r3, r4, r5⟩ := bx3 hs1.hd
      have hs2 := ((hs1.setB 0 (.int .i64 0)).setB 1 (.slice none 0 0)).setB 2 (.slice none 0 0)
      obtain ⟨t0, t1, t2, _⟩ := bx3 hs2.hd
      have HKF := Lib.hid (show w.grownBy _ none from hs2.tl.tl.hd)
      clear hg4 hs1 hs2)
    refine bodyPost_ret_by (v := .tuple #[.agg #[.int .i64 0, .slice none 0 0, .slice none 0 0], .bool false]) ?_ rfl (CirRes.zero HKF.out)
    simp [results, go_sem, *]
  · have hF0 := pass_facts hc
    obtain ⟨RR, hRR⟩ : ∃ RR, RR = optC p ⟨n, gs0, os0⟩ := ⟨_, rfl⟩
    have hok : optOk p ⟨n, gs0, os0⟩ = RR.2 := by unfold optOk; rw [hc, hRR]; rfl
    have hr : optRes p ⟨n, gs0, os0⟩ = RR.1 := by unfold optRes; rw [if_pos hc, hRR]
    rw [hok, hr]
    rw [hc] at HIC
    have HRD := Lib.hid (And.intro hg ho)
    obtain ⟨ga, gc, rfl⟩ := hg.shape
    obtain ⟨oa, oc, rfl⟩ := ho.shape
    have HC0 := Lib.hid hc; have HR0 := Lib.hid hRR
    clear hc hok hr hg ho hRR hF0
    unfold cirV at *
    have hs0 := ((Sep.start w).box #[.int .i64 n, .slice ga gs0.length gc, .slice oa os0.length oc] 29).box #[.int .i64 0, .slice none 0 0, .slice none 0 0] 29
    have e1 : (w.alloc (.cells #[.int .i64 n, .slice ga gs0.length gc, .slice oa os0.length oc] 29)).heap.size = w.heap.size + 1 := by simp
    rw [e1] at hs0
    have HK0 := Lib.hid (show w.grownBy _ none from hs0.tl.tl.hd)
    have hs1 := hs0.share (A := RI (.slice oa os0.length oc) os0) (HRD.out.2.carry HK0.out) (fun k h => h) (fun C hC k hf hs => by
      have hlt := HRD.out.2.blk_lt hs.1 k hs.2
      simp only [List.mem_cons, List.not_mem_nil, or_false] at hC
      rcases hC with rfl | rfl | rfl
      · have : k = w.heap.size + 1 := hf
        omega
      · have : k = w.heap.size := hf
        omega
      · exact hf.elim)
    have hs2 := hs1.share (A := RG gateE (.slice ga gs0.length gc) gs0) (HRD.out.1.carry HK0.out) (fun k h => h) (fun C hC k hf hs => by
      have hlt := HRD.out.1.blk_lt hs.1 k hs.2
      simp only [List.mem_cons, List.not_mem_nil, or_false] at hC
      rcases hC with rfl | rfl | rfl | rfl
      · exact hf.elim
      · have : k = w.heap.size + 1 := hf
        omega
      · have : k = w.heap.size := hf
        omega
      · exact hf.elim)
    have HS0 := Lib.hid hs2.s4
    clear hs0 hs1 hs2 e1
    go_enter Tryd.func10, Tryd.ntmps10
    go_wp2_with (
      go_at_call 48
      with_reducible refine (HIC.out _ HK0.out).mono ?_
      rintro e w4 ⟨rfl, hg4⟩
      have HS1 := Lib.hid (HS0.out.grown hg4)
      clear hg4)
    clear HIC HK0 HRD
    have HKW1 := Lib.hid (show w.grownBy w4 none from HS1.out.tl.tl.tl.tl.hd)
    go_loopw [7] (fun _ wr => ∃ (gs : List Gt) (os : List Int) (a1 : Option Addr) (c1 : Nat) (a2 : Option Addr) (c2 : Nat), circE p ⟨n, gs, os⟩ = true ∧ optC p ⟨n, gs, os⟩ = RR ∧
      Sep wr [BxA w.heap.size #[.int .i64 n, .slice a1 gs.length c1, .slice a2 os.length c2] 29, RG gateE (.slice a1 gs.length c1) gs, RI (.slice a2 os.length c2) os, BxA (w.heap.size + 1) #[.int .i64 0, .slice none 0 0, .slice none 0 0] 29, KeepA w]) (fun _ wr => meaC (rdC wr w.heap.size))
    case atStart => exact ⟨gs0, os0, ga, gc, oa, oc, HC0.out, HR0.out.symm, HS1.out⟩
    case round =>
      obtain ⟨gs, os, a1, c1, a2, c2, hce, hop, hs⟩ := hrel
      clear HS1 HC0 HR0 HKW1 HS0
      have HF := Lib.hid (pass_facts hce)
      obtain ⟨g1b, g1o, rfl, hxx⟩ := (show RdR gateE wr (.slice a1 gs.length c1) gs from hs.tl.hd).at (i := 0) HF.out.l1
      clear hxx
      have HME := Lib.hid (rdC_eq (CirAt.sepR hs))
      have HS := Lib.hid hs
      have HCE := Lib.hid hce; have HOP := Lib.hid hop
      have HRG := Lib.hid (show RdR gateE wr (.slice (some ⟨g1b, g1o, none⟩) gs.length c1) gs from hs.tl.hd)
      have HRO := Lib.hid (show IntsV wr (.slice a2 os.length c2) os from hs.tl.tl.hd)
      obtain ⟨x0, x1, x2, _⟩ := bx3 hs.hd
      clear hs hop hce
      have HFZ := Lib.hid (opFold_any n ⟨g1b, g1o, none⟩ c1 (.slice a2 os.length c2) gs os wr HRG.out HRO.out (by have := HF.out.l1; omega) (by have := HF.out.l2; omega) (by have := HF.out.l3; omega) HF.out.hg.ops HF.out.kd)
      have HSM := Lib.hid fun W gv ov (h1 : RdR gateE W gv (g1L gs)) (h2 : IntsV W ov os) => opSimplify_any n gv ov (g1L gs) os W HF.out.hg1 HF.out.ho1 h1 h2 (by rw [g1_len]; have := HF.out.l2; omega) (by have := HF.out.l3; omega)
      have HOC : ∀ W (a : Option Addr) (c : Nat) (a' : Option Addr) (c' : Nat), RdR gateE W (.slice a gs.length c) (g2L gs) → Calls Tryd.prog 53 #[.agg #[.int .i64 n, .slice a gs.length c, .slice a' os.length c']] W fun e w' => ∃ b d, e = .returned (.slice b gs.length d) ∧ IntsV w' (.slice b gs.length d) (finC (g2L gs)) ∧ W.grownBy w' none := by
        intro W a c a' c' h
        have hh := opClasses_any n (.slice a gs.length c) (.slice a' os.length c') (g2L gs) os.length W h ⟨_, _, rfl⟩ HF.out.hg2 (by rw [g2_len]; exact HF.out.l1) (by rw [g2_len]; have := HF.out.l2; omega)
        rw [g2_len] at hh
        refine hh.mono ?_
        rintro e w' ⟨b, d, s, rfl, hcl, hsg⟩
        refine ⟨b, d, rfl, ?_, hsg.tl.hd⟩
        rw [finC_of hcl]
        exact hsg.hd.read
      have HRE : ∀ W gv ov tv, RdR gateE W gv (g2L gs) → IntsV W ov (o2L gs os) → IntsV W tv (finC (g2L gs)) → Calls Tryd.prog 52 #[.agg #[.int .i64 n, gv, ov], tv] W fun e w' => ∃ b d b' d', e = .returned (.agg #[.int .i64 n, .slice b gs.length d, .slice b' os.length d']) ∧ RdR gateE w' (.slice b gs.length d) (g3L gs) ∧ IntsV w' (.slice b' os.length d') (o3L gs os) ∧ W.grownBy w' none := by
        intro W gv ov tv h1 h2 h3
        have hh := opReplace_any n gv ov tv (g2L gs) (o2L gs os) (finC (g2L gs)) W h1 h2 h3 (by rw [g2_len]; have := HF.out.l2; omega) (by rw [o2_len]; have := HF.out.l3; omega) (by rw [finC_len]; exact HF.out.hg2.ops) (by rw [finC_len]; exact HF.out.ho2)
        rw [g2_len, o2_len] at hh
        refine hh.mono ?_
        rintro e w' ⟨b, d, b', d', rfl, hsg⟩
        exact ⟨b, d, b', d', rfl, hsg.hd.read, hsg.tl.hd.read, hsg.tl.tl.hd⟩
      have HOC := Lib.hid HOC; have HRE := Lib.hid HRE
      have HPR := Lib.hid fun W gv ov (h1 : RdR gateE W gv (g3L gs)) (h2 : IntsV W ov (o3L gs os)) => sPrune_any p n gv ov (g3L gs) (o3L gs os) W h1 h2 (by rw [g3_len]; have := HF.out.l2; omega) (by rw [o3_len]; have := HF.out.l3; omega)
      rw [show foldL (silL gs) gs = g1L gs from rfl] at HFZ
      rw [show (g1L gs).map (withL (finL (g1L gs))) = g2L gs from rfl, show os.map (finL (g1L gs)) = o2L gs os from rfl, g1_len] at HSM
      rw [← pre_is] at HPR
      unfold CirRes cirV at HPR
      unfold cirV at HFZ HSM
      have HBAD := Lib.hid fun h => opt_bad HCE.out h
      have HOKK := Lib.hid fun h => opt_ok HCE.out h
      have HRB := Lib.hid (show pruOk p (preC ⟨n, gs, os⟩) = false → pruRes p (preC ⟨n, gs, os⟩) = circ0 from fun h => by unfold pruRes; rw [h]; rfl)
      have HRN := Lib.hid (show pruOk p (preC ⟨n, gs, os⟩) = true → pruRes p (preC ⟨n, gs, os⟩) = pruC (preC ⟨n, gs, os⟩) from fun h => by unfold pruRes; rw [h]; rfl)
      have HPL := Lib.hid fun h => pass_less HCE.out h
      have HNn := Lib.hid (pru_n n gs os)
      rw [HOP.out] at HBAD HOKK
      have hl1 : 1 ≤ gs.length := HF.out.l1
      have HL2 := Lib.hid (And.intro HF.out.l2 HF.out.l3)
      clear HOP HCE HF HRG HRO
      generalize pruOk p (preC ⟨n, gs, os⟩) = b at *
      generalize pruRes p (preC ⟨n, gs, os⟩) = R at *
      generalize pruC (preC ⟨n, gs, os⟩) = N at *
      generalize g1L gs = G1 at *
      generalize g2L gs = G2 at *
      generalize g3L gs = G3 at *
      generalize o2L gs os = O2 at *
      generalize o3L gs os = O3 at *
      generalize finC G2 = FC at *
      obtain ⟨Rn, Rg, Ro⟩ := R
      simp only at HPR
      obtain ⟨C, hC⟩ : ∃ C : Circ, C = ⟨n, gs, os⟩ := ⟨_, rfl⟩
      have HC := Lib.hid hC
      rw [← hC] at HME HOKK HPL
      clear hC
      have HGL := Lib.hid (Eq.refl gs.length); have HOL := Lib.hid (Eq.refl os.length)
      generalize hml : gs.length = m at *
      generalize hm2 : os.length = m2 at *
      have HM1 := Lib.hid hml; have HM2 := Lib.hid hm2
      clear hml hm2
      generalize hr1 : Rg.length = r1 at *
      generalize hr2 : Ro.length = r2 at *
      have HR1 := Lib.hid hr1; have HR2 := Lib.hid hr2
      clear hr1 hr2
      obtain ⟨BASE, hBASE⟩ : ∃ BASE : List Asrt, BASE = [BxA w.heap.size #[.int .i64 n, .slice (some ⟨g1b, g1o, none⟩) m c1, .slice a2 m2 c2] 29, RG gateE (.slice (some ⟨g1b, g1o, none⟩) m c1) gs, RI (.slice a2 m2 c2) os, BxA (w.heap.size + 1) #[.int .i64 0, .slice none 0 0, .slice none 0 0] 29, KeepA w] := ⟨_, rfl⟩
      have HBASE := Lib.hid hBASE
      rw [← hBASE] at HS
      clear hBASE
      go_upto_region 4 with (first
        | (go_at_call 50
           with_reducible refine HFZ.out.mono ?_
           rintro e w6 ⟨b1, d1, b2, d2, rfl, hsg⟩
           have HR6 := Lib.hid (show RdR gateE w6 _ _ from hsg.hd.read)
           have HI6 := Lib.hid (show IntsV w6 _ _ from hsg.tl.hd.read)
           have HS6 := Lib.hid (HS.out.grown hsg.tl.tl.hd)
           clear hsg)
        | (go_at_call 49
           with_reducible refine (HSM.out _ _ _ HR6.out HI6.out).mono ?_
           rintro e w7 ⟨b3, d3, b4, d4, rfl, hsg⟩
           have HR7 := Lib.hid fun W (h : w7.grownBy W none) => And.intro (RdR.carry (show RdR gateE w7 _ _ from hsg.hd.read) h) (IntsV.carry (show IntsV w7 _ _ from hsg.tl.hd.read) h)
           have HS7 := Lib.hid ((HS6.out.grown hsg.tl.tl.hd).box #[.int .i64 n, .slice b3 m d3, .slice b4 m2 d4] 29)
           have HK7 := Lib.hid (grownBy_alloc w7 (.cells #[.int .i64 n, .slice b3 m d3, .slice b4 m2 d4] 29) none)
           clear hsg))
      generalize w7.heap.size = xb at *
      generalize w7.alloc (.cells #[.int .i64 n, .slice b3 m d3, .slice b4 m2 d4] 29) = wx at *
      go_cut [7, 8] from 17 to 25 (fun t7 t8 wc => ∃ (nb : Nat) (a7 : Option Addr) (c7 : Nat) (a8 : Option Addr) (c8 : Nat), t7 = .pointer (some ⟨nb, 0, none⟩) ∧ t8 = .bool b ∧ Sep wc (BxA nb #[.int .i64 Rn, .slice a7 r1 c7, .slice a8 r2 c8] 29 :: OR gateE (.slice a7 r1 c7) Rg :: OI (.slice a8 r2 c8) Ro :: BxA xb #[.int .i64 n, .slice b3 m d3, .slice b4 m2 d4] 29 :: BASE))
      case first =>
        have hs := HS7.out
        clear HS7
        have SX := Lib.hid fun (W : World) (l : List Asrt) (h : Sep W (BxA xb #[.int .i64 n, .slice b3 m d3, .slice b4 m2 d4] 29 :: l)) => And.intro (bx3 h.hd).1 (And.intro (bx3 h.hd).2.1 (bx3 h.hd).2.2.1)
        have HS4 := Lib.hid hs.dr
        have HS4b := Lib.hid (hs.box #[.int .i64 0, .slice none 0 0, .slice none 0 0] 29).dr
        have X0 := Lib.hid (SX.out _ _ hs.dr)
        have Y0 := Lib.hid fun ob => SX.out _ _ (hs.al ob).dr
        have HK4 := Lib.hid (grownBy_trans HK7.out (show wx.grownBy wx.drew none from ⟨rfl, rfl, rfl, Nat.le_refl _, fun _ _ _ => rfl⟩))
        have HK4b := Lib.hid fun ob => (grownBy_trans HK7.out (grownBy_trans (grownBy_alloc wx ob none) (show (wx.alloc ob).grownBy (wx.alloc ob).drew none from ⟨rfl, rfl, rfl, Nat.le_refl _, fun _ _ _ => rfl⟩)))
        clear hs
        go_region_held3 (fun w' => w'.cell? ⟨xb, 0, none⟩ = some (.int .i64 n) ∧ w'.cell? ⟨xb, 1, none⟩ = some (.slice b3 m d3) ∧ w'.cell? ⟨xb, 2, none⟩ = some (.slice b4 m2 d4))
          (first | with_reducible exact X0.out | with_reducible exact Y0.out _ | with_reducible exact X5.out | with_reducible exact Y5.out _ | with_reducible exact X6.out | with_reducible exact Y6.out _ | with_reducible exact X7.out | with_reducible exact Y7.out _ | with_reducible exact V5.out | with_reducible exact V6.out | with_reducible exact V7.out | (trace_state; fail))
          (first
            | (go_at_call 53
               with_reducible refine (HOC.out _ _ _ _ _ (HR7.out _ HK4.out).1).mono ?_
               rintro e w8 ⟨b5, d5, rfl, hI, hg8⟩
               have hs8 := HS4.out.grown hg8
               have HS5 := Lib.hid hs8
               have X5 := Lib.hid (SX.out _ _ hs8)
               have Y5 := Lib.hid fun ob => SX.out _ _ (hs8.al ob)
               have HK5 := Lib.hid (grownBy_trans HK4.out hg8)
               have HK5b := Lib.hid fun ob => grownBy_trans HK5.out (grownBy_alloc w8 ob none)
               have HI5 := Lib.hid hI
               have HI5b := Lib.hid fun ob => hI.carry (grownBy_alloc w8 ob none)
               clear hI hg8 hs8)
            | (go_at_call 53
               with_reducible refine (HOC.out _ _ _ _ _ (HR7.out _ (HK4b.out _)).1).mono ?_
               rintro e w8 ⟨b5, d5, rfl, hI, hg8⟩
               have hs8 := HS4b.out.grown hg8
               have HS5 := Lib.hid hs8
               have X5 := Lib.hid (SX.out _ _ hs8.tl)
               have HK5 := Lib.hid (grownBy_trans (HK4b.out _) hg8)
               have HI5 := Lib.hid hI
               clear hI hg8 hs8)
            | (go_at_call 52
               with_reducible refine (HRE.out _ _ _ _ (HR7.out _ HK5.out).1 (HR7.out _ HK5.out).2 HI5.out).mono ?_
               rintro e w9 ⟨b6, d6, b7, d7, rfl, hR, hI, hg9⟩
               have hs9 := HS5.out.grown hg9
               have HS6 := Lib.hid hs9
               have X6 := Lib.hid (show _ ∧ _ ∧ _ from by first | exact SX.out _ _ hs9 | exact SX.out _ _ hs9.tl)
               have Y6 := Lib.hid fun ob => (show _ ∧ _ ∧ _ from by first | exact SX.out _ _ (hs9.al ob) | exact SX.out _ _ (hs9.al ob).tl)
               have HR6 := Lib.hid hR
               have HI6 := Lib.hid hI
               have HR6b := Lib.hid fun ob => hR.carry (grownBy_alloc w9 ob none)
               have HI6b := Lib.hid fun ob => hI.carry (grownBy_alloc w9 ob none)
               clear hR hI hg9 hs9)
            | (go_at_call 52
               with_reducible refine (HRE.out _ _ _ _ (HR7.out _ (HK5b.out _)).1 (HR7.out _ (HK5b.out _)).2 (HI5b.out _)).mono ?_
               rintro e w9 ⟨b6, d6, b7, d7, rfl, hR, hI, hg9⟩
               have hs9 := (HS5.out.box #[.int .i64 0, .slice none 0 0, .slice none 0 0] 29).grown hg9
               have HS6 := Lib.hid hs9
               have X6 := Lib.hid (SX.out _ _ hs9.tl)
               have HR6 := Lib.hid hR
               have HI6 := Lib.hid hI
               clear hR hI hg9 hs9)
            | (go_at_call 51
               with_reducible refine (HPR.out _ _ _ HR6.out HI6.out).mono ?_
               rintro e w10 ⟨a7, c7, a8, c8, rfl, hsg⟩
               have hs10 := HS6.out.graft2 hsg OR_own OI_own
               first
                 | (have X7 := Lib.hid (SX.out _ _ hs10.tl.tl)
                    have Y7 := Lib.hid fun ob => SX.out _ _ (hs10.al ob).tl.tl
                    have HFa := Lib.hid (hs10.box #[.int .i64 Rn, .slice a7 r1 c7, .slice a8 r2 c8] 29)
                    clear hs10 hsg)
                 | (have X7 := Lib.hid (SX.out _ _ hs10.tl.tl.tl)
                    obtain ⟨r0, r1', r2', r3, r4, r5⟩ := bx3 hs10.tl.tl.hd
                    have h1 := hs10.s3.setB 0 (.int .i64 Rn)
                    have h2 := h1.setB 1 (.slice a7 r1 c7)
                    have h3 := h2.setB 2 (.slice a8 r2 c8)
                    have V5 := Lib.hid (SX.out _ _ h1.tl.tl.tl)
                    have V6 := Lib.hid (SX.out _ _ h2.tl.tl.tl)
                    have V7 := Lib.hid (SX.out _ _ h3.tl.tl.tl)
                    have HFa := Lib.hid h3
                    clear h1 h2 h3 hs10 hsg))
            | (go_at_call 51
               with_reducible refine (HPR.out _ _ _ (HR6b.out _) (HI6b.out _)).mono ?_
               rintro e w10 ⟨a7, c7, a8, c8, rfl, hsg⟩
               have hs10 := (HS6.out.box #[.int .i64 0, .slice none 0 0, .slice none 0 0] 29).graft2 hsg OR_own OI_own
               have X7 := Lib.hid (SX.out _ _ hs10.tl.tl.tl)
               obtain ⟨r0, r1', r2', r3, r4, r5⟩ := bx3 hs10.tl.tl.hd
               have h1 := hs10.s3.setB 0 (.int .i64 Rn)
               have h2 := h1.setB 1 (.slice a7 r1 c7)
               have h3 := h2.setB 2 (.slice a8 r2 c8)
               have V5 := Lib.hid (SX.out _ _ h1.tl.tl.tl)
               have V6 := Lib.hid (SX.out _ _ h2.tl.tl.tl)
               have V7 := Lib.hid (SX.out _ _ h3.tl.tl.tl)
               have HFa := Lib.hid h3
               clear h1 h2 h3 hs10 hsg))
        all_goals
          go_wp2_with fail
          go_meet
          exact ⟨_, a7, c7, a8, c8, rfl, rfl, HFa.out⟩
      case rest =>
        obtain ⟨nb, a7, c7, a8, c8, rfl, rfl, hs⟩ := hcut
        rw [HBASE.out] at hs
        clear HBASE HS HS7 HR7 HK7 HOC HRE HPR HFZ HSM x0 x1 x2
        cases b with
        | false =>
          have HB := Lib.hid (HBAD.out rfl)
          have hs2 := hs.tl.tl.tl.tl.s4
          obtain ⟨r0, r1', r2', r3, r4, r5⟩ := bx3 hs2.hd
          have hs3 := ((hs2.setB 0 (.int .i64 0)).setB 1 (.slice none 0 0)).setB 2 (.slice none 0 0)
          obtain ⟨t0, t1, t2, _⟩ := bx3 hs3.hd
          have HKF := Lib.hid (show w.grownBy _ none from hs3.tl.tl.tl.tl.hd)
          clear hs hs2 hs3 HBAD HOKK HRB HRN HPL
          go_wp2
          rw [HB.out]
          refine bodyPost_ret_by (v := .tuple #[.agg #[.int .i64 0, .slice none 0 0, .slice none 0 0], .bool false]) ?_ rfl (CirRes.zero HKF.out)
          simp [results, go_sem, *]
        | true =>
          obtain ⟨hNE, hNO⟩ := HOKK.out rfl
          have hRN := HRN.out rfl
          subst hRN
          have hNn := HNn.out
          simp only at hNn
          subst hNn
          have HNF := pass_facts hNE
          have HEQ := Lib.hid fun W a c a' c' e d e' d' (h1 : RdR gateE W (.slice a Rg.length c) Rg) (h2 : IntsV W (.slice a' Ro.length c') Ro) (h3 : RdR gateE W (.slice e gs.length d) gs) (h4 : IntsV W (.slice e' os.length d') os) =>
            opEqual_any Rn Rn (.slice a Rg.length c) (.slice a' Ro.length c') (.slice e gs.length d) (.slice e' os.length d') Rg gs Ro os W h1 h2 h3 h4 (by have := HNF.l2; omega) (by have := HNF.l3; omega) (by have := HL2.out; have := HM1.out; omega) (by have := HL2.out; have := HM2.out; omega)
          unfold cirV at HEQ
          rw [HR1.out, HR2.out, HM1.out, HM2.out, ← HC.out] at HEQ
          have HE := Lib.hid (HEQ.out wc a7 c7 a8 c8 (some ⟨g1b, g1o, none⟩) c1 a2 c2 hs.tl.hd.read hs.tl.tl.hd.read hs.tl.tl.tl.tl.tl.hd hs.tl.tl.tl.tl.tl.tl.hd)
          have HNE := Lib.hid hNE
          obtain ⟨x0, x1, x2, _⟩ := bx3 hs.hd
          obtain ⟨y0, y1, y2, _⟩ := bx3 hs.tl.tl.tl.tl.hd
          have HS := Lib.hid hs
          clear hs HBAD HOKK HRB HRN hNE HNF HEQ
          by_cases he : (⟨Rn, Rg, Ro⟩ : Circ) = C
          · rw [decide_eq_true he] at HE
            rw [if_pos he, ← he] at hNO
            have HNO := Lib.hid hNO
            have HFIN := Lib.hid fun W a c a' c' (h : Sep W [OR gateE (.slice a Rg.length c) Rg, OI (.slice a' Ro.length c') Ro, KeepA w]) => CirRes.of (R := ⟨Rn, Rg, Ro⟩) h
            rw [HR1.out, HR2.out] at HFIN
            clear hNO he
            go_wp2_with (
              go_at_call 54
              with_reducible refine HE.out.mono ?_
              rintro e w11 ⟨rfl, hg11⟩
              have hs11 := HS.out.grown hg11
              obtain ⟨z0, z1, z2, _⟩ := bx3 hs11.hd
              have hs12 := hs11.tl.q7
              obtain ⟨r0, r1', r2', r3, r4, r5⟩ := bx3 hs12.hd
              have hs13 := ((hs12.setB 0 (.int .i64 Rn)).setB 1 (.slice a7 r1 c7)).setB 2 (.slice a8 r2 c8)
              obtain ⟨t0, t1, t2, _⟩ := bx3 hs13.hd
              have HSF := Lib.hid (hs13.tl.under (fun h => h.under (fun h => h.tl.tl.tl.tl) (by simp +contextual)) (by simp +contextual))
              clear hs11 hs12 hs13 hg11)
            rw [HNO.out]
            refine bodyPost_ret_by (v := .tuple #[.agg #[.int .i64 Rn, .slice a7 r1 c7, .slice a8 r2 c8], .bool true]) ?_ rfl (HFIN.out _ _ _ _ _ HSF.out)
            simp [results, go_sem, *]
          · rw [decide_eq_false he] at HE
            rw [if_neg he] at hNO
            have HNO := Lib.hid hNO
            have HPL2 := Lib.hid (HPL.out he)
            clear hNO he HPL
            go_wp2_with (
              go_at_call 54
              with_reducible refine HE.out.mono ?_
              rintro e w11 ⟨rfl, hg11⟩
              have hs11 := HS.out.grown hg11
              obtain ⟨z0, z1, z2, _⟩ := bx3 hs11.hd
              have hs12 := hs11.tl.s4
              obtain ⟨r0, r1', r2', r3, r4, r5⟩ := bx3 hs12.hd
              have hs13 := ((hs12.setB 0 (.int .i64 Rn)).setB 1 (.slice a7 r1 c7)).setB 2 (.slice a8 r2 c8)
              have hs14 := (hs13.s2.toRG.s3.toRI.s3).under (fun h => h.s2.under (fun h => h.under (fun h => h.tl.tl.tl) (by simp +contextual)) (by simp +contextual)) (by simp +contextual)
              have HSF := Lib.hid hs14
              clear hs11 hs12 hs13 hs14 hg11)
            go_roundw
            case rel => exact ⟨Rg, Ro, a7, c7, a8, c8, HNE.out, HNO.out.symm, by rw [HR1.out, HR2.out]; exact HSF.out⟩
            case measure =>
              rw [HME.out]
              have h := HSF.out
              rw [← HR1.out, ← HR2.out] at h
              rw [← HR1.out, ← HR2.out, rdC_eq (CirAt.sepR h)]
              exact HPL2.out
end Go.Proofs.YtkamcgonacmieaaDoor

/-
  How long the answer of OptimizeCircuit is. Conditions: none.
-/
namespace Go.Proofs.YtkamcgonacmieaaDoor
open Go.RowKit
set_option linter.unusedVariables false

theorem optN_end {p : Int} : ∀ (k : Nat) (c : Circ), circE p c = true → (optN p k c).1 = circ0 ∨ circE p (optN p k c).1 = true := by
  intro k
  induction k with
  | zero => exact fun c hc => Or.inr hc
  | succ k ih =>
    intro c hc
    unfold optN
    split
    · rename_i h1
      split
      · exact Or.inr hc
      · exact ih _ h1.2
    · exact Or.inl rfl
theorem optRes_len (p : Int) (c : Circ) (h1 : c.gs.length ≤ 1048576) (h2 : c.os.length ≤ 1048576) : (optRes p c).gs.length ≤ 1048576 ∧ (optRes p c).os.length ≤ 1048576 := by
  unfold optRes
  split
  · rename_i hc
    rcases optN_end (meaC c + 1) c hc with h | h
    · show (optN p (meaC c + 1) c).1.gs.length ≤ _ ∧ (optN p (meaC c + 1) c).1.os.length ≤ _
      rw [h]
      simp [circ0]
    · obtain ⟨_, _, _, h3, h4⟩ := circE_facts h
      show (optN p (meaC c + 1) c).1.gs.length ≤ _ ∧ (optN p (meaC c + 1) c).1.os.length ≤ _
      omega
  · simp [circ0]
end Go.Proofs.YtkamcgonacmieaaDoor

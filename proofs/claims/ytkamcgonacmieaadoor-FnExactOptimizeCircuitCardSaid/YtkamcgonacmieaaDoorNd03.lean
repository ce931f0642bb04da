/-
  Pruning in the reference: the walk. Conditions: at most 1,000 gates and outputs; operands and outputs are gates.
-/
import Derived.Test.YtkamcgonacmieaaDoorNd02
import Derived.Test.YtkamcgonacmieaaDoorNa04
import Derived.Test.YtkamcgonacmieaaDoorNa05
import Derived.Test.YtkamcgonacmieaaDoorNb01
namespace Go.Proofs.YtkamcgonacmieaaDoor
open Go.RowKit
set_option linter.unusedVariables false
set_option maxRecDepth 100000

set_option maxHeartbeats 8000000 in
theorem crPrune_any (n : Int) (gv ov : Value) (gs : List Gt) (os : List Int) (w : World) (hg : RdR gateE w gv gs) (ho : IntsV w ov os) (hl : gs.length ≤ 1000) (hl2 : os.length ≤ 1000)
    (hops : ∀ g ∈ gs, ∀ x ∈ opsL g, 0 ≤ x ∧ x < gs.length) (hos : ∀ x ∈ os, 0 ≤ x ∧ x < gs.length) :
    Calls Tryd.prog 118 #[.agg #[.int .i64 n, gv, ov]] w fun e w' => ∃ a1 c1 a2 c2, e = .returned (cirV n (.slice a1 (markL (useL gs os)).length c1) (.slice a2 os.length c2)) ∧
      Sep w' [OR gateE (.slice a1 (markL (useL gs os)).length c1) (keepC ⟨n, gs, os⟩ (markL (useL gs os))).gs, OI (.slice a2 os.length c2) (keepC ⟨n, gs, os⟩ (markL (useL gs os))).os, KeepA w] := by
  have hul := (use_spec hops hos).1.1
  have hmr := mark_rng (useL gs os) (useL gs os).length
  have hml := markTo_len (useL gs os) (useL gs os).length
  rw [show markTo (useL gs os) (useL gs os).length = markL (useL gs os) from rfl, hul] at hmr hml
  have HDN := Lib.hid fun L0 L xs (h : PrR gs os L0 L false L0.length xs) (h1 : ∀ x ∈ os, x ∈ L0) => h.done h1 hops hos
  have HSTEP := Lib.hid fun L0 L xs ag j x (h : PrR gs os L0 L ag j xs) (hj : j < L0.length) (hx : x ∈ opsL (at3 gs (L0.getD j 0))) (hr : 0 ≤ x ∧ x < gs.length) => h.step hj hx hr
  have HNEXT := Lib.hid fun L0 L xs ag j (h : PrR gs os L0 L ag j xs) (hx : xs = opsL (at3 gs (L0.getD j 0))) => h.next hx
  have HOUT := Lib.hid fun L x (h : PrS gs os L) (hx : x ∈ os) (hr : 0 ≤ x ∧ x < gs.length) => h.out hx hr
  have HG := Lib.hid hg; have HO := Lib.hid ho; have HOPS := Lib.hid hops; have HOS := Lib.hid hos
  have HHL := Lib.hid fun W u zs (h : w.grownBy W none) (hu : IntsV W u zs) (hzl : zs.length = gs.length) => hgList_any ov u os zs W (ho.carry h) hu (by omega) (fun x hx => by rw [hzl]; exact hos x hx)
  obtain ⟨ga, gc, rfl⟩ := hg.shape
  obtain ⟨oa, oc, rfl⟩ := ho.shape
  unfold keepC
  simp only
  obtain ⟨LM, hLM⟩ : ∃ LM, LM = markL (useL gs os) := ⟨_, rfl⟩
  rw [← hLM] at hmr hml HDN ⊢
  have HMR := Lib.hid hmr; have HML := Lib.hid hml
  clear hg ho hops hos hmr hml hul hLM
  obtain ⟨i0, hi0, hz0, hz1, hz2⟩ := info_parts info_int
  have HI := Lib.hid hi0; have HZ0 := Lib.hid hz0; have HZ1 := Lib.hid hz1; have HZ2 := Lib.hid hz2
  clear hi0 hz0 hz1 hz2
  generalize hm : gs.length = m at *
  generalize hm2 : os.length = m2 at *
  have HM := Lib.hid hm; have HM2 := Lib.hid hm2
  have HPL := Lib.hid fun L (h : PrS gs os L) => (show L.length ≤ m by have := h.len; rw [hm] at this; exact this)
  clear hm hm2
  obtain ⟨F, hF⟩ : ∃ F, F = posL m LM := ⟨_, rfl⟩
  have HF := Lib.hid hF
  rw [← hF]
  clear hF
  have hs0 := ((Sep.start w).box #[.int .i64 n, .slice ga m gc, .slice oa m2 oc] 29).box #[.int .i64 0, .slice none 0 0, .slice none 0 0] 29
  have e1 : (w.alloc (.cells #[.int .i64 n, .slice ga m gc, .slice oa m2 oc] 29)).heap.size = w.heap.size + 1 := by simp
  rw [e1] at hs0
  have HS0 := Lib.hid hs0.nilI.queue
  obtain ⟨x0, x1, x2, _⟩ := bx3 hs0.tl.hd
  clear hs0 e1
  go_enter Tryd.func118, Tryd.ntmps118
  go_wp2_with fail
  go_loopw [3, 5, 20] (fun kv _ i wr => ∃ (k : Nat) (L : List Int), k ≤ m2 ∧ i = .int .i64 k ∧ PrS gs os L ∧ (∀ x ∈ os.take k, x ∈ L) ∧ Sep wr [QA kv L, BxA (w.heap.size + 1) #[.int .i64 0, .slice none 0 0, .slice none 0 0] 29, BxA w.heap.size #[.int .i64 n, .slice ga m gc, .slice oa m2 oc] 29, KeepA w]) (fun _ _ i _ => m2 - (intOf i).toNat)
  case atStart => exact ⟨0, [], by omega, rfl, PrS.nil, (by simp), HS0.out⟩
  case round =>
    obtain ⟨k, L, hk, rfl, hprs, htk, hs⟩ := hrel
    have HPR := Lib.hid hprs; have HTK := Lib.hid htk; have HSX := Lib.hid hs
    have hlen := HPL.out L hprs
    clear hprs htk hs HS0
    by_cases hlt : k < m2
    · have hko : k < os.length := by rw [HM2.out]; exact hlt
      obtain ⟨ob, oo, rfl⟩ := IntsV.addr HO.out (by omega)
      have hc0 := (HO.out.carry HSX.out.tl.tl.tl.hd).cellN hko
      have HX := Lib.hid (HOS.out _ (getD_mem' hko))
      have HXM := Lib.hid (getD_mem' hko)
      have HTS := Lib.hid (show os.take (k + 1) = os.take k ++ [os.getD k 0] by rw [List.take_succ_eq_append_getElem hko, List.getD_eq_getElem?_getD, List.getElem?_eq_getElem hko]; rfl)
      have HCALL := Lib.hid fun x => l1Put_S u3 L x wr _ HSX.out (by omega)
      generalize os.getD k 0 = x at *
      clear hko
      go_wp2_with (
        go_at_call 188
        with_reducible refine (HCALL.out _).mono ?_
        rintro e w2 ⟨v2, rfl, hs2, hg2⟩
        have HS2 := Lib.hid hs2
        clear hs2 hg2)
      go_roundw
      case rel => exact ⟨k + 1, putL L x, by omega, by go_num, HOUT.out L x HPR.out HXM.out HX.out, fun y hy => by
        rw [HTS.out] at hy
        rcases List.mem_append.1 hy with hy | hy
        · exact (mem_put L).2 (Or.inr (HTK.out y hy))
        · rw [List.mem_singleton] at hy
          exact (mem_put L).2 (Or.inl hy), HS2.out⟩
      case measure => simp [intOf]; omega
    · have hkm : k = m2 := by omega
      subst hkm
      have htko : os.take k = os := List.take_of_length_le (by rw [HM2.out]; exact Nat.le_refl _)
      have HTO := Lib.hid (show ∀ x ∈ os, x ∈ L by have := HTK.out; rw [htko] at this; exact this)
      clear hlt htko HTK hlen
      go_wp2_with fail
      go_loopw [3, 6] (fun kv ag wr => ∃ (L : List Int) (b : Bool), ag = .bool b ∧ PrS gs os L ∧ (∀ x ∈ os, x ∈ L) ∧ (b = false → L = LM) ∧ Sep wr [QA kv L, BxA (w.heap.size + 1) #[.int .i64 0, .slice none 0 0, .slice none 0 0] 29, BxA w.heap.size #[.int .i64 n, .slice ga m gc, .slice oa k oc] 29, KeepA w]) (fun kv ag wr => 2 * (m - sliceLen kv) + bN ag)
      case atStart => exact ⟨L, true, rfl, HPR.out, HTO.out, (fun h => by cases h), HSX.out⟩
      case round =>
        obtain ⟨L0, b, rfl, hprs, hto, hbl, hs⟩ := hrel
        have HP0 := Lib.hid hprs; have HT0 := Lib.hid hto; have HB0 := Lib.hid hbl; have HS1 := Lib.hid hs
        have hlen := HPL.out L0 hprs
        clear hprs hto hbl hs HPR HTO HSX
        cases b with
        | false =>
          have hs1 := HS1.out
          rw [HB0.out rfl] at hs1
          have hls := HML.out
          obtain ⟨la, lc, rfl, hlc, hki⟩ := QRow.ints hs1.hd
          have HS2 := Lib.hid hs1
          generalize hll : LM.length = ln at *
          have HLL := Lib.hid hll
          clear hlen hki HP0 HT0 HB0 HS1 hs1 hll hlc HDN HSTEP HNEXT HOUT HPL
          have HF2 := Lib.hid (show F = ofL (posTo m LM ln) by rw [HF.out]; unfold posL; rw [HLL.out])
          obtain ⟨y0, y1, y2, _⟩ := bx3 HS2.out.tl.tl.hd
          go_wp2_with (
            at_make
            refine wpList_make_full _ rfl _ _ 23 rfl _ 3 i0 (.int .i64 0) 1 Tryd.underlying23 HI.out HZ0.out HZ1.out _ _ _ _ m rfl rfl rfl rfl (by rw [HZ2.out]; omega) (by unfold maxLen; omega) (Nat.le_refl _) ?_
            intro w1 hown' hgr'
            have hs0 := HS2.out.newI hgr' (by
              rw [madeCells_int] at hown'
              unfold OwnInts
              rw [List.length_replicate]
              exact hown')
            have HS3 := Lib.hid hs0
            clear hs0 hown' hgr')
          generalize wr.heap.size = zg at *
          clear y0 y1 y2
          go_loopw [12, 13, 65] (fun _ _ i wr => ∃ j : Nat, j ≤ ln ∧ i = .int .i64 j ∧ Sep wr [OI (.slice (some ⟨zg, 0, none⟩) m m) (posTo m LM j), QA (.slice la ln lc) LM, BxA (w.heap.size + 1) #[.int .i64 0, .slice none 0 0, .slice none 0 0] 29, BxA w.heap.size #[.int .i64 n, .slice ga m gc, .slice oa k oc] 29, KeepA w]) (fun _ _ i _ => ln - (intOf i).toNat)
          case atStart => exact ⟨0, by omega, rfl, by simpa [posTo] using HS3.out⟩
          case round =>
            obtain ⟨j, hj, rfl, hs⟩ := hrel
            have HSX := Lib.hid hs
            clear hs HS3 HS2
            by_cases hlj : j < ln
            · have hjl : j < LM.length := by rw [HLL.out]; exact hlj
              obtain ⟨la', lc', he, _, hqi⟩ := QRow.ints HSX.out.tl.hd
              injection he with e1 e2 e3
              subst e1 e3
              clear e2
              obtain ⟨lb, lo, rfl⟩ := IntsV.addr hqi (by omega)
              have hc0 := hqi.cellN hjl
              have hxr := HMR.out (LM.getD j 0) (getD_mem' hjl)
              have hst : posTo m LM (j + 1) = (posTo m LM j).set (LM.getD j 0).toNat j := rfl
              have hpl : m = (posTo m LM j).length := (posTo_len _ _ _).symm
              generalize LM.getD j 0 = x at *
              obtain ⟨nx, rfl⟩ := Int.eq_ofNat_of_zero_le hxr.1
              have hnx : nx < m := by omega
              rw [Int.toNat_natCast] at hst
              have hf := HSX.out.hd.free hpl nx
              obtain ⟨q, hq⟩ := HSX.out.hd.cellQ hpl (j := nx) hnx
              have hset := HSX.out.setI hpl nx j
              rw [← hst] at hset
              have HSET := Lib.hid hset
              clear hset hst hpl hjl hqi
              go_wp2
              go_roundw
              case rel => exact ⟨j + 1, by omega, by go_num, HSET.out⟩
              case measure => simp [intOf]; omega
            · have hjm : j = ln := by omega
              subst hjm
              clear hlj
              have HPL := Lib.hid (posTo_len m LM j)
              generalize posTo m LM j = P at *
              go_upto_region 26 with fail
              go_cut [14] from 75 to 81 (fun t14 wx => ∃ (ob : Nat) (a2 : Option Addr) (c2 : Nat), t14 = .pointer (some ⟨ob, 0, none⟩) ∧ Sep wx [BxA ob #[.int .i64 n, .slice none 0 0, .slice a2 k c2] 29, OI (.slice a2 k c2) (os.map (ofL P)), OI (.slice (some ⟨zg, 0, none⟩) m m) P, QA (.slice la j lc) LM, BxA (w.heap.size + 1) #[.int .i64 0, .slice none 0 0, .slice none 0 0] 29, BxA w.heap.size #[.int .i64 n, .slice ga m gc, .slice oa k oc] 29, KeepA w])
              case first =>
                have hs := HSX.out
                clear HSX
                have SX := Lib.hid fun (W : World) (l : List Asrt) (h : Sep W (OI (.slice (some ⟨zg, 0, none⟩) m m) P :: QA (.slice la j lc) LM :: BxA (w.heap.size + 1) #[.int .i64 0, .slice none 0 0, .slice none 0 0] 29 :: BxA w.heap.size #[.int .i64 n, .slice ga m gc, .slice oa k oc] 29 :: l)) => And.intro (bx3 h.tl.tl.tl.hd).1 (bx3 h.tl.tl.tl.hd).2.2.1
                have HS4 := Lib.hid hs.dr
                have HS4b := Lib.hid (hs.box #[.int .i64 0, .slice none 0 0, .slice none 0 0] 29).dr
                have X0 := Lib.hid (SX.out _ _ hs.dr)
                have Y0 := Lib.hid fun ob => SX.out _ _ (hs.al ob).dr
                have HK4 := Lib.hid (show w.grownBy wr.drew none from hs.dr.tl.tl.tl.tl.hd)
                have HK4b := Lib.hid fun ob => (show w.grownBy (wr.alloc ob).drew none from (hs.al ob).dr.tl.tl.tl.tl.hd)
                have HI4 := Lib.hid hs.dr.hd.read
                have HI4b := Lib.hid fun ob => (hs.al ob).dr.hd.read
                clear hs
                go_region_held3 (fun w' => w'.cell? ⟨w.heap.size, 0, none⟩ = some (.int .i64 n) ∧ w'.cell? ⟨w.heap.size, 2, none⟩ = some (.slice oa k oc))
                  (first | with_reducible exact X0.out | with_reducible exact Y0.out _ | with_reducible exact X5.out | with_reducible exact Y5.out _ | with_reducible exact V5.out | with_reducible exact V6.out | with_reducible exact V7.out | (trace_state; fail))
                  (first
                    | (go_at_call 119
                       with_reducible refine (HHL.out _ _ _ HK4.out HI4.out HPL.out).mono ?_
                       rintro e w5 ⟨a2, c2, rfl, hsg⟩
                       have hsn := HS4.out.graft1 hsg OI_own
                       have X5 := Lib.hid (SX.out _ _ hsn.tl)
                       have Y5 := Lib.hid fun ob => SX.out _ _ (hsn.tl.al ob)
                       have HFa := Lib.hid (hsn.box #[.int .i64 n, .slice none 0 0, .slice a2 k c2] 29)
                       clear hsn hsg)
                    | (go_at_call 119
                       with_reducible refine (HHL.out _ _ _ (HK4b.out _) (HI4b.out _) HPL.out).mono ?_
                       rintro e w5 ⟨a2, c2, rfl, hsg⟩
                       have hsn := HS4b.out.graft1 hsg OI_own
                       have X5 := Lib.hid (SX.out _ _ hsn.tl.tl)
                       obtain ⟨r0, r1, r2, r3, r4, r5⟩ := bx3 hsn.tl.hd
                       have h1 := hsn.s2.setB 0 (.int .i64 n)
                       have h2 := h1.setB 1 (.slice none 0 0)
                       have h3 := h2.setB 2 (.slice a2 k c2)
                       have V5 := Lib.hid (SX.out _ _ h1.tl.tl)
                       have V6 := Lib.hid (SX.out _ _ h2.tl.tl)
                       have V7 := Lib.hid (SX.out _ _ h3.tl.tl)
                       have HFb := Lib.hid h3
                       clear h1 h2 h3 hsn hsg))
                all_goals
                  go_wp2_with fail
                  go_meet
                  refine ⟨_, a2, c2, rfl, ?_⟩
                  first
                    | exact HFa.out
                    | exact HFb.out
              case rest =>
                obtain ⟨ob, a2, c2, rfl, hs⟩ := hcut
                have HS5 := Lib.hid (hs.nilR gateE).s2
                clear hs HSX
                go_wp2_with fail
                go_loopw [16, 84] (fun _ i wr => ∃ (t : Nat) (g1 : Option Addr) (d1 : Nat), t ≤ j ∧ i = .int .i64 t ∧ Sep wr [BxA ob #[.int .i64 n, .slice g1 t d1, .slice a2 k c2] 29, OR gateE (.slice g1 t d1) ((LM.take t).map fun k => withL (ofL P) (at3 gs k)), OI (.slice a2 k c2) (os.map (ofL P)), OI (.slice (some ⟨zg, 0, none⟩) m m) P, QA (.slice la j lc) LM, BxA (w.heap.size + 1) #[.int .i64 0, .slice none 0 0, .slice none 0 0] 29, BxA w.heap.size #[.int .i64 n, .slice ga m gc, .slice oa k oc] 29, KeepA w]) (fun _ i _ => j - (intOf i).toNat)
                case atStart => exact ⟨0, none, 0, by omega, rfl, by simpa [nilS] using HS5.out⟩
                case round =>
                  obtain ⟨t, g1, d1, ht, rfl, hs⟩ := hrel
                  have HSX := Lib.hid hs
                  clear hs HS5
                  by_cases hlt : t < j
                  · have hjl : t < LM.length := by rw [HLL.out]; exact hlt
                    obtain ⟨la', lc', he, _, hqi⟩ := QRow.ints HSX.out.tl.tl.tl.tl.hd
                    injection he with e1 e2 e3
                    subst e1 e3
                    clear e2
                    obtain ⟨lb, lo, rfl⟩ := IntsV.addr hqi (by omega)
                    have hc0 := fun o => (hqi.carry (gr1 wr o)).cellN hjl
                    have hc1 := hqi.cellN hjl
                    have hxr := HMR.out (LM.getD t 0) (getD_mem' hjl)
                    have hgd : LM.getD t 0 = LM[t] := by rw [List.getD_eq_getElem?_getD, List.getElem?_eq_getElem hjl]; rfl
                    have hst : (LM.take (t + 1)).map (fun k => withL (ofL P) (at3 gs k)) = (LM.take t).map (fun k => withL (ofL P) (at3 gs k)) ++ [withL (ofL P) (at3 gs (LM.getD t 0))] := by
                      rw [List.take_succ_eq_append_getElem hjl, List.map_append, hgd]
                      rfl
                    generalize LM.getD t 0 = x at *
                    obtain ⟨nx, rfl⟩ := Int.eq_ofNat_of_zero_le hxr.1
                    have hnm : nx < m := by omega
                    have hnx : nx < gs.length := by rw [HM.out]; omega
                    rw [at3_nat] at hst
                    have hopx := HOPS.out _ (getD_mem3 g0 hnx)
                    obtain ⟨b, o, rfl, hb, q0, q1, q2, q3⟩ := gate_at rfl rfl HG.out hnx
                    have HWO := Lib.hid fun W (hx : IntsV W (.slice (some ⟨zg, 0, none⟩) m m) P) => crMoved_any (gs.getD nx g0) _ P W hx (fun x hx => by rw [HPL.out]; exact hopx x hx)
                    have HML2 := Lib.hid (show ((LM.take t).map fun k => withL (ofL P) (at3 gs k)).length = t by rw [List.length_map, List.length_take]; omega)
                    have HST := Lib.hid hst
                    generalize gs.getD nx g0 = gg at *
                    generalize withL (ofL P) gg = y at *
                    generalize (LM.take t).map (fun k => withL (ofL P) (at3 gs k)) = GL at *
                    unfold gtV at HWO
                    have QC := Lib.hid fun W (h : w.grownBy W none) => And.intro ((World.cell?_of_block (a := ⟨b, o + nx * 4, none⟩) (h.block b hb (by simp))).trans q0) (And.intro ((World.cell?_of_block (a := ⟨b, o + nx * 4 + 1, none⟩) (h.block b hb (by simp))).trans q1) (And.intro ((World.cell?_of_block (a := ⟨b, o + nx * 4 + 2, none⟩) (h.block b hb (by simp))).trans q2) ((World.cell?_of_block (a := ⟨b, o + nx * 4 + 3, none⟩) (h.block b hb (by simp))).trans q3)))
                    have hs4 := HSX.out.dr
                    obtain ⟨k0, k1, k2, k3⟩ := QC.out _ hs4.tl.tl.tl.tl.tl.tl.tl.hd
                    obtain ⟨x0, x1, x2, _⟩ := bx3 hs4.hd
                    obtain ⟨y0, y1, y2, _⟩ := bx3 hs4.tl.tl.tl.tl.tl.tl.hd
                    have HI4 := Lib.hid hs4.tl.tl.tl.hd.read
                    have HS4 := Lib.hid hs4
                    clear hs4 hst hjl hgd hopx q0 q1 q2 q3 hqi hc0
                    go_upto_region 30 with fail
                    go_region_law (first
                      | (try go_simp
                         go_at_call 190
                         with_reducible refine (HWO.out _ HI4.out).mono ?_
                         rintro e w5 ⟨rfl, hg5⟩
                         have hs5 := HS4.out.grown hg5
                         obtain ⟨v0, v1, v2, _⟩ := bx3 hs5.hd
                         have va := fun ob' => (bx3 (hs5.al ob').hd).2.1
                         have HS5 := Lib.hid hs5.s2
                         clear hg5 hs5)
                      | (refine step_app_RG (E := gateE) info_gate rfl (by decide) Tryd.underlying27 (gate_one y) rfl (.tmp 89) (.tmp 97) rfl rfl rfl (by simp) rfl HS5.out (by rw [HML2.out]; omega) ?_
                         intro g2 d2 w6 h6
                         rw [HML2.out] at h6 ⊢
                         rw [← HST.out] at h6
                         have h7 := h6.s2
                         obtain ⟨u0, u1, u2, u3, u4, u5⟩ := bx3 h7.hd
                         have HS7 := Lib.hid (h7.setB 1 (.slice (some ⟨g2, 0, none⟩) (t + 1) d2))
                         clear h6 h7))
                    all_goals
                      go_wp2_with fail
                      go_roundw
                      case rel => exact ⟨t + 1, some ⟨g2, 0, none⟩, d2, by omega, by go_num, HS7.out⟩
                      case measure => simp [intOf]; omega
                  · have hjk : t = j := by omega
                    subst hjk
                    clear hlt
                    have hs8 := HSX.out
                    rw [List.take_of_length_le (by rw [HLL.out]; exact Nat.le_refl _)] at hs8
                    obtain ⟨y0, y1, y2, _⟩ := bx3 hs8.hd
                    have hs9 := hs8.q6
                    obtain ⟨z0, z1, z2, z3, z4, z5⟩ := bx3 hs9.hd
                    have hs10 := ((hs9.setB 0 (.int .i64 n)).setB 1 (.slice g1 t d1)).setB 2 (.slice a2 k c2)
                    obtain ⟨u0, u1, u2, _⟩ := bx3 hs10.hd
                    have HSF := Lib.hid (hs10.tl.tl.under (fun h => h.under (fun h => h.tl.tl.tl) (by simp +contextual)) (by simp +contextual))
                    clear hs8 hs9 hs10 HSX
                    go_wp2
                    refine bodyPost_ret_by (v := .agg #[.int .i64 n, .slice g1 t d1, .slice a2 k c2]) ?_ rfl ⟨g1, d1, a2, c2, by rw [HLL.out]; rfl, by rw [HLL.out, HF2.out]; exact HSF.out⟩
                    simp [results, go_sem, *]
        | true =>
          obtain ⟨ka, kc, rfl, hkc, hki⟩ := QRow.ints HS1.out.hd
          have HOWN := Lib.hid (l1Own_any _ L0 wr hki (by omega))
          have HL0 := Lib.hid hlen
          clear hki hlen HB0
          generalize hll : L0.length = l0 at *
          have HLL := Lib.hid hll
          clear hll
          have hl0 : l0 ≤ m := by rw [← HLL.out]; exact HPL.out _ HP0.out
          go_wp2_with (
            go_at_call 152
            with_reducible refine HOWN.out.mono ?_
            rintro e w2 ⟨va, vc, rfl, hsg⟩
            have HR2 := Lib.hid (show IntsV w2 (.slice va l0 vc) L0 from OwnInts.read hsg.hd)
            have HS2 := Lib.hid (HS1.out.grown hsg.tl.hd)
            clear hsg)
          go_loopw [3, 6, 8, 32] (fun kv ag _ i wr => ∃ (j : Nat) (L : List Int) (b : Bool), j ≤ l0 ∧ i = .int .i64 j ∧ ag = .bool b ∧ IntsV wr (.slice va l0 vc) L0 ∧ PrR gs os L0 L b j [] ∧ Sep wr [QA kv L, BxA (w.heap.size + 1) #[.int .i64 0, .slice none 0 0, .slice none 0 0] 29, BxA w.heap.size #[.int .i64 n, .slice ga m gc, .slice oa k oc] 29, KeepA w]) (fun _ _ _ i _ => l0 - (intOf i).toNat)
          case atStart => exact ⟨0, L0, false, by omega, rfl, rfl, HR2.out, PrR.start HP0.out, HS2.out⟩
          case round =>
            obtain ⟨j, L, b, hj, rfl, rfl, hrv, hpr, hs⟩ := hrel
            have HRV := Lib.hid hrv; have HPR := Lib.hid hpr; have HSX := Lib.hid hs
            clear hrv hpr hs HR2 HS2
            by_cases hlj : j < l0
            · have hj0 : j < L0.length := by rw [HLL.out]; exact hlj
              obtain ⟨vb, vo, rfl⟩ := IntsV.addr HRV.out (by omega)
              have hc0 := HRV.out.cellN hj0
              have hi2 := HP0.out.rng _ (getD_mem' hj0)
              rw [HM.out] at hi2
              have HNX := Lib.hid fun L xs ag (h : PrR gs os L0 L ag j xs) (hx : xs = opsL (at3 gs (L0.getD j 0))) => HNEXT.out L0 L xs ag j h hx
              have HST := Lib.hid fun L xs ag x (h : PrR gs os L0 L ag j xs) (hx : x ∈ opsL (at3 gs (L0.getD j 0))) (hr : 0 ≤ x ∧ x < m) => HSTEP.out L0 L xs ag j x h hj0 hx hr
              generalize L0.getD j 0 = i at *
              obtain ⟨ni, rfl⟩ := Int.eq_ofNat_of_zero_le hi2.1
              have hnm : ni < m := by omega
              have hni : ni < gs.length := by rw [HM.out]; omega
              rw [at3_nat] at HNX HST
              have HOG := Lib.hid fun x hx => HOPS.out _ (getD_mem3 g0 hni) x hx
              obtain ⟨gb, go, rfl, _, q0, q1, q2, q3⟩ := gate_at rfl rfl (HG.out.carry HSX.out.tl.tl.tl.hd) hni
              obtain ⟨x0, x1, x2, _⟩ := bx3 HSX.out.tl.tl.hd
              have HOPC := Lib.hid fun W => crOperands_any (gs.getD ni g0) W
              unfold gtV at HOPC
              generalize gs.getD ni g0 = g at *
              obtain ⟨gk, g1, g2, g3⟩ := g
              simp only at q0 q1 q2 q3 HOPC
              clear hj0 hi2 hni
              go_wp2_with (
                go_at_call 187
                with_reducible refine (HOPC.out _).mono ?_
                rintro e w3 ⟨pa, pc, rfl, hpi, hg3⟩
                have HP3 := Lib.hid hpi
                have HR3 := Lib.hid (HRV.out.carry hg3)
                have HS3 := Lib.hid (HSX.out.grown hg3)
                clear hpi hg3)
              generalize hxs : opsL ⟨gk, g1, g2, g3⟩ = xs at *
              have hxl : xs.length ≤ 2 := by rw [← hxs]; exact ops_le _
              have HXL := Lib.hid hxl
              clear hxs hxl x0 x1 x2 q0 q1 q2 q3
              generalize hxm : xs.length = xm at *
              have HXM := Lib.hid hxm
              clear hxm
              have hx2 : xm ≤ 2 := HXL.out
              go_loopw [3, 6, 10, 43] (fun kv ag _ i wr => ∃ (t : Nat) (L : List Int) (b : Bool), t ≤ xm ∧ i = .int .i64 t ∧ ag = .bool b ∧ IntsV wr (.slice (some ⟨vb, vo, none⟩) l0 vc) L0 ∧ IntsV wr (.slice pa xm pc) xs ∧ PrR gs os L0 L b j (xs.take t) ∧ Sep wr [QA kv L, BxA (w.heap.size + 1) #[.int .i64 0, .slice none 0 0, .slice none 0 0] 29, BxA w.heap.size #[.int .i64 n, .slice (some ⟨gb, go, none⟩) m gc, .slice oa k oc] 29, KeepA w]) (fun _ _ _ i _ => xm - (intOf i).toNat)
              case atStart => exact ⟨0, L, b, by omega, rfl, rfl, HR3.out, HP3.out, HPR.out, HS3.out⟩
              case round =>
                obtain ⟨t, L, b, ht, rfl, rfl, hrv, hxv, hpr, hs⟩ := hrel
                have HRV := Lib.hid hrv; have HXV := Lib.hid hxv; have HPR := Lib.hid hpr; have HSX := Lib.hid hs
                have hlen := HPL.out L hpr.s
                clear hrv hxv hpr hs HR3 HP3 HS3
                by_cases hlt : t < xm
                · have htx : t < xs.length := by rw [HXM.out]; exact hlt
                  obtain ⟨pb, po, rfl⟩ := IntsV.addr HXV.out (by omega)
                  have hc1 := HXV.out.cellN htx
                  have HXR := Lib.hid (HOG.out _ (getD_mem' htx))
                  have HXN := Lib.hid (getD_mem' htx)
                  have HTS := Lib.hid (show xs.take (t + 1) = xs.take t ++ [xs.getD t 0] by rw [List.take_succ_eq_append_getElem htx, List.getD_eq_getElem?_getD, List.getElem?_eq_getElem htx]; rfl)
                  obtain ⟨ka2, kc2, rfl, hkc2, hki2⟩ := QRow.ints HSX.out.hd
                  have HHAS := Lib.hid (l1Has_any (.slice ka2 L.length kc2) L (xs.getD t 0) wr hki2 (by omega))
                  have HPUT := Lib.hid fun W x (h : wr.grownBy W none) => l1Put_S (.slice ka2 L.length kc2) L x W _ (HSX.out.grown h) (by omega)
                  have HNW := Lib.hid (HST.out L _ b (xs.getD t 0) HPR.out HXN.out HXR.out)
                  generalize xs.getD t 0 = x at *
                  rw [← HTS.out] at HNW
                  clear htx hlen hki2 hkc2
                  generalize hL2 : L.length = l2 at *
                  clear hL2
                  cases b with
                  | true =>
                    rw [Bool.true_or] at HNW
                    go_wp2_with (
                      go_at_call 188
                      with_reducible refine (HPUT.out _ _ (grownBy_refl _ _)).mono ?_
                      rintro e w4 ⟨v4, rfl, hs4, hg4⟩
                      have HR4 := Lib.hid (HRV.out.carry hg4)
                      have HX4 := Lib.hid (HXV.out.carry hg4)
                      have HS4 := Lib.hid hs4
                      clear hs4 hg4)
                    go_roundw
                    case rel => exact ⟨t + 1, putL L x, true, by omega, by go_num, rfl, HR4.out, HX4.out, HNW.out, HS4.out⟩
                    case measure => simp [intOf]; omega
                  | false =>
                    rw [Bool.false_or] at HNW
                    generalize decide (x ∈ L) = d at *
                    go_wp2_with (first
                      | (go_at_call 189
                         with_reducible refine HHAS.out.mono ?_
                         rintro e w4 ⟨rfl, hg4⟩
                         have HG4 := Lib.hid hg4
                         clear hg4)
                      | (go_at_call 188
                         with_reducible refine (HPUT.out _ _ HG4.out).mono ?_
                         rintro e w5 ⟨v5, rfl, hs5, hg5⟩
                         have hg6 := grownBy_trans HG4.out hg5
                         have HR5 := Lib.hid (HRV.out.carry hg6)
                         have HX5 := Lib.hid (HXV.out.carry hg6)
                         have HS5 := Lib.hid hs5
                         clear hs5 hg5 hg6))
                    go_roundw
                    case rel => exact ⟨t + 1, putL L x, !d, by omega, by go_num, rfl, HR5.out, HX5.out, HNW.out, HS5.out⟩
                    case measure => simp [intOf]; omega
                · have htm : t = xm := by omega
                  subst htm
                  have hxt : xs.take t = xs := List.take_of_length_le (by rw [HXM.out]; exact Nat.le_refl _)
                  have HNW := Lib.hid (HNX.out L _ b HPR.out hxt)
                  clear hlt hxt hlen
                  go_wp2
                  go_roundw
                  case rel => exact ⟨j + 1, L, b, by omega, by go_num, rfl, HRV.out, HNW.out, HSX.out⟩
                  case measure => simp [intOf]; omega
            · have hjl : j = l0 := by omega
              subst hjl
              clear hlj
              obtain ⟨ka2, kc2, rfl, hkc2, hki2⟩ := QRow.ints HSX.out.hd
              have hlen := HPL.out L HPR.out.s
              have hon := HPR.out.on
              clear hkc2 hki2
              go_wp2
              go_roundw
              case rel => exact ⟨L, b, rfl, HPR.out.s, fun x hx => HPR.out.sub x (HT0.out x hx), (fun hb => by
                subst hb
                have h := HPR.out
                rw [← HLL.out] at h
                exact HDN.out _ _ _ h HT0.out), HSX.out⟩
              case measure =>
                cases b with
                | false =>
                  have := HPR.out.off rfl
                  simp [sliceLen, bN, this.1, HLL.out]
                | true =>
                  have := hon rfl
                  rw [HLL.out] at this
                  simp [sliceLen, bN]
                  omega
end Go.Proofs.YtkamcgonacmieaaDoor

/-
  A circuit handed back if it is valid, in the program and in the reference. Conditions: at most 2,000,000 gates and outputs.
-/
namespace Go.Proofs.YtkamcgonacmieaaDoor
open Go.RowKit
set_option linter.unusedVariables false
set_option maxRecDepth 100000

theorem Sep.reads {w w0 : World} {gv ov : Value} {gs : List Gt} {os : List Int} (h : Sep w [OR gateE gv gs, OI ov os, KeepA w0]) : RdR gateE w gv gs ∧ IntsV w ov os ∧ w0.grownBy w none := ⟨h.hd.read, h.tl.hd.read, h.tl.tl.hd⟩

set_option maxHeartbeats 2000000 in
theorem validCircuit_any (p n : Int) (gv ov : Value) (gs : List Gt) (os : List Int) (w : World) (ht : Tab w) (hg : RdR gateE w gv gs) (ho : IntsV w ov os) (l1 : gs.length ≤ 2000000) (l2 : os.length ≤ 2000000) :
    Calls Tryd.prog 76 #[.int .i64 p, cirV n gv ov] w fun e w' => e = .returned (.tuple #[if circE p ⟨n, gs, os⟩ = true then cirV n gv ov else cirV 0 nilS nilS, .bool (circE p ⟨n, gs, os⟩)]) ∧ w.grownBy w' none := by
  have HIC := Lib.hid fun W (h : w.grownBy W none) => isCircuit_any p n gv ov gs os W (ht.grown h) (hg.carry h) (ho.carry h) l1 l2
  obtain ⟨ga, gc, rfl⟩ := hg.shape
  obtain ⟨oa, oc, rfl⟩ := ho.shape
  generalize circE p ⟨n, gs, os⟩ = b at *
  unfold cirV nilS at *
  clear hg ho ht
  have hs0 := ((Sep.start w).box #[.int .i64 n, .slice ga gs.length gc, .slice oa os.length oc] 29).box #[.int .i64 0, .slice none 0 0, .slice none 0 0] 29
  have e1 : (w.alloc (.cells #[.int .i64 n, .slice ga gs.length gc, .slice oa os.length oc] 29)).heap.size = w.heap.size + 1 := by simp
  rw [e1] at hs0
  have HS0 := Lib.hid hs0
  have HK0 := Lib.hid (show w.grownBy _ none from hs0.tl.tl.hd)
  clear hs0 e1
  generalize gs.length = m at *
  generalize os.length = m2 at *
  cases b
  · go_enter Tryd.func76, Tryd.ntmps76
    go_wp2_with (
      go_at_call 57
      with_reducible refine (HIC.out _ HK0.out).mono ?_
      rintro e w4 ⟨rfl, hg4⟩
      have hs1 := HS0.out.grown hg4
      obtain ⟨r0, r1, r2, r3, r4, r5⟩ := bx3 hs1.hd
      have hs2 := ((hs1.setB 0 (.int .i64 0)).setB 1 (.slice none 0 0)).setB 2 (.slice none 0 0)
      obtain ⟨t0, t1, t2, _⟩ := bx3 hs2.hd
      have HKF := Lib.hid (show w.grownBy _ none from hs2.tl.tl.hd)
      clear hg4 hs1 hs2)
    refine bodyPost_ret_by (v := .tuple #[.agg #[.int .i64 0, .slice none 0 0, .slice none 0 0], .bool false]) ?_ rfl ⟨rfl, HKF.out⟩
    simp [results, go_sem, *]
  · go_enter Tryd.func76, Tryd.ntmps76
    go_wp2_with (
      go_at_call 57
      with_reducible refine (HIC.out _ HK0.out).mono ?_
      rintro e w4 ⟨rfl, hg4⟩
      have hs1 := HS0.out.grown hg4
      obtain ⟨r0, r1, r2, r3, r4, r5⟩ := bx3 hs1.hd
      obtain ⟨y0, y1, y2, y3, y4, y5⟩ := bx3 hs1.tl.hd
      have hs2 := ((hs1.setB 0 (.int .i64 n)).setB 1 (.slice ga m gc)).setB 2 (.slice oa m2 oc)
      obtain ⟨t0, t1, t2, _⟩ := bx3 hs2.hd
      have HKF := Lib.hid (show w.grownBy _ none from hs2.tl.tl.hd)
      clear hg4 hs1 hs2)
    refine bodyPost_ret_by (v := .tuple #[.agg #[.int .i64 n, .slice ga m gc, .slice oa m2 oc], .bool true]) ?_ rfl ⟨rfl, HKF.out⟩
    simp [results, go_sem, *]
set_option maxHeartbeats 2000000 in
theorem crIf_any (p n : Int) (gv ov : Value) (gs : List Gt) (os : List Int) (w : World) (hg : RdR gateE w gv gs) (ho : IntsV w ov os) (l1 : gs.length ≤ 2000000) (l2 : os.length ≤ 2000000) :
    Calls Tryd.prog 72 #[.int .i64 p, cirV n gv ov] w fun e w' => e = .returned (.tuple #[if circE p ⟨n, gs, os⟩ = true then cirV n gv ov else cirV 0 nilS nilS, .bool (circE p ⟨n, gs, os⟩)]) ∧ w.grownBy w' none := by
  have HIC := Lib.hid fun W (h : w.grownBy W none) => crGood_any p n gv ov gs os W (hg.carry h) (ho.carry h) l1 l2
  obtain ⟨ga, gc, rfl⟩ := hg.shape
  obtain ⟨oa, oc, rfl⟩ := ho.shape
  generalize circE p ⟨n, gs, os⟩ = b at *
  unfold cirV nilS at *
  clear hg ho
  have hs0 := ((Sep.start w).box #[.int .i64 n, .slice ga gs.length gc, .slice oa os.length oc] 29).box #[.int .i64 0, .slice none 0 0, .slice none 0 0] 29
  have e1 : (w.alloc (.cells #[.int .i64 n, .slice ga gs.length gc, .slice oa os.length oc] 29)).heap.size = w.heap.size + 1 := by simp
  rw [e1] at hs0
  have HS0 := Lib.hid hs0
  have HK0 := Lib.hid (show w.grownBy _ none from hs0.tl.tl.hd)
  clear hs0 e1
  generalize gs.length = m at *
  generalize os.length = m2 at *
  cases b
  · go_enter Tryd.func72, Tryd.ntmps72
    go_wp2_with (
      go_at_call 48
      with_reducible refine (HIC.out _ HK0.out).mono ?_
      rintro e w4 ⟨rfl, hg4⟩
      have hs1 := HS0.out.grown hg4
      obtain ⟨r0, r1, r2, r3, r4, r5⟩ := bx3 hs1.hd
      have hs2 := ((hs1.setB 0 (.int .i64 0)).setB 1 (.slice none 0 0)).setB 2 (.slice none 0 0)
      obtain ⟨t0, t1, t2, _⟩ := bx3 hs2.hd
      have HKF := Lib.hid (show w.grownBy _ none from hs2.tl.tl.hd)
      clear hg4 hs1 hs2)
    refine bodyPost_ret_by (v := .tuple #[.agg #[.int .i64 0, .slice none 0 0, .slice none 0 0], .bool false]) ?_ rfl ⟨rfl, HKF.out⟩
    simp [results, go_sem, *]
  · go_enter Tryd.func72, Tryd.ntmps72
    go_wp2_with (
      go_at_call 48
      with_reducible refine (HIC.out _ HK0.out).mono ?_
      rintro e w4 ⟨rfl, hg4⟩
      have hs1 := HS0.out.grown hg4
      obtain ⟨r0, r1, r2, r3, r4, r5⟩ := bx3 hs1.hd
      obtain ⟨y0, y1, y2, y3, y4, y5⟩ := bx3 hs1.tl.hd
      have hs2 := ((hs1.setB 0 (.int .i64 n)).setB 1 (.slice ga m gc)).setB 2 (.slice oa m2 oc)
      obtain ⟨t0, t1, t2, _⟩ := bx3 hs2.hd
      have HKF := Lib.hid (show w.grownBy _ none from hs2.tl.tl.hd)
      clear hg4 hs1 hs2)
    refine bodyPost_ret_by (v := .tuple #[.agg #[.int .i64 n, .slice ga m gc, .slice oa m2 oc], .bool true]) ?_ rfl ⟨rfl, HKF.out⟩
    simp [results, go_sem, *]
end Go.Proofs.YtkamcgonacmieaaDoor

/-
  The passes over a circuit until nothing changes: plain law, and why they end. Conditions: the circuit is one over a field.
-/
namespace Go.Proofs.YtkamcgonacmieaaDoor
open Go.RowKit
set_option linter.unusedVariables false
set_option maxRecDepth 100000

noncomputable def foldC (c : Circ) : Circ := ⟨c.n, foldL (silL c.gs) c.gs, c.os⟩
noncomputable def pruC (c : Circ) : Circ := keepC c (markL (useL c.gs c.os))
noncomputable def preC (c : Circ) : Circ := shareC (simpC (foldC c))
theorem mem_fold {m : List Bool} {gs : List Gt} {g : Gt} (h : g ∈ foldL m gs) : g = z2 ∨ g ∈ gs := by
  unfold foldL at h
  obtain ⟨i, hi, rfl⟩ := List.mem_map.1 h
  split
  · exact Or.inl rfl
  · exact Or.inr (getD_mem3 g0 (List.mem_range.1 hi))
theorem ops_z2 : opsL z2 = [] := by simp [opsL, z2]
theorem fold_gates {gs : List Gt} (h : Gates gs) (m : List Bool) : Gates (foldL m gs) := by
  refine ⟨fun g hg x hx => ?_, ?_⟩
  · rw [fold_len]
    rcases mem_fold hg with rfl | hg
    · rw [ops_z2] at hx
      cases hx
    · exact h.ops g hg x hx
  · obtain ⟨r, hr⟩ := h.rank
    refine ⟨r, fun i hi k hk => ?_⟩
    rw [fold_len] at hi
    rw [fold_at hi] at hk
    split at hk
    · have := needs_ops hk
      rw [ops_z2] at this
      cases this
    · exact hr i hi k hk
theorem ops_with (f : Int → Int) (g : Gt) : opsL (withL f g) = (opsL g).map f := by
  unfold withL opsL
  by_cases h3 : g.k = 3
  · simp [h3]
  · by_cases h4 : g.k = 4 ∨ g.k = 5
    · simp [h3, h4]
    · simp [h3, h4]
theorem kind_with (f : Int → Int) (g : Gt) : (withL f g).k = g.k ∧ (withL f g).v = g.v := by
  unfold withL
  split
  · exact ⟨rfl, rfl⟩
  · split <;> exact ⟨rfl, rfl⟩
theorem needs_with (f : Int → Int) (g : Gt) : needsL (withL f g) = (needsL g).map f := by
  unfold needsL
  rw [(kind_with f g).1, ops_with]
  split <;> simp
theorem at_map {gs : List Gt} (f : Gt → Gt) {i : Nat} (hi : i < gs.length) : (gs.map f).getD i g0 = f (gs.getD i g0) := by
  rw [List.getD_eq_getElem?_getD, List.getElem?_map, List.getElem?_eq_getElem hi, List.getD_eq_getElem?_getD, List.getElem?_eq_getElem hi]
  rfl
theorem with_id {f : Int → Int} {g : Gt} (h : ∀ x ∈ opsL g, f x = x) : withL f g = g := by
  obtain ⟨k, a, b, v⟩ := g
  unfold withL
  simp only
  split
  · rename_i h3
    rw [h a (by simp [opsL, h3]), h b (by simp [opsL, h3])]
  · split
    · rename_i h3 h4
      rw [h a (by simp [opsL, h3, h4])]
    · rfl
theorem fin_stand {gs : List Gt} (h : Gates gs) {k : Int} (h0 : 0 ≤ k) (hk : k < gs.length) : ∃ n, standL gs (iterL (standL gs) n k) = iterL (standL gs) n k := by
  obtain ⟨r, hr⟩ := h.chain
  have key : ∀ (m : Nat) (n : Nat), r (iterL (standL gs) n k).toNat ≤ m → ∃ n, standL gs (iterL (standL gs) n k) = iterL (standL gs) n k := by
    intro m
    induction m with
    | zero =>
      intro n hn
      refine ⟨n, Classical.byContradiction fun hne => ?_⟩
      have := hr _ (h.iter h0 hk n).1 (h.iter h0 hk n).2 hne
      omega
    | succ m ih =>
      intro n hn
      by_cases hne : standL gs (iterL (standL gs) n k) = iterL (standL gs) n k
      · exact ⟨n, hne⟩
      · have := hr _ (h.iter h0 hk n).1 (h.iter h0 hk n).2 hne
        exact ih (n + 1) (show r (standL gs (iterL (standL gs) n k)).toNat ≤ m by omega)
  exact key _ 0 (Nat.le_refl _)
theorem fin_is {gs : List Gt} (h : Gates gs) {k : Int} (h0 : 0 ≤ k) (hk : k < gs.length) : standL gs (finL gs k) = finL gs k := by
  obtain ⟨n, hn⟩ := fin_stand h h0 hk
  rw [fin_of hn]
  exact hn
theorem fin_self {gs : List Gt} {k : Int} (h : standL gs k = k) : finL gs k = k := fin_of (n := 0) h
theorem fin_idem {gs : List Gt} (h : Gates gs) {k : Int} (h0 : 0 ≤ k) (hk : k < gs.length) : finL gs (finL gs k) = finL gs k := fin_self (fin_is h h0 hk)
theorem fin_rank {gs : List Gt} (h : Gates gs) {r : Nat → Nat} (hr : ∀ i, i < gs.length → ∀ k ∈ needsL (gs.getD i g0), r k.toNat < r i) {k : Int} (h0 : 0 ≤ k) (hk : k < gs.length) : r (finL gs k).toNat ≤ r k.toNat := by
  obtain ⟨n, hn⟩ := fin_stand h h0 hk
  rw [fin_of hn]
  clear hn
  induction n with
  | zero => exact Nat.le_refl _
  | succ n ih =>
    show r (standL gs (iterL (standL gs) n k)).toNat ≤ _
    obtain ⟨i0, i1⟩ := h.iter h0 hk n
    rcases stand_cases (gs := gs) (k := iterL (standL gs) n k) with e | e
    · rw [e]
      exact ih
    · have := hr (iterL (standL gs) n k).toNat (by omega) _ e
      omega
theorem simp_gates {gs : List Gt} (h : Gates gs) : Gates (gs.map (withL (finL gs))) := by
  refine ⟨fun g hg x hx => ?_, ?_⟩
  · obtain ⟨g', hg', rfl⟩ := List.mem_map.1 hg
    rw [ops_with] at hx
    obtain ⟨y, hy, rfl⟩ := List.mem_map.1 hx
    rw [List.length_map]
    have := h.ops g' hg' y hy
    exact h.fin this.1 this.2
  · obtain ⟨r, hr⟩ := h.rank
    refine ⟨r, fun i hi k hk => ?_⟩
    rw [List.length_map] at hi
    rw [at_map _ hi, needs_with] at hk
    obtain ⟨y, hy, rfl⟩ := List.mem_map.1 hk
    have hy2 := h.ops _ (getD_mem3 g0 hi) y (needs_ops hy)
    have := fin_rank h hr hy2.1 hy2.2
    have := hr i hi y hy
    omega
/-- The classes stand still after some steps. -/
theorem cls_ends (gs : List Gt) : ∃ s, clsN gs (s + 1) = clsN gs s := by
  apply Classical.byContradiction
  intro h
  have hne : ∀ s, clsN gs (s + 1) ≠ clsN gs s := fun s e => h ⟨s, e⟩
  have hge : ∀ s, s ≤ cntC gs (clsN gs s) := by
    intro s
    induction s with
    | zero => exact Nat.zero_le _
    | succ s ih =>
      have := cnt_up_step (hne s)
      omega
  have h1 := hge (gs.length + 1)
  have h2 := cntC_le gs (clsN gs (gs.length + 1))
  omega
theorem finC_len (gs : List Gt) : (finC gs).length = gs.length := by
  obtain ⟨s, hs⟩ := cls_ends gs
  rw [finC_of hs, cls_len]
theorem finC_idem {gs : List Gt} {k : Int} (h0 : 0 ≤ k) (hk : k < gs.length) : ofL (finC gs) (ofL (finC gs) k) = ofL (finC gs) k := by
  obtain ⟨s, hs⟩ := cls_ends gs
  rw [finC_of hs]
  unfold ofL
  have hl := cls_lab gs s (i := k.toNat) (by omega)
  have hlo := lo_spec (fun k => (clsN gs s).getD k 0) k.toNat
  rw [hl, Int.toNat_natCast, cls_lab gs s (by omega), lo_idem]
theorem finC_rng {gs : List Gt} {k : Int} (h0 : 0 ≤ k) (hk : k < gs.length) : 0 ≤ ofL (finC gs) k ∧ ofL (finC gs) k < gs.length := by
  obtain ⟨s, hs⟩ := cls_ends gs
  exact finC_in hs (i := k.toNat) (by omega)
theorem fold_os (c : Circ) : (foldC c).os = c.os ∧ (foldC c).n = c.n ∧ (foldC c).gs.length = c.gs.length := ⟨rfl, rfl, fold_len _ _⟩
theorem pre_len (c : Circ) : (preC c).gs.length = c.gs.length ∧ (preC c).os.length = c.os.length ∧ (preC c).n = c.n := by
  unfold preC shareC simpC redirL
  simp [foldC, fold_len]
/-- Who is used is in the image of the last redirection. -/
theorem use_img {gs : List Gt} {os : List Int} {f : Int → Int} (hg : ∀ g ∈ gs, ∀ x ∈ opsL g, 0 ≤ x ∧ x < gs.length) (ho : ∀ x ∈ os, 0 ≤ x ∧ x < gs.length) (hf : ∀ x : Int, 0 ≤ x → x < gs.length → 0 ≤ f x ∧ f x < gs.length)
    (hi : ∀ x : Int, 0 ≤ x → x < gs.length → f (f x) = f x) (hall : ∀ i, i < gs.length → (useL (gs.map (withL f)) (os.map f)).getD i false = true) : ∀ x : Int, 0 ≤ x → x < gs.length → f x = x := by
  have hop' : ∀ g ∈ gs.map (withL f), ∀ x ∈ opsL g, 0 ≤ x ∧ x < (gs.map (withL f)).length := by
    intro g hg' x hx
    obtain ⟨g1, h1, rfl⟩ := List.mem_map.1 hg'
    rw [ops_with] at hx
    obtain ⟨y, hy, rfl⟩ := List.mem_map.1 hx
    rw [List.length_map]
    exact hf y (hg g1 h1 y hy).1 (hg g1 h1 y hy).2
  have hos' : ∀ x ∈ os.map f, 0 ≤ x ∧ x < (gs.map (withL f)).length := by
    intro x hx
    obtain ⟨y, hy, rfl⟩ := List.mem_map.1 hx
    rw [List.length_map]
    exact hf y (ho y hy).1 (ho y hy).2
  have hu := use_spec hop' hos'
  let m : List Bool := (List.range gs.length).map fun i : Nat => decide (f (i : Int) = (i : Int))
  have hml : m.length = gs.length := by simp [m]
  have hm : ∀ i : Nat, i < gs.length → (m.getD i false = true ↔ f (i : Int) = (i : Int)) := by
    intro i hi
    show ((List.range gs.length).map _).getD i false = true ↔ _
    rw [List.getD_eq_getElem?_getD, List.getElem?_map, List.getElem?_range hi]
    simp
  have hmf : ∀ y : Int, 0 ≤ y → y < gs.length → m.getD (f y).toNat false = true := by
    intro y h0 h1
    have h2 := hf y h0 h1
    refine (hm _ (by omega)).2 ?_
    rw [Int.toNat_of_nonneg h2.1]
    exact hi y h0 h1
  have huc : UseC (gs.map (withL f)) (os.map f) m := by
    refine ⟨fun x hx => ?_, fun i hi1 x hx => ?_⟩
    · obtain ⟨y, hy, rfl⟩ := List.mem_map.1 hx
      exact hmf y (ho y hy).1 (ho y hy).2
    · have hil : i < gs.length := by rw [← hml]; exact getD_lt hi1
      rw [at_map _ hil, ops_with] at hx
      obtain ⟨y, hy, rfl⟩ := List.mem_map.1 hx
      have := hg _ (getD_mem3 g0 hil) y hy
      exact hmf y this.1 this.2
  have hle := hu.1.2 m (by rw [hml, List.length_map]) huc
  intro x h0 h1
  have h2 := (hm x.toNat (by omega)).1 (hle x.toNat (hall x.toNat (by omega)))
  rw [Int.toNat_of_nonneg h0] at h2
  exact h2
theorem redir_id {c : Circ} {f : Int → Int} (hg : ∀ g ∈ c.gs, ∀ x ∈ opsL g, 0 ≤ x ∧ x < c.gs.length) (ho : ∀ x ∈ c.os, 0 ≤ x ∧ x < c.gs.length) (hf : ∀ x : Int, 0 ≤ x → x < c.gs.length → f x = x) : redirL f c = c := by
  obtain ⟨n, gs, os⟩ := c
  unfold redirL
  simp only at hg ho hf ⊢
  have e1 : gs.map (withL f) = gs := by
    conv => rhs; rw [← List.map_id gs]
    exact List.map_congr_left fun g h => with_id fun x hx => hf x (hg g h x hx).1 (hg g h x hx).2
  have e2 : os.map f = os := by
    conv => rhs; rw [← List.map_id os]
    exact List.map_congr_left fun x h => hf x (ho x h).1 (ho x h).2
  rw [e1, e2]
theorem mark_all {bs : List Bool} (k : Nat) (h : (markTo bs k).length = k) : (∀ i, i < k → bs.getD i false = true) ∧ markTo bs k = (List.range k).map fun i : Nat => (i : Int) := by
  induction k with
  | zero => exact ⟨fun i hi => absurd hi (Nat.not_lt_zero _), rfl⟩
  | succ k ih =>
    have hl := markTo_len bs k
    unfold markTo at h
    by_cases hk : bs.getD k false = true
    · rw [if_pos hk] at h
      simp only [List.length_append, List.length_singleton] at h
      obtain ⟨h1, h2⟩ := ih (by omega)
      refine ⟨fun i hi => ?_, ?_⟩
      · by_cases e : i = k
        · subst e; exact hk
        · exact h1 i (by omega)
      · unfold markTo
        rw [if_pos hk, List.range_succ, List.map_append, h2]
        rfl
    · rw [if_neg hk] at h
      omega
theorem pos_range (n : Nat) : ∀ k, k ≤ n → posTo n ((List.range n).map fun i : Nat => (i : Int)) k = (List.range n).map fun i : Nat => if i < k then (i : Int) else 0 := by
  intro k
  induction k with
  | zero =>
    intro _
    apply List.ext_getElem (by simp [posTo])
    intro i h1 h2
    simp [posTo]
  | succ k ih =>
    intro hk
    unfold posTo
    rw [ih (by omega)]
    have hg : ((List.range n).map fun i : Nat => (i : Int)).getD k 0 = (k : Int) := by
      rw [List.getD_eq_getElem?_getD, List.getElem?_map, List.getElem?_range (by omega)]
      rfl
    rw [hg, Int.toNat_natCast]
    apply List.ext_getElem (by simp)
    intro i h1 h2
    rw [List.getElem_set]
    simp only [List.getElem_map, List.getElem_range]
    by_cases e : k = i
    · subst e
      simp
    · rw [if_neg e]
      by_cases h3 : i < k
      · rw [if_pos h3, if_pos (by omega)]
      · rw [if_neg h3, if_neg (by omega)]
theorem keep_all {c : Circ} (hg : ∀ g ∈ c.gs, ∀ x ∈ opsL g, 0 ≤ x ∧ x < c.gs.length) (ho : ∀ x ∈ c.os, 0 ≤ x ∧ x < c.gs.length) : keepC c ((List.range c.gs.length).map fun i : Nat => (i : Int)) = c := by
  obtain ⟨n, gs, os⟩ := c
  simp only at hg ho
  have hp : ∀ x : Int, 0 ≤ x → x < gs.length → posL gs.length ((List.range gs.length).map fun i : Nat => (i : Int)) x = x := by
    intro x h0 h1
    unfold posL ofL
    rw [List.length_map, List.length_range, pos_range _ _ (Nat.le_refl _), List.getD_eq_getElem?_getD, List.getElem?_map, List.getElem?_range (by omega)]
    show (if x.toNat < gs.length then (x.toNat : Int) else 0) = x
    rw [if_pos (by omega), Int.toNat_of_nonneg h0]
  have hr := redir_id (c := ⟨n, gs, os⟩) (f := posL gs.length ((List.range gs.length).map fun i : Nat => (i : Int))) hg ho hp
  unfold redirL at hr
  unfold keepC
  simp only at hr ⊢
  rw [List.map_map]
  injection hr with _ h1 h2
  rw [h2]
  congr 1
  conv => rhs; rw [← h1]
  apply List.ext_getElem (by simp)
  intro i hi1 hi2
  simp only [List.getElem_map, List.getElem_range, Function.comp]
  unfold at3
  rw [Int.toNat_natCast, List.getD_eq_getElem?_getD, List.getElem?_eq_getElem (by simpa using hi1)]
  rfl
theorem pru_len (c : Circ) (h : (useL c.gs c.os).length = c.gs.length) : (pruC c).gs.length ≤ c.gs.length := by
  unfold pruC keepC
  simp only [List.length_map]
  have := markTo_len (useL c.gs c.os) c.gs.length
  unfold markL
  rw [h]
  exact this
/-- How many gates are no zeros. -/
def nzC (gs : List Gt) : Nat := gs.countP fun g => decide (g.k ≠ 2)
def meaC (c : Circ) : Nat := c.gs.length * 1000 + nzC c.gs
theorem nz_le (gs : List Gt) : nzC gs ≤ gs.length := List.countP_le_length
theorem fold_nz (gs : List Gt) (h2 : ∀ g ∈ gs, g.k = 2 → g = z2) (hne : foldL (silL gs) gs ≠ gs) : nzC (foldL (silL gs) gs) < nzC gs := by
  have key : ∀ (m : List Bool) (k : Nat), k ≤ gs.length → (((List.range k).map fun i => if m.getD i false = true then z2 else gs.getD i g0) ≠ gs.take k → nzC ((List.range k).map fun i => if m.getD i false = true then z2 else gs.getD i g0) < nzC (gs.take k)) ∧ nzC ((List.range k).map fun i => if m.getD i false = true then z2 else gs.getD i g0) ≤ nzC (gs.take k) := by
    intro m k
    induction k with
    | zero => intro _; exact ⟨fun h => absurd rfl h, Nat.le_refl _⟩
    | succ k ih =>
      intro hk
      obtain ⟨i1, i2⟩ := ih (by omega)
      have ht : gs.take (k + 1) = gs.take k ++ [gs.getD k g0] := by
        rw [List.take_succ_eq_append_getElem (by omega), List.getD_eq_getElem?_getD, List.getElem?_eq_getElem (by omega)]
        rfl
      rw [List.range_succ, List.map_append, ht]
      have ha : ∀ A B : List Gt, nzC (A ++ B) = nzC A + nzC B := fun A B => List.countP_append
      simp only [List.map_cons, List.map_nil]
      rw [ha, ha]
      have hgm : gs.getD k g0 ∈ gs := getD_mem3 g0 (by omega)
      by_cases hm : m.getD k false = true
      · rw [if_pos hm]
        have hz : nzC [z2] = 0 := by simp [nzC, z2]
        rw [hz]
        by_cases hk2 : (gs.getD k g0).k = 2
        · have e := h2 _ hgm hk2
          rw [e]
          refine ⟨fun hne => ?_, by omega⟩
          have := i1 fun e => hne (by rw [e])
          omega
        · have h1 : nzC [gs.getD k g0] = 1 := by
            generalize gs.getD k g0 = q at *
            unfold nzC
            simp [hk2]
          rw [h1]
          exact ⟨fun _ => by omega, by omega⟩
      · rw [if_neg hm]
        refine ⟨fun hne => ?_, by omega⟩
        have := i1 fun e => hne (by rw [e])
        omega
  have := (key (silL gs) gs.length (Nat.le_refl _)).1
  rw [List.take_length] at this
  exact this hne
theorem circE_zero {p : Int} {c : Circ} (h : circE p c = true) : ∀ g ∈ c.gs, g.k = 2 → g = z2 := by
  intro g hg hk
  unfold circE circB at h
  simp only [Bool.and_eq_true, List.all_eq_true] at h
  have := h.1.2 g hg
  obtain ⟨k, a, b, v⟩ := g
  simp only at hk
  subst hk
  simp [gateB, opsL] at this
  obtain ⟨h1, h2, h3⟩ := this
  simp [z2, *]
/-- The passes end: what is left is smaller, or has more zeros. -/
theorem pass_less {p : Int} {c : Circ} (h : circE p c = true) (hne : pruC (preC c) ≠ c) : meaC (pruC (preC c)) < meaC c := by
  obtain ⟨hg, ho, hl1, hl2, hl3⟩ := circE_facts h
  obtain ⟨n, gs, os⟩ := c
  simp only at hg ho hl1 hl2 hl3
  have hg1 := fold_gates hg (silL gs)
  have hfl := fold_len (silL gs) gs
  have hg2 := simp_gates hg1
  have hf1 : ∀ x : Int, 0 ≤ x → x < (foldL (silL gs) gs).length → 0 ≤ finL (foldL (silL gs) gs) x ∧ finL (foldL (silL gs) gs) x < (foldL (silL gs) gs).length := fun x a b => hg1.fin a b
  obtain ⟨g1, hg1e⟩ : ∃ g1, g1 = foldL (silL gs) gs := ⟨_, rfl⟩
  rw [← hg1e] at hg1 hfl hg2 hf1
  obtain ⟨g2, hg2e⟩ : ∃ g2, g2 = g1.map (withL (finL g1)) := ⟨_, rfl⟩
  rw [← hg2e] at hg2
  have h2l : g2.length = gs.length := by rw [hg2e, List.length_map, hfl]
  have ho2 : ∀ x ∈ os.map (finL g1), 0 ≤ x ∧ x < g2.length := by
    intro x hx
    obtain ⟨y, hy, rfl⟩ := List.mem_map.1 hx
    rw [h2l, ← hfl]
    exact hf1 y (ho y hy).1 (by rw [hfl]; exact (ho y hy).2)
  have hpre : preC ⟨n, gs, os⟩ = ⟨n, g2.map (withL (ofL (finC g2))), (os.map (finL g1)).map (ofL (finC g2))⟩ := by
    unfold preC shareC simpC foldC redirL
    simp only
    rw [← hg1e, ← hg2e]
  have ho3 : ∀ x ∈ (os.map (finL g1)).map (ofL (finC g2)), 0 ≤ x ∧ x < (g2.map (withL (ofL (finC g2)))).length := by
    intro x hx
    obtain ⟨y, hy, rfl⟩ := List.mem_map.1 hx
    rw [List.length_map]
    exact finC_rng (ho2 y hy).1 (ho2 y hy).2
  have hg3 : ∀ g ∈ g2.map (withL (ofL (finC g2))), ∀ x ∈ opsL g, 0 ≤ x ∧ x < (g2.map (withL (ofL (finC g2)))).length := by
    intro g hg x hx
    obtain ⟨y, hy, rfl⟩ := List.mem_map.1 hg
    rw [ops_with] at hx
    obtain ⟨z, hz, rfl⟩ := List.mem_map.1 hx
    rw [List.length_map]
    have := hg2.ops y hy z hz
    exact finC_rng this.1 this.2
  rw [hpre] at hne ⊢
  have hul : (useL (g2.map (withL (ofL (finC g2)))) ((os.map (finL g1)).map (ofL (finC g2)))).length = gs.length := by
    rw [(use_spec hg3 ho3).1.1, List.length_map, h2l]
  have hle := pru_len ⟨n, g2.map (withL (ofL (finC g2))), (os.map (finL g1)).map (ofL (finC g2))⟩ (by simp only [List.length_map]; rw [hul, h2l])
  simp only [List.length_map] at hle
  rw [h2l] at hle
  have hnz := nz_le (pruC ⟨n, g2.map (withL (ofL (finC g2))), (os.map (finL g1)).map (ofL (finC g2))⟩).gs
  unfold meaC
  simp only
  rcases Nat.lt_or_ge (pruC ⟨n, g2.map (withL (ofL (finC g2))), (os.map (finL g1)).map (ofL (finC g2))⟩).gs.length gs.length with hlt | hge
  · omega
  · have hml : (markTo (useL (g2.map (withL (ofL (finC g2)))) ((os.map (finL g1)).map (ofL (finC g2)))) gs.length).length = gs.length := by
      have : (pruC ⟨n, g2.map (withL (ofL (finC g2))), (os.map (finL g1)).map (ofL (finC g2))⟩).gs.length = (markTo (useL (g2.map (withL (ofL (finC g2)))) ((os.map (finL g1)).map (ofL (finC g2)))) gs.length).length := by
        unfold pruC keepC markL
        simp only [List.length_map]
        rw [hul]
      omega
    obtain ⟨hall, hmk⟩ := mark_all _ hml
    have hpr : pruC ⟨n, g2.map (withL (ofL (finC g2))), (os.map (finL g1)).map (ofL (finC g2))⟩ = ⟨n, g2.map (withL (ofL (finC g2))), (os.map (finL g1)).map (ofL (finC g2))⟩ := by
      unfold pruC markL
      simp only
      rw [hul, hmk, ← h2l]
      have := keep_all (c := ⟨n, g2.map (withL (ofL (finC g2))), (os.map (finL g1)).map (ofL (finC g2))⟩) hg3 ho3
      simp only [List.length_map] at this
      exact this
    have hid2 := use_img (f := ofL (finC g2)) hg2.ops ho2 (fun x a b => finC_rng a b) (fun x a b => finC_idem a b) (fun i hi => hall i (by omega))
    have hr2 := redir_id (c := ⟨n, g2, os.map (finL g1)⟩) (f := ofL (finC g2)) hg2.ops ho2 hid2
    unfold redirL at hr2
    simp only at hr2
    rw [hpr, hr2] at hne hge ⊢
    simp only at hge ⊢
    injection hr2 with _ hra hrb
    rw [hra, hrb] at hall
    have ho1 : ∀ x ∈ os, 0 ≤ x ∧ x < g1.length := by rw [hfl]; exact ho
    rw [hg2e] at hall
    have hid1 := use_img (f := finL g1) hg1.ops ho1 (fun x a b => hg1.fin a b) (fun x a b => fin_idem hg1 a b) (fun i hi => hall i (by omega))
    have hr1 := redir_id (c := ⟨n, g1, os⟩) (f := finL g1) hg1.ops ho1 hid1
    unfold redirL at hr1
    simp only at hr1
    injection hr1 with _ hr1a hr1b
    rw [hg2e, hr1a, hr1b] at hne
    rw [hg2e, hr1a]
    have hne1 : g1 ≠ gs := fun e => hne (by rw [e])
    rw [hg1e] at hne1 ⊢
    have := fold_nz gs (circE_zero h) hne1
    rw [fold_len]
    omega
/-- What the passes lead to, and whether all circuits on the way are valid. -/
noncomputable def optN (p : Int) : Nat → Circ → Circ × Bool
  | 0, c => (c, false)
  | k + 1, c => if circE p (preC c) = true ∧ circE p (pruC (preC c)) = true then (if pruC (preC c) = c then (c, true) else optN p k (pruC (preC c))) else (circ0, false)
theorem optN_more {p : Int} : ∀ (k : Nat) (c : Circ), circE p c = true → meaC c < k → optN p (k + 1) c = optN p k c := by
  intro k
  induction k with
  | zero => intro c _ h; omega
  | succ k ih =>
    intro c hc hk
    show (if circE p (preC c) = true ∧ circE p (pruC (preC c)) = true then (if pruC (preC c) = c then (c, true) else optN p (k + 1) (pruC (preC c))) else (circ0, false)) = (if circE p (preC c) = true ∧ circE p (pruC (preC c)) = true then (if pruC (preC c) = c then (c, true) else optN p k (pruC (preC c))) else (circ0, false))
    split
    · rename_i h1
      split
      · rfl
      · rename_i h2
        have := pass_less hc h2
        exact ih _ h1.2 (by omega)
    · rfl
noncomputable def optC (p : Int) (c : Circ) : Circ × Bool := optN p (meaC c + 1) c
theorem optN_c {p : Int} {c : Circ} (hc : circE p c = true) : ∀ k, meaC c < k → optN p k c = optC p c := by
  intro k hk
  obtain ⟨d, rfl⟩ : ∃ d, k = meaC c + 1 + d := ⟨k - (meaC c + 1), by omega⟩
  clear hk
  induction d with
  | zero => rfl
  | succ d ih => rw [← ih]; exact optN_more _ c hc (show meaC c < meaC c + 1 + d by omega)
theorem optC_step {p : Int} {c : Circ} (hc : circE p c = true) : optC p c = if circE p (preC c) = true ∧ circE p (pruC (preC c)) = true then (if pruC (preC c) = c then (c, true) else optC p (pruC (preC c))) else (circ0, false) := by
  show (if circE p (preC c) = true ∧ circE p (pruC (preC c)) = true then (if pruC (preC c) = c then (c, true) else optN p (meaC c) (pruC (preC c))) else (circ0, false)) = _
  split
  · rename_i h1
    split
    · rfl
    · rename_i h2
      exact optN_c h1.2 _ (pass_less hc h2)
  · rfl
end Go.Proofs.YtkamcgonacmieaaDoor

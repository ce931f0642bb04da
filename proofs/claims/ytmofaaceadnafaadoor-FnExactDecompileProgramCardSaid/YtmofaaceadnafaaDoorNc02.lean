/-
  The circuit of a program of instructions, in the program. Conditions: it is a program.
-/
import Derived.Test.YtmofaaceadnafaaDoorNc01
namespace Go.Proofs.YtmofaaceadnafaaDoor
open Go.RowKit
set_option linter.unusedVariables false
set_option maxRecDepth 100000

set_option maxHeartbeats 16000000 in
theorem progCircuit_any (p I O C R : Int) (cv : Value) (is : List It) (w : World) (hv : progB p I O C R is = true) (hg : RdR instE w cv is) :
    Calls Tryd.prog 62 #[prV I O C R cv] w fun e w' => ∃ a1 c1 a2 c2, e = .returned (cirV I (.slice a1 (decC I O C is).gs.length c1) (.slice a2 (decC I O C is).os.length c2)) ∧
      Sep w' [OR gateE (.slice a1 (decC I O C is).gs.length c1) (decC I O C is).gs, OI (.slice a2 (decC I O C is).os.length c2) (decC I O C is).os, KeepA w] := by
  obtain ⟨⟨hI0, hI1⟩, ⟨hO0, hO1⟩, ⟨hC0, hC1⟩, ⟨hR0, hR1⟩, hlen, hins⟩ := dec_bnd hv
  have HIN := Lib.hid hins
  have HG := Lib.hid hg
  unfold prV cirV
  obtain ⟨a0, c0, rfl⟩ := hg.shape
  obtain ⟨nC, rfl⟩ := Int.eq_ofNat_of_zero_le hC0
  obtain ⟨nO, rfl⟩ := Int.eq_ofNat_of_zero_le hO0
  obtain ⟨nR, rfl⟩ := Int.eq_ofNat_of_zero_le hR0
  have HD := Lib.hid (show decC I nO nC is = ⟨I, lnk (runD (s0D nO nC) is).gs (runD (s0D nO nC) is).cl nC, (runD (s0D nO nC) is).ot⟩ by unfold decC; rw [Int.toNat_natCast])
  generalize decC I nO nC is = D at *
  clear hv hg hins
  generalize hm : is.length = m at *
  have HM := Lib.hid hm
  clear hm
  have hs0 := (((Sep.start w).box #[.int .i64 I, .int .i64 nO, .int .i64 nC, .int .i64 nR, .slice a0 m c0] 43).box #[.int .i64 0, .slice none 0 0, .slice none 0 0] 29).box #[.int .i64 I, .slice none 0 0, .slice none 0 0] 29
  have e1 : (w.alloc (.cells #[.int .i64 I, .int .i64 nO, .int .i64 nC, .int .i64 nR, .slice a0 m c0] 43)).heap.size = w.heap.size + 1 := by simp
  have e2 : ((w.alloc (.cells #[.int .i64 I, .int .i64 nO, .int .i64 nC, .int .i64 nR, .slice a0 m c0] 43)).alloc (.cells #[.int .i64 0, .slice none 0 0, .slice none 0 0] 29)).heap.size = w.heap.size + 1 + 1 := by simp
  rw [e2, e1] at hs0
  have HS0 := Lib.hid ((hs0.nilR gateE).s2)
  clear hs0 e1 e2
  go_enter Tryd.func62, Tryd.ntmps62
  go_wp2_with fail
  go_loopw [19] (fun i wr => ∃ (k : Nat) (a1 : Option Addr) (c1 : Nat), k ≤ nC ∧ i = .int .i64 k ∧ Sep wr [BxA (w.heap.size + 1 + 1) #[.int .i64 I, .slice a1 k c1, .slice none 0 0] 29, OR gateE (.slice a1 k c1) (List.replicate k ⟨5, 0, 0, 0⟩), BxA (w.heap.size + 1) #[.int .i64 0, .slice none 0 0, .slice none 0 0] 29, BxA w.heap.size #[.int .i64 I, .int .i64 nO, .int .i64 nC, .int .i64 nR, .slice a0 m c0] 43, KeepA w]) (fun i _ => nC - (intOf i).toNat)
  case atStart => exact ⟨0, none, 0, by omega, rfl, HS0.out⟩
  case round =>
    obtain ⟨k, a1, c1, hk, rfl, hs⟩ := hrel
    have HSX := Lib.hid hs
    obtain ⟨x0, x1, x2, x3, x4, x5⟩ := bx3 hs.hd
    by_cases hlt : k < nC
    · clear hs
      go_wp2_with (
        at_builtin
        go_loud (refine app_RG (E := gateE) info_gate rfl (by decide) Tryd.underlying27 (gate_one ⟨5, 0, 0, 0⟩) rfl (.tmp 22) (.tmp 24) rfl rfl rfl (by simp) rfl HSX.out.s2 (by rw [List.length_replicate]; omega) ?_)
        intro g c w3 h3
        rw [List.length_replicate] at h3 ⊢
        rw [← List.replicate_succ'] at h3
        have hs3 := h3.s2
        obtain ⟨u0, u1, u2, u3, u4, u5⟩ := bx3 hs3.hd
        have HS3 := Lib.hid (hs3.setB 1 (.slice (some ⟨g, 0, none⟩) (k + 1) c))
        clear h3 hs3)
      go_roundw
      case rel => exact ⟨k + 1, some ⟨g, 0, none⟩, c, by omega, by go_num, HS3.out⟩
      case measure => simp [intOf]; omega
    · have hkn : k = nC := by omega
      subst hkn
      clear hlt hs
      go_upto_region 8 with (
        at_builtin
        go_loud (refine app_RG (E := gateE) info_gate rfl (by decide) Tryd.underlying27 (gate_one ⟨2, 0, 0, 0⟩) rfl (.tmp 32) (.tmp 34) rfl rfl rfl (by simp) rfl HSX.out.s2 (by rw [List.length_replicate]; omega) ?_)
        intro g c w3 h3
        rw [List.length_replicate] at h3 ⊢
        have hs3 := h3.s2
        obtain ⟨u0, u1, u2, u3, u4, u5⟩ := bx3 hs3.hd
        have HS3 := Lib.hid (hs3.setB 1 (.slice (some ⟨g, 0, none⟩) (k + 1) c))
        clear h3 hs3)
      go_cut [5, 6, 7] from 37 to 44 (fun t5 t6 t7 wx => ∃ (rb : Nat) (ca : Option Addr) (cc : Nat) (oa : Option Addr) (oc : Nat), t5 = .pointer (some ⟨rb, 0, none⟩) ∧ t6 = .slice ca k cc ∧ t7 = .slice oa nO oc ∧ Sep wx [BxA rb (arrC (List.replicate 16 0)) 114, OI (.slice oa nO oc) (List.replicate nO k), OI (.slice ca k cc) (upL k), BxA (w.heap.size + 1 + 1) #[.int .i64 I, .slice (some ⟨g, 0, none⟩) (k + 1) c, .slice none 0 0] 29, OR gateE (.slice (some ⟨g, 0, none⟩) (k + 1) c) (List.replicate k ⟨5, 0, 0, 0⟩ ++ [⟨2, 0, 0, 0⟩]), BxA (w.heap.size + 1) #[.int .i64 0, .slice none 0 0, .slice none 0 0] 29, BxA w.heap.size #[.int .i64 I, .int .i64 nO, .int .i64 k, .int .i64 nR, .slice a0 m c0] 43, KeepA w])
      case first =>
        have HUP := Lib.hid fun W => upTo_any k W (by omega)
        have HRP := Lib.hid fun W => repeated_any k nO W (by omega)
        have hs4 := HS3.out
        clear HS3 HSX x0 x1 x2 x3 x4 x5 u0 u1 u2 u3 u4 u5
        generalize w3.setCell ⟨w.heap.size + 1 + 1, 1, none⟩ (.slice (some ⟨g, 0, none⟩) (k + 1) c) = w4 at *
        have i16 := info16
        have o16 := one16
        have SX := Lib.hid fun (W : World) (l : List Asrt) (h : Sep W (BxA w.heap.size #[.int .i64 I, .int .i64 nO, .int .i64 k, .int .i64 nR, .slice a0 m c0] 43 :: l)) => And.intro (bxP h.hd).2.1 (bxP h.hd).2.2.1
        have HS0 := Lib.hid hs4.s4.dr
        have hs0a := (hs4.s4.box #[.int .i64 0, .int .i64 0, .int .i64 0, .int .i64 0, .int .i64 0, .int .i64 0, .int .i64 0, .int .i64 0, .int .i64 0, .int .i64 0, .int .i64 0, .int .i64 0, .int .i64 0, .int .i64 0, .int .i64 0, .int .i64 0] 114).dr
        have HS0a := Lib.hid hs0a.s2
        have TH0 := there16 hs0a.hd
        have HS0z := Lib.hid hs0a.setZs.s2
        have X0 := Lib.hid (SX.out _ _ HS0.out)
        have Y0 := Lib.hid fun ob => SX.out _ _ (hs4.s4.al ob).dr
        have V0 := Lib.hid (SX.out _ _ HS0z.out)
        clear hs4 hs0a
        go_region_held3 (fun w' => w'.cell? ⟨w.heap.size, 1, none⟩ = some (.int .i64 nO) ∧ w'.cell? ⟨w.heap.size, 2, none⟩ = some (.int .i64 k))
          (first | with_reducible exact X0.out | with_reducible exact Y0.out _ | with_reducible exact V0.out | with_reducible exact Xw5.out | with_reducible exact Y5.out _ | with_reducible exact V5.out | with_reducible exact Xw6.out | with_reducible exact Y6.out _ | with_reducible exact V6.out | (trace_state; fail))
          (first
            | (go_at_call 111
               with_reducible refine (HUP.out w4.drew).mono ?_
               rintro e w5 ⟨g5, c5, rfl, hsg⟩
               have hsn := (HS0.out.graft1 hsg OI_own).s2
               have Xw5 := Lib.hid (SX.out _ _ hsn)
               have HS5 := Lib.hid hsn
               have Y5 := Lib.hid fun ob => SX.out _ _ (hsn.al ob)
               have hz := hsn.box #[.int .i64 0, .int .i64 0, .int .i64 0, .int .i64 0, .int .i64 0, .int .i64 0, .int .i64 0, .int .i64 0, .int .i64 0, .int .i64 0, .int .i64 0, .int .i64 0, .int .i64 0, .int .i64 0, .int .i64 0, .int .i64 0] 114
               have TH5 := there16 hz.hd
               have HS5a := Lib.hid hz.s2
               have HS5z := Lib.hid hz.setZs.s2
               have V5 := Lib.hid (SX.out _ _ HS5z.out)
               clear hz
               clear hsg hsn)
            | (go_at_call 112
               with_reducible refine (HRP.out w5).mono ?_
               rintro e w6 ⟨g6, c6, rfl, hsg⟩
               have hsn := (HS5.out.graft1 hsg OI_own).s2
               have Xw6 := Lib.hid (SX.out _ _ hsn)
               have Y6 := Lib.hid fun ob => SX.out _ _ (hsn.al ob)
               have hz := hsn.box #[.int .i64 0, .int .i64 0, .int .i64 0, .int .i64 0, .int .i64 0, .int .i64 0, .int .i64 0, .int .i64 0, .int .i64 0, .int .i64 0, .int .i64 0, .int .i64 0, .int .i64 0, .int .i64 0, .int .i64 0, .int .i64 0] 114
               have TH6 := there16 hz.hd
               have V6 := Lib.hid (SX.out _ _ hz.setZs.s2)
               have HFa := Lib.hid (hz.setZs)
               clear hz TH5
               clear hsg hsn)
            | (go_at_call 112
               with_reducible refine (HRP.out (w5.alloc (.cells #[.int .i64 0, .int .i64 0, .int .i64 0, .int .i64 0, .int .i64 0, .int .i64 0, .int .i64 0, .int .i64 0, .int .i64 0, .int .i64 0, .int .i64 0, .int .i64 0, .int .i64 0, .int .i64 0, .int .i64 0, .int .i64 0] 114))).mono ?_
               rintro e w6 ⟨g6, c6, rfl, hsg⟩
               have hsn := (HS5a.out.graft1 hsg OI_own).s2
               have Xw6 := Lib.hid (SX.out _ _ hsn)
               have TH6 := there16 hsn.s3.hd
               have V6 := Lib.hid (SX.out _ _ hsn.s3.setZs.s2)
               have HFb := Lib.hid hsn.s3.setZs
               clear TH5
               clear hsg hsn)
            | (go_at_call 112
               with_reducible refine (HRP.out ((w5.alloc (.cells #[.int .i64 0, .int .i64 0, .int .i64 0, .int .i64 0, .int .i64 0, .int .i64 0, .int .i64 0, .int .i64 0, .int .i64 0, .int .i64 0, .int .i64 0, .int .i64 0, .int .i64 0, .int .i64 0, .int .i64 0, .int .i64 0] 114)).setCells w5.heap.size 0 ([.int .i64 0, .int .i64 0, .int .i64 0, .int .i64 0, .int .i64 0, .int .i64 0, .int .i64 0, .int .i64 0, .int .i64 0, .int .i64 0, .int .i64 0, .int .i64 0, .int .i64 0, .int .i64 0, .int .i64 0, .int .i64 0] : List Value))).mono ?_
               rintro e w6 ⟨g6, c6, rfl, hsg⟩
               have hsn := (HS5z.out.graft1 hsg OI_own).s2
               have Xw6 := Lib.hid (SX.out _ _ hsn)
               have HFc := Lib.hid hsn
               clear TH5
               clear hsg hsn)
            | (go_at_call 111
               with_reducible refine (HUP.out ((w4.alloc (.cells #[.int .i64 0, .int .i64 0, .int .i64 0, .int .i64 0, .int .i64 0, .int .i64 0, .int .i64 0, .int .i64 0, .int .i64 0, .int .i64 0, .int .i64 0, .int .i64 0, .int .i64 0, .int .i64 0, .int .i64 0, .int .i64 0] 114))).drew).mono ?_
               rintro e w5 ⟨g5, c5, rfl, hsg⟩
               have hsn := (HS0a.out.graft1 hsg OI_own).s2
               have Xw5 := Lib.hid (SX.out _ _ hsn)
               have HT5 := Lib.hid hsn
               have TH5 := there16 hsn.s3.hd
               have HT5z := Lib.hid hsn.s3.setZs.s2
               have V5 := Lib.hid (SX.out _ _ HT5z.out)
               clear TH0
               clear hsg hsn)
            | (go_at_call 112
               with_reducible refine (HRP.out w5).mono ?_
               rintro e w6 ⟨g6, c6, rfl, hsg⟩
               have hsn := (HT5.out.graft1 hsg OI_own).s2
               have Xw6 := Lib.hid (SX.out _ _ hsn)
               have TH6 := there16 hsn.s4.hd
               have V6 := Lib.hid (SX.out _ _ hsn.s4.setZs.s2)
               have HFd := Lib.hid hsn.s4.setZs
               clear TH5
               clear hsg hsn)
            | (go_at_call 112
               with_reducible refine (HRP.out (w5.setCells w4.heap.size 0 ([.int .i64 0, .int .i64 0, .int .i64 0, .int .i64 0, .int .i64 0, .int .i64 0, .int .i64 0, .int .i64 0, .int .i64 0, .int .i64 0, .int .i64 0, .int .i64 0, .int .i64 0, .int .i64 0, .int .i64 0, .int .i64 0] : List Value))).mono ?_
               rintro e w6 ⟨g6, c6, rfl, hsg⟩
               have hsn := (HT5z.out.graft1 hsg OI_own).s2
               have Xw6 := Lib.hid (SX.out _ _ hsn)
               have HFe := Lib.hid hsn
               clear TH5
               clear hsg hsn)
            | (go_at_call 111
               with_reducible refine (HUP.out (((w4.alloc (.cells #[.int .i64 0, .int .i64 0, .int .i64 0, .int .i64 0, .int .i64 0, .int .i64 0, .int .i64 0, .int .i64 0, .int .i64 0, .int .i64 0, .int .i64 0, .int .i64 0, .int .i64 0, .int .i64 0, .int .i64 0, .int .i64 0] 114))).drew.setCells w4.heap.size 0 ([.int .i64 0, .int .i64 0, .int .i64 0, .int .i64 0, .int .i64 0, .int .i64 0, .int .i64 0, .int .i64 0, .int .i64 0, .int .i64 0, .int .i64 0, .int .i64 0, .int .i64 0, .int .i64 0, .int .i64 0, .int .i64 0] : List Value))).mono ?_
               rintro e w5 ⟨g5, c5, rfl, hsg⟩
               have hsn := (HS0z.out.graft1 hsg OI_own).s2
               have Xw5 := Lib.hid (SX.out _ _ hsn)
               have HU5 := Lib.hid hsn
               clear TH0
               clear hsg hsn)
            | (go_at_call 112
               with_reducible refine (HRP.out w5).mono ?_
               rintro e w6 ⟨g6, c6, rfl, hsg⟩
               have hsn := (HU5.out.graft1 hsg OI_own).s2
               have Xw6 := Lib.hid (SX.out _ _ hsn)
               have HFf := Lib.hid hsn
               clear hsg hsn)
            | (go_at_call 111
               trace_state
               fail)
            | (go_at_call 112
               trace_state
               fail)
            )
        all_goals
          go_wp2_with fail
          go_meet
          refine ⟨_, _, _, _, _, rfl, rfl, rfl, ?_⟩
          rw [arr16]
          first
            | exact HFa.out.to7.to7.to7.to7.to7.to6
            | exact HFb.out.to7.to7.to7.to7.to7.to6
            | exact HFd.out.to7.to7.to7.to7.to7.to6
      case rest =>
        obtain ⟨rb, ca, cc, oa, oc, rfl, rfl, rfl, hs⟩ := hcut
        have HS4 := Lib.hid hs
        clear hs HS3 HSX HS0
        go_wp2_with fail
        go_loopw [8, 45] (fun _ i wr => ∃ j : Nat, j ≤ 16 ∧ i = .int .i64 j ∧ Sep wr [BxA rb (arrC (List.replicate j (k : Int) ++ List.replicate (16 - j) 0)) 114, OI (.slice oa nO oc) (List.replicate nO k), OI (.slice ca k cc) (upL k), BxA (w.heap.size + 1 + 1) #[.int .i64 I, .slice (some ⟨g, 0, none⟩) (k + 1) c, .slice none 0 0] 29, OR gateE (.slice (some ⟨g, 0, none⟩) (k + 1) c) (List.replicate k ⟨5, 0, 0, 0⟩ ++ [⟨2, 0, 0, 0⟩]), BxA (w.heap.size + 1) #[.int .i64 0, .slice none 0 0, .slice none 0 0] 29, BxA w.heap.size #[.int .i64 I, .int .i64 nO, .int .i64 k, .int .i64 nR, .slice a0 m c0] 43, KeepA w]) (fun _ i _ => 16 - (intOf i).toNat)
        case atStart => exact ⟨0, by omega, rfl, by simpa using HS4.out⟩
        case round =>
          obtain ⟨j, hj, rfl, hs⟩ := hrel
          have HSX := Lib.hid hs
          clear hs HS4
          by_cases hlt : j < 16
          · obtain ⟨hc0, hf⟩ := arr_cell HSX.out.hd (i := j) (by simp; omega)
            have hset := HSX.out.setAr j k
            rw [rep_set k 0 hlt] at hset
            have HSET := Lib.hid hset
            clear hset
            go_wp2
            go_roundw
            case rel => exact ⟨j + 1, by omega, by go_num, HSET.out⟩
            case measure => simp [intOf]; omega
          · have hjn : j = 16 := by omega
            subst hjn
            clear hlt
            have hs4 := HSX.out
            rw [Nat.sub_self, List.replicate_zero, List.append_nil, regL_rep] at hs4
            have HS5 := Lib.hid hs4
            clear hs4 HSX
            have hs6 : ∃ (ga : Option Addr) (gc : Nat), Sep wr [BxA rb (arrC (regL 16 (s0D nO k).r)) 114, OI (.slice oa nO oc) (s0D nO k).ot, OI (.slice ca k cc) (s0D nO k).cl, BxA (w.heap.size + 1 + 1) #[.int .i64 I, .slice ga (s0D nO k).gs.length gc, .slice none 0 0] 29, OR gateE (.slice ga (s0D nO k).gs.length gc) (s0D nO k).gs, BxA (w.heap.size + 1) #[.int .i64 0, .slice none 0 0, .slice none 0 0] 29, BxA w.heap.size #[.int .i64 I, .int .i64 nO, .int .i64 k, .int .i64 nR, .slice a0 m c0] 43, KeepA w] := ⟨some ⟨g, 0, none⟩, c, by simpa [s0D] using HS5.out⟩
            have HS6 := Lib.hid hs6
            clear hs6 HS5
            obtain ⟨px0, px1, px2, px3, px4, pf0, pf1, pf2, pf3, pf4⟩ := bxP (show wr.heap[w.heap.size]? = _ from by obtain ⟨ga, gc, h⟩ := HS6.out; exact h.tl.tl.tl.tl.tl.tl.hd)
            go_wp2_with fail
            go_loopw [10, 11, 55] (fun _ _ i wr => ∃ (j : Nat) (ga : Option Addr) (gc : Nat), j ≤ m ∧ i = .int .i64 j ∧ Sep wr [BxA rb (arrC (regL 16 (runD (s0D nO k) (is.take j)).r)) 114, OI (.slice oa nO oc) (runD (s0D nO k) (is.take j)).ot, OI (.slice ca k cc) (runD (s0D nO k) (is.take j)).cl, BxA (w.heap.size + 1 + 1) #[.int .i64 I, .slice ga (runD (s0D nO k) (is.take j)).gs.length gc, .slice none 0 0] 29, OR gateE (.slice ga (runD (s0D nO k) (is.take j)).gs.length gc) (runD (s0D nO k) (is.take j)).gs, BxA (w.heap.size + 1) #[.int .i64 0, .slice none 0 0, .slice none 0 0] 29, BxA w.heap.size #[.int .i64 I, .int .i64 nO, .int .i64 k, .int .i64 nR, .slice a0 m c0] 43, KeepA w]) (fun _ _ i _ => m - (intOf i).toNat)
            case atStart =>
              obtain ⟨ga, gc, h⟩ := HS6.out
              exact ⟨0, ga, gc, by omega, rfl, h⟩
            case round =>
              clear px0 px1 px2 px3 px4 pf0 pf1 pf2 pf3 pf4 HS6
              obtain ⟨j, ga, gc, hj, rfl, hs⟩ := hrel
              have HSX := Lib.hid hs
              clear hs
              by_cases hlt : j < m
              · have hjl : j < is.length := by rw [HM.out]; exact hlt
                obtain ⟨b, o, rfl, hb, c0', c1', c2', c3', c4'⟩ := inst_at rfl rfl (HG.out.carry HSX.out.tl.tl.tl.tl.tl.tl.tl.hd) hjl
                have HST := Lib.hid (run_take (s0D nO k) hjl)
                have hbd := inst_bnd (HIN.out _ (inst_mem hjl))
                have HLN := Lib.hid (run_lenD (is.take j) (s0D nO k))
                generalize is.getD j i0 = x at *
                generalize runD (s0D nO k) (is.take j) = s at *
                obtain ⟨xo, xr, xa, xb, xv⟩ := x
                obtain ⟨⟨hr0, hr1⟩, hb3, hb4, hb5, hb7, ho0, ho1⟩ := hbd
                simp only at hr0 hr1 hb3 hb4 hb5 hb7 ho0 ho1 c0' c1' c2' c3' c4'
                obtain ⟨nr, rfl⟩ := Int.eq_ofNat_of_zero_le hr0
                have hnr : nr < 16 := by omega
                have HSB := Lib.hid ((HSX.out.box #[.int .i64 xo, .int .i64 nr, .int .i64 xa, .int .i64 xb, .int .i64 xv] 106).box #[.int .i64 0, .int .i64 0, .int .i64 0, .int .i64 0] 85)
                go_upto_region 17 with fail
                go_cut [11, 55] from 55 to 135 (fun t11 t55 wx => t11 = .pointer (some ⟨wr.heap.size + 1, 0, none⟩) ∧ t55 = .int .i64 j ∧ Sep wx [BxA (wr.heap.size + 1) #[.int .i64 0, .int .i64 0, .int .i64 0, .int .i64 0] 85, BxA wr.heap.size #[.int .i64 xo, .int .i64 nr, .int .i64 xa, .int .i64 xb, .int .i64 xv] 106, BxA rb (arrC (regL 16 s.r)) 114, OI (.slice oa nO oc) s.ot, OI (.slice ca k cc) s.cl, BxA (w.heap.size + 1 + 1) #[.int .i64 I, .slice ga s.gs.length gc, .slice none 0 0] 29, OR gateE (.slice ga s.gs.length gc) s.gs, BxA (w.heap.size + 1) #[.int .i64 0, .slice none 0 0, .slice none 0 0] 29, BxA w.heap.size #[.int .i64 I, .int .i64 nO, .int .i64 k, .int .i64 nR, .slice (some ⟨b, o, none⟩) m c0] 43, KeepA w])
                case first =>
                  go_wp2_with fail
                  go_meet
                  case rel => exact ⟨rfl, rfl, by simpa using HSB.out⟩
                case rest =>
                  obtain ⟨rfl, rfl, hs⟩ := hcut
                  clear HSB HSX c0' c1' c2' c3' c4'
                  have HS6 := Lib.hid hs
                  obtain ⟨cx0, cx1, cx2, cx3, cx4, cf0, cf1, cf2, cf3, cf4⟩ := bxP hs.tl.hd
                  obtain ⟨gx0, gx1, gx2, gx3, gf0, gf1, gf2, gf3⟩ := bx4 hs.hd
                  clear hs
                  generalize wr.heap.size = cb at *
                  have hlcl : s.cl.length = k := by have := HLN.out.1; rw [this]; simp [s0D, upL_len]
                  have hlot : s.ot.length = nO := by have := HLN.out.2.1; rw [this]; simp [s0D]
                  have hlgs : s.gs.length ≤ 200 := by
                    have h1 := HLN.out.2.2.1
                    have h2 : (s0D nO k).gs.length = k + 1 := by simp [s0D]
                    have h3 : (is.take j).length ≤ j := by simp; omega
                    omega
                  have HCL := Lib.hid hlcl
                  have HOT := Lib.hid hlot
                  clear hlcl hlot
                  obtain ⟨hrc, hrf⟩ := arr_at HS6.out.tl.tl.hd (i := nr) hnr
                  by_cases ho : xo = 1
                  · subst ho
                    obtain ⟨hgt, hmd⟩ := gt_1 (s := s) (o := 1) (r := nr) (a := xa) (b := xb) (v := xv) rfl
                    have hstp : stepD s ⟨1, nr, xa, xb, xv⟩ = ⟨s.gs ++ [⟨1, 0, 0, xa⟩], upR s.r nr s.gs.length, s.cl, s.ot⟩ := by unfold stepD; rw [hgt]; rfl
                    have HSP := Lib.hid hstp
                    clear hgt hmd hstp
                    have h7 := HS6.out.gate4 (.int .i64 1) (.int .i64 0) (.int .i64 0) (.int .i64 xa)
                    have H7 := Lib.hid h7
                    clear h7
                    go_upto_region 33 with fail
                    generalize ((((wc.setCell ⟨cb + 1, 0, none⟩ (.int .i64 1)).setCell ⟨cb + 1, 1, none⟩ (.int .i64 0)).setCell ⟨cb + 1, 2, none⟩ (.int .i64 0)).setCell ⟨cb + 1, 3, none⟩ (.int .i64 xa)) = w7 at *
                    clear cx0 cx1 cx2 cx3 cx4 cf0 cf1 cf2 cf3 cf4 gx0 gx1 gx2 gx3 gf0 gf1 gf2 gf3 hrc hrf HS6
                    obtain ⟨jx0, jx1, jx2, jf0, jf1, jf2⟩ := bx3 H7.out.tl.tl.tl.tl.tl.hd
                    obtain ⟨lx0, lx1, lx2, lx3, lf0, lf1, lf2, lf3⟩ := bx4 H7.out.hd
                    obtain ⟨mx0, mx1, mx2, mx3, mx4, mf0, mf1, mf2, mf3, mf4⟩ := bxP H7.out.tl.hd
                    obtain ⟨nc, nf⟩ := arr_at H7.out.tl.tl.hd (i := nr) hnr
                    have h8 := (H7.out.s3.setAr nr s.gs.length)
                    rw [show (regL 16 s.r).set nr (s.gs.length : Int) = regL 16 (upR s.r nr s.gs.length) from by have := regL_set 16 s.r nr s.gs.length; rwa [Int.toNat_natCast] at this] at h8
                    go_upto_region 35 with fail
                    have H8 := Lib.hid h8
                    clear h8 jx0 jx1 jx2 jf0 jf1 jf2 lx0 lx1 lx2 lx3 lf0 lf1 lf2 lf3 mx0 mx1 mx2 mx3 mx4 mf0 mf1 mf2 mf3 mf4 nc nf H7
                    generalize (w7.setCell ⟨rb, nr, none⟩ (.int .i64 s.gs.length)) = w8 at *
                    obtain ⟨jx0, jx1, jx2, jf0, jf1, jf2⟩ := bx3 H8.out.to6.hd
                    obtain ⟨lx0, lx1, lx2, lx3, lf0, lf1, lf2, lf3⟩ := bx4 H8.out.s2.hd
                    go_wp2_with (
                      at_builtin
                      go_loud (refine app_RG (E := gateE) info_gate rfl (by decide) Tryd.underlying27 (gate_one ⟨1, 0, 0, xa⟩) rfl (.tmp 130) (.tmp 132) rfl rfl rfl (by simp) rfl H8.out.to7 (by omega) ?_)
                      intro g2 c2 w9 h9
                      have h9a := h9.to7
                      obtain ⟨kx0, kx1, kx2, kf0, kf1, kf2⟩ := bx3 h9a.hd
                      have H9 := Lib.hid (h9a.setB 1 (.slice (some ⟨g2, 0, none⟩) (s.gs.length + 1) c2))
                      clear h9 h9a)
                    have X1 := H9.out.under (fun h => h.under (fun h => h.under (fun h => h.tl.tl) (by simp +contextual)) (by simp +contextual)) (by simp +contextual)
                    have X2 := X1.s5.s5.s5
                    have HEND := Lib.hid X2
                    clear X1 X2 H9 H8
                    go_roundw
                    case rel => (repeat apply Exists.intro); exact ⟨⟨j + 1, some ⟨g2, 0, none⟩, c2, by omega, by go_num, by rw [HST.out, HSP.out]; simpa using HEND.out⟩, rfl⟩
                    case measure => simp [intOf]; omega
                  by_cases ho : xo = 2
                  · subst ho
                    obtain ⟨hgt, hmd⟩ := gt_2 (s := s) (o := 2) (r := nr) (a := xa) (b := xb) (v := xv) rfl
                    have hstp : stepD s ⟨2, nr, xa, xb, xv⟩ = ⟨s.gs ++ [⟨2, 0, 0, 0⟩], upR s.r nr s.gs.length, s.cl, s.ot⟩ := by unfold stepD; rw [hgt]; rfl
                    have HSP := Lib.hid hstp
                    clear hgt hmd hstp
                    have h7 := HS6.out.gate4 (.int .i64 2) (.int .i64 0) (.int .i64 0) (.int .i64 0)
                    have H7 := Lib.hid h7
                    clear h7
                    go_upto_region 33 with fail
                    generalize ((((wc.setCell ⟨cb + 1, 0, none⟩ (.int .i64 2)).setCell ⟨cb + 1, 1, none⟩ (.int .i64 0)).setCell ⟨cb + 1, 2, none⟩ (.int .i64 0)).setCell ⟨cb + 1, 3, none⟩ (.int .i64 0)) = w7 at *
                    clear cx0 cx1 cx2 cx3 cx4 cf0 cf1 cf2 cf3 cf4 gx0 gx1 gx2 gx3 gf0 gf1 gf2 gf3 hrc hrf HS6
                    obtain ⟨jx0, jx1, jx2, jf0, jf1, jf2⟩ := bx3 H7.out.tl.tl.tl.tl.tl.hd
                    obtain ⟨lx0, lx1, lx2, lx3, lf0, lf1, lf2, lf3⟩ := bx4 H7.out.hd
                    obtain ⟨mx0, mx1, mx2, mx3, mx4, mf0, mf1, mf2, mf3, mf4⟩ := bxP H7.out.tl.hd
                    obtain ⟨nc, nf⟩ := arr_at H7.out.tl.tl.hd (i := nr) hnr
                    have h8 := (H7.out.s3.setAr nr s.gs.length)
                    rw [show (regL 16 s.r).set nr (s.gs.length : Int) = regL 16 (upR s.r nr s.gs.length) from by have := regL_set 16 s.r nr s.gs.length; rwa [Int.toNat_natCast] at this] at h8
                    go_upto_region 35 with fail
                    have H8 := Lib.hid h8
                    clear h8 jx0 jx1 jx2 jf0 jf1 jf2 lx0 lx1 lx2 lx3 lf0 lf1 lf2 lf3 mx0 mx1 mx2 mx3 mx4 mf0 mf1 mf2 mf3 mf4 nc nf H7
                    generalize (w7.setCell ⟨rb, nr, none⟩ (.int .i64 s.gs.length)) = w8 at *
                    obtain ⟨jx0, jx1, jx2, jf0, jf1, jf2⟩ := bx3 H8.out.to6.hd
                    obtain ⟨lx0, lx1, lx2, lx3, lf0, lf1, lf2, lf3⟩ := bx4 H8.out.s2.hd
                    go_wp2_with (
                      at_builtin
                      go_loud (refine app_RG (E := gateE) info_gate rfl (by decide) Tryd.underlying27 (gate_one ⟨2, 0, 0, 0⟩) rfl (.tmp 130) (.tmp 132) rfl rfl rfl (by simp) rfl H8.out.to7 (by omega) ?_)
                      intro g2 c2 w9 h9
                      have h9a := h9.to7
                      obtain ⟨kx0, kx1, kx2, kf0, kf1, kf2⟩ := bx3 h9a.hd
                      have H9 := Lib.hid (h9a.setB 1 (.slice (some ⟨g2, 0, none⟩) (s.gs.length + 1) c2))
                      clear h9 h9a)
                    have X1 := H9.out.under (fun h => h.under (fun h => h.under (fun h => h.tl.tl) (by simp +contextual)) (by simp +contextual)) (by simp +contextual)
                    have X2 := X1.s5.s5.s5
                    have HEND := Lib.hid X2
                    clear X1 X2 H9 H8
                    go_roundw
                    case rel => (repeat apply Exists.intro); exact ⟨⟨j + 1, some ⟨g2, 0, none⟩, c2, by omega, by go_num, by rw [HST.out, HSP.out]; simpa using HEND.out⟩, rfl⟩
                    case measure => simp [intOf]; omega
                  by_cases ho : xo = 3
                  · obtain ⟨⟨ha0, ha1⟩, ⟨hb0, hb1⟩⟩ := hb3 ho
                    obtain ⟨na, rfl⟩ := Int.eq_ofNat_of_zero_le ha0
                    obtain ⟨nb, rfl⟩ := Int.eq_ofNat_of_zero_le hb0
                    have hna : na < 16 := by omega
                    have hnb : nb < 16 := by omega
                    obtain ⟨ra0, -⟩ := arr_at HS6.out.tl.tl.hd (i := na) hna
                    obtain ⟨rb0, -⟩ := arr_at HS6.out.tl.tl.hd (i := nb) hnb
                    subst ho
                    obtain ⟨hgt, hmd⟩ := gt_3 (s := s) (o := 3) (r := nr) (a := na) (b := nb) (v := xv) rfl
                    have hstp : stepD s ⟨3, nr, na, nb, xv⟩ = ⟨s.gs ++ [⟨3, (s.r na), (s.r nb), 0⟩], upR s.r nr s.gs.length, s.cl, s.ot⟩ := by unfold stepD; rw [hgt]; rfl
                    have HSP := Lib.hid hstp
                    clear hgt hmd hstp
                    have h7 := (HS6.out.gate4 (.int .i64 3) (.int .i64 (s.r na)) (.int .i64 (s.r nb)) (.int .i64 0)).dr
                    have H7 := Lib.hid h7
                    clear h7
                    go_wp2_with fail
                    go_region
                    go_upto_region 33 with fail
                    generalize ((((wc.setCell ⟨cb + 1, 0, none⟩ (.int .i64 3)).setCell ⟨cb + 1, 1, none⟩ (.int .i64 (s.r na))).setCell ⟨cb + 1, 2, none⟩ (.int .i64 (s.r nb))).setCell ⟨cb + 1, 3, none⟩ (.int .i64 0)).drew = w7 at *
                    clear cx0 cx1 cx2 cx3 cx4 cf0 cf1 cf2 cf3 cf4 gx0 gx1 gx2 gx3 gf0 gf1 gf2 gf3 hrc hrf HS6
                    obtain ⟨jx0, jx1, jx2, jf0, jf1, jf2⟩ := bx3 H7.out.tl.tl.tl.tl.tl.hd
                    obtain ⟨lx0, lx1, lx2, lx3, lf0, lf1, lf2, lf3⟩ := bx4 H7.out.hd
                    obtain ⟨mx0, mx1, mx2, mx3, mx4, mf0, mf1, mf2, mf3, mf4⟩ := bxP H7.out.tl.hd
                    obtain ⟨nc, nf⟩ := arr_at H7.out.tl.tl.hd (i := nr) hnr
                    have h8 := (H7.out.s3.setAr nr s.gs.length)
                    rw [show (regL 16 s.r).set nr (s.gs.length : Int) = regL 16 (upR s.r nr s.gs.length) from by have := regL_set 16 s.r nr s.gs.length; rwa [Int.toNat_natCast] at this] at h8
                    go_upto_region 35 with fail
                    have H8 := Lib.hid h8
                    clear h8 jx0 jx1 jx2 jf0 jf1 jf2 lx0 lx1 lx2 lx3 lf0 lf1 lf2 lf3 mx0 mx1 mx2 mx3 mx4 mf0 mf1 mf2 mf3 mf4 nc nf H7
                    generalize (w7.setCell ⟨rb, nr, none⟩ (.int .i64 s.gs.length)) = w8 at *
                    obtain ⟨jx0, jx1, jx2, jf0, jf1, jf2⟩ := bx3 H8.out.to6.hd
                    obtain ⟨lx0, lx1, lx2, lx3, lf0, lf1, lf2, lf3⟩ := bx4 H8.out.s2.hd
                    go_wp2_with (
                      at_builtin
                      go_loud (refine app_RG (E := gateE) info_gate rfl (by decide) Tryd.underlying27 (gate_one ⟨3, (s.r na), (s.r nb), 0⟩) rfl (.tmp 130) (.tmp 132) rfl rfl rfl (by simp) rfl H8.out.to7 (by omega) ?_)
                      intro g2 c2 w9 h9
                      have h9a := h9.to7
                      obtain ⟨kx0, kx1, kx2, kf0, kf1, kf2⟩ := bx3 h9a.hd
                      have H9 := Lib.hid (h9a.setB 1 (.slice (some ⟨g2, 0, none⟩) (s.gs.length + 1) c2))
                      clear h9 h9a)
                    have X1 := H9.out.under (fun h => h.under (fun h => h.under (fun h => h.tl.tl) (by simp +contextual)) (by simp +contextual)) (by simp +contextual)
                    have X2 := X1.s5.s5.s5
                    have HEND := Lib.hid X2
                    clear X1 X2 H9 H8
                    go_roundw
                    case rel => (repeat apply Exists.intro); exact ⟨⟨j + 1, some ⟨g2, 0, none⟩, c2, by omega, by go_num, by rw [HST.out, HSP.out]; simpa using HEND.out⟩, rfl⟩
                    case measure => simp [intOf]; omega
                  by_cases ho : xo = 4
                  · obtain ⟨ha0, ha1⟩ := hb4 ho
                    obtain ⟨na, rfl⟩ := Int.eq_ofNat_of_zero_le ha0
                    have hna : na < 16 := by omega
                    obtain ⟨ra0, -⟩ := arr_at HS6.out.tl.tl.hd (i := na) hna
                    subst ho
                    obtain ⟨hgt, hmd⟩ := gt_4 (s := s) (o := 4) (r := nr) (a := na) (b := xb) (v := xv) rfl
                    have hstp : stepD s ⟨4, nr, na, xb, xv⟩ = ⟨s.gs ++ [⟨4, (s.r na), 0, xv⟩], upR s.r nr s.gs.length, s.cl, s.ot⟩ := by unfold stepD; rw [hgt]; rfl
                    have HSP := Lib.hid hstp
                    clear hgt hmd hstp
                    have h7 := (HS6.out.gate4 (.int .i64 4) (.int .i64 (s.r na)) (.int .i64 0) (.int .i64 xv)).dr
                    have H7 := Lib.hid h7
                    clear h7
                    go_wp2_with fail
                    go_region
                    go_upto_region 33 with fail
                    generalize ((((wc.setCell ⟨cb + 1, 0, none⟩ (.int .i64 4)).setCell ⟨cb + 1, 1, none⟩ (.int .i64 (s.r na))).setCell ⟨cb + 1, 2, none⟩ (.int .i64 0)).setCell ⟨cb + 1, 3, none⟩ (.int .i64 xv)).drew = w7 at *
                    clear cx0 cx1 cx2 cx3 cx4 cf0 cf1 cf2 cf3 cf4 gx0 gx1 gx2 gx3 gf0 gf1 gf2 gf3 hrc hrf HS6
                    obtain ⟨jx0, jx1, jx2, jf0, jf1, jf2⟩ := bx3 H7.out.tl.tl.tl.tl.tl.hd
                    obtain ⟨lx0, lx1, lx2, lx3, lf0, lf1, lf2, lf3⟩ := bx4 H7.out.hd
                    obtain ⟨mx0, mx1, mx2, mx3, mx4, mf0, mf1, mf2, mf3, mf4⟩ := bxP H7.out.tl.hd
                    obtain ⟨nc, nf⟩ := arr_at H7.out.tl.tl.hd (i := nr) hnr
                    have h8 := (H7.out.s3.setAr nr s.gs.length)
                    rw [show (regL 16 s.r).set nr (s.gs.length : Int) = regL 16 (upR s.r nr s.gs.length) from by have := regL_set 16 s.r nr s.gs.length; rwa [Int.toNat_natCast] at this] at h8
                    go_upto_region 35 with fail
                    have H8 := Lib.hid h8
                    clear h8 jx0 jx1 jx2 jf0 jf1 jf2 lx0 lx1 lx2 lx3 lf0 lf1 lf2 lf3 mx0 mx1 mx2 mx3 mx4 mf0 mf1 mf2 mf3 mf4 nc nf H7
                    generalize (w7.setCell ⟨rb, nr, none⟩ (.int .i64 s.gs.length)) = w8 at *
                    obtain ⟨jx0, jx1, jx2, jf0, jf1, jf2⟩ := bx3 H8.out.to6.hd
                    obtain ⟨lx0, lx1, lx2, lx3, lf0, lf1, lf2, lf3⟩ := bx4 H8.out.s2.hd
                    go_wp2_with (
                      at_builtin
                      go_loud (refine app_RG (E := gateE) info_gate rfl (by decide) Tryd.underlying27 (gate_one ⟨4, (s.r na), 0, xv⟩) rfl (.tmp 130) (.tmp 132) rfl rfl rfl (by simp) rfl H8.out.to7 (by omega) ?_)
                      intro g2 c2 w9 h9
                      have h9a := h9.to7
                      obtain ⟨kx0, kx1, kx2, kf0, kf1, kf2⟩ := bx3 h9a.hd
                      have H9 := Lib.hid (h9a.setB 1 (.slice (some ⟨g2, 0, none⟩) (s.gs.length + 1) c2))
                      clear h9 h9a)
                    have X1 := H9.out.under (fun h => h.under (fun h => h.under (fun h => h.tl.tl) (by simp +contextual)) (by simp +contextual)) (by simp +contextual)
                    have X2 := X1.s5.s5.s5
                    have HEND := Lib.hid X2
                    clear X1 X2 H9 H8
                    go_roundw
                    case rel => (repeat apply Exists.intro); exact ⟨⟨j + 1, some ⟨g2, 0, none⟩, c2, by omega, by go_num, by rw [HST.out, HSP.out]; simpa using HEND.out⟩, rfl⟩
                    case measure => simp [intOf]; omega
                  by_cases ho : xo = 5
                  · obtain ⟨ha0, ha1⟩ := hb5 (Or.inl ho)
                    obtain ⟨na, rfl⟩ := Int.eq_ofNat_of_zero_le ha0
                    have hna : na < s.cl.length := by rw [HCL.out]; omega
                    obtain ⟨cg, rfl⟩ := OI_addr HS6.out.tl.tl.tl.tl.hd (by omega)
                    obtain ⟨oc0, of0⟩ := OI_at HS6.out.tl.tl.tl.tl.hd HCL.out.symm hna
                    rw [HCL.out] at hna
                    subst ho
                    obtain ⟨hgt, hmd⟩ := gt_5 (s := s) (o := 5) (r := nr) (a := na) (b := xb) (v := xv) rfl
                    have hstp : stepD s ⟨5, nr, na, xb, xv⟩ = ⟨s.gs, upR s.r nr (s.cl.getD na 0), s.cl, s.ot⟩ := by unfold stepD; rw [hgt, if_pos (show g0.k = 0 from rfl)]; exact hmd
                    have HSP := Lib.hid hstp
                    clear hgt hmd hstp
                    generalize s.cl.getD na 0 = zz at *
                    have h7 := (HS6.out.s3.setAr nr zz)
                    rw [show (regL 16 s.r).set nr zz = regL 16 (upR s.r nr zz) from by have := regL_set 16 s.r nr zz; rwa [Int.toNat_natCast] at this] at h7
                    have H7 := Lib.hid h7.dr
                    clear h7
                    go_wp2_with fail
                    go_region
                    go_upto_region 33 with fail
                    generalize (wc.setCell ⟨rb, nr, none⟩ (.int .i64 zz)).drew = w7 at *
                    clear cx0 cx1 cx2 cx3 cx4 cf0 cf1 cf2 cf3 cf4 gx0 gx1 gx2 gx3 gf0 gf1 gf2 gf3 hrc hrf oc0 of0 HS6
                    obtain ⟨lx0, lx1, lx2, lx3, lf0, lf1, lf2, lf3⟩ := bx4 H7.out.tl.hd
                    go_wp2_with fail
                    have HEND := Lib.hid (H7.out.under (fun h => h.tl.tl) (by simp +contextual))
                    clear H7
                    go_roundw
                    case rel => (repeat apply Exists.intro); exact ⟨⟨j + 1, ga, gc, by omega, by go_num, by rw [HST.out, HSP.out]; simpa using HEND.out⟩, rfl⟩
                    case measure => simp [intOf]; omega
                  by_cases ho : xo = 6
                  · obtain ⟨ha0, ha1⟩ := hb5 (Or.inr ho)
                    obtain ⟨na, rfl⟩ := Int.eq_ofNat_of_zero_le ha0
                    have hna : na < s.cl.length := by rw [HCL.out]; omega
                    obtain ⟨cg, rfl⟩ := OI_addr HS6.out.tl.tl.tl.tl.hd (by omega)
                    obtain ⟨oc0, of0⟩ := OI_at HS6.out.tl.tl.tl.tl.hd HCL.out.symm hna
                    rw [HCL.out] at hna
                    subst ho
                    obtain ⟨hgt, hmd⟩ := gt_6 (s := s) (o := 6) (r := nr) (a := na) (b := xb) (v := xv) rfl
                    have hstp : stepD s ⟨6, nr, na, xb, xv⟩ = ⟨s.gs, s.r, s.cl.set na (s.r nr), s.ot⟩ := by unfold stepD; rw [hgt, if_pos (show g0.k = 0 from rfl)]; exact hmd
                    have HSP := Lib.hid hstp
                    clear hgt hmd hstp
                    have h7 := (HS6.out.s5.setI HCL.out.symm na (s.r nr)).dr
                    have H7 := Lib.hid h7
                    clear h7
                    go_wp2_with fail
                    go_region
                    go_upto_region 33 with fail
                    generalize (wc.setCell ⟨cg, na, none⟩ (.int .i64 (s.r nr))).drew = w7 at *
                    clear cx0 cx1 cx2 cx3 cx4 cf0 cf1 cf2 cf3 cf4 gx0 gx1 gx2 gx3 gf0 gf1 gf2 gf3 hrc hrf oc0 of0 HS6
                    obtain ⟨lx0, lx1, lx2, lx3, lf0, lf1, lf2, lf3⟩ := bx4 H7.out.tl.hd
                    go_wp2_with fail
                    have HEND := Lib.hid (H7.out.under (fun h => h.tl.tl) (by simp +contextual))
                    clear H7
                    go_roundw
                    case rel => (repeat apply Exists.intro); exact ⟨⟨j + 1, ga, gc, by omega, by go_num, by rw [HST.out, HSP.out]; simpa using HEND.out.s3.s3⟩, rfl⟩
                    case measure => simp [intOf]; omega
                  have ho : xo = 7 := by omega
                  obtain ⟨ha0, ha1⟩ := hb7 ho
                  obtain ⟨na, rfl⟩ := Int.eq_ofNat_of_zero_le ha0
                  have hna : na < s.ot.length := by rw [HOT.out]; omega
                  obtain ⟨cg, rfl⟩ := OI_addr HS6.out.tl.tl.tl.hd (by omega)
                  obtain ⟨oc0, of0⟩ := OI_at HS6.out.tl.tl.tl.hd HOT.out.symm hna
                  rw [HOT.out] at hna
                  subst ho
                  obtain ⟨hgt, hmd⟩ := gt_7 (s := s) (o := 7) (r := nr) (a := na) (b := xb) (v := xv) rfl
                  have hstp : stepD s ⟨7, nr, na, xb, xv⟩ = ⟨s.gs, s.r, s.cl, s.ot.set na (s.r nr)⟩ := by unfold stepD; rw [hgt, if_pos (show g0.k = 0 from rfl)]; exact hmd
                  have HSP := Lib.hid hstp
                  clear hgt hmd hstp
                  have h7 := (HS6.out.s4.setI HOT.out.symm na (s.r nr)).dr
                  have H7 := Lib.hid h7
                  clear h7
                  go_wp2_with fail
                  go_region
                  go_upto_region 33 with fail
                  generalize (wc.setCell ⟨cg, na, none⟩ (.int .i64 (s.r nr))).drew = w7 at *
                  clear cx0 cx1 cx2 cx3 cx4 cf0 cf1 cf2 cf3 cf4 gx0 gx1 gx2 gx3 gf0 gf1 gf2 gf3 hrc hrf oc0 of0 HS6
                  obtain ⟨lx0, lx1, lx2, lx3, lf0, lf1, lf2, lf3⟩ := bx4 H7.out.tl.hd
                  go_wp2_with fail
                  have HEND := Lib.hid (H7.out.under (fun h => h.tl.tl) (by simp +contextual))
                  clear H7
                  go_roundw
                  case rel => (repeat apply Exists.intro); exact ⟨⟨j + 1, ga, gc, by omega, by go_num, by rw [HST.out, HSP.out]; simpa using HEND.out.s2⟩, rfl⟩
                  case measure => simp [intOf]; omega
              · have hjn : j = m := by omega
                subst hjn
                clear hlt
                have hs6 := HSX.out
                have HLN := Lib.hid (run_lenD is (s0D nO k))
                rw [show is.take j = is from by rw [← HM.out]; exact List.take_length] at hs6
                have HE := Lib.hid HD.out
                generalize runD (s0D nO k) is = s at *
                have hlcl : s.cl.length = k := by have := HLN.out.1; rw [this]; simp [s0D, upL_len]
                have hlot : s.ot.length = nO := by have := HLN.out.2.1; rw [this]; simp [s0D]
                have hlgs : k + 1 ≤ s.gs.length := by
                  have h1 := HLN.out.2.2.2
                  have h2 : (s0D nO k).gs.length = k + 1 := by simp [s0D]
                  omega
                obtain ⟨gg, rfl⟩ := OR_addr hs6.s5.hd (by omega)
                have HS7 := Lib.hid hs6
                have HCL := Lib.hid hlcl
                have HOT := Lib.hid hlot
                have HGS := Lib.hid hlgs
                clear hs6 HSX hlcl hlot hlgs
                go_wp2_with fail
                go_loopw [12, 13, 138] (fun _ _ i wr => ∃ q : Nat, q ≤ k ∧ i = .int .i64 q ∧ Sep wr [BxA rb (arrC (regL 16 s.r)) 114, OI (.slice oa nO oc) s.ot, OI (.slice ca k cc) s.cl, BxA (w.heap.size + 1 + 1) #[.int .i64 I, .slice (some ⟨gg, 0, none⟩) s.gs.length gc, .slice none 0 0] 29, OR gateE (.slice (some ⟨gg, 0, none⟩) s.gs.length gc) (lnk s.gs s.cl q), BxA (w.heap.size + 1) #[.int .i64 0, .slice none 0 0, .slice none 0 0] 29, BxA w.heap.size #[.int .i64 I, .int .i64 nO, .int .i64 k, .int .i64 nR, .slice a0 j c0] 43, KeepA w]) (fun _ _ i _ => k - (intOf i).toNat)
                case atStart => exact ⟨0, by omega, rfl, HS7.out⟩
                case round =>
                  obtain ⟨q, hq, rfl, hs⟩ := hrel
                  have HSX := Lib.hid hs
                  clear hs HS7
                  obtain ⟨jx0, jx1, jx2, jf0, jf1, jf2⟩ := bx3 HSX.out.s4.hd
                  by_cases hlt : q < k
                  · have hql : q < s.cl.length := by rw [HCL.out]; exact hlt
                    obtain ⟨cg, rfl⟩ := OI_addr HSX.out.s3.hd (by omega)
                    obtain ⟨oc0, -⟩ := OI_at HSX.out.s3.hd HCL.out.symm hql
                    have hqg : q < (lnk s.gs s.cl q).length := by rw [lnk_len]; have := HGS.out; omega
                    have hlg : s.gs.length = (lnk s.gs s.cl q).length := (lnk_len _ _ _).symm
                    have hgi : (q : Int) < (s.gs.length : Int) := by have := HGS.out; omega
                    obtain ⟨gq, -, hg1, -, -⟩ := gate_cellsQ HSX.out.s5.hd hlg hqg
                    obtain ⟨-, hg2, -, -⟩ := gate_free HSX.out.s5.hd hlg q
                    have hset := (HSX.out.s5.setR (E := gateE) (i := q) (j := 1) (y := setA ((lnk s.gs s.cl q).getD q g0) (s.cl.getD q 0)) (u := .int .i64 (s.cl.getD q 0)) hlg hqg (by decide) (by
                      rw [List.getD_eq_getElem?_getD, List.getElem?_eq_getElem hqg]
                      simp [gateE, gateC, setA]))
                    rw [show (lnk s.gs s.cl q).set q (setA ((lnk s.gs s.cl q).getD q g0) (s.cl.getD q 0)) = lnk s.gs s.cl (q + 1) from rfl] at hset
                    have hset2 := hset.s5.s5.s5.s5
                    have HSET := Lib.hid hset2
                    generalize s.cl.getD q 0 = zz at *
                    clear hset hset2 hql hqg hlg
                    go_wp2_with fail
                    go_roundw
                    case rel => exact ⟨q + 1, by omega, by go_num, HSET.out⟩
                    case measure => simp [intOf]; omega
                  · have hqk : q = k := by omega
                    subst hqk
                    clear hlt
                    have hs8 := HSX.out.s4.setB 2 (.slice oa nO oc)
                    obtain ⟨kx0, kx1, kx2, kf0, kf1, kf2⟩ := bx3 hs8.hd
                    obtain ⟨lx0, lx1, lx2, lf0, lf1, lf2⟩ := bx3 hs8.to6.hd
                    have hs9 := ((hs8.to6.setB 0 (.int .i64 I)).setB 1 (.slice (some ⟨gg, 0, none⟩) s.gs.length gc)).setB 2 (.slice oa nO oc)
                    obtain ⟨mx0, mx1, mx2, mf0, mf1, mf2⟩ := bx3 hs9.hd
                    have HS9 := Lib.hid hs9
                    clear hs8 hs9
                    go_wp2_with fail
                    have hf := ((HS9.out.tl.tl.tl.drop2).s2).under (fun h => h.under Sep.tl (by simp +contextual)) (by simp +contextual)
                    refine bodyPost_ret_by (v := .agg #[.int .i64 I, .slice (some ⟨gg, 0, none⟩) s.gs.length gc, .slice oa nO oc]) ?_ rfl ⟨some ⟨gg, 0, none⟩, gc, oa, oc, ?_, ?_⟩
                    · simp [results, go_sem, *]
                    · rw [HE.out]
                      simp only [lnk_len, HOT.out]
                    · rw [HE.out]
                      simp only [lnk_len, HOT.out]
                      exact hf
end Go.Proofs.YtmofaaceadnafaaDoor

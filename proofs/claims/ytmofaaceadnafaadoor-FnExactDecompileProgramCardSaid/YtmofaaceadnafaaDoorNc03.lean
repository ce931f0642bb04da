/-
  The circuit of a program of instructions, in the reference. Conditions: it is a program.
-/
import Derived.Test.YtmofaaceadnafaaDoorNc02
namespace Go.Proofs.YtmofaaceadnafaaDoor
open Go.RowKit
set_option linter.unusedVariables false
set_option maxRecDepth 100000

def zeroCells (n : Nat) : Array Value := madeCells (Value.int .i64 0).cells (n * 1)
theorem make_row (n : Nat) (hn : n ≤ 1000000) (w : World) : (Instr.makeSlice 23 (.int .i64 n) (.int .i64 n)).run Tryd.prog w = .ok (.slice (some ⟨w.heap.size, 0, none⟩) n n) (w.alloc (.cells (zeroCells n) 3)) := by
  obtain ⟨i0, hi, hz0, hz1, hz2⟩ := info_parts info_int
  have h := run_make (P := Tryd.prog) w 23 3 i0 (.int .i64 0) Tryd.underlying23 hi hz0 .i64 .i64 n n (by omega) (Int.le_refl _) (by rw [hz2]; omega) (by omega)
  rw [hz1] at h
  simp only [Int.toNat_natCast] at h
  exact h
theorem row_made {B : Nat} (n : Nat) (hn : n ≤ 1000000) (w : World) (hB : B ≤ w.heap.size) : OwnInts B (w.alloc (.cells (zeroCells n) 3)) (.slice (some ⟨w.heap.size, 0, none⟩) n n) (List.replicate n 0) := by
  have h := World.ownsRow_lit (e := 3) (base := B) (size := 1) w (zeroCells n) n hB (by unfold maxLen; omega) (size_madeCells _ _)
  unfold zeroCells at h
  rw [madeCells_int] at h
  unfold OwnInts zeroCells
  rw [List.length_replicate]
  exact h
theorem Sep.row {w : World} {l : List Asrt} (h : Sep w l) (n : Nat) (hn : n ≤ 1000000) (b : Nat) (hb : b = w.heap.size) : Sep (w.alloc (.cells (zeroCells n) 3)) (OI (.slice (some ⟨b, 0, none⟩) n n) (List.replicate n 0) :: l) :=
  hb ▸ h.newI (grownBy_alloc _ _ _) (row_made n hn w (Nat.le_refl _))
theorem reg_at {w : World} {B g n c : Nat} {r : Nat → Int} (h : OwnInts B w (.slice (some ⟨g, 0, none⟩) n c) (regL n r)) {i : Nat} (hi : i < n) : w.cell? ⟨g, i, none⟩ = some (.int .i64 (r i)) ∧ w.frozen? ⟨g, i, none⟩ = false := by
  have := OI_at h (regL_len n r).symm (i := i) (by rw [regL_len]; exact hi)
  rwa [regL_get r hi] at this

set_option maxHeartbeats 16000000 in
theorem cmCircuit_any (p I O C R : Int) (cv : Value) (is : List It) (w : World) (hv : progB p I O C R is = true) (hg : RdR instE w cv is) :
    Calls Tryd.prog 58 #[prV I O C R cv] w fun e w' => ∃ a1 c1 a2 c2, e = .returned (cirV I (.slice a1 (decC I O C is).gs.length c1) (.slice a2 (decC I O C is).os.length c2)) ∧
      Sep w' [OR gateE (.slice a1 (decC I O C is).gs.length c1) (decC I O C is).gs, OI (.slice a2 (decC I O C is).os.length c2) (decC I O C is).os, KeepA w] := by
  obtain ⟨⟨hI0, hI1⟩, ⟨hO0, hO1⟩, ⟨hC0, hC1⟩, ⟨hR0, hR1⟩, hlen, hins⟩ := dec_bnd hv
  have HIN := Lib.hid hins
  have HG := Lib.hid hg
  unfold prV cirV
  obtain ⟨a0, c0, rfl⟩ := hg.shape
  obtain ⟨nC, rfl⟩ := Int.eq_ofNat_of_zero_le hC0
  obtain ⟨nO, rfl⟩ := Int.eq_ofNat_of_zero_le hO0
  obtain ⟨nR, rfl⟩ := Int.eq_ofNat_of_zero_le hR0
  have HD := Lib.hid (show decC I nO nC is = ⟨I, lnk (runD (s0D nO nC) is).gs (runD (s0D nO nC) is).cl nC, (runD (s0D nO nC) is).ot⟩ by unfold decC; rw [Int.toNat_natCast])
  generalize decC I nO nC is = D at *
  clear hv hg hins
  generalize hm : is.length = m at *
  have HM := Lib.hid hm
  clear hm
  have hs0 := (((Sep.start w).box #[.int .i64 I, .int .i64 nO, .int .i64 nC, .int .i64 nR, .slice a0 m c0] 43).box #[.int .i64 0, .slice none 0 0, .slice none 0 0] 29).box #[.int .i64 I, .slice none 0 0, .slice none 0 0] 29
  have e1 : (w.alloc (.cells #[.int .i64 I, .int .i64 nO, .int .i64 nC, .int .i64 nR, .slice a0 m c0] 43)).heap.size = w.heap.size + 1 := by simp
  have e2 : ((w.alloc (.cells #[.int .i64 I, .int .i64 nO, .int .i64 nC, .int .i64 nR, .slice a0 m c0] 43)).alloc (.cells #[.int .i64 0, .slice none 0 0, .slice none 0 0] 29)).heap.size = w.heap.size + 1 + 1 := by simp
  rw [e2, e1] at hs0
  have e3 : (((w.alloc (.cells #[.int .i64 I, .int .i64 nO, .int .i64 nC, .int .i64 nR, .slice a0 m c0] 43)).alloc (.cells #[.int .i64 0, .slice none 0 0, .slice none 0 0] 29)).alloc (.cells #[.int .i64 I, .slice none 0 0, .slice none 0 0] 29)).heap.size = w.heap.size + 1 + 1 + 1 := by simp
  have HS0 := Lib.hid (((hs0.row nC (by omega) (w.heap.size + 1 + 1 + 1) e3.symm).nilR gateE).s3.s3)
  obtain ⟨px0, px1, px2, px3, px4, -⟩ := bxP hs0.tl.tl.hd
  have hmk := make_row nC (by omega)
  clear hs0 e1 e2 e3
  go_enter Tryd.func58, Tryd.ntmps58
  go_wp2_with fail
  go_loopw [5, 24] (fun _ i wr => ∃ (q : Nat) (a1 : Option Addr) (c1 : Nat), q ≤ nC ∧ i = .int .i64 q ∧ Sep wr [OI (.slice (some ⟨w.heap.size + 1 + 1 + 1, 0, none⟩) nC nC) (upL q ++ List.replicate (nC - q) 0), BxA (w.heap.size + 1 + 1) #[.int .i64 I, .slice a1 q c1, .slice none 0 0] 29, OR gateE (.slice a1 q c1) (List.replicate q ⟨5, 0, 0, 0⟩), BxA (w.heap.size + 1) #[.int .i64 0, .slice none 0 0, .slice none 0 0] 29, BxA w.heap.size #[.int .i64 I, .int .i64 nO, .int .i64 nC, .int .i64 nR, .slice a0 m c0] 43, KeepA w]) (fun _ i _ => nC - (intOf i).toNat)
  case atStart => exact ⟨0, none, 0, by omega, rfl, by simpa [upL, nilS] using HS0.out⟩
  case round =>
    obtain ⟨k, a1, c1, hk, rfl, hs⟩ := hrel
    have HSX := Lib.hid hs
    clear hs HS0 px0 px1 px2 px3 px4 hmk
    by_cases hlt : k < nC
    · have hll : nC = (upL k ++ List.replicate (nC - k) (0 : Int)).length := by rw [List.length_append, List.length_replicate, upL_len]; omega
      have hf := HSX.out.hd.free hll k
      obtain ⟨q, hc0⟩ := HSX.out.hd.cellQ hll (j := k) hlt
      have hset := HSX.out.setI hll k k
      rw [up_set hlt] at hset
      have HSET := Lib.hid hset
      obtain ⟨x0, x1, x2, x3, x4, x5⟩ := bx3 hset.tl.hd
      clear hll hset
      go_wp2_with (
        at_builtin
        go_loud (refine app_RG (E := gateE) info_gate rfl (by decide) Tryd.underlying27 (gate_one ⟨5, 0, 0, 0⟩) rfl (.tmp 32) (.tmp 34) rfl rfl rfl (by simp) rfl HSET.out.s3 (by rw [List.length_replicate]; omega) ?_)
        intro g c w3 h3
        rw [List.length_replicate] at h3 ⊢
        rw [← List.replicate_succ'] at h3
        have hs3 := h3.s3
        obtain ⟨u0, u1, u2, u3, u4, u5⟩ := bx3 hs3.hd
        have HS3 := Lib.hid (hs3.setB 1 (.slice (some ⟨g, 0, none⟩) (k + 1) c)).s3
        clear h3 hs3)
      go_roundw
      case rel => exact ⟨k + 1, some ⟨g, 0, none⟩, c, by omega, by go_num, HS3.out⟩
      case measure => simp [intOf]; omega
    · have hkn : k = nC := by omega
      subst hkn
      clear hlt
      have hs1 := HSX.out
      rw [Nat.sub_self, List.replicate_zero, List.append_nil] at hs1
      have HS1 := Lib.hid hs1
      obtain ⟨x0, x1, x2, x3, x4, x5⟩ := bx3 hs1.tl.hd
      clear hs1 HSX
      go_upto_region 11 with (
        at_builtin
        go_loud (refine app_RG (E := gateE) info_gate rfl (by decide) Tryd.underlying27 (gate_one ⟨2, 0, 0, 0⟩) rfl (.tmp 42) (.tmp 44) rfl rfl rfl (by simp) rfl HS1.out.s3 (by rw [List.length_replicate]; omega) ?_)
        intro g c w3 h3
        rw [List.length_replicate] at h3 ⊢
        have hs3 := h3.s3
        obtain ⟨u0, u1, u2, u3, u4, u5⟩ := bx3 hs3.hd
        have HS3 := Lib.hid (hs3.setB 1 (.slice (some ⟨g, 0, none⟩) (k + 1) c)).s3
        clear h3 hs3)
      go_cut [7, 8] from 47 to 52 (fun t7 t8 wx => ∃ (ra : Option Addr) (rc : Nat) (oa : Option Addr) (oc : Nat), t7 = .slice ra nR rc ∧ t8 = .slice oa nO oc ∧ Sep wx [OI (.slice ra nR rc) (List.replicate nR 0), OI (.slice oa nO oc) (List.replicate nO 0), OI (.slice (some ⟨w.heap.size + 1 + 1 + 1, 0, none⟩) k k) (upL k), BxA (w.heap.size + 1 + 1) #[.int .i64 I, .slice (some ⟨g, 0, none⟩) (k + 1) c, .slice none 0 0] 29, OR gateE (.slice (some ⟨g, 0, none⟩) (k + 1) c) (List.replicate k ⟨5, 0, 0, 0⟩ ++ [⟨2, 0, 0, 0⟩]), BxA (w.heap.size + 1) #[.int .i64 0, .slice none 0 0, .slice none 0 0] 29, BxA w.heap.size #[.int .i64 I, .int .i64 nO, .int .i64 k, .int .i64 nR, .slice a0 m c0] 43, KeepA w])
      case first =>
        have hs4 := HS3.out
        clear HS3 HS1 x0 x1 x2 x3 x4 x5 u0 u1 u2 u3 u4 u5
        generalize w3.setCell ⟨w.heap.size + 1 + 1, 1, none⟩ (.slice (some ⟨g, 0, none⟩) (k + 1) c) = w4 at *
        have hmk1 := make_row nR (by omega)
        have hmk2 := make_row nO (by omega)
        have SX := Lib.hid fun (W : World) (l : List Asrt) (h : Sep W (BxA w.heap.size #[.int .i64 I, .int .i64 nO, .int .i64 k, .int .i64 nR, .slice a0 m c0] 43 :: l)) => And.intro (bxP h.hd).2.1 (bxP h.hd).2.2.2.1
        have hx := hs4.s5
        have X0 := Lib.hid (SX.out _ _ hx.dr)
        have X1 := Lib.hid fun ob => SX.out _ _ (hx.al ob).dr
        have X2 := Lib.hid fun ob ob' => SX.out _ _ ((hx.al ob).al ob').dr
        have HA := Lib.hid ((hs4.row nR (by omega) _ rfl).row nO (by omega) (w4.heap.size + 1) (by simp)).dr.s2
        have HB := Lib.hid ((hs4.row nO (by omega) _ rfl).row nR (by omega) (w4.heap.size + 1) (by simp)).dr
        clear hs4 hx
        go_region_held3 (fun w' => w'.cell? ⟨w.heap.size, 1, none⟩ = some (.int .i64 nO) ∧ w'.cell? ⟨w.heap.size, 3, none⟩ = some (.int .i64 nR))
          (first | with_reducible exact X0.out | with_reducible exact X1.out _ | with_reducible exact X2.out _ _)
          (fail)
        all_goals
          go_wp2_with fail
          go_meet
          refine ⟨_, _, _, _, rfl, rfl, ?_⟩
          first
            | exact HA.out
            | exact HB.out
      case rest =>
        obtain ⟨ra, rc, oa, oc, rfl, rfl, hs⟩ := hcut
        have HS4 := Lib.hid hs
        clear hs HS3 HS1
        go_wp2_with fail
        go_loopw [9, 55] (fun _ i wr => ∃ j : Nat, j ≤ nR ∧ i = .int .i64 j ∧ Sep wr [OI (.slice ra nR rc) (List.replicate j (k : Int) ++ List.replicate (nR - j) 0), OI (.slice oa nO oc) (List.replicate nO 0), OI (.slice (some ⟨w.heap.size + 1 + 1 + 1, 0, none⟩) k k) (upL k), BxA (w.heap.size + 1 + 1) #[.int .i64 I, .slice (some ⟨g, 0, none⟩) (k + 1) c, .slice none 0 0] 29, OR gateE (.slice (some ⟨g, 0, none⟩) (k + 1) c) (List.replicate k ⟨5, 0, 0, 0⟩ ++ [⟨2, 0, 0, 0⟩]), BxA (w.heap.size + 1) #[.int .i64 0, .slice none 0 0, .slice none 0 0] 29, BxA w.heap.size #[.int .i64 I, .int .i64 nO, .int .i64 k, .int .i64 nR, .slice a0 m c0] 43, KeepA w]) (fun _ i _ => nR - (intOf i).toNat)
        case atStart => exact ⟨0, by omega, rfl, by simpa using HS4.out⟩
        case round =>
         obtain ⟨j, hj, rfl, hs⟩ := hrel
         have HSX := Lib.hid hs
         clear hs HS4
         by_cases hlt : j < nR
         · have hll : nR = (List.replicate j (k : Int) ++ List.replicate (nR - j) (0 : Int)).length := by rw [List.length_append, List.length_replicate, List.length_replicate]; omega
           obtain ⟨rg, rfl⟩ := OI_addr HSX.out.hd (by omega)
           have hf := HSX.out.hd.free hll j
           obtain ⟨q, hc0⟩ := HSX.out.hd.cellQ hll (j := j) hlt
           have hset := HSX.out.setI hll j k
           rw [rep_set k 0 hlt] at hset
           have HSET := Lib.hid hset
           clear hset hll
           go_wp2
           go_roundw
           case rel => exact ⟨j + 1, by omega, by go_num, HSET.out⟩
           case measure => simp [intOf]; omega
         · have hjn : nR = j := by omega
           subst hjn
           clear hlt
           have hs4 := HSX.out
           rw [Nat.sub_self, List.replicate_zero, List.append_nil] at hs4
           have HS5 := Lib.hid hs4.s2
           clear hs4 HSX
           go_wp2_with fail
           go_loopw [10, 65] (fun _ i wr => ∃ i2 : Nat, i2 ≤ nO ∧ i = .int .i64 i2 ∧ Sep wr [OI (.slice oa nO oc) (List.replicate i2 (k : Int) ++ List.replicate (nO - i2) 0), OI (.slice ra nR rc) (List.replicate nR (k : Int)), OI (.slice (some ⟨w.heap.size + 1 + 1 + 1, 0, none⟩) k k) (upL k), BxA (w.heap.size + 1 + 1) #[.int .i64 I, .slice (some ⟨g, 0, none⟩) (k + 1) c, .slice none 0 0] 29, OR gateE (.slice (some ⟨g, 0, none⟩) (k + 1) c) (List.replicate k ⟨5, 0, 0, 0⟩ ++ [⟨2, 0, 0, 0⟩]), BxA (w.heap.size + 1) #[.int .i64 0, .slice none 0 0, .slice none 0 0] 29, BxA w.heap.size #[.int .i64 I, .int .i64 nO, .int .i64 k, .int .i64 nR, .slice a0 m c0] 43, KeepA w]) (fun _ i _ => nO - (intOf i).toNat)
           case atStart => exact ⟨0, by omega, rfl, by simpa using HS5.out⟩
           case round =>
            obtain ⟨i2, hi2, rfl, hs⟩ := hrel
            have HSX := Lib.hid hs
            clear hs HS5
            by_cases hlt : i2 < nO
            · have hll : nO = (List.replicate i2 (k : Int) ++ List.replicate (nO - i2) (0 : Int)).length := by rw [List.length_append, List.length_replicate, List.length_replicate]; omega
              obtain ⟨og, rfl⟩ := OI_addr HSX.out.hd (by omega)
              have hf := HSX.out.hd.free hll i2
              obtain ⟨q, hc0⟩ := HSX.out.hd.cellQ hll (j := i2) hlt
              have hset := HSX.out.setI hll i2 k
              rw [rep_set k 0 hlt] at hset
              have HSET := Lib.hid hset
              clear hset hll
              go_wp2
              go_roundw
              case rel => exact ⟨i2 + 1, by omega, by go_num, HSET.out⟩
              case measure => simp [intOf]; omega
            · have hin : nO = i2 := by omega
              subst hin
              clear hlt
              have hs4 := HSX.out.s2
              rw [Nat.sub_self, List.replicate_zero, List.append_nil, regL_rep nR] at hs4
              have HS5 := Lib.hid hs4
              clear hs4 HSX
              generalize hzb : w.heap.size + 1 + 1 + 1 = zb at *
              clear hzb
              have hs6 : ∃ (ga : Option Addr) (gc : Nat), Sep wr [OI (.slice ra nR rc) (regL nR (s0D nO k).r), OI (.slice oa nO oc) (s0D nO k).ot, OI (.slice (some ⟨zb, 0, none⟩) k k) (s0D nO k).cl, BxA (w.heap.size + 1 + 1) #[.int .i64 I, .slice ga (s0D nO k).gs.length gc, .slice none 0 0] 29, OR gateE (.slice ga (s0D nO k).gs.length gc) (s0D nO k).gs, BxA (w.heap.size + 1) #[.int .i64 0, .slice none 0 0, .slice none 0 0] 29, BxA w.heap.size #[.int .i64 I, .int .i64 nO, .int .i64 k, .int .i64 nR, .slice a0 m c0] 43, KeepA w] := ⟨some ⟨g, 0, none⟩, c, by simpa [s0D] using HS5.out⟩
              have HS6 := Lib.hid hs6
              clear hs6 HS5
              obtain ⟨px0, px1, px2, px3, px4, pf0, pf1, pf2, pf3, pf4⟩ := bxP (show wr.heap[w.heap.size]? = _ from by obtain ⟨ga, gc, h⟩ := HS6.out; exact h.tl.tl.tl.tl.tl.tl.hd)
              go_wp2_with fail
              go_loopw [12, 13, 76] (fun _ _ i wr => ∃ (j : Nat) (ga : Option Addr) (gc : Nat), j ≤ m ∧ i = .int .i64 j ∧ Sep wr [OI (.slice ra nR rc) (regL nR (runD (s0D nO k) (is.take j)).r), OI (.slice oa nO oc) (runD (s0D nO k) (is.take j)).ot, OI (.slice (some ⟨zb, 0, none⟩) k k) (runD (s0D nO k) (is.take j)).cl, BxA (w.heap.size + 1 + 1) #[.int .i64 I, .slice ga (runD (s0D nO k) (is.take j)).gs.length gc, .slice none 0 0] 29, OR gateE (.slice ga (runD (s0D nO k) (is.take j)).gs.length gc) (runD (s0D nO k) (is.take j)).gs, BxA (w.heap.size + 1) #[.int .i64 0, .slice none 0 0, .slice none 0 0] 29, BxA w.heap.size #[.int .i64 I, .int .i64 nO, .int .i64 k, .int .i64 nR, .slice a0 m c0] 43, KeepA w]) (fun _ _ i _ => m - (intOf i).toNat)
              case atStart =>
                obtain ⟨ga, gc, h⟩ := HS6.out
                exact ⟨0, ga, gc, by omega, rfl, h⟩
              case round =>
                clear px0 px1 px2 px3 px4 pf0 pf1 pf2 pf3 pf4 HS6
                obtain ⟨j, ga, gc, hj, rfl, hs⟩ := hrel
                have HSX := Lib.hid hs
                clear hs
                by_cases hlt : j < m
                · have hjl : j < is.length := by rw [HM.out]; exact hlt
                  obtain ⟨b, o, rfl, hb, c0', c1', c2', c3', c4'⟩ := inst_at rfl rfl (HG.out.carry HSX.out.tl.tl.tl.tl.tl.tl.tl.hd) hjl
                  have HST := Lib.hid (run_take (s0D nO k) hjl)
                  have hbd := inst_bnd (HIN.out _ (inst_mem hjl))
                  have HLN := Lib.hid (run_lenD (is.take j) (s0D nO k))
                  generalize is.getD j i0 = x at *
                  generalize runD (s0D nO k) (is.take j) = s at *
                  obtain ⟨xo, xr, xa, xb, xv⟩ := x
                  obtain ⟨⟨hr0, hr1⟩, hb3, hb4, hb5, hb7, ho0, ho1⟩ := hbd
                  simp only at hr0 hr1 hb3 hb4 hb5 hb7 ho0 ho1 c0' c1' c2' c3' c4'
                  obtain ⟨nr, rfl⟩ := Int.eq_ofNat_of_zero_le hr0
                  have hnr : nr < nR := by omega
                  obtain ⟨rb, rfl⟩ := OI_addr HSX.out.hd (by rw [regL_len]; omega)
                  have HSB := Lib.hid ((HSX.out.box #[.int .i64 xo, .int .i64 nr, .int .i64 xa, .int .i64 xb, .int .i64 xv] 106).box #[.int .i64 0, .int .i64 0, .int .i64 0, .int .i64 0] 85)
                  go_upto_region 25 with fail
                  go_cut [13, 76] from 76 to 161 (fun t11 t55 wx => t11 = .pointer (some ⟨wr.heap.size + 1, 0, none⟩) ∧ t55 = .int .i64 j ∧ Sep wx [BxA (wr.heap.size + 1) #[.int .i64 0, .int .i64 0, .int .i64 0, .int .i64 0] 85, BxA wr.heap.size #[.int .i64 xo, .int .i64 nr, .int .i64 xa, .int .i64 xb, .int .i64 xv] 106, OI (.slice (some ⟨rb, 0, none⟩) nR rc) (regL nR s.r), OI (.slice oa nO oc) s.ot, OI (.slice (some ⟨zb, 0, none⟩) k k) s.cl, BxA (w.heap.size + 1 + 1) #[.int .i64 I, .slice ga s.gs.length gc, .slice none 0 0] 29, OR gateE (.slice ga s.gs.length gc) s.gs, BxA (w.heap.size + 1) #[.int .i64 0, .slice none 0 0, .slice none 0 0] 29, BxA w.heap.size #[.int .i64 I, .int .i64 nO, .int .i64 k, .int .i64 nR, .slice (some ⟨b, o, none⟩) m c0] 43, KeepA w])
                  case first =>
                    go_wp2_with fail
                    go_meet
                    case rel => exact ⟨rfl, rfl, by simpa using HSB.out⟩
                  case rest =>
                    obtain ⟨rfl, rfl, hs⟩ := hcut
                    clear HSB HSX c0' c1' c2' c3' c4'
                    have HS6 := Lib.hid hs
                    obtain ⟨cx0, cx1, cx2, cx3, cx4, cf0, cf1, cf2, cf3, cf4⟩ := bxP hs.tl.hd
                    obtain ⟨gx0, gx1, gx2, gx3, gf0, gf1, gf2, gf3⟩ := bx4 hs.hd
                    clear hs
                    generalize wr.heap.size = cb at *
                    have hlcl : s.cl.length = k := by have := HLN.out.1; rw [this]; simp [s0D, upL_len]
                    have hlot : s.ot.length = nO := by have := HLN.out.2.1; rw [this]; simp [s0D]
                    have hlgs : s.gs.length ≤ 200 := by
                      have h1 := HLN.out.2.2.1
                      have h2 : (s0D nO k).gs.length = k + 1 := by simp [s0D]
                      have h3 : (is.take j).length ≤ j := by simp; omega
                      omega
                    have HCL := Lib.hid hlcl
                    have HOT := Lib.hid hlot
                    clear hlcl hlot
                    obtain ⟨hrc, hrf⟩ := reg_at HS6.out.tl.tl.hd (i := nr) hnr
                    by_cases ho : xo = 1
                    · subst ho
                      obtain ⟨hgt, hmd⟩ := gt_1 (s := s) (o := 1) (r := nr) (a := xa) (b := xb) (v := xv) rfl
                      have hstp : stepD s ⟨1, nr, xa, xb, xv⟩ = ⟨s.gs ++ [⟨1, 0, 0, xa⟩], upR s.r nr s.gs.length, s.cl, s.ot⟩ := by unfold stepD; rw [hgt]; rfl
                      have HSP := Lib.hid hstp
                      clear hgt hmd hstp
                      have h7 := HS6.out.gate4 (.int .i64 1) (.int .i64 0) (.int .i64 0) (.int .i64 xa)
                      have H7 := Lib.hid h7
                      clear h7
                      go_upto_region 40 with fail
                      generalize ((((wc.setCell ⟨cb + 1, 0, none⟩ (.int .i64 1)).setCell ⟨cb + 1, 1, none⟩ (.int .i64 0)).setCell ⟨cb + 1, 2, none⟩ (.int .i64 0)).setCell ⟨cb + 1, 3, none⟩ (.int .i64 xa)) = w7 at *
                      clear cx0 cx1 cx2 cx3 cx4 cf0 cf1 cf2 cf3 cf4 gx0 gx1 gx2 gx3 gf0 gf1 gf2 gf3 hrc hrf HS6
                      obtain ⟨jx0, jx1, jx2, jf0, jf1, jf2⟩ := bx3 H7.out.tl.tl.tl.tl.tl.hd
                      obtain ⟨lx0, lx1, lx2, lx3, lf0, lf1, lf2, lf3⟩ := bx4 H7.out.hd
                      obtain ⟨mx0, mx1, mx2, mx3, mx4, mf0, mf1, mf2, mf3, mf4⟩ := bxP H7.out.tl.hd
                      obtain ⟨nc, nf⟩ := reg_at H7.out.tl.tl.hd (i := nr) hnr
                      have h8 := (H7.out.s3.setI (regL_len _ _).symm nr s.gs.length)
                      rw [show (regL nR s.r).set nr (s.gs.length : Int) = regL nR (upR s.r nr s.gs.length) from by have := regL_set nR s.r nr s.gs.length; rwa [Int.toNat_natCast] at this] at h8
                      go_upto_region 42 with fail
                      have H8 := Lib.hid h8
                      clear h8 jx0 jx1 jx2 jf0 jf1 jf2 lx0 lx1 lx2 lx3 lf0 lf1 lf2 lf3 mx0 mx1 mx2 mx3 mx4 mf0 mf1 mf2 mf3 mf4 nc nf H7
                      generalize (w7.setCell ⟨rb, nr, none⟩ (.int .i64 s.gs.length)) = w8 at *
                      obtain ⟨jx0, jx1, jx2, jf0, jf1, jf2⟩ := bx3 H8.out.to6.hd
                      obtain ⟨lx0, lx1, lx2, lx3, lf0, lf1, lf2, lf3⟩ := bx4 H8.out.s2.hd
                      go_wp2_with (
                        at_builtin
                        go_loud (refine app_RG (E := gateE) info_gate rfl (by decide) Tryd.underlying27 (gate_one ⟨1, 0, 0, xa⟩) rfl (.tmp 156) (.tmp 158) rfl rfl rfl (by simp) rfl H8.out.to7 (by omega) ?_)
                        intro g2 c2 w9 h9
                        have h9a := h9.to7
                        obtain ⟨kx0, kx1, kx2, kf0, kf1, kf2⟩ := bx3 h9a.hd
                        have H9 := Lib.hid (h9a.setB 1 (.slice (some ⟨g2, 0, none⟩) (s.gs.length + 1) c2))
                        clear h9 h9a)
                      have X1 := H9.out.under (fun h => h.under (fun h => h.under (fun h => h.tl.tl) (by simp +contextual)) (by simp +contextual)) (by simp +contextual)
                      have X2 := X1.s5.s5.s5
                      have HEND := Lib.hid X2
                      clear X1 X2 H9 H8
                      go_roundw
                      case rel => first | exact ⟨j + 1, some ⟨g2, 0, none⟩, c2, by omega, by go_num, by rw [HST.out, HSP.out]; simpa using HEND.out⟩ | ((repeat apply Exists.intro); exact ⟨⟨j + 1, some ⟨g2, 0, none⟩, c2, by omega, by go_num, by rw [HST.out, HSP.out]; simpa using HEND.out⟩, rfl⟩)
                      case measure => simp [intOf]; omega
                    by_cases ho : xo = 2
                    · subst ho
                      obtain ⟨hgt, hmd⟩ := gt_2 (s := s) (o := 2) (r := nr) (a := xa) (b := xb) (v := xv) rfl
                      have hstp : stepD s ⟨2, nr, xa, xb, xv⟩ = ⟨s.gs ++ [⟨2, 0, 0, 0⟩], upR s.r nr s.gs.length, s.cl, s.ot⟩ := by unfold stepD; rw [hgt]; rfl
                      have HSP := Lib.hid hstp
                      clear hgt hmd hstp
                      have h7 := HS6.out.gate4 (.int .i64 2) (.int .i64 0) (.int .i64 0) (.int .i64 0)
                      have H7 := Lib.hid h7
                      clear h7
                      go_upto_region 40 with fail
                      generalize ((((wc.setCell ⟨cb + 1, 0, none⟩ (.int .i64 2)).setCell ⟨cb + 1, 1, none⟩ (.int .i64 0)).setCell ⟨cb + 1, 2, none⟩ (.int .i64 0)).setCell ⟨cb + 1, 3, none⟩ (.int .i64 0)) = w7 at *
                      clear cx0 cx1 cx2 cx3 cx4 cf0 cf1 cf2 cf3 cf4 gx0 gx1 gx2 gx3 gf0 gf1 gf2 gf3 hrc hrf HS6
                      obtain ⟨jx0, jx1, jx2, jf0, jf1, jf2⟩ := bx3 H7.out.tl.tl.tl.tl.tl.hd
                      obtain ⟨lx0, lx1, lx2, lx3, lf0, lf1, lf2, lf3⟩ := bx4 H7.out.hd
                      obtain ⟨mx0, mx1, mx2, mx3, mx4, mf0, mf1, mf2, mf3, mf4⟩ := bxP H7.out.tl.hd
                      obtain ⟨nc, nf⟩ := reg_at H7.out.tl.tl.hd (i := nr) hnr
                      have h8 := (H7.out.s3.setI (regL_len _ _).symm nr s.gs.length)
                      rw [show (regL nR s.r).set nr (s.gs.length : Int) = regL nR (upR s.r nr s.gs.length) from by have := regL_set nR s.r nr s.gs.length; rwa [Int.toNat_natCast] at this] at h8
                      go_upto_region 42 with fail
                      have H8 := Lib.hid h8
                      clear h8 jx0 jx1 jx2 jf0 jf1 jf2 lx0 lx1 lx2 lx3 lf0 lf1 lf2 lf3 mx0 mx1 mx2 mx3 mx4 mf0 mf1 mf2 mf3 mf4 nc nf H7
                      generalize (w7.setCell ⟨rb, nr, none⟩ (.int .i64 s.gs.length)) = w8 at *
                      obtain ⟨jx0, jx1, jx2, jf0, jf1, jf2⟩ := bx3 H8.out.to6.hd
                      obtain ⟨lx0, lx1, lx2, lx3, lf0, lf1, lf2, lf3⟩ := bx4 H8.out.s2.hd
                      go_wp2_with (
                        at_builtin
                        go_loud (refine app_RG (E := gateE) info_gate rfl (by decide) Tryd.underlying27 (gate_one ⟨2, 0, 0, 0⟩) rfl (.tmp 156) (.tmp 158) rfl rfl rfl (by simp) rfl H8.out.to7 (by omega) ?_)
                        intro g2 c2 w9 h9
                        have h9a := h9.to7
                        obtain ⟨kx0, kx1, kx2, kf0, kf1, kf2⟩ := bx3 h9a.hd
                        have H9 := Lib.hid (h9a.setB 1 (.slice (some ⟨g2, 0, none⟩) (s.gs.length + 1) c2))
                        clear h9 h9a)
                      have X1 := H9.out.under (fun h => h.under (fun h => h.under (fun h => h.tl.tl) (by simp +contextual)) (by simp +contextual)) (by simp +contextual)
                      have X2 := X1.s5.s5.s5
                      have HEND := Lib.hid X2
                      clear X1 X2 H9 H8
                      go_roundw
                      case rel => first | exact ⟨j + 1, some ⟨g2, 0, none⟩, c2, by omega, by go_num, by rw [HST.out, HSP.out]; simpa using HEND.out⟩ | ((repeat apply Exists.intro); exact ⟨⟨j + 1, some ⟨g2, 0, none⟩, c2, by omega, by go_num, by rw [HST.out, HSP.out]; simpa using HEND.out⟩, rfl⟩)
                      case measure => simp [intOf]; omega
                    by_cases ho : xo = 3
                    · obtain ⟨⟨ha0, ha1⟩, ⟨hb0, hb1⟩⟩ := hb3 ho
                      obtain ⟨na, rfl⟩ := Int.eq_ofNat_of_zero_le ha0
                      obtain ⟨nb, rfl⟩ := Int.eq_ofNat_of_zero_le hb0
                      have hna : na < nR := by omega
                      have hnb : nb < nR := by omega
                      obtain ⟨ra0, -⟩ := reg_at HS6.out.tl.tl.hd (i := na) hna
                      obtain ⟨rb0, -⟩ := reg_at HS6.out.tl.tl.hd (i := nb) hnb
                      subst ho
                      obtain ⟨hgt, hmd⟩ := gt_3 (s := s) (o := 3) (r := nr) (a := na) (b := nb) (v := xv) rfl
                      have hstp : stepD s ⟨3, nr, na, nb, xv⟩ = ⟨s.gs ++ [⟨3, (s.r na), (s.r nb), 0⟩], upR s.r nr s.gs.length, s.cl, s.ot⟩ := by unfold stepD; rw [hgt]; rfl
                      have HSP := Lib.hid hstp
                      clear hgt hmd hstp
                      have h7 := (HS6.out.gate4 (.int .i64 3) (.int .i64 (s.r na)) (.int .i64 (s.r nb)) (.int .i64 0)).dr
                      have H7 := Lib.hid h7
                      clear h7
                      go_wp2_with fail
                      go_region
                      go_upto_region 40 with fail
                      generalize ((((wc.setCell ⟨cb + 1, 0, none⟩ (.int .i64 3)).setCell ⟨cb + 1, 1, none⟩ (.int .i64 (s.r na))).setCell ⟨cb + 1, 2, none⟩ (.int .i64 (s.r nb))).setCell ⟨cb + 1, 3, none⟩ (.int .i64 0)).drew = w7 at *
                      clear cx0 cx1 cx2 cx3 cx4 cf0 cf1 cf2 cf3 cf4 gx0 gx1 gx2 gx3 gf0 gf1 gf2 gf3 hrc hrf HS6
                      obtain ⟨jx0, jx1, jx2, jf0, jf1, jf2⟩ := bx3 H7.out.tl.tl.tl.tl.tl.hd
                      obtain ⟨lx0, lx1, lx2, lx3, lf0, lf1, lf2, lf3⟩ := bx4 H7.out.hd
                      obtain ⟨mx0, mx1, mx2, mx3, mx4, mf0, mf1, mf2, mf3, mf4⟩ := bxP H7.out.tl.hd
                      obtain ⟨nc, nf⟩ := reg_at H7.out.tl.tl.hd (i := nr) hnr
                      have h8 := (H7.out.s3.setI (regL_len _ _).symm nr s.gs.length)
                      rw [show (regL nR s.r).set nr (s.gs.length : Int) = regL nR (upR s.r nr s.gs.length) from by have := regL_set nR s.r nr s.gs.length; rwa [Int.toNat_natCast] at this] at h8
                      go_upto_region 42 with fail
                      have H8 := Lib.hid h8
                      clear h8 jx0 jx1 jx2 jf0 jf1 jf2 lx0 lx1 lx2 lx3 lf0 lf1 lf2 lf3 mx0 mx1 mx2 mx3 mx4 mf0 mf1 mf2 mf3 mf4 nc nf H7
                      generalize (w7.setCell ⟨rb, nr, none⟩ (.int .i64 s.gs.length)) = w8 at *
                      obtain ⟨jx0, jx1, jx2, jf0, jf1, jf2⟩ := bx3 H8.out.to6.hd
                      obtain ⟨lx0, lx1, lx2, lx3, lf0, lf1, lf2, lf3⟩ := bx4 H8.out.s2.hd
                      go_wp2_with (
                        at_builtin
                        go_loud (refine app_RG (E := gateE) info_gate rfl (by decide) Tryd.underlying27 (gate_one ⟨3, (s.r na), (s.r nb), 0⟩) rfl (.tmp 156) (.tmp 158) rfl rfl rfl (by simp) rfl H8.out.to7 (by omega) ?_)
                        intro g2 c2 w9 h9
                        have h9a := h9.to7
                        obtain ⟨kx0, kx1, kx2, kf0, kf1, kf2⟩ := bx3 h9a.hd
                        have H9 := Lib.hid (h9a.setB 1 (.slice (some ⟨g2, 0, none⟩) (s.gs.length + 1) c2))
                        clear h9 h9a)
                      have X1 := H9.out.under (fun h => h.under (fun h => h.under (fun h => h.tl.tl) (by simp +contextual)) (by simp +contextual)) (by simp +contextual)
                      have X2 := X1.s5.s5.s5
                      have HEND := Lib.hid X2
                      clear X1 X2 H9 H8
                      go_roundw
                      case rel => first | exact ⟨j + 1, some ⟨g2, 0, none⟩, c2, by omega, by go_num, by rw [HST.out, HSP.out]; simpa using HEND.out⟩ | ((repeat apply Exists.intro); exact ⟨⟨j + 1, some ⟨g2, 0, none⟩, c2, by omega, by go_num, by rw [HST.out, HSP.out]; simpa using HEND.out⟩, rfl⟩)
                      case measure => simp [intOf]; omega
                    by_cases ho : xo = 4
                    · obtain ⟨ha0, ha1⟩ := hb4 ho
                      obtain ⟨na, rfl⟩ := Int.eq_ofNat_of_zero_le ha0
                      have hna : na < nR := by omega
                      obtain ⟨ra0, -⟩ := reg_at HS6.out.tl.tl.hd (i := na) hna
                      subst ho
                      obtain ⟨hgt, hmd⟩ := gt_4 (s := s) (o := 4) (r := nr) (a := na) (b := xb) (v := xv) rfl
                      have hstp : stepD s ⟨4, nr, na, xb, xv⟩ = ⟨s.gs ++ [⟨4, (s.r na), 0, xv⟩], upR s.r nr s.gs.length, s.cl, s.ot⟩ := by unfold stepD; rw [hgt]; rfl
                      have HSP := Lib.hid hstp
                      clear hgt hmd hstp
                      have h7 := (HS6.out.gate4 (.int .i64 4) (.int .i64 (s.r na)) (.int .i64 0) (.int .i64 xv)).dr
                      have H7 := Lib.hid h7
                      clear h7
                      go_wp2_with fail
                      go_region
                      go_upto_region 40 with fail
                      generalize ((((wc.setCell ⟨cb + 1, 0, none⟩ (.int .i64 4)).setCell ⟨cb + 1, 1, none⟩ (.int .i64 (s.r na))).setCell ⟨cb + 1, 2, none⟩ (.int .i64 0)).setCell ⟨cb + 1, 3, none⟩ (.int .i64 xv)).drew = w7 at *
                      clear cx0 cx1 cx2 cx3 cx4 cf0 cf1 cf2 cf3 cf4 gx0 gx1 gx2 gx3 gf0 gf1 gf2 gf3 hrc hrf HS6
                      obtain ⟨jx0, jx1, jx2, jf0, jf1, jf2⟩ := bx3 H7.out.tl.tl.tl.tl.tl.hd
                      obtain ⟨lx0, lx1, lx2, lx3, lf0, lf1, lf2, lf3⟩ := bx4 H7.out.hd
                      obtain ⟨mx0, mx1, mx2, mx3, mx4, mf0, mf1, mf2, mf3, mf4⟩ := bxP H7.out.tl.hd
                      obtain ⟨nc, nf⟩ := reg_at H7.out.tl.tl.hd (i := nr) hnr
                      have h8 := (H7.out.s3.setI (regL_len _ _).symm nr s.gs.length)
                      rw [show (regL nR s.r).set nr (s.gs.length : Int) = regL nR (upR s.r nr s.gs.length) from by have := regL_set nR s.r nr s.gs.length; rwa [Int.toNat_natCast] at this] at h8
                      go_upto_region 42 with fail
                      have H8 := Lib.hid h8
                      clear h8 jx0 jx1 jx2 jf0 jf1 jf2 lx0 lx1 lx2 lx3 lf0 lf1 lf2 lf3 mx0 mx1 mx2 mx3 mx4 mf0 mf1 mf2 mf3 mf4 nc nf H7
                      generalize (w7.setCell ⟨rb, nr, none⟩ (.int .i64 s.gs.length)) = w8 at *
                      obtain ⟨jx0, jx1, jx2, jf0, jf1, jf2⟩ := bx3 H8.out.to6.hd
                      obtain ⟨lx0, lx1, lx2, lx3, lf0, lf1, lf2, lf3⟩ := bx4 H8.out.s2.hd
                      go_wp2_with (
                        at_builtin
                        go_loud (refine app_RG (E := gateE) info_gate rfl (by decide) Tryd.underlying27 (gate_one ⟨4, (s.r na), 0, xv⟩) rfl (.tmp 156) (.tmp 158) rfl rfl rfl (by simp) rfl H8.out.to7 (by omega) ?_)
                        intro g2 c2 w9 h9
                        have h9a := h9.to7
                        obtain ⟨kx0, kx1, kx2, kf0, kf1, kf2⟩ := bx3 h9a.hd
                        have H9 := Lib.hid (h9a.setB 1 (.slice (some ⟨g2, 0, none⟩) (s.gs.length + 1) c2))
                        clear h9 h9a)
                      have X1 := H9.out.under (fun h => h.under (fun h => h.under (fun h => h.tl.tl) (by simp +contextual)) (by simp +contextual)) (by simp +contextual)
                      have X2 := X1.s5.s5.s5
                      have HEND := Lib.hid X2
                      clear X1 X2 H9 H8
                      go_roundw
                      case rel => first | exact ⟨j + 1, some ⟨g2, 0, none⟩, c2, by omega, by go_num, by rw [HST.out, HSP.out]; simpa using HEND.out⟩ | ((repeat apply Exists.intro); exact ⟨⟨j + 1, some ⟨g2, 0, none⟩, c2, by omega, by go_num, by rw [HST.out, HSP.out]; simpa using HEND.out⟩, rfl⟩)
                      case measure => simp [intOf]; omega
                    by_cases ho : xo = 5
                    · obtain ⟨ha0, ha1⟩ := hb5 (Or.inl ho)
                      obtain ⟨na, rfl⟩ := Int.eq_ofNat_of_zero_le ha0
                      have hna : na < s.cl.length := by rw [HCL.out]; omega
                      obtain ⟨oc0, of0⟩ := OI_at HS6.out.tl.tl.tl.tl.hd HCL.out.symm hna
                      rw [HCL.out] at hna
                      subst ho
                      obtain ⟨hgt, hmd⟩ := gt_5 (s := s) (o := 5) (r := nr) (a := na) (b := xb) (v := xv) rfl
                      have hstp : stepD s ⟨5, nr, na, xb, xv⟩ = ⟨s.gs, upR s.r nr (s.cl.getD na 0), s.cl, s.ot⟩ := by unfold stepD; rw [hgt, if_pos (show g0.k = 0 from rfl)]; exact hmd
                      have HSP := Lib.hid hstp
                      clear hgt hmd hstp
                      generalize s.cl.getD na 0 = zz at *
                      have h7 := (HS6.out.s3.setI (regL_len _ _).symm nr zz)
                      rw [show (regL nR s.r).set nr zz = regL nR (upR s.r nr zz) from by have := regL_set nR s.r nr zz; rwa [Int.toNat_natCast] at this] at h7
                      have H7 := Lib.hid h7.dr
                      clear h7
                      go_wp2_with fail
                      go_region
                      go_upto_region 40 with fail
                      generalize (wc.setCell ⟨rb, nr, none⟩ (.int .i64 zz)).drew = w7 at *
                      clear cx0 cx1 cx2 cx3 cx4 cf0 cf1 cf2 cf3 cf4 gx0 gx1 gx2 gx3 gf0 gf1 gf2 gf3 hrc hrf oc0 of0 HS6
                      obtain ⟨lx0, lx1, lx2, lx3, lf0, lf1, lf2, lf3⟩ := bx4 H7.out.tl.hd
                      go_wp2_with fail
                      have HEND := Lib.hid (H7.out.under (fun h => h.tl.tl) (by simp +contextual))
                      clear H7
                      go_roundw
                      case rel => first | exact ⟨j + 1, ga, gc, by omega, by go_num, by rw [HST.out, HSP.out]; simpa using HEND.out⟩ | ((repeat apply Exists.intro); exact ⟨⟨j + 1, ga, gc, by omega, by go_num, by rw [HST.out, HSP.out]; simpa using HEND.out⟩, rfl⟩)
                      case measure => simp [intOf]; omega
                    by_cases ho : xo = 6
                    · obtain ⟨ha0, ha1⟩ := hb5 (Or.inr ho)
                      obtain ⟨na, rfl⟩ := Int.eq_ofNat_of_zero_le ha0
                      have hna : na < s.cl.length := by rw [HCL.out]; omega
                      obtain ⟨oc0, of0⟩ := OI_at HS6.out.tl.tl.tl.tl.hd HCL.out.symm hna
                      rw [HCL.out] at hna
                      subst ho
                      obtain ⟨hgt, hmd⟩ := gt_6 (s := s) (o := 6) (r := nr) (a := na) (b := xb) (v := xv) rfl
                      have hstp : stepD s ⟨6, nr, na, xb, xv⟩ = ⟨s.gs, s.r, s.cl.set na (s.r nr), s.ot⟩ := by unfold stepD; rw [hgt, if_pos (show g0.k = 0 from rfl)]; exact hmd
                      have HSP := Lib.hid hstp
                      clear hgt hmd hstp
                      have h7 := (HS6.out.s5.setI HCL.out.symm na (s.r nr)).dr
                      have H7 := Lib.hid h7
                      clear h7
                      go_wp2_with fail
                      go_region
                      go_upto_region 40 with fail
                      generalize (wc.setCell ⟨zb, na, none⟩ (.int .i64 (s.r nr))).drew = w7 at *
                      clear cx0 cx1 cx2 cx3 cx4 cf0 cf1 cf2 cf3 cf4 gx0 gx1 gx2 gx3 gf0 gf1 gf2 gf3 hrc hrf oc0 of0 HS6
                      obtain ⟨lx0, lx1, lx2, lx3, lf0, lf1, lf2, lf3⟩ := bx4 H7.out.tl.hd
                      go_wp2_with fail
                      have HEND := Lib.hid (H7.out.under (fun h => h.tl.tl) (by simp +contextual))
                      clear H7
                      go_roundw
                      case rel => first | exact ⟨j + 1, ga, gc, by omega, by go_num, by rw [HST.out, HSP.out]; simpa using HEND.out.s3.s3⟩ | ((repeat apply Exists.intro); exact ⟨⟨j + 1, ga, gc, by omega, by go_num, by rw [HST.out, HSP.out]; simpa using HEND.out.s3.s3⟩, rfl⟩)
                      case measure => simp [intOf]; omega
                    have ho : xo = 7 := by omega
                    obtain ⟨ha0, ha1⟩ := hb7 ho
                    obtain ⟨na, rfl⟩ := Int.eq_ofNat_of_zero_le ha0
                    have hna : na < s.ot.length := by rw [HOT.out]; omega
                    obtain ⟨cg, rfl⟩ := OI_addr HS6.out.tl.tl.tl.hd (by omega)
                    obtain ⟨oc0, of0⟩ := OI_at HS6.out.tl.tl.tl.hd HOT.out.symm hna
                    rw [HOT.out] at hna
                    subst ho
                    obtain ⟨hgt, hmd⟩ := gt_7 (s := s) (o := 7) (r := nr) (a := na) (b := xb) (v := xv) rfl
                    have hstp : stepD s ⟨7, nr, na, xb, xv⟩ = ⟨s.gs, s.r, s.cl, s.ot.set na (s.r nr)⟩ := by unfold stepD; rw [hgt, if_pos (show g0.k = 0 from rfl)]; exact hmd
                    have HSP := Lib.hid hstp
                    clear hgt hmd hstp
                    have h7 := (HS6.out.s4.setI HOT.out.symm na (s.r nr)).dr
                    have H7 := Lib.hid h7
                    clear h7
                    go_wp2_with fail
                    go_region
                    go_upto_region 40 with fail
                    generalize (wc.setCell ⟨cg, na, none⟩ (.int .i64 (s.r nr))).drew = w7 at *
                    clear cx0 cx1 cx2 cx3 cx4 cf0 cf1 cf2 cf3 cf4 gx0 gx1 gx2 gx3 gf0 gf1 gf2 gf3 hrc hrf oc0 of0 HS6
                    obtain ⟨lx0, lx1, lx2, lx3, lf0, lf1, lf2, lf3⟩ := bx4 H7.out.tl.hd
                    go_wp2_with fail
                    have HEND := Lib.hid (H7.out.under (fun h => h.tl.tl) (by simp +contextual))
                    clear H7
                    go_roundw
                    case rel => first | exact ⟨j + 1, ga, gc, by omega, by go_num, by rw [HST.out, HSP.out]; simpa using HEND.out.s2⟩ | ((repeat apply Exists.intro); exact ⟨⟨j + 1, ga, gc, by omega, by go_num, by rw [HST.out, HSP.out]; simpa using HEND.out.s2⟩, rfl⟩)
                    case measure => simp [intOf]; omega
                · have hjn : j = m := by omega
                  subst hjn
                  clear hlt
                  have hs6 := HSX.out
                  have HLN := Lib.hid (run_lenD is (s0D nO k))
                  rw [show is.take j = is from by rw [← HM.out]; exact List.take_length] at hs6
                  have HE := Lib.hid HD.out
                  generalize runD (s0D nO k) is = s at *
                  have hlcl : s.cl.length = k := by have := HLN.out.1; rw [this]; simp [s0D, upL_len]
                  have hlot : s.ot.length = nO := by have := HLN.out.2.1; rw [this]; simp [s0D]
                  have hlgs : k + 1 ≤ s.gs.length := by
                    have h1 := HLN.out.2.2.2
                    have h2 : (s0D nO k).gs.length = k + 1 := by simp [s0D]
                    omega
                  obtain ⟨gg, rfl⟩ := OR_addr hs6.s5.hd (by omega)
                  have HS7 := Lib.hid hs6
                  have HCL := Lib.hid hlcl
                  have HOT := Lib.hid hlot
                  have HGS := Lib.hid hlgs
                  clear hs6 HSX hlcl hlot hlgs
                  go_wp2_with fail
                  go_loopw [14, 15, 164] (fun _ _ i wr => ∃ q : Nat, q ≤ k ∧ i = .int .i64 q ∧ Sep wr [OI (.slice ra nR rc) (regL nR s.r), OI (.slice oa nO oc) s.ot, OI (.slice (some ⟨zb, 0, none⟩) k k) s.cl, BxA (w.heap.size + 1 + 1) #[.int .i64 I, .slice (some ⟨gg, 0, none⟩) s.gs.length gc, .slice none 0 0] 29, OR gateE (.slice (some ⟨gg, 0, none⟩) s.gs.length gc) (lnk s.gs s.cl q), BxA (w.heap.size + 1) #[.int .i64 0, .slice none 0 0, .slice none 0 0] 29, BxA w.heap.size #[.int .i64 I, .int .i64 nO, .int .i64 k, .int .i64 nR, .slice a0 j c0] 43, KeepA w]) (fun _ _ i _ => k - (intOf i).toNat)
                  case atStart => exact ⟨0, by omega, rfl, HS7.out⟩
                  case round =>
                    obtain ⟨q, hq, rfl, hs⟩ := hrel
                    have HSX := Lib.hid hs
                    clear hs HS7
                    obtain ⟨jx0, jx1, jx2, jf0, jf1, jf2⟩ := bx3 HSX.out.s4.hd
                    by_cases hlt : q < k
                    · have hql : q < s.cl.length := by rw [HCL.out]; exact hlt
                      obtain ⟨oc0, -⟩ := OI_at HSX.out.s3.hd HCL.out.symm hql
                      have hqg : q < (lnk s.gs s.cl q).length := by rw [lnk_len]; have := HGS.out; omega
                      have hlg : s.gs.length = (lnk s.gs s.cl q).length := (lnk_len _ _ _).symm
                      have hgi : (q : Int) < (s.gs.length : Int) := by have := HGS.out; omega
                      obtain ⟨gq, -, hg1, -, -⟩ := gate_cellsQ HSX.out.s5.hd hlg hqg
                      obtain ⟨-, hg2, -, -⟩ := gate_free HSX.out.s5.hd hlg q
                      have hset := (HSX.out.s5.setR (E := gateE) (i := q) (j := 1) (y := setA ((lnk s.gs s.cl q).getD q g0) (s.cl.getD q 0)) (u := .int .i64 (s.cl.getD q 0)) hlg hqg (by decide) (by
                        rw [List.getD_eq_getElem?_getD, List.getElem?_eq_getElem hqg]
                        simp [gateE, gateC, setA]))
                      rw [show (lnk s.gs s.cl q).set q (setA ((lnk s.gs s.cl q).getD q g0) (s.cl.getD q 0)) = lnk s.gs s.cl (q + 1) from rfl] at hset
                      have hset2 := hset.s5.s5.s5.s5
                      have HSET := Lib.hid hset2
                      generalize s.cl.getD q 0 = zz at *
                      clear hset hset2 hql hqg hlg
                      go_wp2_with fail
                      go_roundw
                      case rel => exact ⟨q + 1, by omega, by go_num, HSET.out⟩
                      case measure => simp [intOf]; omega
                    · have hqk : q = k := by omega
                      subst hqk
                      clear hlt
                      have hs8 := HSX.out.s4.setB 2 (.slice oa nO oc)
                      obtain ⟨kx0, kx1, kx2, kf0, kf1, kf2⟩ := bx3 hs8.hd
                      obtain ⟨lx0, lx1, lx2, lf0, lf1, lf2⟩ := bx3 hs8.to6.hd
                      have hs9 := ((hs8.to6.setB 0 (.int .i64 I)).setB 1 (.slice (some ⟨gg, 0, none⟩) s.gs.length gc)).setB 2 (.slice oa nO oc)
                      obtain ⟨mx0, mx1, mx2, mf0, mf1, mf2⟩ := bx3 hs9.hd
                      have HS9 := Lib.hid hs9
                      clear hs8 hs9
                      go_wp2_with fail
                      have hf := ((HS9.out.tl.tl.tl.drop2).s2).under (fun h => h.under Sep.tl (by simp +contextual)) (by simp +contextual)
                      refine bodyPost_ret_by (v := .agg #[.int .i64 I, .slice (some ⟨gg, 0, none⟩) s.gs.length gc, .slice oa nO oc]) ?_ rfl ⟨some ⟨gg, 0, none⟩, gc, oa, oc, ?_, ?_⟩
                      · simp [results, go_sem, *]
                      · rw [HE.out]
                        simp only [lnk_len, HOT.out]
                      · rw [HE.out]
                        simp only [lnk_len, HOT.out]
                        exact hf
end Go.Proofs.YtmofaaceadnafaaDoor

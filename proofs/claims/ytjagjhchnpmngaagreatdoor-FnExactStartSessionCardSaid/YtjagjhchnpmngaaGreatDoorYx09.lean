/-
  The graph of a leaf, in the reference. Conditions: it is a leaf.
-/
import Derived.Test.YtjagjhchnpmngaaGreatDoorYx07
import Derived.Test.YtjagjhchnpmngaaGreatDoorYx08
import Derived.Test.YtjagjhchnpmngaaGreatDoorYx06
import Derived.Test.YtjagjhchnpmngaaGreatDoorYx04
import Derived.Test.YtjagjhchnpmngaaGreatDoorYx03
namespace Go.Proofs.YtjagjhchnpmngaaGreatDoor
open Go.RowKit
set_option linter.unusedVariables false
set_option linter.unusedSimpArgs false
set_option maxRecDepth 100000

theorem frL_succ (d n : Nat) : frL d (n + 1) = frL d n ++ [((d + n : Nat) : Int)] := by simp [frL, List.range_succ]
theorem hgId_any (n : Nat) (w : World) (hn : n ≤ 12) :
    Calls Tryz.prog 60 #[.int .i64 n] w (OwnG ⟨(n : Int), [], upL n, upL n⟩ w) := by
  unfold OwnG grV
  have HS0 := Lib.hid ((((Sep.start w).boxAt w.heap.size rfl #[.int .i64 0, .slice none 0 0, .slice none 0 0, .slice none 0 0] 30).boxAt (w.heap.size + 1) (by simp) #[.int .i64 n, .slice none 0 0, .slice none 0 0, .slice none 0 0] 30).nilI.nilI)
  go_enter Tryz.func60, Tryz.ntmps60
  go_upto_region 3 with fail
  go_loopw [4] (fun s4 wr => ∃ (k : Nat) (vi vo : Value), k ≤ n ∧ s4 = .int .i64 k ∧ Sep wr [OI vi (upL k), OI vo (upL k), BxA (w.heap.size + 1) #[.int .i64 n, .slice none 0 0, vi, vo] 30, BxA w.heap.size #[.int .i64 0, .slice none 0 0, .slice none 0 0, .slice none 0 0] 30, KeepA w]) (fun s4 _ => n - (intOf s4).toNat)
  case atStart => exact ⟨0, _, _, by omega, rfl, HS0.out⟩
  case round =>
    obtain ⟨k, vi, vo, hk, rfl, hs⟩ := hrel
    obtain ⟨ia, ic, rfl⟩ := own_shape (show OwnInts 0 wr vi _ from hs.hd)
    obtain ⟨oa, oc, rfl⟩ := own_shape (show OwnInts 0 wr vo _ from hs.tl.hd)
    rw [upL_len] at hs
    obtain ⟨x0, x1, x2, x3, g0, g1, g2, g3⟩ := gq4 hs.tl.tl.hd
    have HSX := Lib.hid hs
    clear hs HS0
    try rw [upL_len]
    by_cases hlt : k < n
    · have hki : (k : Int) < (n : Int) := by omega
      have hwr : IntKind.i64.wrap ((k : Int) + 1) = (k : Int) + 1 := wrap_id (by omega) (by omega)
      go_wp2_with (first
        | (at_builtin
           refine app_intS rfl _ _ rfl rfl rfl HSX.out (by rw [upL_len]; omega) ?_
           intro g c w5 h5
           rw [upL_len] at h5
           try rw [upL_len]
           rw [← upL_succ] at h5
           obtain ⟨_, _, _, _, _, _, z2, z3⟩ := gq4 h5.tl.tl.hd
           have h6 := (Sep.blk (A := [_, _]) (B := [_]) h5).setB 2 (.slice (some ⟨g, 0, none⟩) (k + 1) c)
           obtain ⟨y0, y1, y2, y3, f0, f1, f2, f3⟩ := gq4 h6.hd
           have HS2 := Lib.hid (Sep.blk (A := [_, _]) (B := [_]) h6)
           clear h5 h6 x0 x1 x2 x3 g0 g1 g2 g3)
        | (at_builtin
           refine app_intS rfl _ _ rfl rfl (by first | rfl | (go_simp; done) | (simp; done)) HS2.out (by rw [upL_len]; omega) ?_
           intro gg cc w7 h7
           rw [upL_len] at h7
           try rw [upL_len]
           rw [← upL_succ] at h7
           obtain ⟨_, _, _, _, _, _, _, zz3⟩ := gq4 h7.tl.hd
           have h8 := (Sep.blk (A := [_]) (B := [_]) h7).setB 3 (.slice (some ⟨gg, 0, none⟩) (k + 1) cc)
           have HS9 := Lib.hid (Sep.blk3 (X := [_]) (A := [_]) (B := [_]) (Sep.blk (A := [_, _]) (B := [_]) h8))
           clear h7 h8 y0 y1 y2 y3 f0 f1 f2 f3 z2 z3))
      go_roundw
      case rel => exact ⟨k + 1, _, _, by omega, by go_num, HS9.out⟩
      case measure => simp [intOf]; omega
    · have hkn : k = n := by omega
      subst hkn
      have hkk : ¬ (k : Int) < (k : Int) := by omega
      clear hlt
      have hz := Sep.blk (A := [_, _, _]) (B := [_]) HSX.out
      obtain ⟨y0, y1, y2, y3, f0, f1, f2, f3⟩ := gq4 hz.hd
      have hz2 := (((hz.setB 0 (.int .i64 k)).setB 1 (.slice none 0 0)).setB 2 (.slice ia k ic)).setB 3 (.slice oa k oc)
      obtain ⟨l0, l1, l2, l3, _⟩ := gq4 hz2.hd
      have HSF := Lib.hid (Sep.bag (l := [OR edgeE nilS []]) (Sep.nilR edgeE (Sep.cutA (X := [_, _]) (A := [_]) hz2.tl)))
      clear hz hz2
      go_wp2_with fail
      refine bodyPost_ret_by (v := .agg #[.int .i64 k, .slice none 0 0, .slice ia k ic, .slice oa k oc]) ?_ rfl ⟨_, [], _, _, rfl, rfl, HSF.out⟩
      simp [results, go_sem, *]
theorem hgLeaf_one (n : Nat) (s : ByteArray) (w : World) (hn : n ≤ 12) : Calls Tryz.prog 37 #[.agg #[.int .i64 1, .int .i64 n, .string s]] w (OwnG ⟨(n : Int), [], upL n, upL n⟩ w) := by
  have HC := Lib.hid fun W => hgId_any n W hn
  unfold OwnG grV at *
  obtain ⟨v, hv⟩ : ∃ v : Int, v = (n : Int) := ⟨_, rfl⟩
  have hs0 := ((Sep.start w).boxAt w.heap.size rfl #[.int .i64 1, .int .i64 n, .string s] 66).boxAt (w.heap.size + 1) (by simp) #[.int .i64 0, .slice none 0 0, .slice none 0 0, .slice none 0 0] 30
  have HS0 := Lib.hid hs0
  obtain ⟨x0, x1, x2⟩ := bw3 hs0.tl.hd
  clear hs0
  clear hv
  go_enter Tryz.func37, Tryz.ntmps37
  go_wp2_with (
    go_at_call 60
    with_reducible refine (HC.out _).mono ?_
    rintro e w3 ⟨u0, xs, u1, u2, rfl, hx, hsg⟩
    obtain ⟨t0, v0, rfl⟩ := OE.shape hsg.hd
    obtain ⟨t1, v1, rfl⟩ := own_shape (show OwnInts 0 w3 u1 (upL n) from hsg.tl.hd)
    obtain ⟨t2, v2, rfl⟩ := own_shape (show OwnInts 0 w3 u2 (upL n) from hsg.tl.tl.hd)
    obtain ⟨q0, hq0⟩ : ∃ q, xs.length = q := ⟨_, rfl⟩
    obtain ⟨q1, hq1⟩ : ∃ q, (upL n).length = q := ⟨_, rfl⟩
    rw [hq0, hq1] at hsg
    rw [hq0, hq1]
    have hs1 := Sep.blk (A := [_, _, _]) (B := [_]) (HS0.out.graft3 hsg OE_own OI_own OI_own)
    obtain ⟨k0, k1, k2, k3, k4, k5, k6, k7⟩ := gq4 hs1.hd
    have hs2 := (((hs1.setB 0 (.int .i64 n)).setB 1 (.slice t0 q0 v0)).setB 2 (.slice t1 q1 v1)).setB 3 (.slice t2 q1 v2)
    obtain ⟨l0, l1, l2, l3, _⟩ := gq4 hs2.hd
    have HSF := Lib.hid (Sep.cutA (X := [_, _, _]) (A := [_]) hs2.tl)
    have HXF := Lib.hid hx
    clear hsg hs1 hs2 hx hq0 hq1 x0 x1 x2)
  refine bodyPost_ret_by (v := .agg #[.int .i64 n, .slice t0 q0 v0, .slice t1 q1 v1, .slice t2 q1 v2]) ?_ rfl ⟨_, xs, _, _, rfl, HXF.out, HSF.out⟩
  simp [results, go_sem, *]
set_option maxHeartbeats 2000000 in
theorem hgLeaf_two (v : Int) (s : ByteArray) (w : World) : Calls Tryz.prog 37 #[.agg #[.int .i64 2, .int .i64 v, .string s]] w (OwnG ⟨2, [], [0, 1], [1, 0]⟩ w) := by
  unfold OwnG grV
  have hs0 := ((Sep.start w).boxAt w.heap.size rfl #[.int .i64 2, .int .i64 v, .string s] 66).boxAt (w.heap.size + 1) (by simp) #[.int .i64 0, .slice none 0 0, .slice none 0 0, .slice none 0 0] 30
  have HS0 := Lib.hid hs0
  obtain ⟨x0, x1, x2⟩ := bw3 hs0.tl.hd
  clear hs0
  have hs1 := ((((Sep.start w).boxAt w.heap.size rfl #[.int .i64 2, .int .i64 v, .string s] 66).boxAt (w.heap.size + 1) (by simp) #[.int .i64 2, .slice none 0 0, .slice (some ⟨w.heap.size + 1 + 1, 0, none⟩) 2 2, .slice (some ⟨w.heap.size + 1 + 1 + 1, 0, none⟩) 2 2] 30).twoIT 0 1 (w.heap.size + 1 + 1) (by simp)).twoIT 1 0 (w.heap.size + 1 + 1 + 1) (by simp)
  obtain ⟨l0, l1, l2, l3, _⟩ := gq4 hs1.tl.tl.hd
  have HSF := Lib.hid (Sep.bag (l := [OR edgeE nilS []]) (Sep.nilR edgeE (Sep.cutA (X := [_, _]) (A := [_, _]) hs1).s2))
  clear hs1
  go_enter Tryz.func37, Tryz.ntmps37
  go_wp2_with fail
  refine bodyPost_ret_by (v := .agg #[.int .i64 2, .slice none 0 0, .slice (some ⟨w.heap.size + 1 + 1, 0, none⟩) 2 2, .slice (some ⟨w.heap.size + 1 + 1 + 1, 0, none⟩) 2 2]) ?_ rfl ⟨_, [], _, _, rfl, rfl, HSF.out⟩
  simp [results, go_sem, *]
end Go.Proofs.YtjagjhchnpmngaaGreatDoor

/-
  The graph of a leaf, in the reference (2). Conditions: it is a leaf.
-/
namespace Go.Proofs.YtjagjhchnpmngaaGreatDoor
open Go.RowKit
set_option linter.unusedVariables false
set_option linter.unusedSimpArgs false
set_option maxRecDepth 100000

set_option maxHeartbeats 2000000 in
theorem hgLeaf_gen (k v : Int) (s : ByteArray) (w : World) (hk : inB k 3 14 = true) : Calls Tryz.prog 37 #[.agg #[.int .i64 k, .int .i64 v, .string s]] w (OwnG (genG k v (edW k).1 (edW k).2) w) := by
  have HG := Lib.hid fun W => tmKind_any k W hk
  have hsm := edW_small k
  rw [inB_iff] at hk
  have h1 : (k == 1) = false := by simp; omega
  have h2 : (k == 2) = false := by simp; omega
  obtain ⟨a, ha⟩ : ∃ a : Nat, (edW k).1 = a := ⟨_, rfl⟩
  obtain ⟨b, hb⟩ : ∃ b : Nat, (edW k).2 = b := ⟨_, rfl⟩
  rw [ha, hb] at HG hsm ⊢
  have hwr : IntKind.i64.wrap ((a : Int) + (b : Int)) = (a : Int) + (b : Int) := wrap_id (by omega) (by omega)
  have HSM := Lib.hid hsm
  unfold OwnG grV
  clear ha hb hk hsm
  have hs0 := ((Sep.start w).boxAt w.heap.size rfl #[.int .i64 k, .int .i64 v, .string s] 66).boxAt (w.heap.size + 1) (by simp) #[.int .i64 0, .slice none 0 0, .slice none 0 0, .slice none 0 0] 30
  obtain ⟨x0, x1, x2⟩ := bw3 hs0.tl.hd
  have hs1 := hs0.boxAt (w.heap.size + 1 + 1) (by simp) #[.int .i64 ((a : Int) + b), .slice none 0 0, .slice none 0 0, .slice none 0 0] 30
  obtain ⟨y0, y1, y2⟩ := bw3 hs1.tl.tl.hd
  have HS0 := Lib.hid ((hs1.boxAt (w.heap.size + 1 + 1 + 1) (by simp) #[.int .i64 k, .int .i64 v, .slice none 0 0, .slice none 0 0] 88).s2.nilI.nilI.nilI.nilI)
  clear hs0 hs1
  go_enter Tryz.func37, Tryz.ntmps37
  go_upto_region 10 with (
    go_at_call 61
    with_reducible refine (HG.out _).mono ?_
    rintro e w3 ⟨rfl, rfl⟩)
  clear x0 x1 x2 y0 y1 y2
  go_loopw [7] (fun s7 wr => ∃ (x y : Nat) (vi vo ei eo : Value), x ≤ a ∧ y ≤ b ∧ (y = 0 ∨ x = a) ∧ s7 = .int .i64 ((x + y : Nat) : Int) ∧ Sep wr [OI vi (upL x), OI ei (upL x), OI vo (frL a y), OI eo (frL a y), BxA (w.heap.size + 1 + 1) #[.int .i64 ((a : Int) + b), .slice none 0 0, vi, vo] 30, BxA (w.heap.size + 1 + 1 + 1) #[.int .i64 k, .int .i64 v, ei, eo] 88, BxA (w.heap.size + 1) #[.int .i64 0, .slice none 0 0, .slice none 0 0, .slice none 0 0] 30, BxA w.heap.size #[.int .i64 k, .int .i64 v, .string s] 66, KeepA w]) (fun s7 _ => a + b - (intOf s7).toNat)
  case atStart => exact ⟨0, 0, _, _, _, _, by omega, by omega, Or.inl rfl, rfl, HS0.out⟩
  case round =>
    obtain ⟨x, y, vi, vo, ei, eo, hx, hy, hor, rfl, hs⟩ := hrel
    obtain ⟨ia, ic, rfl⟩ := own_shape (show OwnInts 0 wr vi _ from hs.hd)
    obtain ⟨ja, jc, rfl⟩ := own_shape (show OwnInts 0 wr ei _ from hs.tl.hd)
    obtain ⟨oa, oc, rfl⟩ := own_shape (show OwnInts 0 wr vo _ from hs.tl.tl.hd)
    obtain ⟨pa, pc, rfl⟩ := own_shape (show OwnInts 0 wr eo _ from hs.tl.tl.tl.hd)
    rw [upL_len, frL_len] at hs
    try rw [upL_len]
    try rw [frL_len]
    have HSX := Lib.hid hs
    clear hs HS0
    obtain ⟨j, hj⟩ : ∃ j, x + y = j := ⟨_, rfl⟩
    rw [hj]
    have hsm := HSM.out
    by_cases hlt : j < a
    · obtain ⟨rfl, hxj⟩ : y = 0 ∧ j = x := by omega
      obtain rfl := hxj
      have hja : (j : Int) < (a : Int) := by omega
      have hji : (j : Int) < (a : Int) + (b : Int) := by omega
      have hwj : IntKind.i64.wrap ((j : Int) + 1) = (j : Int) + 1 := wrap_id (by omega) (by omega)
      clear hor hsm hj
      have HSY := Lib.hid (HSX.out)
      obtain ⟨x0, x1, x2, x3, _, _, f2, f3⟩ := gq4 HSX.out.tl.tl.tl.tl.hd
      obtain ⟨e0, e1, e2, e3, _, _, _, _⟩ := gq4 HSX.out.tl.tl.tl.tl.tl.hd
      go_wp2_with (first
        | (at_builtin
           refine app_intS rfl _ _ rfl rfl rfl HSY.out (by rw [upL_len]; have := HSM.out; omega) ?_
           intro g c w5 h5
           rw [upL_len] at h5
           try rw [upL_len]
           rw [← upL_succ] at h5
           have h6 := Sep.blk (A := [_, _, _, _]) (B := [_]) h5
           obtain ⟨_, _, _, _, _, _, z2, z3⟩ := gq4 h6.hd
           have h7 := h6.setB 2 (.slice (some ⟨g, 0, none⟩) (j + 1) c)
           obtain ⟨n0, n1, n2, n3, _, _, m2, m3⟩ := gq4 h7.tl.tl.tl.tl.tl.hd
           have HS2 := Lib.hid (Sep.blk (A := [_, _]) (B := [_]) h7)
           clear h5 h6 h7 x0 x1 x2 x3 f2 f3 e0 e1 e2 e3)
        | (at_builtin
           refine app_intS rfl _ _ rfl rfl (by first | rfl | (go_simp; done) | (simp; done)) HS2.out (by rw [upL_len]; have := HSM.out; omega) ?_
           intro gg cc w7 h7
           rw [upL_len] at h7
           try rw [upL_len]
           rw [← upL_succ] at h7
           have h8 := Sep.blk (A := [_, _, _, _, _]) (B := [_]) h7
           obtain ⟨_, _, _, _, _, _, q2, q3⟩ := gq4 h8.hd
           have h9 := h8.setB 2 (.slice (some ⟨gg, 0, none⟩) (j + 1) cc)
           have hA := Sep.blk3 (X := [_, _]) (A := [_, _]) (B := [_, _]) (Sep.blk3 (X := [_, _]) (A := [_]) (B := [_]) (Sep.blk3 (X := [_]) (A := [_]) (B := [_]) (Sep.blk (A := [_, _, _]) (B := [_]) h9)))
           have HS9 := Lib.hid (hA)
           clear h7 h8 h9 hA z2 z3 m2 m3 n0 n1 n2 n3))
      go_roundw
      case rel => exact ⟨j + 1, 0, _, _, _, _, by omega, by omega, Or.inl rfl, by go_num, HS9.out⟩
      case measure => simp [intOf]; omega
    · by_cases hl2 : j < a + b
      · obtain rfl : x = a := by omega
        have hja : ¬ (j : Int) < (x : Int) := by omega
        have HXJ := Lib.hid (show (j : Int) = ((x + y : Nat) : Int) from by omega)
        have hji : (j : Int) < (x : Int) + (b : Int) := by omega
        have hwj : IntKind.i64.wrap ((j : Int) + 1) = (j : Int) + 1 := wrap_id (by omega) (by omega)
        clear hor hsm
        have HSY := Lib.hid (Sep.blk (A := [_, _]) (B := [_, _]) HSX.out)
        obtain ⟨x0, x1, x2, x3, _, _, f2, f3⟩ := gq4 HSX.out.tl.tl.tl.tl.hd
        obtain ⟨e0, e1, e2, e3, _, _, _, _⟩ := gq4 HSX.out.tl.tl.tl.tl.tl.hd
        go_wp2_with (first
          | (at_builtin
             refine app_intS rfl _ _ rfl rfl rfl HSY.out (by rw [frL_len]; have := HSM.out; omega) ?_
             intro g c w5 h5
             rw [frL_len] at h5
             try rw [frL_len]
             rw [HXJ.out, ← frL_succ] at h5
             have h6 := Sep.blk (A := [_, _, _, _]) (B := [_]) h5
             obtain ⟨_, _, _, _, _, _, z2, z3⟩ := gq4 h6.hd
             have h7 := h6.setB 3 (.slice (some ⟨g, 0, none⟩) (y + 1) c)
             obtain ⟨n0, n1, n2, n3, _, _, m2, m3⟩ := gq4 h7.tl.tl.tl.tl.tl.hd
             have HS2 := Lib.hid (Sep.blk (A := [_, _]) (B := [_]) h7)
             clear h5 h6 h7 x0 x1 x2 x3 f2 f3 e0 e1 e2 e3)
          | (at_builtin
             refine app_intS rfl _ _ rfl rfl (by first | rfl | (go_simp; done) | (simp; done)) HS2.out (by rw [frL_len]; have := HSM.out; omega) ?_
             intro gg cc w7 h7
             rw [frL_len] at h7
             try rw [frL_len]
             rw [HXJ.out, ← frL_succ] at h7
             have h8 := Sep.blk (A := [_, _, _, _, _]) (B := [_]) h7
             obtain ⟨_, _, _, _, _, _, q2, q3⟩ := gq4 h8.hd
             have h9 := h8.setB 3 (.slice (some ⟨gg, 0, none⟩) (y + 1) cc)
             have hA := Sep.blk3 (X := [_, _]) (A := [_, _]) (B := [_, _]) (Sep.blk3 (X := [_, _]) (A := [_]) (B := [_]) (Sep.blk3 (X := [_]) (A := [_]) (B := [_]) (Sep.blk (A := [_, _, _]) (B := [_]) h9)))
             have HS9 := Lib.hid (Sep.blk (A := [_, _]) (B := [_, _]) hA)
             clear h7 h8 h9 hA z2 z3 m2 m3 n0 n1 n2 n3))
        go_roundw
        case rel => exact ⟨x, y + 1, _, _, _, _, by omega, by omega, Or.inr rfl, by go_num, HS9.out⟩
        case measure => simp [intOf]; omega
      · obtain ⟨rfl, rfl⟩ : x = a ∧ y = b := by omega
        have hjj : ¬ (j : Int) < (x : Int) + (y : Int) := by omega
        have h0 := Sep.blk (A := [_, _, _, _, _]) (B := [_]) HSX.out
        obtain ⟨e0, e1, e2, e3, _⟩ := gq4 h0.hd
        have hA : Sep (wr.alloc (.cells #[.int .i64 k, .int .i64 v, .slice ja x jc, .slice pa y pc] 88)) _ := h0.oneRT (E := edgeE) (y := ⟨⟨k, v, upL x, frL x y⟩, .slice ja x jc, .slice pa y pc⟩) (cs := #[.int .i64 k, .int .i64 v, .slice ja x jc, .slice pa y pc]) rfl wr.heap.size rfl
        have hB := Sep.blk (A := [_, _, _, _, _, _]) (B := [_]) hA
        obtain ⟨_, _, _, _, _, f1, _⟩ := gq4 hB.hd
        have hC := hB.setB 1 (.slice (some ⟨wr.heap.size, 0, none⟩) 1 1)
        obtain ⟨n0, n1, n2, n3, _⟩ := gq4 hC.hd
        have hD := Sep.blk (A := [_, _, _, _, _, _, _]) (B := [_]) hC
        obtain ⟨_, _, _, _, k0, k1, k2, k3⟩ := gq4 hD.hd
        have hE := (((hD.setB 0 (.int .i64 ((x : Int) + y))).setB 1 (.slice (some ⟨wr.heap.size, 0, none⟩) 1 1)).setB 2 (.slice ia x ic)).setB 3 (.slice oa y oc)
        obtain ⟨l0, l1, l2, l3, _⟩ := gq4 hE.hd
        have hF := Sep.cutA (X := [_, _, _, _, _]) (A := [_]) (Sep.cutA (X := [_]) (A := [_]) (Sep.cutA (X := []) (A := [_, _]) hE))
        have HSF := Lib.hid (Sep.bag (l := [_, _, _]) (Sep.blk3 (X := [_, _]) (A := [_, _]) (B := [_]) (Sep.blk3 (X := [_]) (A := [_]) (B := [_]) hF)))
        clear h0 hA hB hC hD hE hF
        clear hx hy hor hsm
        go_wp2_with fail
        refine bodyPost_ret_by (v := .agg #[.int .i64 ((x : Int) + y), .slice (some ⟨wr.heap.size, 0, none⟩) 1 1, .slice ia x ic, .slice oa y oc]) ?_ rfl ⟨.slice (some ⟨wr.heap.size, 0, none⟩) 1 1, [⟨⟨k, v, upL x, frL x y⟩, .slice ja x jc, .slice pa y pc⟩], .slice ia x ic, .slice oa y oc, by show _ = Ending.returned (.agg #[.int .i64 ((x + y : Nat) : Int), _, _, _]); rw [show ((x + y : Nat) : Int) = (x : Int) + y from by omega], rfl, HSF.out⟩
        simp [results, go_sem, *]
theorem hgLeaf_any (n : Nd) (w : World) (h : lfB n = true) : Calls Tryz.prog 37 #[.agg #[.int .i64 n.k, .int .i64 n.v, .string n.s]] w (OwnG (leafG n) w) := by
  have hb := h
  unfold lfB lfV at hb
  rw [Bool.and_eq_true] at hb
  have h2 := hb.2
  unfold leafG
  by_cases h1 : n.k = 1
  · rw [if_pos h1] at h2 ⊢
    have h3 := of_decide_eq_true h2
    obtain ⟨x, hx⟩ : ∃ x : Nat, n.v = (x : Int) := ⟨n.v.toNat, by omega⟩
    rw [h1, hx]
    exact hgLeaf_one x n.s w (by omega)
  · rw [if_neg h1] at h2 ⊢
    by_cases h4 : n.k = 2
    · rw [if_pos h4, h4]
      exact hgLeaf_two n.v n.s w
    · rw [if_neg h4, Bool.and_eq_true] at h2
      rw [if_neg h4]
      exact hgLeaf_gen n.k n.v n.s w h2.1
end Go.Proofs.YtjagjhchnpmngaaGreatDoor

/-
  Two graphs beside each other, in the reference. Conditions: both are valid.
-/
namespace Go.Proofs.YtjagjhchnpmngaaGreatDoor
open Go.RowKit
set_option linter.unusedVariables false
set_option linter.unusedSimpArgs false
set_option maxRecDepth 100000

section
variable {o : Oper} {a : Act} {w : World} {v u : Value} {xs ys : List XE} {l : List Asrt} {ops : Array Oper} {Q : Exit → Act → World → Prop} {rest : List Oper}
/-- A list of edges behind another one; both of the call's own. -/
theorem app_OE (hgd : o.guard = none) (s x : Operand) (ho : o.op = .call { callee := .builtin .append, args := #[s, x], argTypes := #[27, 27] })
    (hs : a.eval s = v) (hx : a.eval x = u) (H : Sep w (OE v xs :: OE u ys :: l)) (hl : xs.length + ys.length ≤ 10000000)
    (h : ∀ g q c w', (xs ++ ys).length = q → Sep w' (OE (.slice g q c) (xs ++ ys) :: l) → wpList Tryz.prog ops Q rest (a.put o.dst (.slice g q c)) w') : wpList Tryz.prog ops Q (o :: rest) a w := by
  have hE : Sep w (OR edgeE v xs :: (rowsE xs ++ (OE u ys :: l))) := Sep.unbag (l := OR edgeE v xs :: rowsE xs) H
  have hY : Sep w (OR edgeE u ys :: (rowsE ys ++ l)) := Sep.unbag (l := OR edgeE u ys :: rowsE ys) H.tl
  refine app_RsG (E := edgeE) info_edge rfl (by decide) Tryz.underlying27 (edge_oneT (w := w) (ys := ys) (fun A hA => Sep.all hY.tl A (List.mem_append_left _ hA))) hgd s x ho hs hx hE (OwnR.read hY.hd) hl ?_
  intro v' w' h'
  have k1 : Sep w' ([OE u ys] ++ ((OR edgeE v' (xs ++ ys) :: rowsE xs) ++ l)) := Sep.blk (A := OR edgeE v' (xs ++ ys) :: rowsE xs) (B := [OE u ys]) h'
  have k3 : Sep w' ((OR edgeE u ys :: rowsE ys) ++ ((OR edgeE v' (xs ++ ys) :: rowsE xs) ++ l)) := Sep.unbag (l := OR edgeE u ys :: rowsE ys) k1
  have k4 : Sep w' (rowsE ys ++ ((OR edgeE v' (xs ++ ys) :: rowsE xs) ++ l)) := k3.tl
  have k5 := Sep.joinE (Sep.blk (A := rowsE ys) (B := OR edgeE v' (xs ++ ys) :: rowsE xs) (r := l) k4)
  obtain ⟨ga, gc, rfl⟩ := OE.shape k5.hd
  exact h ga _ gc w' rfl k5
end
/-- Some of the numbers have been laid. -/
theorem fr_set {d n k : Nat} (h : k < n) : (frL d k ++ List.replicate (n - k) (0 : Int)).set k ((k : Int) + d) = frL d (k + 1) ++ List.replicate (n - (k + 1)) 0 := by
  rw [List.set_append_right _ _ (by rw [frL_len]; omega), frL_len, Nat.sub_self, show n - k = (n - (k + 1)) + 1 by omega, List.replicate_succ, List.set_cons_zero, frL_succ]
  rw [show ((d + k : Nat) : Int) = (k : Int) + d from by omega]
  simp
set_option maxHeartbeats 4000000 in
theorem hgBeside_any (a b : Gr) (ev iv ov ev' iv' ov' : Value) (w : World) (he : RdE edgeE w ev a.es) (hi : IntsV w iv a.i) (ho : IntsV w ov a.o) (he' : RdE edgeE w ev' b.es) (hi' : IntsV w iv' b.i) (ho' : IntsV w ov' b.o) (hga : grB a = true) (hgb : grB b = true) :
    Calls Tryz.prog 64 #[grV a.n ev iv ov, grV b.n ev' iv' ov'] w (OwnG (parG a b) w) := by
  obtain ⟨n, hn, hn1, a1, a2, a3, a4, a5, _⟩ := grB_n hga
  obtain ⟨m, hm, hm1, b1, b2, b3, b4, b5, _⟩ := grB_n hgb
  have hrb := gr_rng hgb hm
  have hsh : shL a b = frL n m := by unfold shL; rw [hn, hm]; rfl
  have HOW := Lib.hid fun W (hW : w.grownBy W none) => hgOwn_any ev iv ov a W (he.carry hW) (hi.carry hW) (ho.carry hW) hga
  have HMP := Lib.hid fun tv W (hW : w.grownBy W none) (ht : IntsV W tv (frL n m)) => hgMap_any ev' iv' ov' tv b b.n (frL n m) W (he'.carry hW) (hi'.carry hW) (ho'.carry hW) ht (by omega) (by omega) (by omega) (fun e h => by have := b5 e h; omega) (by rw [frL_len]; exact hrb)
  obtain ⟨i0, hbi, hz0, hz1, hz2⟩ := info_parts info_int
  have HBI := Lib.hid hbi; have HZ0 := Lib.hid hz0; have HZ1 := Lib.hid hz1; have HZ2 := Lib.hid hz2
  clear hbi hz0 hz1 hz2
  obtain ⟨K, hK⟩ : ∃ K, parG a b = K := ⟨_, rfl⟩
  rw [hK]
  have HKN := Lib.hid (show K.n = (n : Int) + m from by rw [← hK]; show a.n + b.n = _; rw [hn, hm])
  have HKE := Lib.hid (show K.es = a.es ++ b.es.map (mapE (frL n m)) from by rw [← hK, ← hsh]; rfl)
  have HKI := Lib.hid (show K.i = a.i ++ b.i.map (ofL (frL n m)) from by rw [← hK, ← hsh]; rfl)
  have HKO := Lib.hid (show K.o = a.o ++ b.o.map (ofL (frL n m)) from by rw [← hK, ← hsh]; rfl)
  have HLL := Lib.hid (show a.es.length ≤ 1000 ∧ (b.es.map (mapE (frL n m))).length ≤ 1000 ∧ (a.i.length ≤ 1000 ∧ (b.i.map (ofL (frL n m))).length ≤ 1000) ∧ a.o.length ≤ 1000 ∧ (b.o.map (ofL (frL n m))).length ≤ 1000 from by simp only [List.length_map]; omega)
  generalize b.es.map (mapE (frL n m)) = be at *
  generalize b.i.map (ofL (frL n m)) = bi at *
  generalize b.o.map (ofL (frL n m)) = bo at *
  unfold OwnG grV at *
  rw [hn] at HOW
  rw [hm] at HMP
  rw [hn, hm]
  obtain ⟨ea, ec, rfl⟩ := he.shape
  obtain ⟨ia, ic, rfl⟩ := hi.shape
  obtain ⟨oa, oc, rfl⟩ := ho.shape
  obtain ⟨eb, fc, rfl⟩ := he'.shape
  obtain ⟨ib, gc, rfl⟩ := hi'.shape
  obtain ⟨ob, hc, rfl⟩ := ho'.shape
  obtain ⟨ne, hne⟩ : ∃ x, a.es.length = x := ⟨_, rfl⟩
  obtain ⟨ni, hni⟩ : ∃ x, a.i.length = x := ⟨_, rfl⟩
  obtain ⟨no, hno⟩ : ∃ x, a.o.length = x := ⟨_, rfl⟩
  obtain ⟨me, hme⟩ : ∃ x, b.es.length = x := ⟨_, rfl⟩
  obtain ⟨mi, hmi⟩ : ∃ x, b.i.length = x := ⟨_, rfl⟩
  obtain ⟨mo, hmo⟩ : ∃ x, b.o.length = x := ⟨_, rfl⟩
  rw [hne, hni, hno] at HOW
  rw [hme, hmi, hmo] at HMP
  rw [hne, hni, hno, hme, hmi, hmo]
  have HNM := Lib.hid (show n ≤ 100 ∧ m ≤ 100 from ⟨by omega, by omega⟩)
  clear he hi ho he' hi' ho' hga hgb hrb hsh hK a1 a2 a3 a4 a5 b1 b2 b3 b4 b5 hn hm hn1 hm1 hne hni hno hme hmi hmo
  have hs0 := (((Sep.start w).boxAt w.heap.size rfl #[.int .i64 n, .slice ea ne ec, .slice ia ni ic, .slice oa no oc] 30).boxAt (w.heap.size + 1) (by simp) #[.int .i64 m, .slice eb me fc, .slice ib mi gc, .slice ob mo hc] 30).boxAt (w.heap.size + 2) (by simp) #[.int .i64 0, .slice none 0 0, .slice none 0 0, .slice none 0 0] 30
  have HS0 := Lib.hid hs0
  obtain ⟨y0, y1, y2, y3, _⟩ := gq4 hs0.tl.hd
  clear hs0
  have hnm := HNM.out
  go_enter Tryz.func64, Tryz.ntmps64
  go_upto_region 3 with (
    at_make
    refine wpList_make_full _ rfl _ _ 28 rfl _ 3 i0 (.int .i64 0) 1 Tryz.underlying28 HBI.out HZ0.out HZ1.out _ _ _ _ m rfl rfl rfl rfl (by rw [HZ2.out]; omega) (by unfold maxLen; omega) (Nat.le_refl _) ?_
    intro w1 hown' hgr'
    have hs1 := HS0.out.newI (zs := List.replicate m 0) hgr' (by rw [madeCells_int] at hown'; unfold OwnInts; rw [List.length_replicate]; exact hown')
    rw [show (((w.alloc (.cells #[.int .i64 n, .slice ea ne ec, .slice ia ni ic, .slice oa no oc] 30)).alloc (.cells #[.int .i64 m, .slice eb me fc, .slice ib mi gc, .slice ob mo hc] 30)).alloc (.cells #[.int .i64 0, .slice none 0 0, .slice none 0 0, .slice none 0 0] 30)).heap.size = w.heap.size + 3 by simp] at hs1
    try rw [show (((w.alloc (.cells #[.int .i64 n, .slice ea ne ec, .slice ia ni ic, .slice oa no oc] 30)).alloc (.cells #[.int .i64 m, .slice eb me fc, .slice ib mi gc, .slice ob mo hc] 30)).alloc (.cells #[.int .i64 0, .slice none 0 0, .slice none 0 0, .slice none 0 0] 30)).heap.size = w.heap.size + 3 by simp]
    have HS1 := Lib.hid hs1
    clear hs1 hown' hgr' y0 y1 y2 y3)
  go_loopw [6, 14] (fun _ s14 wr => ∃ k : Nat, k ≤ m ∧ s14 = .int .i64 k ∧ Sep wr [OI (.slice (some ⟨w.heap.size + 3, 0, none⟩) m m) (frL n k ++ List.replicate (m - k) 0), BxA (w.heap.size + 2) #[.int .i64 0, .slice none 0 0, .slice none 0 0, .slice none 0 0] 30, BxA (w.heap.size + 1) #[.int .i64 m, .slice eb me fc, .slice ib mi gc, .slice ob mo hc] 30, BxA w.heap.size #[.int .i64 n, .slice ea ne ec, .slice ia ni ic, .slice oa no oc] 30, KeepA w]) (fun _ s14 _ => m - (intOf s14).toNat)
  case atStart => exact ⟨0, by omega, rfl, by simpa [frL] using HS1.out⟩
  case round =>
    obtain ⟨k, hk, rfl, hs⟩ := hrel
    have HSX := Lib.hid hs
    clear hs HS0
    by_cases hlt : k < m
    · have hll : m = (frL n k ++ List.replicate (m - k) (0 : Int)).length := by rw [List.length_append, frL_len, List.length_replicate]; omega
      have hf := HSX.out.hd.free hll k
      obtain ⟨q, hc0⟩ := HSX.out.hd.cellQ hll (j := k) hlt
      have hset := HSX.out.setI hll k ((k : Int) + n)
      rw [fr_set hlt] at hset
      have HSET := Lib.hid hset
      obtain ⟨x0, _⟩ := gq4 HSX.out.tl.tl.tl.hd
      have hki : (k : Int) < (m : Int) := by omega
      have hwr : IntKind.i64.wrap ((k : Int) + (n : Int)) = (k : Int) + (n : Int) := wrap_id (by omega) (by omega)
      clear hll hset
      go_wp2_with fail
      go_roundw
      case rel => exact ⟨k + 1, by omega, by go_num, HSET.out⟩
      case measure => simp [intOf]; omega
    · have hkn : k = m := by omega
      subst hkn
      have hkk : ¬ (k : Int) < (k : Int) := by omega
      have hs := HSX.out
      rw [Nat.sub_self, List.replicate_zero, List.append_nil] at hs
      have HS2 := Lib.hid hs
      obtain ⟨x0, x1, x2, x3, _⟩ := gq4 hs.tl.tl.tl.hd
      have HC := Lib.hid (HOW.out wr (show w.grownBy _ none from Sep.all hs (KeepA w) (by simp)))
      clear hs HSX hlt
      go_upto_region 8 with (
        go_at_call 88
        with_reducible refine HC.out.mono ?_
        rintro e w3 ⟨u0, xs, u1, u2, rfl, hxs, hsg⟩
        have HXS := Lib.hid hxs
        obtain ⟨s0, r0, rfl⟩ := OE.shape hsg.hd
        obtain ⟨s1, r1, rfl⟩ := own_shape (show OwnInts 0 _ u1 a.i from hsg.tl.hd)
        obtain ⟨s2, r2, rfl⟩ := own_shape (show OwnInts 0 _ u2 a.o from hsg.tl.tl.hd)
        obtain ⟨q0, hq0⟩ : ∃ q, xs.length = q := ⟨_, rfl⟩
        obtain ⟨q1, hq1⟩ : ∃ q, a.i.length = q := ⟨_, rfl⟩
        obtain ⟨q2, hq2⟩ : ∃ q, a.o.length = q := ⟨_, rfl⟩
        rw [hq0, hq1, hq2] at hsg
        rw [hq0, hq1, hq2]
        have HS3 := Lib.hid ((HS2.out.graft3 hsg OE_own OI_own OI_own).boxAt w3.heap.size rfl #[.int .i64 n, .slice s0 q0 r0, .slice s1 q1 r1, .slice s2 q2 r2] 30)
        clear hxs hsg hq0 hq1 hq2 x0 x1 x2 x3)
      generalize w3.alloc (.cells #[.int .i64 n, .slice s0 q0 r0, .slice s1 q1 r1, .slice s2 q2 r2] 30) = w4 at *
      generalize w3.heap.size = b7 at *
      obtain ⟨x0, x1, x2, x3, _⟩ := gq4 HS3.out.tl.tl.tl.tl.tl.tl.hd
      have HD := Lib.hid (HMP.out _ w4 (show w.grownBy _ none from Sep.all HS3.out (KeepA w) (by simp)) (OwnInts.read (show OwnInts 0 w4 _ _ from HS3.out.tl.tl.tl.tl.hd)))
      go_upto_region 9 with (
        go_at_call 89
        with_reducible refine HD.out.mono ?_
        rintro e w5 ⟨u0, ys, u1, u2, rfl, hys, hsg⟩
        have HYS := Lib.hid hys
        obtain ⟨t0, v0, rfl⟩ := OE.shape hsg.hd
        obtain ⟨t1, v1, rfl⟩ := own_shape (show OwnInts 0 _ u1 bi from hsg.tl.hd)
        obtain ⟨t2, v2, rfl⟩ := own_shape (show OwnInts 0 _ u2 bo from hsg.tl.tl.hd)
        obtain ⟨p0, hp0⟩ : ∃ q, ys.length = q := ⟨_, rfl⟩
        obtain ⟨p1, hp1⟩ : ∃ q, bi.length = q := ⟨_, rfl⟩
        obtain ⟨p2, hp2⟩ : ∃ q, bo.length = q := ⟨_, rfl⟩
        rw [hp0, hp1, hp2] at hsg
        rw [hp0, hp1, hp2]
        have HS5 := Lib.hid ((HS3.out.graft3 hsg OE_own OI_own OI_own).boxAt w5.heap.size rfl #[.int .i64 k, .slice t0 p0 v0, .slice t1 p1 v1, .slice t2 p2 v2] 30)
        clear hys hsg hp0 hp1 hp2 x0 x1 x2 x3)
      generalize w5.alloc (.cells #[.int .i64 k, .slice t0 p0 v0, .slice t1 p1 v1, .slice t2 p2 v2] 30) = w6 at *
      generalize w5.heap.size = b8 at *
      have h6 := Sep.blk (A := [_, _, _, _]) (B := [_]) HS5.out
      obtain ⟨x0, x1, x2, x3, g0, g1, g2, g3⟩ := gq4 h6.hd
      obtain ⟨y0, _⟩ := gq4 HS5.out.tl.tl.tl.tl.tl.tl.tl.tl.tl.tl.hd
      have hwr : IntKind.i64.wrap ((n : Int) + (k : Int)) = (n : Int) + (k : Int) := wrap_id (by omega) (by omega)
      have h7 := Sep.cutA (X := [_, _, _, _, _, _, _, _, _]) (A := [_, _]) (Sep.cutA (X := [_, _, _, _, _, _, _, _]) (A := [_]) (h6.setB 0 (.int .i64 ((n : Int) + k))))
      have HS7 := Lib.hid h7
      clear h6 h7
      go_upto_region 10 with fail
      generalize w6.setCell ⟨b7, 0, none⟩ (.int .i64 ((n : Int) + k)) = w7 at *
      clear x0 x1 x2 x3 g0 g1 g2 g3 y0 hwr
      obtain ⟨x0, x1, x2, x3, g0, g1, g2, g3⟩ := gq4 HS7.out.hd
      obtain ⟨y0, y1, y2, y3, _⟩ := gq4 HS7.out.tl.hd
      have HA := Lib.hid (Sep.blk (A := [_, _, _, _, _, _]) (B := [_]) HS7.out)
      have HRI := Lib.hid (OwnInts.read (show OwnInts 0 w7 _ bi from HS7.out.tl.tl.tl.hd))
      have HLI := Lib.hid (show a.i.length + bi.length ≤ 1000000000 from by have := HLL.out; omega)
      go_upto_region 11 with (
        at_builtin
        go_loud (
        refine app_intsS rfl (.tmp 39) (.tmp 41) rfl rfl rfl HA.out HRI.out HLI.out ?_
        intro v8 w8 h8
        obtain ⟨ga, gc, rfl⟩ := own_shape (show OwnInts 0 _ v8 (a.i ++ bi) from h8.hd)
        obtain ⟨z1, hz1⟩ : ∃ q, (a.i ++ bi).length = q := ⟨_, rfl⟩
        rw [hz1] at h8
        rw [hz1]
        have h9 := Sep.blk (A := [_]) (B := [_]) h8
        obtain ⟨f0, f1, f2, f3, e0, e1, e2, e3⟩ := gq4 h9.hd
        have HS9 := Lib.hid (h9.setB 2 (.slice ga z1 gc))
        clear h8 h9 hz1 x0 x1 x2 x3 g0 g1 g2 g3 y0 y1 y2 y3))
      generalize w8.setCell ⟨b7, 2, none⟩ (.slice ga z1 gc) = w9 at *
      clear f0 f1 f2 f3 e0 e1 e2 e3
      obtain ⟨x0, x1, x2, x3, g0, g1, g2, g3⟩ := gq4 HS9.out.hd
      obtain ⟨y0, y1, y2, y3, _⟩ := gq4 HS9.out.tl.tl.hd
      have HB := Lib.hid (Sep.blk (A := [_, _, _, _, _, _, _]) (B := [_]) HS9.out)
      have HRO := Lib.hid (OwnInts.read (show OwnInts 0 w9 _ bo from HS9.out.tl.tl.tl.tl.tl.hd))
      have HLO := Lib.hid (show a.o.length + bo.length ≤ 1000000000 from by have := HLL.out; omega)
      go_upto_region 12 with (
        at_builtin
        go_loud (
        refine app_intsS rfl (.tmp 45) (.tmp 47) rfl rfl rfl HB.out HRO.out HLO.out ?_
        intro vA wA h8
        obtain ⟨gb, gd, rfl⟩ := own_shape (show OwnInts 0 _ vA (a.o ++ bo) from h8.hd)
        obtain ⟨z2, hz2⟩ : ∃ q, (a.o ++ bo).length = q := ⟨_, rfl⟩
        rw [hz2] at h8
        rw [hz2]
        have h9 := Sep.blk (A := [_]) (B := [_]) h8
        obtain ⟨f0, f1, f2, f3, e0, e1, e2, e3⟩ := gq4 h9.hd
        have HSB := Lib.hid (h9.setB 3 (.slice gb z2 gd))
        clear h8 h9 hz2 x0 x1 x2 x3 g0 g1 g2 g3 y0 y1 y2 y3))
      generalize wA.setCell ⟨b7, 3, none⟩ (.slice gb z2 gd) = wB at *
      clear f0 f1 f2 f3 e0 e1 e2 e3
      obtain ⟨x0, x1, x2, x3, g0, g1, g2, g3⟩ := gq4 HSB.out.hd
      obtain ⟨y0, y1, y2, y3, _⟩ := gq4 HSB.out.tl.tl.tl.hd
      have HCC := Lib.hid (Sep.blk (A := [_, _, _, _, _, _, _]) (B := [_]) (Sep.blk (A := [_, _, _, _]) (B := [_]) HSB.out))
      have HLE := Lib.hid (show xs.length + ys.length ≤ 10000000 from by have h1 := HLL.out; have h2 := congrArg List.length HXS.out; have h3 := congrArg List.length HYS.out; rw [eds_len] at h2 h3; omega)
      go_upto_region 13 with (
        at_builtin
        go_loud (
        refine app_OE rfl (.tmp 51) (.tmp 53) rfl rfl rfl HCC.out HLE.out ?_
        intro ge z0 gf wC hz0 h8
        clear hz0
        have h9 := Sep.blk (A := [_]) (B := [_]) h8
        obtain ⟨f0, f1, f2, f3, e0, e1, e2, e3⟩ := gq4 h9.hd
        have HSD := Lib.hid (Sep.cutA (X := [_, _, _, _]) (A := [_, _, _]) (h9.setB 1 (.slice ge z0 gf)))
        clear h8 h9 x0 x1 x2 x3 g0 g1 g2 g3 y0 y1 y2 y3))
      generalize wC.setCell ⟨b7, 1, none⟩ (.slice ge z0 gf) = wD at *
      clear f0 f1 f2 f3 e0 e1 e2 e3
      obtain ⟨x0, x1, x2, x3, _⟩ := gq4 HSD.out.hd
      have hf := Sep.blk (A := [_, _, _, _]) (B := [_]) HSD.out
      obtain ⟨_, _, _, _, g0, g1, g2, g3⟩ := gq4 hf.hd
      have hg := (((hf.setB 0 (.int .i64 ((n : Int) + k))).setB 1 (.slice ge z0 gf)).setB 2 (.slice ga z1 gc)).setB 3 (.slice gb z2 gd)
      obtain ⟨l0, l1, l2, l3, _⟩ := gq4 hg.hd
      have HSF := Lib.hid (Sep.blk3 (X := [_]) (A := [_]) (B := [_]) (Sep.cutA (X := []) (A := [_, _]) hg))
      clear hf hg
      go_wp2_with fail
      refine bodyPost_ret_by (v := .agg #[.int .i64 ((n : Int) + k), .slice ge z0 gf, .slice ga z1 gc, .slice gb z2 gd]) ?_ rfl ⟨_, xs ++ ys, _, _, by rw [HKN.out], by rw [HKE.out]; unfold eds; rw [List.map_append]; show eds xs ++ eds ys = _; rw [HXS.out, HYS.out], by rw [HKI.out, HKO.out]; exact HSF.out⟩
      simp [results, go_sem, *]
theorem hgPar_any (a b : Gr) (ev iv ov ev' iv' ov' : Value) (w : World) (he : RdE edgeE w ev a.es) (hi : IntsV w iv a.i) (ho : IntsV w ov a.o) (he' : RdE edgeE w ev' b.es) (hi' : IntsV w iv' b.i) (ho' : IntsV w ov' b.o) (hga : grB a = true) (hgb : grB b = true) :
    Calls Tryz.prog 41 #[grV a.n ev iv ov, grV b.n ev' iv' ov'] w (OwnG (parG a b) w) := by
  have HBS := Lib.hid fun W (hW : w.grownBy W none) => hgBeside_any a b ev iv ov ev' iv' ov' W (he.carry hW) (hi.carry hW) (ho.carry hW) (he'.carry hW) (hi'.carry hW) (ho'.carry hW) hga hgb
  generalize parG a b = K at *
  unfold OwnG grV at *
  generalize a.n = n at *
  generalize b.n = m at *
  obtain ⟨ea, ec, rfl⟩ := he.shape
  obtain ⟨ia, ic, rfl⟩ := hi.shape
  obtain ⟨oa, oc, rfl⟩ := ho.shape
  obtain ⟨eb, fc, rfl⟩ := he'.shape
  obtain ⟨ib, gc, rfl⟩ := hi'.shape
  obtain ⟨ob, hc, rfl⟩ := ho'.shape
  clear he hi ho he' hi' ho' hga hgb
  generalize a.es.length = ne at *
  generalize a.i.length = ni at *
  generalize a.o.length = no at *
  generalize b.es.length = me at *
  generalize b.i.length = mi at *
  generalize b.o.length = mo at *
  have hs0 := (((Sep.start w).boxAt w.heap.size rfl #[.int .i64 n, .slice ea ne ec, .slice ia ni ic, .slice oa no oc] 30).boxAt (w.heap.size + 1) (by simp) #[.int .i64 m, .slice eb me fc, .slice ib mi gc, .slice ob mo hc] 30).boxAt (w.heap.size + 2) (by simp) #[.int .i64 0, .slice none 0 0, .slice none 0 0, .slice none 0 0] 30
  have HS0 := Lib.hid hs0
  obtain ⟨x0, x1, x2, x3, _⟩ := gq4 hs0.tl.tl.hd
  obtain ⟨y0, y1, y2, y3, _⟩ := gq4 hs0.tl.hd
  have HK0 := Lib.hid (show w.grownBy _ none from hs0.tl.tl.tl.hd)
  clear hs0
  go_enter Tryz.func41, Tryz.ntmps41
  go_wp2_with (
    go_at_call 64
    with_reducible refine (HBS.out _ HK0.out).mono ?_
    rintro e w5 ⟨u0, xs, u1, u2, rfl, hx, hsg⟩
    have HXF := Lib.hid hx
    obtain ⟨t0, v0, rfl⟩ := OE.shape hsg.hd
    obtain ⟨t1, v1, rfl⟩ := own_shape (show OwnInts 0 _ u1 K.i from hsg.tl.hd)
    obtain ⟨t2, v2, rfl⟩ := own_shape (show OwnInts 0 _ u2 K.o from hsg.tl.tl.hd)
    obtain ⟨q0, hq0⟩ : ∃ q, xs.length = q := ⟨_, rfl⟩
    obtain ⟨q1, hq1⟩ : ∃ q, K.i.length = q := ⟨_, rfl⟩
    obtain ⟨q2, hq2⟩ : ∃ q, K.o.length = q := ⟨_, rfl⟩
    rw [hq0, hq1, hq2] at hsg
    rw [hq0, hq1, hq2]
    have hs1 := Sep.blk (A := [_, _, _]) (B := [_]) (HS0.out.graft3 hsg OE_own OI_own OI_own)
    obtain ⟨_, _, _, _, k4, k5, k6, k7⟩ := gq4 hs1.hd
    have hs2 := (((hs1.setB 0 (.int .i64 K.n)).setB 1 (.slice t0 q0 v0)).setB 2 (.slice t1 q1 v1)).setB 3 (.slice t2 q2 v2)
    obtain ⟨l0, l1, l2, l3, _⟩ := gq4 hs2.hd
    have HSF := Lib.hid (Sep.cutA (X := [_, _, _]) (A := [_, _]) hs2.tl)
    clear hsg hs1 hs2 hx hq0 hq1 hq2)
  refine bodyPost_ret_by (v := .agg #[.int .i64 K.n, .slice t0 q0 v0, .slice t1 q1 v1, .slice t2 q2 v2]) ?_ rfl ⟨_, xs, _, _, rfl, HXF.out, HSF.out⟩
  simp [results, go_sem, *]
end Go.Proofs.YtjagjhchnpmngaaGreatDoor

/-
  Terms in the reference: their types, whether they are over a field. Conditions: lengths are small.
-/
namespace Go.Proofs.YtjagjhchnpmngaaGreatDoor
open Go.RowKit
set_option linter.unusedVariables false
set_option linter.unusedSimpArgs false
set_option maxRecDepth 100000

theorem tmScan_any (nv : Value) (ns : List Nd) (w : World) (hn : RdR nodeE w nv ns) (hl : ns.length ≤ 2000000) :
    Calls Tryz.prog 32 #[.agg #[nv]] w (ScanR (tmB ns) ns w) := by
  have HT := Lib.hid fun W (hW : w.grownBy W none) => scan_any nv ns W (hn.carry hW) hl
  obtain ⟨na, nc, rfl⟩ := hn.shape
  obtain ⟨n, hnl⟩ : ∃ n, ns.length = n := ⟨_, rfl⟩
  rw [hnl] at HT hl ⊢
  generalize tmB ns = b at *
  have hs0 := ((Sep.start w).boxAt w.heap.size rfl #[.slice na n nc] 37).boxAt (w.heap.size + 1) (by simp) #[.slice none 0 0, .slice none 0 0, .slice none 0 0] 63
  have HS0 := Lib.hid hs0
  have HK0 := Lib.hid (show w.grownBy _ none from hs0.tl.tl.hd)
  have x0 := bs1 hs0.tl.hd
  unfold ScanR at *
  clear hs0 hn hl hnl
  go_enter Tryz.func32, Tryz.ntmps32
  go_wp2_with (
    go_at_call 59
    with_reducible refine (HT.out _ HK0.out).mono ?_
    rintro e w3 ⟨fa, fn, fc, ia, inn, ic, oa, on, oc, rfl, hq, hg⟩
    have hs1 := HS0.out.grown hg
    obtain ⟨y0, y1, y2, f0, f1, f2⟩ := bs3 hs1.hd
    have hsz := ((hs1.setB 0 (.slice fa fn fc)).setB 1 (.slice ia inn ic)).setB 2 (.slice oa on oc)
    obtain ⟨u0, u1, u2, _⟩ := bs3 hsz.hd
    have HKF := Lib.hid (show w.grownBy _ none from hsz.tl.tl.hd)
    have HQ := Lib.hid fun (hb : b = true) => (by
      have h4 := Sep.blk (A := [_, _, _]) (B := [_]) (HS0.out.graft3 (hq hb) OI_own OI_own OI_own)
      have h5 := ((h4.setB 0 (.slice fa fn fc)).setB 1 (.slice ia inn ic)).setB 2 (.slice oa on oc)
      exact Sep.cutA (X := [_, _, _]) (A := [_]) h5.tl : Sep (((w3.setCell ⟨w.heap.size + 1, 0, none⟩ (.slice fa fn fc)).setCell ⟨w.heap.size + 1, 1, none⟩ (.slice ia inn ic)).setCell ⟨w.heap.size + 1, 2, none⟩ (.slice oa on oc)) [OI (.slice fa fn fc) (scF ns ns.length), OI (.slice ia inn ic) (scI ns ns.length), OI (.slice oa on oc) (scO ns ns.length), KeepA w])
    clear hs1 hsz hg hq x0)
  generalize ((w3.setCell ⟨w.heap.size + 1, 0, none⟩ (.slice fa fn fc)).setCell ⟨w.heap.size + 1, 1, none⟩ (.slice ia inn ic)).setCell ⟨w.heap.size + 1, 2, none⟩ (.slice oa on oc) = w4 at *
  refine bodyPost_ret_by (v := .tuple #[.agg #[.slice fa fn fc, .slice ia inn ic, .slice oa on oc], .bool b]) ?_ rfl ⟨_, _, _, _, _, _, _, _, _, rfl, HQ.out, HKF.out⟩
  simp [results, go_sem, *]
theorem own_lenT {B : Nat} {w : World} {a : Option Addr} {n c : Nat} {zs : List Int} (h : OwnInts B w (.slice a n c) zs) : n = zs.length := by
  obtain ⟨a', c', e⟩ := own_shape h
  injection e
/-- The last node's tree is the term's. -/
theorem top_last {ns : List Nd} {n1 : Nat} (h : tmB ns = true) (hn : n1 + 1 = ns.length) : (topA ns n1).ty = tmT ns := by
  obtain ⟨_, t, _, _, hp⟩ := tmB_tree h
  have e1 : topA ns n1 = t := topA_eq (R := []) (by rw [hn]; exact hp)
  rw [e1]
  unfold tmT
  rw [hp]
set_option maxHeartbeats 2000000 in
theorem tmType_any (nv : Value) (ns : List Nd) (w : World) (hn : RdR nodeE w nv ns) (hl : ns.length ≤ 2000000) (hb : tmB ns = true) :
    Calls Tryz.prog 35 #[.agg #[nv]] w fun e w' => e = .returned (.tuple #[.int .i64 (tmT ns).1, .int .i64 (tmT ns).2, .bool true]) ∧ w.grownBy w' none := by
  have HT := Lib.hid fun W (hW : w.grownBy W none) => tmScan_any nv ns W (hn.carry hW) hl
  obtain ⟨na, nc, rfl⟩ := hn.shape
  obtain ⟨⟨hl1, hl2⟩, _⟩ := tmB_tree hb
  obtain ⟨n, hnl⟩ : ∃ n, ns.length = n := ⟨_, rfl⟩
  have HNL := Lib.hid hnl
  rw [hb] at HT
  rw [hnl] at HT hl hl1 hl2 ⊢
  obtain ⟨n1, hn1⟩ : ∃ x, x + 1 = n := ⟨n - 1, by omega⟩
  have hty := top_last hb (n1 := n1) (by rw [hnl]; exact hn1)
  have HIv := Lib.hid (show (scI ns n).getD n1 0 = (tmT ns).1 from by rw [scI_at (by omega), hty])
  have HOv := Lib.hid (show (scO ns n).getD n1 0 = (tmT ns).2 from by rw [scO_at (by omega), hty])
  obtain ⟨p, hp⟩ : ∃ x, (tmT ns).1 = x := ⟨_, rfl⟩
  obtain ⟨q, hq⟩ : ∃ x, (tmT ns).2 = x := ⟨_, rfl⟩
  rw [hp] at HIv ⊢
  rw [hq] at HOv ⊢
  have hwi : IntKind.i64.wrap ((n : Int) - 1) = (n1 : Int) := by rw [wrap_id (by omega) (by omega)]; omega
  have hbi : (n1 : Int) < (n : Int) := by omega
  have HN1 := Lib.hid (show n1 < n from by omega)
  have HNP := Lib.hid (show 0 < n from by omega)
  have hs0 := (Sep.start w).boxAt w.heap.size rfl #[.slice na n nc] 37
  have HS0 := Lib.hid hs0
  have HK0 := Lib.hid (show w.grownBy _ none from hs0.tl.hd)
  have x0 := bs1 hs0.hd
  unfold ScanR at HT
  clear hs0 hn hl hnl hn1 hty hp hq hb
  go_enter Tryz.func35, Tryz.ntmps35
  go_upto_region 5 with (
    go_at_call 32
    with_reducible refine (HT.out _ HK0.out).mono ?_
    rintro e w3 ⟨fa, fn, fc, ia, inn, ic, oa, on, oc, rfl, hq, hg⟩
    have hs3 := HS0.out.graft3 (hq rfl) OI_own OI_own OI_own
    rw [HNL.out] at hs3
    have HS4 := Lib.hid (hs3.boxAt w3.heap.size rfl #[.slice fa fn fc, .slice ia inn ic, .slice oa on oc] 63)
    clear x0
    have x0 := bs1 HS4.out.tl.tl.tl.tl.hd
    clear hs3 hq hg)
  have e1 := own_lenT (show OwnInts 0 _ (.slice fa fn fc) (scF ns n) from HS4.out.tl.hd)
  have e2 := own_lenT (show OwnInts 0 _ (.slice ia inn ic) (scI ns n) from HS4.out.tl.tl.hd)
  have e3 := own_lenT (show OwnInts 0 _ (.slice oa on oc) (scO ns n) from HS4.out.tl.tl.tl.hd)
  rw [scF_len] at e1
  rw [scI_len] at e2
  rw [scO_len] at e3
  have e1 := e1.symm; have e2 := e2.symm; have e3 := e3.symm
  subst e1 e2 e3
  obtain ⟨ig, hig⟩ := own_someT (show OwnInts 0 _ (.slice ia n ic) (scI ns n) from HS4.out.tl.tl.hd) (by rw [scI_len]; exact HNP.out)
  obtain ⟨og, hog⟩ := own_someT (show OwnInts 0 _ (.slice oa n oc) (scO ns n) from HS4.out.tl.tl.tl.hd) (by rw [scO_len]; exact HNP.out)
  subst hig hog
  generalize w3.alloc (.cells #[.slice fa n fc, .slice (some ⟨ig, 0, none⟩) n ic, .slice (some ⟨og, 0, none⟩) n oc] 63) = w4 at *
  generalize w3.heap.size = xb at *
  clear x0
  have HSD := Lib.hid HS4.out.dr
  have c := bs3 HSD.out.hd
  have n2 := own_atT (show OwnInts 0 _ _ (scI ns n) from HSD.out.tl.tl.hd) (scI_len ns n).symm HN1.out
  have n3 := own_atT (show OwnInts 0 _ _ (scO ns n) from HSD.out.tl.tl.tl.hd) (scO_len ns n).symm HN1.out
  rw [HIv.out] at n2
  rw [HOv.out] at n3
  have X0 := Lib.hid (show (w4.drew.cell? ⟨xb, 1, none⟩ = some (.slice (some ⟨ig, 0, none⟩) n ic) ∧ w4.drew.cell? ⟨xb, 2, none⟩ = some (.slice (some ⟨og, 0, none⟩) n oc)) ∧ w4.drew.cell? ⟨ig, n1, none⟩ = some (.int .i64 p) ∧ w4.drew.cell? ⟨og, n1, none⟩ = some (.int .i64 q) from ⟨⟨c.2.1, c.2.2.1⟩, n2, n3⟩)
  have HKF := Lib.hid (show w.grownBy w4.drew none from HSD.out.tl.tl.tl.tl.tl.hd)
  clear c n2 n3
  refine AnyL.start (fun W1 => (W1.cell? ⟨xb, 1, none⟩ = some (.slice (some ⟨ig, 0, none⟩) n ic) ∧ W1.cell? ⟨xb, 2, none⟩ = some (.slice (some ⟨og, 0, none⟩) n oc)) ∧ W1.cell? ⟨ig, n1, none⟩ = some (.int .i64 p) ∧ W1.cell? ⟨og, n1, none⟩ = some (.int .i64 q)) (fun _ => True) 99 (by kernel_rfl) ?_
  generalize w4.drew = w5 at *
  refine AnyL.take (i := 0) (v := ?vx1) (by rfl) (by kernel_rfl) (by kernel_rfl) (by kernel_rfl) rfl (by exact fun _ _ _ h => h) (by rfl) ?hyx1 (by exact ⟨X0.out, fun _ => trivial⟩) ?restx1
  case hyx1 => intro W hSW; (try dsimp only at hSW); first | (go_simp; done) | (go_simp; with_reducible rfl)
  try simp only [Act.put, List.setIfInBounds_toArray, List.set_cons_zero, List.set_cons_succ]
  refine AnyL.take (i := 1) (v := ?vx2) (by rfl) (by kernel_rfl) (by kernel_rfl) (by kernel_rfl) rfl (by exact fun _ _ _ h => h) (by rfl) ?hyx2 (by exact ⟨X0.out, fun _ => trivial⟩) ?restx2
  case hyx2 => intro W hSW; (try dsimp only at hSW); first | (go_simp; done) | (go_simp; with_reducible rfl)
  try simp only [Act.put, List.setIfInBounds_toArray, List.set_cons_zero, List.set_cons_succ]
  refine AnyL.take (i := 2) (v := ?vx3) (by rfl) (by kernel_rfl) (by kernel_rfl) (by kernel_rfl) rfl (by exact fun _ _ _ h => h) (by rfl) ?hyx3 (by exact ⟨X0.out, fun _ => trivial⟩) ?restx3
  case hyx3 => intro W hSW; (try dsimp only at hSW); first | (go_simp; done) | (go_simp; with_reducible rfl)
  try simp only [Act.put, List.setIfInBounds_toArray, List.set_cons_zero, List.set_cons_succ]
  refine AnyL.take (i := 3) (v := ?vx4) (by rfl) (by kernel_rfl) (by kernel_rfl) (by kernel_rfl) rfl (by exact fun _ _ _ h => h) (by rfl) ?hyx4 (by exact ⟨X0.out, fun _ => trivial⟩) ?restx4
  case hyx4 => intro W hSW; (try dsimp only at hSW); first | (go_simp; done) | (go_simp; with_reducible rfl)
  try simp only [Act.put, List.setIfInBounds_toArray, List.set_cons_zero, List.set_cons_succ]
  refine AnyL.take (i := 4) (v := ?vx5) (by rfl) (by kernel_rfl) (by kernel_rfl) (by kernel_rfl) rfl (by exact fun _ _ _ h => h) (by rfl) ?hyx5 (by exact ⟨X0.out, fun _ => trivial⟩) ?restx5
  case hyx5 => intro W hSW; (try dsimp only at hSW); first | (go_simp; done) | (go_simp; with_reducible rfl)
  try simp only [Act.put, List.setIfInBounds_toArray, List.set_cons_zero, List.set_cons_succ]
  refine AnyL.take (i := 5) (v := ?vx6) (by rfl) (by kernel_rfl) (by kernel_rfl) (by kernel_rfl) rfl (by exact fun _ _ _ h => h) (by rfl) ?hyx6 (by exact ⟨X0.out, fun _ => trivial⟩) ?restx6
  case hyx6 => intro W hSW; (try dsimp only at hSW); first | (go_simp; done) | (go_simp; with_reducible rfl)
  try simp only [Act.put, List.setIfInBounds_toArray, List.set_cons_zero, List.set_cons_succ]
  refine AnyL.take (i := 6) (v := ?vx7) (by rfl) (by kernel_rfl) (by kernel_rfl) (by kernel_rfl) rfl (by exact fun _ _ _ h => h) (by rfl) ?hyx7 (by exact ⟨X0.out, fun _ => trivial⟩) ?restx7
  case hyx7 => intro W hSW; (try dsimp only at hSW); first | (go_simp; done) | (go_simp; with_reducible rfl)
  try simp only [Act.put, List.setIfInBounds_toArray, List.set_cons_zero, List.set_cons_succ]
  refine AnyL.take (i := 7) (v := ?vx8) (by rfl) (by kernel_rfl) (by kernel_rfl) (by kernel_rfl) rfl (by exact fun _ _ _ h => h) (by rfl) ?hyx8 (by exact ⟨X0.out, fun _ => trivial⟩) ?restx8
  case hyx8 => intro W hSW; (try dsimp only at hSW); first | (go_simp; done) | (go_simp; with_reducible rfl)
  try simp only [Act.put, List.setIfInBounds_toArray, List.set_cons_zero, List.set_cons_succ]
  refine AnyL.take (i := 8) (v := ?vx9) (by rfl) (by kernel_rfl) (by kernel_rfl) (by kernel_rfl) rfl (by exact fun _ _ _ h => h) (by rfl) ?hyx9 (by exact ⟨X0.out, fun _ => trivial⟩) ?restx9
  case hyx9 => intro W hSW; (try dsimp only at hSW); first | (go_simp; done) | (go_simp; with_reducible rfl)
  try simp only [Act.put, List.setIfInBounds_toArray, List.set_cons_zero, List.set_cons_succ]
  refine AnyL.take (i := 9) (v := ?vx10) (by rfl) (by kernel_rfl) (by kernel_rfl) (by kernel_rfl) rfl (by exact fun _ _ _ h => h) (by rfl) ?hyx10 (by exact ⟨X0.out, fun _ => trivial⟩) ?restx10
  case hyx10 => intro W hSW; (try dsimp only at hSW); first | (go_simp; done) | (go_simp; with_reducible rfl)
  try simp only [Act.put, List.setIfInBounds_toArray, List.set_cons_zero, List.set_cons_succ]
  refine AnyL.take (i := 10) (v := ?vx11) (by rfl) (by kernel_rfl) (by kernel_rfl) (by kernel_rfl) rfl (by exact fun _ _ _ h => h) (by rfl) ?hyx11 (by exact ⟨X0.out, fun _ => trivial⟩) ?restx11
  case hyx11 => intro W hSW; (try dsimp only at hSW); first | (go_simp; done) | (go_simp; with_reducible rfl)
  try simp only [Act.put, List.setIfInBounds_toArray, List.set_cons_zero, List.set_cons_succ]
  refine AnyL.take (i := 11) (v := ?vx12) (by rfl) (by kernel_rfl) (by kernel_rfl) (by kernel_rfl) rfl (by exact fun _ _ _ h => h) (by rfl) ?hyx12 (by exact ⟨X0.out, fun _ => trivial⟩) ?restx12
  case hyx12 => intro W hSW; (try dsimp only at hSW); first | (go_simp; done) | (go_simp; with_reducible rfl)
  try simp only [Act.put, List.setIfInBounds_toArray, List.set_cons_zero, List.set_cons_succ]
  refine AnyL.take (i := 12) (v := ?vx13) (by rfl) (by kernel_rfl) (by kernel_rfl) (by kernel_rfl) rfl (by exact fun _ _ _ h => h) (by rfl) ?hyx13 (by exact ⟨X0.out, fun _ => trivial⟩) ?restx13
  case hyx13 => intro W hSW; (try dsimp only at hSW); first | (go_simp; done) | (go_simp; with_reducible rfl)
  try simp only [Act.put, List.setIfInBounds_toArray, List.set_cons_zero, List.set_cons_succ]
  refine AnyL.done (by kernel_rfl) ?_ _
  go_wp2_with fail
  refine bodyPost_ret_by (v := .tuple #[.int .i64 p, .int .i64 q, .bool true]) ?_ rfl ⟨rfl, HKF.out⟩
  simp [results, go_sem, *]
theorem tmIn_any (nv : Value) (ns : List Nd) (w : World) (hn : RdR nodeE w nv ns) (hl : ns.length ≤ 2000000) (hb : tmB ns = true) :
    Calls Tryz.prog 16 #[.agg #[nv]] w fun e w' => e = .returned (.int .i64 (tmT ns).1) ∧ w.grownBy w' none := by
  have HT := Lib.hid fun W (hW : w.grownBy W none) => tmType_any nv ns W (hn.carry hW) hl hb
  obtain ⟨na, nc, rfl⟩ := hn.shape
  generalize ns.length = n at *
  obtain ⟨p, hp⟩ : ∃ x, (tmT ns).1 = x := ⟨_, rfl⟩
  obtain ⟨q, hq⟩ : ∃ x, (tmT ns).2 = x := ⟨_, rfl⟩
  rw [hp, hq] at HT
  rw [hp]
  have hs0 := (Sep.start w).boxAt w.heap.size rfl #[.slice na n nc] 37
  have HK0 := Lib.hid (show w.grownBy _ none from hs0.tl.hd)
  have x0 := bs1 hs0.hd
  clear hs0 hn hl hb hp hq
  go_enter Tryz.func16, Tryz.ntmps16
  go_wp2_with (
    go_at_call 35
    with_reducible refine (HT.out _ HK0.out).mono ?_
    rintro e w3 ⟨rfl, hg⟩
    have HKF := Lib.hid (grownBy_trans HK0.out hg)
    clear hg)
  go_ret
  exact ⟨rfl, HKF.out⟩
theorem tmOut_any (nv : Value) (ns : List Nd) (w : World) (hn : RdR nodeE w nv ns) (hl : ns.length ≤ 2000000) (hb : tmB ns = true) :
    Calls Tryz.prog 17 #[.agg #[nv]] w fun e w' => e = .returned (.int .i64 (tmT ns).2) ∧ w.grownBy w' none := by
  have HT := Lib.hid fun W (hW : w.grownBy W none) => tmType_any nv ns W (hn.carry hW) hl hb
  obtain ⟨na, nc, rfl⟩ := hn.shape
  generalize ns.length = n at *
  obtain ⟨p, hp⟩ : ∃ x, (tmT ns).1 = x := ⟨_, rfl⟩
  obtain ⟨q, hq⟩ : ∃ x, (tmT ns).2 = x := ⟨_, rfl⟩
  rw [hp, hq] at HT
  rw [hq]
  have hs0 := (Sep.start w).boxAt w.heap.size rfl #[.slice na n nc] 37
  have HK0 := Lib.hid (show w.grownBy _ none from hs0.tl.hd)
  have x0 := bs1 hs0.hd
  clear hs0 hn hl hb hp hq
  go_enter Tryz.func17, Tryz.ntmps17
  go_wp2_with (
    go_at_call 35
    with_reducible refine (HT.out _ HK0.out).mono ?_
    rintro e w3 ⟨rfl, hg⟩
    have HKF := Lib.hid (grownBy_trans HK0.out hg)
    clear hg)
  go_ret
  exact ⟨rfl, HKF.out⟩
set_option maxHeartbeats 4000000 in
theorem tmGood_any (p : Int) (nv : Value) (ns : List Nd) (w : World) (hn : RdR nodeE w nv ns) (hl : ns.length ≤ 2000000) :
    Calls Tryz.prog 14 #[.int .i64 p, .agg #[nv]] w fun e w' => e = .returned (.bool (ovT p ns)) ∧ w.grownBy w' none := by
  have HF := Lib.hid fun W => fdGood_any p W
  have HV := Lib.hid fun W (hW : w.grownBy W none) => tmScan_any nv ns W (hn.carry hW) hl
  have HN := Lib.hid hn
  obtain ⟨b, hb⟩ : ∃ b, ovT p ns = b := ⟨_, rfl⟩
  rw [hb]
  have HB := Lib.hid hb
  obtain ⟨na, nc, rfl⟩ := hn.shape
  obtain ⟨n, hnl⟩ : ∃ n, ns.length = n := ⟨_, rfl⟩
  have HNL := Lib.hid hnl
  rw [hnl] at HV hl ⊢
  unfold ScanR at HV
  have hs0 := (Sep.start w).boxAt w.heap.size rfl #[.slice na n nc] 37
  have HS0 := Lib.hid hs0
  have HK0 := Lib.hid (show w.grownBy _ none from hs0.tl.hd)
  have x0 := bs1 hs0.hd
  clear hs0 hn hb hnl
  cases h2 : tmB ns
  · rw [h2] at HV
    obtain rfl : b = false := by rw [← HB.out]; unfold ovT; rw [h2]; simp
    clear h2
    go_enter Tryz.func14, Tryz.ntmps14
    go_wp2_with (
      go_at_call 32
      with_reducible refine (HV.out _ HK0.out).mono ?_
      rintro e w3 ⟨fa, fn, fc, ia, inn, ic, oa, on, oc, rfl, hq, hg⟩
      have HKF := Lib.hid (show w.grownBy _ none from ((HS0.out.grown hg).boxAt w3.heap.size rfl #[.slice fa fn fc, .slice ia inn ic, .slice oa on oc] 63).tl.tl.hd)
      clear hg hq x0)
    go_ret
    exact ⟨rfl, HKF.out⟩
  · rw [h2] at HV
    cases h1 : fldB p
    · rw [h1] at HF
      obtain rfl : b = false := by rw [← HB.out]; unfold ovT; rw [h1]; rfl
      clear h1 h2
      go_enter Tryz.func14, Tryz.ntmps14
      go_wp2_with (first
        | (go_at_call 32
           with_reducible refine (HV.out _ HK0.out).mono ?_
           rintro e w3 ⟨fa, fn, fc, ia, inn, ic, oa, on, oc, rfl, hq, hg⟩
           have HKF := Lib.hid (show w.grownBy _ none from ((HS0.out.grown hg).boxAt w3.heap.size rfl #[.slice fa fn fc, .slice ia inn ic, .slice oa on oc] 63).tl.tl.hd)
           clear hg hq x0)
        | (go_at_call 33; with_reducible refine (HF.out _).mono ?_; rintro e w4 ⟨rfl, rfl⟩))
      go_ret
      exact ⟨rfl, HKF.out⟩
    · rw [h1] at HF
      have HBB := Lib.hid (show b = !(ns.any (nvB p)) from by rw [← HB.out]; unfold ovT; rw [h1, h2]; simp)
      clear h1 h2
      go_enter Tryz.func14, Tryz.ntmps14
      go_upto_region 5 with (first
        | (go_at_call 32
           with_reducible refine (HV.out _ HK0.out).mono ?_
           rintro e w3 ⟨fa, fn, fc, ia, inn, ic, oa, on, oc, rfl, hq, hg⟩
           have HS4 := Lib.hid ((HS0.out.grown hg).boxAt w3.heap.size rfl #[.slice fa fn fc, .slice ia inn ic, .slice oa on oc] 63)
           clear hg hq x0
           have x0 := bs1 HS4.out.tl.hd)
        | (go_at_call 33; with_reducible refine (HF.out _).mono ?_; rintro e w4 ⟨rfl, rfl⟩))
      clear x0
      go_loopw [8, 24] (fun _ s8 wr => ∃ i : Nat, i ≤ n ∧ s8 = .int .i64 i ∧ (∀ j, j < i → nvB p (ns.getD j nd0) = false) ∧ w.grownBy wr none) (fun _ s8 _ => n - (intOf s8).toNat)
      case atStart => exact ⟨0, by omega, rfl, fun j hj => absurd hj (Nat.not_lt_zero _), HS4.out.tl.tl.hd⟩
      case round =>
        obtain ⟨i, hi, rfl, ho, hg⟩ := hrel
        have HO := Lib.hid ho
        have HG := Lib.hid hg
        clear ho hg
        by_cases hlt : i < n
        · have hke : i < ns.length := by rw [HNL.out]; exact hlt
          have hji : (i : Int) < (n : Int) := by omega
          have HKE := Lib.hid hke
          obtain ⟨nb, no, rfl, _, q0, q1, q2⟩ := (HN.out.carry HG.out).node rfl rfl hke
          obtain ⟨y, hy⟩ : ∃ y, ns.getD i nd0 = y := ⟨_, rfl⟩
          have HY := Lib.hid hy
          rw [hy] at q0 q1 q2
          clear hy hke
          obtain ⟨k, v, s⟩ := y
          simp only at q0 q1 q2
          have HS2 := Lib.hid (((Sep.start w).grown HG.out).boxAt wr.heap.size rfl #[.int .i64 k, .int .i64 v, .string s] 66)
          obtain ⟨z0, z1, z2⟩ := bw3 HS2.out.hd
          by_cases hk : k = 7 ∨ k = 13
          · have HKV := Lib.hid (show hvB k = true from decide_eq_true hk)
            by_cases hv : p ≤ v
            · have hvb : nvB p (ns.getD i nd0) = true := by rw [HY.out]; unfold nvB; rw [HKV.out, decide_eq_true hv]; rfl
              obtain rfl : b = false := by rw [HBB.out, any_yes HKE.out hvb]; rfl
              clear hvb
              rcases hk with rfl | rfl
              · go_wp2_with fail
                go_ret
                exact ⟨rfl, HS2.out.tl.hd⟩
              · go_wp2_with fail
                go_ret
                exact ⟨rfl, HS2.out.tl.hd⟩
            · have HNO := Lib.hid (show ∀ j, j < i + 1 → nvB p (ns.getD j nd0) = false from fun j hj => by
                by_cases e : j = i
                · subst e; rw [HY.out]; unfold nvB; rw [decide_eq_false hv, Bool.and_false]
                · exact HO.out j (by omega))
              rcases hk with rfl | rfl
              · go_wp2_with fail
                go_roundw
                case rel => exact ⟨i + 1, by omega, by go_num, HNO.out, HS2.out.tl.hd⟩
                case measure => simp [intOf]; omega
              · go_wp2_with fail
                go_roundw
                case rel => exact ⟨i + 1, by omega, by go_num, HNO.out, HS2.out.tl.hd⟩
                case measure => simp [intOf]; omega
          · have HNO := Lib.hid (show ∀ j, j < i + 1 → nvB p (ns.getD j nd0) = false from fun j hj => by
              by_cases e : j = i
              · subst e; rw [HY.out]; unfold nvB; rw [show hvB k = false from decide_eq_false hk]; rfl
              · exact HO.out j (by omega))
            have h7 : (k == 7) = false := by simp; omega
            have h13 : (k == 13) = false := by simp; omega
            clear hk
            go_wp2_with fail
            go_roundw
            case rel => exact ⟨i + 1, by omega, by go_num, HNO.out, HS2.out.tl.hd⟩
            case measure => simp [intOf]; omega
        · have hin : n = i := by omega
          subst hin
          have hkk : ¬ (n : Int) < (n : Int) := by omega
          obtain rfl : b = true := by rw [HBB.out, any_no (fun j hj => HO.out j (by rw [← HNL.out]; exact hj))]; rfl
          go_wp2_with fail
          go_ret
          exact ⟨rfl, HG.out⟩
end Go.Proofs.YtjagjhchnpmngaaGreatDoor

/-
  A graph if it is valid; a term's last node; a copy of nodes. Conditions: as each says.
-/
namespace Go.Proofs.YtjagjhchnpmngaaGreatDoor
open Go.RowKit
set_option linter.unusedVariables false
set_option linter.unusedSimpArgs false
set_option maxRecDepth 100000

def zgV : Value := .agg #[.int .i64 0, .slice none 0 0, .slice none 0 0, .slice none 0 0]
set_option maxHeartbeats 2000000 in
theorem hgIf_any (ev iv ov : Value) (g : Gr) (w : World) (he : RdE edgeE w ev g.es) (hi : IntsV w iv g.i) (ho : IntsV w ov g.o) (l0 : g.es.length ≤ 2000000) (l1 : g.i.length ≤ 2000000) (l2 : g.o.length ≤ 2000000) :
    Calls Tryz.prog 39 #[grV g.n ev iv ov] w fun e w' => e = .returned (.tuple #[if grB g = true then grV g.n ev iv ov else zgV, .bool (grB g)]) ∧ w.grownBy w' none := by
  have HV := Lib.hid fun W (hW : w.grownBy W none) => hgValid_any ev iv ov g W (he.carry hW) (hi.carry hW) (ho.carry hW) l0 l1 l2
  obtain ⟨b, hb⟩ : ∃ b, grB g = b := ⟨_, rfl⟩
  rw [hb] at HV ⊢
  obtain ⟨ea, ec, rfl⟩ := he.shape
  obtain ⟨ia, ic, rfl⟩ := hi.shape
  obtain ⟨oa, oc, rfl⟩ := ho.shape
  unfold grV at *
  clear he hi ho hb l0 l1 l2
  generalize g.n = n at *
  generalize g.es.length = ne at *
  generalize g.i.length = ni at *
  generalize g.o.length = no at *
  have HS0 := Lib.hid (((Sep.start w).boxAt w.heap.size rfl #[.int .i64 n, .slice ea ne ec, .slice ia ni ic, .slice oa no oc] 30).boxAt (w.heap.size + 1) (by simp) #[.int .i64 0, .slice none 0 0, .slice none 0 0, .slice none 0 0] 30)
  obtain ⟨x0, x1, x2, x3, _⟩ := gq4 HS0.out.tl.hd
  have HK0 := Lib.hid (show w.grownBy _ none from HS0.out.tl.tl.hd)
  unfold zgV
  cases b
  · go_enter Tryz.func39, Tryz.ntmps39
    go_wp2_with (
      go_at_call 63
      with_reducible refine (HV.out _ HK0.out).mono ?_
      rintro e w3 ⟨rfl, hg⟩
      have hs1 := HS0.out.grown hg
      obtain ⟨y0, y1, y2, y3, f0, f1, f2, f3⟩ := gq4 hs1.hd
      obtain ⟨q0, q1, q2, q3, _⟩ := gq4 hs1.tl.hd
      have hsz := (((hs1.setB 0 (.int .i64 0)).setB 1 (.slice none 0 0)).setB 2 (.slice none 0 0)).setB 3 (.slice none 0 0)
      obtain ⟨z0, z1, z2, z3, _⟩ := gq4 hsz.hd
      have HKF := Lib.hid (show w.grownBy _ none from hsz.tl.tl.hd)
      clear hs1 hsz hg x0 x1 x2 x3)
    refine bodyPost_ret_by (v := .tuple #[.agg #[.int .i64 0, .slice none 0 0, .slice none 0 0, .slice none 0 0], .bool false]) ?_ rfl ⟨rfl, HKF.out⟩
    simp [results, go_sem, *]
  · go_enter Tryz.func39, Tryz.ntmps39
    go_wp2_with (
      go_at_call 63
      with_reducible refine (HV.out _ HK0.out).mono ?_
      rintro e w3 ⟨rfl, hg⟩
      have hs1 := HS0.out.grown hg
      obtain ⟨y0, y1, y2, y3, f0, f1, f2, f3⟩ := gq4 hs1.hd
      obtain ⟨q0, q1, q2, q3, _⟩ := gq4 hs1.tl.hd
      have hsz := (((hs1.setB 0 (.int .i64 n)).setB 1 (.slice ea ne ec)).setB 2 (.slice ia ni ic)).setB 3 (.slice oa no oc)
      obtain ⟨z0, z1, z2, z3, _⟩ := gq4 hsz.hd
      have HKF := Lib.hid (show w.grownBy _ none from hsz.tl.tl.hd)
      clear hs1 hsz hg x0 x1 x2 x3)
    refine bodyPost_ret_by (v := .tuple #[.agg #[.int .i64 n, .slice ea ne ec, .slice ia ni ic, .slice oa no oc], .bool true]) ?_ rfl ⟨rfl, HKF.out⟩
    simp [results, go_sem, *]
theorem tmTop_any (nv : Value) (ns : List Nd) (w : World) (hn : RdR nodeE w nv ns) (h1 : 1 ≤ ns.length) (h2 : ns.length ≤ 2000000) :
    Calls Tryz.prog 36 #[.agg #[nv]] w fun e w' => e = .returned (.int .i64 (ns.getD (ns.length - 1) nd0).k) ∧ w.grownBy w' none := by
  obtain ⟨na, nc, rfl⟩ := hn.shape
  have HN := Lib.hid hn
  obtain ⟨m, hml⟩ : ∃ m, ns.length = m := ⟨_, rfl⟩
  have HML := Lib.hid hml
  rw [hml] at HN h1 h2 ⊢
  obtain ⟨n, hnm⟩ : ∃ n, m - 1 = n := ⟨_, rfl⟩
  rw [hnm]
  have hs0 := (Sep.start w).boxAt w.heap.size rfl #[.slice na m nc] 37
  have hk0 := (show w.grownBy _ none from hs0.tl.hd)
  obtain ⟨nb, no, rfl, _, q0, q1, q2⟩ := (HN.out.carry hk0).node rfl rfl (i := n) (by rw [hml]; omega)
  have x0 := bs1 hs0.hd
  have HK0 := Lib.hid hk0
  generalize ns.getD n nd0 = y at *
  obtain ⟨k, v, s⟩ := y
  simp only at q0 q1 q2 ⊢
  have hwi : IntKind.i64.wrap ((m : Int) - 1) = (n : Int) := by rw [wrap_id (by omega) (by omega)]; omega
  have hbi : (n : Int) < (m : Int) := by omega
  have hbn : n < m := by omega
  clear hs0 hk0 hml hn h1 hnm
  go_enter Tryz.func36, Tryz.ntmps36
  go_wp2_with fail
  go_ret
  exact ⟨rfl, HK0.out⟩
theorem bs1f {w : World} {k : Nat} {x : Value} {t : TypeId} (h : w.heap[k]? = some (.cells #[x] t (0, 0))) : w.cell? ⟨k, 0, none⟩ = some x ∧ w.frozen? ⟨k, 0, none⟩ = false := ⟨cell_of_row w k 0 _ _ _ h, frozen_of_row w k 0 _ _ h⟩
theorem node_oneT (ys : List Nd) : ∀ y ∈ ys, ∀ u ∈ nodeE.cs y, u.oneCell' = true := by
  intro y _ u hu
  simp only [nodeE, nodeC, List.mem_cons, List.not_mem_nil, or_false] at hu
  rcases hu with rfl | rfl | rfl <;> rfl
theorem info_node : (Tryz.prog.info? nodeE.ty).map (fun i => (i.zero, i.size, i.bytes)) = some (some (.agg #[.int .i64 0, .int .i64 0, .string noS]), nodeE.sz, 32) := by kernel_rfl
theorem tmOwn_any (nv : Value) (ns : List Nd) (w : World) (hn : RdR nodeE w nv ns) (hl : ns.length ≤ 2000000) :
    Calls Tryz.prog 62 #[nv] w fun e w' => ∃ a c, e = .returned (.agg #[.slice a ns.length c]) ∧ Sep w' [OR nodeE (.slice a ns.length c) ns, KeepA w] := by
  obtain ⟨na, nc, rfl⟩ := hn.shape
  have HN := Lib.hid hn
  have HL := Lib.hid hl
  have hs0 := (Sep.start w).boxAt w.heap.size rfl #[.slice none 0 0] 37
  have HS1 := Lib.hid (show Sep ((w.alloc (.cells #[.slice none 0 0] 37)).alloc (.cells #[] 66)) _ from Sep.emptyRT nodeE hs0 (w.heap.size + 1) (by simp))
  clear hs0 hn hl
  obtain ⟨n, hnl⟩ : ∃ n, ns.length = n := ⟨_, rfl⟩
  have HNL := Lib.hid hnl
  rw [hnl]
  rw [hnl] at HN HL
  clear hnl
  have HR := Lib.hid (HN.out.carry (show w.grownBy _ none from HS1.out.tl.tl.hd))
  go_enter Tryz.func62, Tryz.ntmps62
  go_wp2_with (
    at_builtin
    go_loud (
    refine app_RsG (E := nodeE) info_node rfl (by decide) Tryz.underlying35 (node_oneT ns) rfl (.tmp 3) (.tmp 4) rfl rfl rfl HS1.out HR.out (by rw [HNL.out]; have := HL.out; simp; omega) ?_
    intro v1 w1 h1
    rw [List.nil_append] at h1
    obtain ⟨ga, gc, rfl⟩ := OwnR.shape (show OwnR nodeE 0 _ v1 ns from h1.hd)
    rw [HNL.out] at h1
    rw [HNL.out]
    have h2 := Sep.blk (A := [_]) (B := [_]) h1
    have f0 := (bs1f h2.hd).1
    have f1 := (bs1f h2.hd).2
    have h3 := h2.setB 0 (.slice ga n gc)
    have f2 := (bs1f h3.hd).1
    have HSF := Lib.hid h3.tl
    clear h1 h2 h3))
  refine bodyPost_ret_by (v := .agg #[.slice ga n gc]) ?_ rfl ⟨_, _, rfl, HSF.out⟩
  simp [results, go_sem, *]
end Go.Proofs.YtjagjhchnpmngaaGreatDoor

/-
  The two parts of a term, in the reference. Conditions: as it says.
-/
namespace Go.Proofs.YtjagjhchnpmngaaGreatDoor
open Go.RowKit
set_option linter.unusedVariables false
set_option linter.unusedSimpArgs false
set_option maxRecDepth 100000

theorem rdr_take {α : Type} {E : Lay α} {w : World} {b o n c c' : Nat} {xs ys : List α} (h : RdR E w (.slice (some ⟨b, o, none⟩) n c) (xs ++ ys)) : RdR E w (.slice (some ⟨b, o, none⟩) xs.length c') xs := by
  refine ⟨_, c', rfl, fun hz => ?_⟩
  obtain ⟨a', cap', he, h⟩ := h
  cases he
  obtain ⟨d, ha, hs, hd, hc⟩ := h (by intro h0; exact hz (List.append_eq_nil_iff.1 h0).1)
  refine ⟨d, ha, hs, hd, fun i hi j hj => ?_⟩
  have h2 := hc i (by rw [List.length_append]; omega) j hj
  rwa [List.getElem_append_left hi] at h2
theorem rdr_drop {α : Type} {E : Lay α} {w : World} {b o n c c' : Nat} {xs ys : List α} (h : RdR E w (.slice (some ⟨b, o, none⟩) n c) (xs ++ ys)) : RdR E w (.slice (some ⟨b, o + xs.length * E.sz, none⟩) ys.length c') ys := by
  refine ⟨_, c', rfl, fun hz => ?_⟩
  obtain ⟨a', cap', he, h⟩ := h
  cases he
  obtain ⟨d, ha, hs, hd, hc⟩ := h (by intro h0; exact hz (List.append_eq_nil_iff.1 h0).2)
  cases ha
  refine ⟨_, rfl, rfl, hd, fun i hi j hj => ?_⟩
  have h2 := hc (xs.length + i) (by rw [List.length_append]; omega) j hj
  rw [List.getElem_append_right (by omega)] at h2
  simp only [Nat.add_sub_cancel_left] at h2
  rw [← h2]
  congr 2
  simp only [Nat.add_mul]
  omega
set_option maxHeartbeats 4000000 in
theorem tmParts_any (na : Option Addr) (nn nc : Nat) (nA nB : List Nd) (x : Nd) (w : World) (hn : RdR nodeE w (.slice na nn nc) (nA ++ (nB ++ [x]))) (hc : nn ≤ nc) (ha : 1 ≤ nA.length) (hb : 1 ≤ nB.length) (hl : nA.length + nB.length ≤ 1000) (ht : tmB (nA ++ (nB ++ [x])) = true)
    (hf : (scF (nA ++ (nB ++ [x])) (nA.length + nB.length + 1)).getD (nA.length + nB.length - 1) 0 = (nA.length : Int)) :
    Calls Tryz.prog 38 #[.agg #[.slice na nn nc]] w fun e w' => ∃ a c a' c', e = .returned (.tuple #[.agg #[.slice a nA.length c], .agg #[.slice a' nB.length c']]) ∧ Sep w' [OR nodeE (.slice a nA.length c) nA, OR nodeE (.slice a' nB.length c') nB, KeepA w] := by
  have HT := Lib.hid fun W (hW : w.grownBy W none) => tmScan_any (.slice na nn nc) _ W (hn.carry hW) (by rw [List.length_append, List.length_append]; simp; omega)
  rw [ht] at HT
  have hnl : (nA ++ (nB ++ [x])).length = nA.length + nB.length + 1 := by rw [List.length_append, List.length_append]; simp; omega
  have HNL := Lib.hid hnl
  obtain ⟨na2, nc2, hsh⟩ := hn.shape
  rw [hnl] at hsh
  injection hsh with e1 e2 e3
  subst e1 e2 e3
  skip
  obtain ⟨nb, no, rfl, _, _⟩ := hn.node rfl rfl (i := 0) (by rw [hnl]; omega)
  have HA0 := Lib.hid fun W (hW : w.grownBy W none) c => tmOwn_any (.slice (some ⟨nb, no, none⟩) nA.length c) nA W (rdr_take (hn.carry hW)) (by omega)
  have HB0 := Lib.hid fun W (hW : w.grownBy W none) c1 c2 => tmOwn_any (.slice (some ⟨nb, no + nA.length * 3, none⟩) nB.length c2) nB W (rdr_take (c := c1) (rdr_drop (hn.carry hW))) (by omega)
  generalize nA ++ (nB ++ [x]) = ns at *
  generalize hA : nA.length = a at *
  generalize hB : nB.length = b at *
  obtain ⟨n2, hn2⟩ : ∃ y, a + b - 1 = y := ⟨_, rfl⟩
  obtain ⟨n1, hn1⟩ : ∃ y, a + b = y := ⟨_, rfl⟩
  rw [hn2] at hf
  generalize hN : a + b + 1 = N at *
  have HF := Lib.hid hf
  have HB1 := Lib.hid (show n1 - a = b from by omega)
  have HNE := Lib.hid (show ¬ nc = a from by omega)
  have w1 : IntKind.i64.wrap ((N : Int) - 1) = (n1 : Int) := by rw [wrap_id (by omega) (by omega)]; omega
  have w2 : IntKind.i64.wrap ((n1 : Int) - 1) = (n2 : Int) := by rw [wrap_id (by omega) (by omega)]; omega
  have k1 : (n2 : Int) < (N : Int) := by omega
  have K2 := Lib.hid (show n2 < N from by omega)
  have HNP := Lib.hid (show 0 < N from by omega)
  have J := Lib.hid (show (a : Int) ≤ (n1 : Int) ∧ (n1 : Int) ≤ (nc : Int) ∧ (a : Int) ≤ (nc : Int) ∧ a ≤ n1 ∧ n1 ≤ nc ∧ a ≤ nc ∧ (a : Int) ≤ (N : Int) ∧ (n1 : Int) ≤ (N : Int) from by omega)
  clear ha hb hl ht hf hn hc hnl hn1 hn2 hN hA hB
  have hs0 := (((Sep.start w).boxAt w.heap.size rfl #[.slice (some ⟨nb, no, none⟩) N nc] 37).boxAt (w.heap.size + 1) (by simp) #[.slice none 0 0] 37).boxAt (w.heap.size + 2) (by simp) #[.slice none 0 0] 37
  have HS0 := Lib.hid hs0
  have HK0 := Lib.hid (show w.grownBy _ none from hs0.tl.tl.tl.hd)
  have x0 := bs1 hs0.tl.tl.hd
  unfold ScanR at HT
  clear hs0
  go_enter Tryz.func38, Tryz.ntmps38
  go_upto_region 2 with (
    go_at_call 32
    with_reducible refine (HT.out _ HK0.out).mono ?_
    rintro e w3 ⟨fa, fn, fc, ia, inn, ic, oa, on, oc, rfl, hq, hg⟩
    have hs3 := HS0.out.graft3 (hq rfl) OI_own OI_own OI_own
    rw [HNL.out] at hs3
    have HS4 := Lib.hid (hs3.boxAt w3.heap.size rfl #[.slice fa fn fc, .slice ia inn ic, .slice oa on oc] 63)
    clear x0
    have x0 := bs1 HS4.out.tl.tl.tl.tl.tl.tl.hd
    clear hs3 hq hg)
  have e1 := own_lenT (show OwnInts 0 _ (.slice fa fn fc) (scF ns N) from HS4.out.tl.hd)
  rw [scF_len] at e1
  have e1 := e1.symm; subst e1
  obtain ⟨fg, hfg⟩ := own_someT (show OwnInts 0 _ (.slice fa N fc) (scF ns N) from HS4.out.tl.hd) (by rw [scF_len]; exact HNP.out)
  subst hfg
  generalize w3.alloc (.cells #[.slice (some ⟨fg, 0, none⟩) N fc, .slice ia inn ic, .slice oa on oc] 63) = w4 at *
  generalize w3.heap.size = xb at *
  obtain ⟨c0, _⟩ := bs3 HS4.out.hd
  have n2c := own_atT (show OwnInts 0 _ _ (scF ns N) from HS4.out.tl.hd) (scF_len ns N).symm K2.out
  rw [HF.out] at n2c
  go_upto_region 4 with fail
  clear c0 n2c x0
  have HSD := Lib.hid HS4.out.dr
  have HBM := Lib.hid fun (W1 : World) (L : List Asrt) (h : Sep W1 L) (h1 : BxA w.heap.size #[.slice (some ⟨nb, no, none⟩) N nc] 37 ∈ L) => show W1.cell? ⟨w.heap.size, 0, none⟩ = some (.slice (some ⟨nb, no, none⟩) N nc) from bs1 (show W1.heap[w.heap.size]? = some (.cells #[.slice (some ⟨nb, no, none⟩) N nc] 37 (0, 0)) from Sep.all h _ h1)
  have X0 := Lib.hid (HBM.out _ _ HSD.out (by simp))
  refine AnyL.start (fun W1 => W1.cell? ⟨w.heap.size, 0, none⟩ = some (.slice (some ⟨nb, no, none⟩) N nc)) (fun _ => True) 99 (by kernel_rfl) ?_
  generalize w4.drew = w5 at *
  obtain ⟨j1, j2, j3, j4, j5, j6, j7, j8⟩ := J.out
  have hne := HNE.out
  obtain rfl := HB1.out
  refine AnyL.take (i := 0) (v := ?vx1) (by rfl) (by kernel_rfl) (by kernel_rfl) (by kernel_rfl) rfl (by exact fun _ _ _ h => h) (by rfl) ?hyx1 (by exact ⟨X0.out, fun _ => trivial⟩) ?restx1
  case hyx1 => intro W hSW; (try dsimp only at hSW); first | (go_simp; done) | (go_simp; with_reducible rfl)
  try simp only [Act.put, List.setIfInBounds_toArray, List.set_cons_zero, List.set_cons_succ]
  refine AnyL.take (i := 1) (v := ?vx2) (by rfl) (by kernel_rfl) (by kernel_rfl) (by kernel_rfl) rfl (by exact fun _ _ _ h => h) (by rfl) ?hyx2 (by exact ⟨X0.out, fun _ => trivial⟩) ?restx2
  case hyx2 => intro W hSW; (try dsimp only at hSW); first | (go_simp; done) | (go_simp; with_reducible rfl)
  try simp only [Act.put, List.setIfInBounds_toArray, List.set_cons_zero, List.set_cons_succ]
  refine AnyL.take (i := 2) (v := ?vx3) (by rfl) (by kernel_rfl) (by kernel_rfl) (by kernel_rfl) rfl (by exact fun _ _ _ h => h) (by rfl) ?hyx3 (by exact ⟨X0.out, fun _ => trivial⟩) ?restx3
  case hyx3 => intro W hSW; (try dsimp only at hSW); first | (go_simp; done) | (go_simp; with_reducible rfl)
  try simp only [Act.put, List.setIfInBounds_toArray, List.set_cons_zero, List.set_cons_succ]
  refine AnyL.take (i := 3) (v := ?vx4) (by rfl) (by kernel_rfl) (by kernel_rfl) (by kernel_rfl) rfl (by exact fun _ _ _ h => h) (by rfl) ?hyx4 (by exact ⟨X0.out, fun _ => trivial⟩) ?restx4
  case hyx4 => intro W hSW; (try dsimp only at hSW); first | (go_simp; done) | (go_simp; with_reducible rfl)
  try simp only [Act.put, List.setIfInBounds_toArray, List.set_cons_zero, List.set_cons_succ]
  refine AnyL.take (i := 5) (v := ?vx5) (by rfl) (by kernel_rfl) (by kernel_rfl) (by kernel_rfl) rfl (by exact fun _ _ _ h => h) (by rfl) ?hyx5 (by exact ⟨X0.out, fun _ => trivial⟩) ?restx5
  case hyx5 => intro W hSW; (try dsimp only at hSW); first | (go_simp; done) | (go_simp; with_reducible rfl)
  try simp only [Act.put, List.setIfInBounds_toArray, List.set_cons_zero, List.set_cons_succ]
  refine AnyL.take (i := 6) (v := ?vx6) (by rfl) (by kernel_rfl) (by kernel_rfl) (by kernel_rfl) rfl (by exact fun _ _ _ h => h) (by rfl) ?hyx6 (by exact ⟨X0.out, fun _ => trivial⟩) ?restx6
  case hyx6 => intro W hSW; (try dsimp only at hSW); first | (go_simp; done) | (go_simp; with_reducible rfl)
  try simp only [Act.put, List.setIfInBounds_toArray, List.set_cons_zero, List.set_cons_succ]
  refine AnyL.take (i := 7) (v := ?vx7) (by rfl) (by kernel_rfl) (by kernel_rfl) (by kernel_rfl) rfl (by exact fun _ _ _ h => h) (by rfl) ?hyx7 (by exact ⟨X0.out, fun _ => trivial⟩) ?restx7
  case hyx7 => intro W hSW; (try dsimp only at hSW); first | (go_simp; done) | (go_simp; with_reducible rfl)
  try simp only [Act.put, List.setIfInBounds_toArray, List.set_cons_zero, List.set_cons_succ]
  refine AnyL.take (i := 8) (v := ?vx8) (by rfl) (by kernel_rfl) (by kernel_rfl) (by kernel_rfl) rfl (by exact fun _ _ _ h => h) (by rfl) ?hyx8 (by exact ⟨X0.out, fun _ => trivial⟩) ?restx8
  case hyx8 => intro W hSW; (try dsimp only at hSW); first | (go_simp; done) | (go_simp; with_reducible rfl)
  try simp only [Act.put, List.setIfInBounds_toArray, List.set_cons_zero, List.set_cons_succ]
  refine AnyL.take (i := 9) (v := ?vx9) (by rfl) (by kernel_rfl) (by kernel_rfl) (by kernel_rfl) rfl (by exact fun _ _ _ h => h) (by rfl) ?hyx9 (by exact ⟨X0.out, fun _ => trivial⟩) ?restx9
  case hyx9 => intro W hSW; (try dsimp only at hSW); first | (go_simp; done) | (go_simp; with_reducible rfl)
  try simp only [Act.put, List.setIfInBounds_toArray, List.set_cons_zero, List.set_cons_succ]
  refine AnyL.step (i := 4) (by kernel_rfl) (by rfl) (fun KK hKK => ?_)
  go_simp
  have HCC := Lib.hid (HA0.out w5 HSD.out.tl.tl.tl.tl.tl.tl.tl.hd nc)
  go_at_call 62
  with_reducible refine HCC.out.mono ?_
  rintro e w6 ⟨ga, gc, rfl, hsg⟩
  have HSA := Lib.hid (HSD.out.graft1 hsg fun _ h => h)
  clear hsg
  refine hKK.out _ _ (by exact HBM.out _ _ HSA.out (by simp)) (by exact fun _ => trivial) ?_
  clear hKK KK
  try simp only [Act.put, List.setIfInBounds_toArray, List.set_cons_zero, List.set_cons_succ]
  refine AnyL.step (i := 10) (by kernel_rfl) (by rfl) (fun KK hKK => ?_)
  go_simp
  have HCC := Lib.hid (HB0.out w6 HSA.out.tl.tl.tl.tl.tl.tl.tl.tl.hd 0 (nc - a))
  go_at_call 62
  with_reducible refine HCC.out.mono ?_
  rintro e w7 ⟨ha, hc, rfl, hsg⟩
  have h0 := Sep.blk (A := [_]) (B := [_]) (HSA.out.graft1 hsg fun _ h => h)
  have h1 := Sep.cutA (X := [_, _]) (A := [_, _, _, _]) h0
  have HSB := Lib.hid h1
  clear hsg h0 h1
  refine hKK.out _ _ (by exact HBM.out _ _ HSB.out (by simp)) (by exact fun _ => trivial) ?_
  clear hKK KK
  try simp only [Act.put, List.setIfInBounds_toArray, List.set_cons_zero, List.set_cons_succ]
  have h2 := Sep.blk (A := [_, _, _]) (B := [_]) HSB.out
  obtain ⟨y0, f0⟩ := bs1f h2.hd
  have HSC := Lib.hid (h2.setB 0 (.slice ga a gc))
  clear h2
  refine AnyL.step (i := 11) (by kernel_rfl) (by rfl) (fun KK hKK => ?_)
  go_simp
  refine hKK.out _ (w7.setCell ⟨w.heap.size + 1, 0, none⟩ (.slice ga a gc)) (by exact HBM.out _ _ HSC.out (by simp)) (by exact fun _ => trivial) ?_
  clear hKK KK
  try simp only [Act.put, List.setIfInBounds_toArray, List.set_cons_zero, List.set_cons_succ]
  clear y0 f0
  generalize w7.setCell ⟨w.heap.size + 1, 0, none⟩ (.slice ga a gc) = w8 at *
  have h2 := Sep.blk (A := [_, _, _]) (B := [_]) HSC.out
  obtain ⟨y0, f0⟩ := bs1f h2.hd
  have HSE := Lib.hid (h2.setB 0 (.slice ha (n1 - a) hc))
  clear h2
  refine AnyL.step (i := 12) (by kernel_rfl) (by rfl) (fun KK hKK => ?_)
  go_simp
  refine hKK.out _ (w8.setCell ⟨w.heap.size + 2, 0, none⟩ (.slice ha (n1 - a) hc)) (by exact HBM.out _ _ HSE.out (by simp)) (by exact fun _ => trivial) ?_
  clear hKK KK
  try simp only [Act.put, List.setIfInBounds_toArray, List.set_cons_zero, List.set_cons_succ]
  refine AnyL.done (by kernel_rfl) ?_ _
  clear y0 f0
  have z2 := bs1 HSE.out.hd
  have z1 := bs1 HSE.out.tl.hd
  have HSF := Lib.hid (Sep.cutA (X := [_, _]) (A := [_]) HSE.out.tl.tl)
  go_wp2_with fail
  refine bodyPost_ret_by (v := .tuple #[.agg #[.slice ga a gc], .agg #[.slice ha (n1 - a) hc]]) ?_ rfl ⟨_, _, _, _, rfl, HSF.out⟩
  simp [results, go_sem, *]
end Go.Proofs.YtjagjhchnpmngaaGreatDoor

/-
  Two graphs one behind the other, in the reference. Conditions: both are valid, and they fit.
-/
namespace Go.Proofs.YtjagjhchnpmngaaGreatDoor
open Go.RowKit
set_option linter.unusedVariables false
set_option linter.unusedSimpArgs false
set_option maxRecDepth 100000

theorem own_room {B : Nat} {w : World} {a : Option Addr} {n c : Nat} {zs : List Int} (h : OwnInts B w (.slice a n c) zs) : n = zs.length ∧ n ≤ c := by
  rcases h.2 with ⟨he, h0⟩ | ⟨g, cap, cur, he, _, _, hc, hr, _⟩
  · injection he with _ h1 h2; omega
  · injection he with _ h1 h2; subst h1 h2; exact ⟨rfl, by omega⟩
theorem ints_take {w : World} {a : Option Addr} {n c c' : Nat} {zs : List Int} (h : IntsV w (.slice a n c) zs) {k : Nat} (hk : k ≤ zs.length) : IntsV w (.slice a k c') (zs.take k) := by
  obtain ⟨a0, c0, he, hi⟩ := h
  cases he
  refine ⟨a, c', by rw [List.length_take, Nat.min_eq_left hk], fun hz => ?_⟩
  obtain ⟨d, had, hs, hd, hr⟩ := hi (fun e => hz (by rw [e]; simp))
  refine ⟨d, had, hs, hd, fun i hi' => ?_⟩
  have h2 : i < zs.length := by rw [List.length_take] at hi'; omega
  rw [List.getElem_take]
  exact hr i h2
theorem ints_drop {w : World} {a : Option Addr} {n c : Nat} {zs : List Int} (h : IntsV w (.slice a n c) zs) {l : Nat} (hl : l ≤ n) (hc : n ≤ c) (c' : Nat) : IntsV w (.slice (if c = l then a else a.map fun x => x.add l) (n - l) c') (zs.drop l) := by
  obtain ⟨a0, c0, he, hi⟩ := h
  cases he
  have hlen : (zs.drop l).length = zs.length - l := List.length_drop
  refine ⟨_, c', by rw [hlen], fun hz => ?_⟩
  have hlt : l < zs.length := by
    rcases Nat.lt_or_ge l zs.length with h | h
    · exact h
    · exact absurd (List.drop_eq_nil_of_le h) hz
  obtain ⟨d, had, hs, hd, hr⟩ := hi (by intro h; rw [h] at hlt; simp at hlt)
  obtain ⟨db, dof, ds⟩ := d
  simp only at hs hd hr
  subst hs
  subst had
  rw [if_neg (by omega)]
  refine ⟨_, rfl, ?_, ?_, fun i hi' => ?_⟩
  · unfold Addr.add; split <;> rfl
  · unfold Addr.add; split <;> exact hd
  · have h2 : l + i < zs.length := by rw [hlen] at hi'; omega
    have h3 := hr (l + i) h2
    have e : (zs.drop l)[i] = zs[l + i] := by rw [List.getElem_drop]
    rw [e]
    have e2 : (Addr.add ⟨db, dof, none⟩ l).block = db := by unfold Addr.add; split <;> rfl
    have e3 : (Addr.add ⟨db, dof, none⟩ l).off = dof + l := by unfold Addr.add; split <;> simp_all
    rw [e2, e3, show dof + l + i = dof + (l + i) by omega]
    exact h3
set_option maxHeartbeats 4000000 in
theorem hgSeq_any (a b : Gr) (ev iv ov ev' iv' ov' : Value) (w : World) (he : RdE edgeE w ev a.es) (hi : IntsV w iv a.i) (ho : IntsV w ov a.o) (he' : RdE edgeE w ev' b.es) (hi' : IntsV w iv' b.i) (ho' : IntsV w ov' b.o) (hga : grB a = true) (hgb : grB b = true) (hl : a.o.length = b.i.length) :
    Calls Tryz.prog 40 #[grV a.n ev iv ov, grV b.n ev' iv' ov'] w (OwnG (seqG a b) w) := by
  obtain ⟨n, hn, hn1, a1, a2, a3, a4, a5, _⟩ := grB_n hga
  obtain ⟨m, hm, hm1, b1, b2, b3, b4, b5, _⟩ := grB_n hgb
  have hk := seq_ok hga hgb hn hm hl
  have hsh : shL a b = frL n m := by unfold shL; rw [hn, hm]; rfl
  have HBS := Lib.hid fun W (hW : w.grownBy W none) => hgBeside_any a b ev iv ov ev' iv' ov' W (he.carry hW) (hi.carry hW) (ho.carry hW) (he'.carry hW) (hi'.carry hW) (ho'.carry hW) hga hgb
  have HGL := Lib.hid fun u0 u1 u2 av bv W (h1 : RdE edgeE W u0 (seqI a b).es) (h2 : IntsV W u1 (seqI a b).i) (h3 : IntsV W u2 (seqI a b).o) (h4 : IntsV W av ((seqP a b).map Prod.fst)) (h5 : IntsV W bv ((seqP a b).map Prod.snd)) => hgGlue_any u0 u1 u2 (seqI a b) (n + m) av bv (seqP a b) W h1 h2 h3 h4 h5 hk
  rw [seq_fst hl, seq_snd hl] at HGL
  unfold GluedG at HGL
  have hsg : seqG a b = glueG (classOf (n + m) (seqP a b)) (seqI a b) := by unfold seqG; rw [hn, hm]; rfl
  rw [hsg]
  generalize glueG (classOf (n + m) (seqP a b)) (seqI a b) = G at *
  rw [show (seqI a b).es = a.es ++ b.es.map (mapE (shL a b)) from rfl, show (seqI a b).i = a.i from rfl, show (seqI a b).o = b.o.map (ofL (shL a b)) from rfl, show (seqI a b).n = a.n + b.n from rfl, hn, hm, hsh] at HGL
  unfold OwnG at HBS ⊢
  rw [show (parG a b).es = a.es ++ b.es.map (mapE (shL a b)) from rfl, show (parG a b).i = a.i ++ b.i.map (ofL (shL a b)) from rfl, show (parG a b).o = a.o ++ b.o.map (ofL (shL a b)) from rfl, show (parG a b).n = a.n + b.n from rfl, hn, hm, hsh] at HBS
  have hll : a.i.length ≤ 100 ∧ a.o.length ≤ 100 ∧ (b.i.map (ofL (frL n m))).length ≤ 100 ∧ (b.o.map (ofL (frL n m))).length ≤ 100 := by simp only [List.length_map]; omega
  have HLL := Lib.hid hll
  generalize a.es ++ b.es.map (mapE (frL n m)) = es at *
  generalize b.i.map (ofL (frL n m)) = bi at *
  generalize b.o.map (ofL (frL n m)) = bo at *
  have HOW := Lib.hid fun v W zs (h : IntsV W v zs) (hz : zs.length ≤ 100) => l1Own_any v zs W h (by omega)
  unfold grV at *
  rw [hn, hm]
  obtain ⟨ea, ec, rfl⟩ := he.shape
  obtain ⟨ia, ic, rfl⟩ := hi.shape
  obtain ⟨oa, oc, rfl⟩ := ho.shape
  obtain ⟨eb, fc, rfl⟩ := he'.shape
  obtain ⟨ib, gc, rfl⟩ := hi'.shape
  obtain ⟨ob, hc, rfl⟩ := ho'.shape
  obtain ⟨ne, hne⟩ : ∃ x, a.es.length = x := ⟨_, rfl⟩
  obtain ⟨ni, hni⟩ : ∃ x, a.i.length = x := ⟨_, rfl⟩
  obtain ⟨no, hno⟩ : ∃ x, a.o.length = x := ⟨_, rfl⟩
  obtain ⟨me, hme⟩ : ∃ x, b.es.length = x := ⟨_, rfl⟩
  obtain ⟨mi, hmi⟩ : ∃ x, b.i.length = x := ⟨_, rfl⟩
  obtain ⟨mo, hmo⟩ : ∃ x, b.o.length = x := ⟨_, rfl⟩
  rw [hne, hni, hno, hme, hmi, hmo] at HBS ⊢
  have HNI := Lib.hid hni; have HNO := Lib.hid hno
  clear he hi ho he' hi' ho' hga hgb hsh hsg a1 a2 a3 a4 a5 b1 b2 b3 b4 b5 hn hm hn1 hm1 hne hni hno hme hmi hmo hk hl hll
  have hs0 := (((Sep.start w).boxAt w.heap.size rfl #[.int .i64 n, .slice ea ne ec, .slice ia ni ic, .slice oa no oc] 30).boxAt (w.heap.size + 1) (by simp) #[.int .i64 m, .slice eb me fc, .slice ib mi gc, .slice ob mo hc] 30).boxAt (w.heap.size + 2) (by simp) #[.int .i64 0, .slice none 0 0, .slice none 0 0, .slice none 0 0] 30
  have HS0 := Lib.hid hs0
  obtain ⟨x0, x1, x2, x3, _⟩ := gq4 hs0.tl.tl.hd
  obtain ⟨y0, y1, y2, y3, _⟩ := gq4 hs0.tl.hd
  have HK0 := Lib.hid (show w.grownBy _ none from hs0.tl.tl.tl.hd)
  clear hs0
  go_enter Tryz.func40, Tryz.ntmps40
  go_upto_region 2 with (
    go_at_call 64
    with_reducible refine (HBS.out _ HK0.out).mono ?_
    rintro e w5 ⟨u0, xs, u1, u2, rfl, hx, hsg⟩
    have HX := Lib.hid hx
    obtain ⟨t0, v0, rfl⟩ := OE.shape hsg.hd
    obtain ⟨t1, v1, rfl⟩ := own_shape (show OwnInts 0 _ u1 (a.i ++ bi) from hsg.tl.hd)
    obtain ⟨t2, v2, rfl⟩ := own_shape (show OwnInts 0 _ u2 (a.o ++ bo) from hsg.tl.tl.hd)
    have hr1 := (own_room (show OwnInts 0 _ _ (a.i ++ bi) from hsg.tl.hd)).2
    have hr2 := (own_room (show OwnInts 0 _ _ (a.o ++ bo) from hsg.tl.tl.hd)).2
    obtain ⟨q0, hq0⟩ : ∃ q, xs.length = q := ⟨_, rfl⟩
    obtain ⟨q1, hq1⟩ : ∃ q, (a.i ++ bi).length = q := ⟨_, rfl⟩
    obtain ⟨q2, hq2⟩ : ∃ q, (a.o ++ bo).length = q := ⟨_, rfl⟩
    rw [hq0, hq1, hq2] at hsg
    rw [hq1] at hr1
    rw [hq2] at hr2
    rw [hq0, hq1, hq2]
    have HQ := Lib.hid (show ni ≤ q1 ∧ no ≤ q2 from by rw [← hq1, ← hq2, List.length_append, List.length_append, HNI.out, HNO.out]; omega)
    have HS1 := Lib.hid ((HS0.out.graft3 hsg OE_own OI_own OI_own).boxAt w5.heap.size rfl #[.int .i64 ((n : Int) + m), .slice t0 q0 v0, .slice t1 q1 v1, .slice t2 q2 v2] 30)
    clear hx hsg hq0 hq1 hq2 x0 x1 x2 x3 y0 y1 y2 y3)
  generalize w5.alloc (.cells #[.int .i64 ((n : Int) + m), .slice t0 q0 v0, .slice t1 q1 v1, .slice t2 q2 v2] 30) = w6 at *
  generalize w5.heap.size = b5 at *
  have HR := Lib.hid (And.intro hr1 hr2)
  clear hr1 hr2
  have HBM := Lib.hid fun (W1 : World) (L : List Asrt) (h : Sep W1 L) (h1 : BxA w.heap.size #[.int .i64 n, .slice ea ne ec, .slice ia ni ic, .slice oa no oc] 30 ∈ L) => show W1.cell? ⟨w.heap.size, 2, none⟩ = some (.slice ia ni ic) ∧ W1.cell? ⟨w.heap.size, 3, none⟩ = some (.slice oa no oc) from by
    obtain ⟨_, _, p2, p3, _⟩ := gq4 (show W1.heap[w.heap.size]? = some (.cells #[.int .i64 n, .slice ea ne ec, .slice ia ni ic, .slice oa no oc] 30 (0, 0)) from Sep.all h _ h1)
    exact ⟨p2, p3⟩
  have HSD := Lib.hid HS1.out.dr
  have X0 := Lib.hid (HBM.out _ _ HSD.out (by simp))
  refine AnyL.start (fun W1 => W1.cell? ⟨w.heap.size, 2, none⟩ = some (.slice ia ni ic) ∧ W1.cell? ⟨w.heap.size, 3, none⟩ = some (.slice oa no oc)) (fun _ => True) 99 (by kernel_rfl) ?_
  generalize w6.drew = w7 at *
  refine AnyL.take (i := 0) (v := ?vx1) (by rfl) (by kernel_rfl) (by kernel_rfl) (by kernel_rfl) rfl (by exact fun _ _ _ h => h) (by rfl) ?hyx1 (by exact ⟨X0.out, fun _ => trivial⟩) ?restx1
  case hyx1 => intro W hSW; (try dsimp only at hSW); first | (go_simp; done) | (go_simp; with_reducible rfl)
  try simp only [Act.put, List.setIfInBounds_toArray, List.set_cons_zero, List.set_cons_succ]
  refine AnyL.take (i := 1) (v := ?vx2) (by rfl) (by kernel_rfl) (by kernel_rfl) (by kernel_rfl) rfl (by exact fun _ _ _ h => h) (by rfl) ?hyx2 (by exact ⟨X0.out, fun _ => trivial⟩) ?restx2
  case hyx2 => intro W hSW; (try dsimp only at hSW); first | (go_simp; done) | (go_simp; with_reducible rfl)
  try simp only [Act.put, List.setIfInBounds_toArray, List.set_cons_zero, List.set_cons_succ]
  refine AnyL.take (i := 2) (v := ?vx3) (by rfl) (by kernel_rfl) (by kernel_rfl) (by kernel_rfl) rfl (by exact fun _ _ _ h => h) (by rfl) ?hyx3 (by exact ⟨X0.out, fun _ => trivial⟩) ?restx3
  case hyx3 => intro W hSW; (try dsimp only at hSW); first | (go_simp; done) | (go_simp; with_reducible rfl)
  try simp only [Act.put, List.setIfInBounds_toArray, List.set_cons_zero, List.set_cons_succ]
  refine AnyL.take (i := 3) (v := ?vx4) (by rfl) (by kernel_rfl) (by kernel_rfl) (by kernel_rfl) rfl (by exact fun _ _ _ h => h) (by rfl) ?hyx4 (by exact ⟨X0.out, fun _ => trivial⟩) ?restx4
  case hyx4 => intro W hSW; (try dsimp only at hSW); first | (go_simp; done) | (go_simp; with_reducible rfl)
  try simp only [Act.put, List.setIfInBounds_toArray, List.set_cons_zero, List.set_cons_succ]
  refine AnyL.take (i := 4) (v := ?vx5) (by rfl) (by kernel_rfl) (by kernel_rfl) (by kernel_rfl) rfl (by exact fun _ _ _ h => h) (by rfl) ?hyx5 (by exact ⟨X0.out, fun _ => trivial⟩) ?restx5
  case hyx5 => intro W hSW; (try dsimp only at hSW); first | (go_simp; done) | (go_simp; with_reducible rfl)
  try simp only [Act.put, List.setIfInBounds_toArray, List.set_cons_zero, List.set_cons_succ]
  refine AnyL.take (i := 5) (v := ?vx6) (by rfl) (by kernel_rfl) (by kernel_rfl) (by kernel_rfl) rfl (by exact fun _ _ _ h => h) (by rfl) ?hyx6 (by exact ⟨X0.out, fun _ => trivial⟩) ?restx6
  case hyx6 => intro W hSW; (try dsimp only at hSW); first | (go_simp; done) | (go_simp; with_reducible rfl)
  try simp only [Act.put, List.setIfInBounds_toArray, List.set_cons_zero, List.set_cons_succ]
  refine AnyL.take (i := 6) (v := ?vx7) (by rfl) (by kernel_rfl) (by kernel_rfl) (by kernel_rfl) rfl (by exact fun _ _ _ h => h) (by rfl) ?hyx7 (by exact ⟨X0.out, fun _ => trivial⟩) ?restx7
  case hyx7 => intro W hSW; (try dsimp only at hSW); first | (go_simp; done) | (go_simp; with_reducible rfl)
  try simp only [Act.put, List.setIfInBounds_toArray, List.set_cons_zero, List.set_cons_succ]
  refine AnyL.take (i := 7) (v := ?vx8) (by rfl) (by kernel_rfl) (by kernel_rfl) (by kernel_rfl) rfl (by exact fun _ _ _ h => h) (by rfl) ?hyx8 (by exact ⟨X0.out, fun _ => trivial⟩) ?restx8
  case hyx8 => intro W hSW; (try dsimp only at hSW); first | (go_simp; done) | (go_simp; with_reducible rfl)
  try simp only [Act.put, List.setIfInBounds_toArray, List.set_cons_zero, List.set_cons_succ]
  refine AnyL.done (by kernel_rfl) ?_ _
  clear X0 HBM HS1
  go_upto_region 3 with fail
  have hq := HQ.out; have hr := HR.out
  have j1 : (0 : Int) ≤ (no : Int) := by omega
  have j2 : (no : Int) ≤ (v2 : Int) := by omega
  have j3 : no ≤ v2 := by omega
  have j4 : (ni : Int) ≤ (q1 : Int) := by omega
  have j5 : (q1 : Int) ≤ (v1 : Int) := by omega
  have j6 : (0 : Int) ≤ (ni : Int) := by omega
  have j7 : ni ≤ q1 := by omega
  have j8 : q1 ≤ v1 := by omega
  clear hq hr
  have HBN := Lib.hid fun (W1 : World) (L : List Asrt) (h : Sep W1 L) (h1 : BxA b5 #[.int .i64 ((n : Int) + m), .slice t0 q0 v0, .slice t1 q1 v1, .slice t2 q2 v2] 30 ∈ L) => show W1.cell? ⟨b5, 2, none⟩ = some (.slice t1 q1 v1) ∧ W1.cell? ⟨b5, 3, none⟩ = some (.slice t2 q2 v2) from by
    obtain ⟨_, _, p2, p3, _⟩ := gq4 (show W1.heap[b5]? = some (.cells #[.int .i64 ((n : Int) + m), .slice t0 q0 v0, .slice t1 q1 v1, .slice t2 q2 v2] 30 (0, 0)) from Sep.all h _ h1)
    exact ⟨p2, p3⟩
  have HMI := Lib.hid fun (W : World) (h : OwnInts 0 W (.slice t2 q2 v2) (a.o ++ bo)) => HOW.out (.slice t2 no v2) W a.o (by have h1 := ints_take h.read (k := no) (c' := v2) (by rw [List.length_append, HNO.out]; omega); rwa [List.take_left' HNO.out] at h1) HLL.out.2.1
  have HNX := Lib.hid fun (W : World) (h : OwnInts 0 W (.slice t1 q1 v1) (a.i ++ bi)) => HOW.out (.slice (if v1 = ni then t1 else Option.map (fun x => x.add ni) t1) (q1 - ni) (v1 - ni)) W bi (by have h1 := ints_drop h.read (l := ni) j7 j8 (v1 - ni); rwa [List.drop_left' HNI.out] at h1) HLL.out.2.2.1
  rw [HNO.out] at HMI
  obtain ⟨lb, hlb⟩ : ∃ x, bi.length = x := ⟨_, rfl⟩
  rw [hlb] at HNX
  clear hlb
  have HSE := Lib.hid HSD.out.dr
  have X1 := Lib.hid (HBN.out _ _ HSE.out (by simp))
  refine AnyL.start (fun W1 => W1.cell? ⟨b5, 2, none⟩ = some (.slice t1 q1 v1) ∧ W1.cell? ⟨b5, 3, none⟩ = some (.slice t2 q2 v2)) (fun _ => True) 99 (by kernel_rfl) ?_
  generalize w7.drew = w8 at *
  refine AnyL.take (i := 0) (v := ?vx9) (by rfl) (by kernel_rfl) (by kernel_rfl) (by kernel_rfl) rfl (by exact fun _ _ _ h => h) (by rfl) ?hyx9 (by exact ⟨X1.out, fun _ => trivial⟩) ?restx9
  case hyx9 => intro W hSW; (try dsimp only at hSW); first | (go_simp; done) | (go_simp; with_reducible rfl)
  try simp only [Act.put, List.setIfInBounds_toArray, List.set_cons_zero, List.set_cons_succ]
  refine AnyL.take (i := 1) (v := ?vx10) (by rfl) (by kernel_rfl) (by kernel_rfl) (by kernel_rfl) rfl (by exact fun _ _ _ h => h) (by rfl) ?hyx10 (by exact ⟨X1.out, fun _ => trivial⟩) ?restx10
  case hyx10 => intro W hSW; (try dsimp only at hSW); first | (go_simp; done) | (go_simp; with_reducible rfl)
  try simp only [Act.put, List.setIfInBounds_toArray, List.set_cons_zero, List.set_cons_succ]
  refine AnyL.take (i := 2) (v := ?vx11) (by rfl) (by kernel_rfl) (by kernel_rfl) (by kernel_rfl) rfl (by exact fun _ _ _ h => h) (by rfl) ?hyx11 (by exact ⟨X1.out, fun _ => trivial⟩) ?restx11
  case hyx11 => intro W hSW; (try dsimp only at hSW); first | (go_simp; done) | (go_simp; with_reducible rfl)
  try simp only [Act.put, List.setIfInBounds_toArray, List.set_cons_zero, List.set_cons_succ]
  refine AnyL.take (i := 3) (v := ?vx12) (by rfl) (by kernel_rfl) (by kernel_rfl) (by kernel_rfl) rfl (by exact fun _ _ _ h => h) (by rfl) ?hyx12 (by exact ⟨X1.out, fun _ => trivial⟩) ?restx12
  case hyx12 => intro W hSW; (try dsimp only at hSW); first | (go_simp; done) | (go_simp; with_reducible rfl)
  try simp only [Act.put, List.setIfInBounds_toArray, List.set_cons_zero, List.set_cons_succ]
  refine AnyL.take (i := 5) (v := ?vx13) (by rfl) (by kernel_rfl) (by kernel_rfl) (by kernel_rfl) rfl (by exact fun _ _ _ h => h) (by rfl) ?hyx13 (by exact ⟨X1.out, fun _ => trivial⟩) ?restx13
  case hyx13 => intro W hSW; (try dsimp only at hSW); first | (go_simp; done) | (go_simp; with_reducible rfl)
  try simp only [Act.put, List.setIfInBounds_toArray, List.set_cons_zero, List.set_cons_succ]
  refine AnyL.take (i := 6) (v := ?vx14) (by rfl) (by kernel_rfl) (by kernel_rfl) (by kernel_rfl) rfl (by exact fun _ _ _ h => h) (by rfl) ?hyx14 (by exact ⟨X1.out, fun _ => trivial⟩) ?restx14
  case hyx14 => intro W hSW; (try dsimp only at hSW); first | (go_simp; done) | (go_simp; with_reducible rfl)
  try simp only [Act.put, List.setIfInBounds_toArray, List.set_cons_zero, List.set_cons_succ]
  refine AnyL.take (i := 7) (v := ?vx15) (by rfl) (by kernel_rfl) (by kernel_rfl) (by kernel_rfl) rfl (by exact fun _ _ _ h => h) (by rfl) ?hyx15 (by exact ⟨X1.out, fun _ => trivial⟩) ?restx15
  case hyx15 => intro W hSW; (try dsimp only at hSW); first | (go_simp; done) | (go_simp; with_reducible rfl)
  try simp only [Act.put, List.setIfInBounds_toArray, List.set_cons_zero, List.set_cons_succ]
  refine AnyL.take (i := 8) (v := ?vx16) (by rfl) (by kernel_rfl) (by kernel_rfl) (by kernel_rfl) rfl (by exact fun _ _ _ h => h) (by rfl) ?hyx16 (by exact ⟨X1.out, fun _ => trivial⟩) ?restx16
  case hyx16 => intro W hSW; (try dsimp only at hSW); first | (go_simp; done) | (go_simp; with_reducible rfl)
  try simp only [Act.put, List.setIfInBounds_toArray, List.set_cons_zero, List.set_cons_succ]
  generalize (if v1 = ni then t1 else Option.map (fun x => x.add ni) t1) = t1d at *
  refine AnyL.step (i := 4) (by kernel_rfl) (by rfl) (fun KK hKK => ?_)
  go_simp
  have HCC := Lib.hid (HMI.out w8 (HSE.out.tl.tl.tl.hd))
  go_at_call 65
  with_reducible refine HCC.out.mono ?_
  rintro e wa ⟨aM, cM, rfl, hsg⟩
  have HSa := Lib.hid (HSE.out.graft1 hsg OI_own)
  clear hsg
  refine hKK.out _ _ (by exact HBN.out _ _ HSa.out (by simp)) (by exact fun _ => trivial) ?_
  clear hKK KK
  try simp only [Act.put, List.setIfInBounds_toArray, List.set_cons_zero, List.set_cons_succ]
  refine AnyL.step (i := 9) (by kernel_rfl) (by rfl) (fun KK hKK => ?_)
  go_simp
  have HCC := Lib.hid (HNX.out wa (HSa.out.tl.tl.tl.hd))
  go_at_call 65
  with_reducible refine HCC.out.mono ?_
  rintro e wb ⟨aX, cX, rfl, hsg⟩
  have HSb := Lib.hid (HSa.out.graft1 hsg OI_own)
  clear hsg
  refine hKK.out _ _ (by exact HBN.out _ _ HSb.out (by simp)) (by exact fun _ => trivial) ?_
  clear hKK KK
  try simp only [Act.put, List.setIfInBounds_toArray, List.set_cons_zero, List.set_cons_succ]
  have HSM := Lib.hid (Sep.blk (A := [_]) (B := [_]) HSb.out)
  refine AnyL.take (i := 10) (v := ?vx17) (by rfl) (by kernel_rfl) (by kernel_rfl) (by kernel_rfl) rfl (by exact fun _ _ _ h => h) (by rfl) ?hyx17 (by exact ⟨HBN.out _ _ HSM.out (by simp), fun _ => trivial⟩) ?restx17
  case hyx17 => intro W hSW; (try dsimp only at hSW); first | (go_simp; done) | (go_simp; with_reducible rfl)
  try simp only [Act.put, List.setIfInBounds_toArray, List.set_cons_zero, List.set_cons_succ]
  refine AnyL.take (i := 11) (v := ?vx18) (by rfl) (by kernel_rfl) (by kernel_rfl) (by kernel_rfl) rfl (by exact fun _ _ _ h => h) (by rfl) ?hyx18 (by exact ⟨HBN.out _ _ HSM.out (by simp), fun _ => trivial⟩) ?restx18
  case hyx18 => intro W hSW; (try dsimp only at hSW); first | (go_simp; done) | (go_simp; with_reducible rfl)
  try simp only [Act.put, List.setIfInBounds_toArray, List.set_cons_zero, List.set_cons_succ]
  refine AnyL.done (by kernel_rfl) ?_ _
  clear HSE HSD X1 HBN
  have hq := HQ.out; have hr := HR.out
  have k1 : (ni : Int) ≤ (v1 : Int) := by omega
  have k2 : ni ≤ v1 := by omega
  have k3 : (no : Int) ≤ (q2 : Int) := by omega
  have k4 : (q2 : Int) ≤ (v2 : Int) := by omega
  have k5 : no ≤ q2 := by omega
  have k6 : q2 ≤ v2 := by omega
  have K5 := Lib.hid k5; have K6 := Lib.hid k6
  clear hq hr
  have h6 := Sep.blk (A := [_, _]) (B := [_]) HSM.out
  obtain ⟨x0, x1, x2, x3, g0, g1, g2, g3⟩ := gq4 h6.hd
  have H7 := Lib.hid (h6.setB 2 (.slice t1 ni v1))
  clear h6
  go_upto_region 5 with fail
  clear x0 x1 x2 x3 g0 g1 g2 g3
  generalize wb.setCell ⟨b5, 2, none⟩ (.slice t1 ni v1) = wc at *
  obtain ⟨x0, x1, x2, x3, g0, g1, g2, g3⟩ := gq4 H7.out.hd
  have H8 := Lib.hid (H7.out.setB 3 (.slice (if v2 = no then t2 else Option.map (fun x => x.add no) t2) (q2 - no) (v2 - no)))
  go_upto_region 6 with fail
  clear x0 x1 x2 x3 g0 g1 g2 g3
  generalize wc.setCell ⟨b5, 3, none⟩ (.slice (if v2 = no then t2 else Option.map (fun x => x.add no) t2) (q2 - no) (v2 - no)) = wd at *
  have hO := ints_drop (show OwnInts 0 wd _ (a.o ++ bo) from H8.out.tl.tl.tl.tl.tl.hd).read (l := no) K5.out K6.out (v2 - no)
  rw [List.drop_left' HNO.out] at hO
  generalize (if v2 = no then t2 else Option.map (fun x => x.add no) t2) = t2d at *
  obtain ⟨x0, x1, x2, x3, _⟩ := gq4 H8.out.hd
  have h8 := H8.out
  have hI := ints_take (show OwnInts 0 wd _ (a.i ++ bi) from h8.tl.tl.tl.tl.hd).read (k := ni) (c' := v1) (by rw [List.length_append, HNI.out]; omega)
  rw [List.take_left' HNI.out] at hI
  have hE : RdE edgeE wd (.slice t0 q0 v0) es := by rw [← HX.out]; exact OE.read h8.tl.tl.tl.hd
  have HC := Lib.hid (HGL.out _ _ _ _ _ wd hE hI hO (show OwnInts 0 wd _ a.o from h8.tl.hd).read (show OwnInts 0 wd _ bi from h8.tl.tl.hd).read)
  clear h8 hE hI hO
  go_wp2_with (
    go_at_call 66
    with_reducible refine HC.out.mono ?_
    rintro e we ⟨u0, ys, u1, u2, rfl, hy, hsg⟩
    have HY := Lib.hid hy
    obtain ⟨s0, r0, rfl⟩ := OE.shape hsg.hd
    obtain ⟨s1, r1, rfl⟩ := own_shape (show OwnInts 0 _ u1 G.i from hsg.tl.hd)
    obtain ⟨s2, r2, rfl⟩ := own_shape (show OwnInts 0 _ u2 G.o from hsg.tl.tl.hd)
    obtain ⟨z0, hz0⟩ : ∃ q, ys.length = q := ⟨_, rfl⟩
    obtain ⟨z1, hz1⟩ : ∃ q, G.i.length = q := ⟨_, rfl⟩
    obtain ⟨z2, hz2⟩ : ∃ q, G.o.length = q := ⟨_, rfl⟩
    rw [hz0, hz1, hz2] at hsg
    rw [hz0, hz1, hz2]
    have hs1 := Sep.blk (A := [_, _, _, _, _, _, _, _, _]) (B := [_]) (H8.out.graft3 hsg OE_own OI_own OI_own)
    obtain ⟨_, _, _, _, p4, p5, p6, p7⟩ := gq4 hs1.hd
    have hs2 := (((hs1.setB 0 (.int .i64 G.n)).setB 1 (.slice s0 z0 r0)).setB 2 (.slice s1 z1 r1)).setB 3 (.slice s2 z2 r2)
    obtain ⟨l0, l1, l2, l3, _⟩ := gq4 hs2.hd
    have HSF := Lib.hid (Sep.cutA (X := [_, _, _]) (A := [_, _, _, _, _, _, _, _]) hs2.tl)
    clear hsg hs1 hs2 hy hz0 hz1 hz2 x0 x1 x2 x3)
  refine bodyPost_ret_by (v := .agg #[.int .i64 G.n, .slice s0 z0 r0, .slice s1 z1 r1, .slice s2 z2 r2]) ?_ rfl ⟨_, ys, _, _, rfl, HY.out, HSF.out⟩
  simp [results, go_sem, *]
end Go.Proofs.YtjagjhchnpmngaaGreatDoor

/-
 The graph of a leaf, in the reference. Conditions: it is a leaf.
-/
import Derived.Test.YtjagjhchnpmngaaGreatCz06
import Derived.Test.YtjagjhchnpmngaaGreatCz05
import Derived.Test.YtjagjhchnpmngaaGreatCz04
import Derived.Test.YtjagjhchnpmngaaGreatCz03
import Derived.Test.YtjagjhchnpmngaaGreatCz02
import Derived.Test.YtjagjhchnpmngaaGreatCz01
import Derived.Test.YtjagjhchnpmngaaGreatCz00
import Derived.Test.YtjagjhchnpmngaaGreatCz21
import Derived.Test.YtjagjhchnpmngaaGreatCz23
set_option linter.unusedVariables false
set_option linter.unusedSimpArgs false
set_option maxRecDepth 100000
namespace Go.Proofs.YtjagjhchnpmngaaGreat
open Go.RowKit
theorem frL_succ (d n : Nat) : frL d (n + 1) = frL d n ++ [((d + n : Nat) : Int)] := by simp [frL, List.range_succ]
theorem hgId_any (n : Nat) (w : World) (hn : n ≤ 12) :
 Calls Tryz.prog 146 #[.int .i64 n] w (OwnG ⟨(n : Int), [], upL n, upL n⟩ w) := by
 unfold OwnG grV
 have HS0 := qd ((((Sep.start w).boxAt w.heap.size rfl #[.int .i64 0, .slice none 0 0, .slice none 0 0, .slice none 0 0] 38).boxAt (w.heap.size + 1) (by simp) #[.int .i64 n, .slice none 0 0, .slice none 0 0, .slice none 0 0] 38).nilI.nilI)
 go_enter Tryz.func146, Tryz.ntmps146
 go_upto_region 3 with fail
 go_loopw [4] (fun s4 wr => ∃ (k : Nat) (vi vo : Value), k ≤ n ∧ s4 = .int .i64 k ∧ Sep wr [OI vi (upL k), OI vo (upL k), BxA (w.heap.size + 1) #[.int .i64 n, .slice none 0 0, vi, vo] 38, BxA w.heap.size #[.int .i64 0, .slice none 0 0, .slice none 0 0, .slice none 0 0] 38, KeepA w]) (fun s4 _ => n - (intOf s4).toNat)
 case atStart => exact ⟨0, _, _, by omega, rfl, HS0.out⟩
 case round =>
  obtain ⟨k, vi, vo, hk, rfl, hs⟩ := hrel
  obtain ⟨ia, ic, rfl⟩ := own_shape (show OwnInts 0 wr vi _ from hs.hd)
  obtain ⟨oa, oc, rfl⟩ := own_shape (show OwnInts 0 wr vo _ from hs.tl.hd)
  rw [upL_len] at hs
  obtain ⟨x0, x1, x2, x3, g0, g1, g2, g3⟩ := gq4 hs.tl.tl.hd
  have HSX := qd hs
  clear hs HS0
  try rw [upL_len]
  by_cases hlt : k < n
  ·have hki : (k : Int) < (n : Int) := by omega
   have hwr : IntKind.i64.wrap ((k : Int) + 1) = (k : Int) + 1 := wrap_id (by omega) (by omega)
   go_wp2_with (first
    |(at_builtin
      refine app_intS rfl _ _ rfl rfl rfl HSX.out (by rw [upL_len]; omega) ?_
      intro g c w5 h5
      rw [upL_len] at h5
      try rw [upL_len]
      rw [← upL_succ] at h5
      obtain ⟨_, _, _, _, _, _, z2, z3⟩ := gq4 h5.tl.tl.hd
      have h6 := (Sep.blk (A := [_, _]) (B := [_]) h5).setB 2 (.slice (some ⟨g, 0, none⟩) (k + 1) c)
      obtain ⟨y0, y1, y2, y3, f0, f1, f2, f3⟩ := gq4 h6.hd
      have HS2 := qd (Sep.blk (A := [_, _]) (B := [_]) h6)
      clear h5 h6 x0 x1 x2 x3 g0 g1 g2 g3)
    |(at_builtin
      refine app_intS rfl _ _ rfl rfl (by first | rfl | (go_simp; done) | (simp; done)) HS2.out (by rw [upL_len]; omega) ?_
      intro gg cc w7 h7
      rw [upL_len] at h7
      try rw [upL_len]
      rw [← upL_succ] at h7
      obtain ⟨_, _, _, _, _, _, _, zz3⟩ := gq4 h7.tl.hd
      have h8 := (Sep.blk (A := [_]) (B := [_]) h7).setB 3 (.slice (some ⟨gg, 0, none⟩) (k + 1) cc)
      have HS9 := qd (Sep.blk3 (X := [_]) (A := [_]) (B := [_]) (Sep.blk (A := [_, _]) (B := [_]) h8))
      clear h7 h8 y0 y1 y2 y3 f0 f1 f2 f3 z2 z3))
   go_roundw
   case rel => exact ⟨k + 1, _, _, by omega, by go_num, HS9.out⟩
   case measure => simp [intOf]; omega
  ·have hkn : k = n := by omega
   subst hkn
   have hkk : ¬ (k : Int) < (k : Int) := by omega
   clear hlt
   have hz := Sep.blk (A := [_, _, _]) (B := [_]) HSX.out
   obtain ⟨y0, y1, y2, y3, f0, f1, f2, f3⟩ := gq4 hz.hd
   have hz2 := (((hz.setB 0 (.int .i64 k)).setB 1 (.slice none 0 0)).setB 2 (.slice ia k ic)).setB 3 (.slice oa k oc)
   obtain ⟨l0, l1, l2, l3, _⟩ := gq4 hz2.hd
   have HSF := qd (Sep.bag (l := [OR edgeE nilS []]) (Sep.nilR edgeE (Sep.cutA (X := [_, _]) (A := [_]) hz2.tl)))
   clear hz hz2
   go_wp2_with fail
   refine bodyPost_ret_by (v := .agg #[.int .i64 k, .slice none 0 0, .slice ia k ic, .slice oa k oc]) ?_ rfl ⟨_, [], _, _, rfl, rfl, HSF.out⟩
   simp [results, go_sem, *]
theorem hgLeaf_one (n : Nat) (s : ByteArray) (w : World) (hn : n ≤ 12) : Calls Tryz.prog 130 #[.agg #[.int .i64 1, .int .i64 n, .string s]] w (OwnG ⟨(n : Int), [], upL n, upL n⟩ w) := by
 have HC := qd fun W => hgId_any n W hn
 unfold OwnG grV at *
 obtain ⟨v, hv⟩ : ∃ v : Int, v = (n : Int) := ⟨_, rfl⟩
 have hs0 := ((Sep.start w).boxAt w.heap.size rfl #[.int .i64 1, .int .i64 n, .string s] 145).boxAt (w.heap.size + 1) (by simp) #[.int .i64 0, .slice none 0 0, .slice none 0 0, .slice none 0 0] 38
 have HS0 := qd hs0
 obtain ⟨x0, x1, x2⟩ := bw3 hs0.tl.hd
 clear hs0
 clear hv
 go_enter Tryz.func130, Tryz.ntmps130
 go_wp2_with (
  go_at_call 146
  with_reducible refine (HC.out _).mono ?_
  rintro e w3 ⟨u0, xs, u1, u2, rfl, hx, hsg⟩
  obtain ⟨t0, v0, rfl⟩ := OE.shape hsg.hd
  obtain ⟨t1, v1, rfl⟩ := own_shape (show OwnInts 0 w3 u1 (upL n) from hsg.tl.hd)
  obtain ⟨t2, v2, rfl⟩ := own_shape (show OwnInts 0 w3 u2 (upL n) from hsg.tl.tl.hd)
  obtain ⟨q0, hq0⟩ : ∃ q, xs.length = q := ⟨_, rfl⟩
  obtain ⟨q1, hq1⟩ : ∃ q, (upL n).length = q := ⟨_, rfl⟩
  rw [hq0, hq1] at hsg
  rw [hq0, hq1]
  have hs1 := Sep.blk (A := [_, _, _]) (B := [_]) (HS0.out.graft3 hsg OE_own OI_own OI_own)
  obtain ⟨k0, k1, k2, k3, k4, k5, k6, k7⟩ := gq4 hs1.hd
  have hs2 := (((hs1.setB 0 (.int .i64 n)).setB 1 (.slice t0 q0 v0)).setB 2 (.slice t1 q1 v1)).setB 3 (.slice t2 q1 v2)
  obtain ⟨l0, l1, l2, l3, _⟩ := gq4 hs2.hd
  have HSF := qd (Sep.cutA (X := [_, _, _]) (A := [_]) hs2.tl)
  have HXF := qd hx
  clear hsg hs1 hs2 hx hq0 hq1 x0 x1 x2)
 refine bodyPost_ret_by (v := .agg #[.int .i64 n, .slice t0 q0 v0, .slice t1 q1 v1, .slice t2 q1 v2]) ?_ rfl ⟨_, xs, _, _, rfl, HXF.out, HSF.out⟩
 simp [results, go_sem, *]
set_option maxHeartbeats 2000000 in
theorem hgLeaf_two (v : Int) (s : ByteArray) (w : World) : Calls Tryz.prog 130 #[.agg #[.int .i64 2, .int .i64 v, .string s]] w (OwnG ⟨2, [], [0, 1], [1, 0]⟩ w) := by
 unfold OwnG grV
 have hs0 := ((Sep.start w).boxAt w.heap.size rfl #[.int .i64 2, .int .i64 v, .string s] 145).boxAt (w.heap.size + 1) (by simp) #[.int .i64 0, .slice none 0 0, .slice none 0 0, .slice none 0 0] 38
 have HS0 := qd hs0
 obtain ⟨x0, x1, x2⟩ := bw3 hs0.tl.hd
 clear hs0
 have hs1 := ((((Sep.start w).boxAt w.heap.size rfl #[.int .i64 2, .int .i64 v, .string s] 145).boxAt (w.heap.size + 1) (by simp) #[.int .i64 2, .slice none 0 0, .slice (some ⟨w.heap.size + 1 + 1, 0, none⟩) 2 2, .slice (some ⟨w.heap.size + 1 + 1 + 1, 0, none⟩) 2 2] 38).twoIT 0 1 (w.heap.size + 1 + 1) (by simp)).twoIT 1 0 (w.heap.size + 1 + 1 + 1) (by simp)
 obtain ⟨l0, l1, l2, l3, _⟩ := gq4 hs1.tl.tl.hd
 have HSF := qd (Sep.bag (l := [OR edgeE nilS []]) (Sep.nilR edgeE (Sep.cutA (X := [_, _]) (A := [_, _]) hs1).s2))
 clear hs1
 go_enter Tryz.func130, Tryz.ntmps130
 go_wp2_with fail
 refine bodyPost_ret_by (v := .agg #[.int .i64 2, .slice none 0 0, .slice (some ⟨w.heap.size + 1 + 1, 0, none⟩) 2 2, .slice (some ⟨w.heap.size + 1 + 1 + 1, 0, none⟩) 2 2]) ?_ rfl ⟨_, [], _, _, rfl, rfl, HSF.out⟩
 simp [results, go_sem, *]
set_option maxHeartbeats 2000000 in
theorem hgLeaf_gen (k v : Int) (s : ByteArray) (w : World) (hk : inB k 3 14 = true) : Calls Tryz.prog 130 #[.agg #[.int .i64 k, .int .i64 v, .string s]] w (OwnG (genG k v (edW k).1 (edW k).2) w) := by
 have HG := qd fun W => tmKind_any k W hk
 have hsm := edW_small k
 rw [inB_iff] at hk
 have h1 : (k == 1) = false := by simp; omega
 have h2 : (k == 2) = false := by simp; omega
 obtain ⟨a, ha⟩ : ∃ a : Nat, (edW k).1 = a := ⟨_, rfl⟩
 obtain ⟨b, hb⟩ : ∃ b : Nat, (edW k).2 = b := ⟨_, rfl⟩
 rw [ha, hb] at HG hsm ⊢
 have hwr : IntKind.i64.wrap ((a : Int) + (b : Int)) = (a : Int) + (b : Int) := wrap_id (by omega) (by omega)
 have HSM := qd hsm
 unfold OwnG grV
 clear ha hb hk hsm
 have hs0 := ((Sep.start w).boxAt w.heap.size rfl #[.int .i64 k, .int .i64 v, .string s] 145).boxAt (w.heap.size + 1) (by simp) #[.int .i64 0, .slice none 0 0, .slice none 0 0, .slice none 0 0] 38
 obtain ⟨x0, x1, x2⟩ := bw3 hs0.tl.hd
 have hs1 := hs0.boxAt (w.heap.size + 1 + 1) (by simp) #[.int .i64 ((a : Int) + b), .slice none 0 0, .slice none 0 0, .slice none 0 0] 38
 obtain ⟨y0, y1, y2⟩ := bw3 hs1.tl.tl.hd
 have HS0 := qd ((hs1.boxAt (w.heap.size + 1 + 1 + 1) (by simp) #[.int .i64 k, .int .i64 v, .slice none 0 0, .slice none 0 0] 104).s2.nilI.nilI.nilI.nilI)
 clear hs0 hs1
 go_enter Tryz.func130, Tryz.ntmps130
 go_upto_region 10 with (
  go_at_call 120
  with_reducible refine (HG.out _).mono ?_
  rintro e w3 ⟨rfl, rfl⟩)
 clear x0 x1 x2 y0 y1 y2
 go_loopw [7] (fun s7 wr => ∃ (x y : Nat) (vi vo ei eo : Value), x ≤ a ∧ y ≤ b ∧ (y = 0 ∨ x = a) ∧ s7 = .int .i64 ((x + y : Nat) : Int) ∧ Sep wr [OI vi (upL x), OI ei (upL x), OI vo (frL a y), OI eo (frL a y), BxA (w.heap.size + 1 + 1) #[.int .i64 ((a : Int) + b), .slice none 0 0, vi, vo] 38, BxA (w.heap.size + 1 + 1 + 1) #[.int .i64 k, .int .i64 v, ei, eo] 104, BxA (w.heap.size + 1) #[.int .i64 0, .slice none 0 0, .slice none 0 0, .slice none 0 0] 38, BxA w.heap.size #[.int .i64 k, .int .i64 v, .string s] 145, KeepA w]) (fun s7 _ => a + b - (intOf s7).toNat)
 case atStart => exact ⟨0, 0, _, _, _, _, by omega, by omega, Or.inl rfl, rfl, HS0.out⟩
 case round =>
  obtain ⟨x, y, vi, vo, ei, eo, hx, hy, hor, rfl, hs⟩ := hrel
  obtain ⟨ia, ic, rfl⟩ := own_shape (show OwnInts 0 wr vi _ from hs.hd)
  obtain ⟨ja, jc, rfl⟩ := own_shape (show OwnInts 0 wr ei _ from hs.tl.hd)
  obtain ⟨oa, oc, rfl⟩ := own_shape (show OwnInts 0 wr vo _ from hs.tl.tl.hd)
  obtain ⟨pa, pc, rfl⟩ := own_shape (show OwnInts 0 wr eo _ from hs.tl.tl.tl.hd)
  rw [upL_len, frL_len] at hs
  try rw [upL_len]
  try rw [frL_len]
  have HSX := qd hs
  clear hs HS0
  obtain ⟨j, hj⟩ : ∃ j, x + y = j := ⟨_, rfl⟩
  rw [hj]
  have hsm := HSM.out
  by_cases hlt : j < a
  ·obtain ⟨rfl, hxj⟩ : y = 0 ∧ j = x := by omega
   obtain rfl := hxj
   have hja : (j : Int) < (a : Int) := by omega
   have hji : (j : Int) < (a : Int) + (b : Int) := by omega
   have hwj : IntKind.i64.wrap ((j : Int) + 1) = (j : Int) + 1 := wrap_id (by omega) (by omega)
   clear hor hsm hj
   have HSY := qd (HSX.out)
   obtain ⟨x0, x1, x2, x3, _, _, f2, f3⟩ := gq4 HSX.out.tl.tl.tl.tl.hd
   obtain ⟨e0, e1, e2, e3, _, _, _, _⟩ := gq4 HSX.out.tl.tl.tl.tl.tl.hd
   go_wp2_with (first
    |(at_builtin
      refine app_intS rfl _ _ rfl rfl rfl HSY.out (by rw [upL_len]; have := HSM.out; omega) ?_
      intro g c w5 h5
      rw [upL_len] at h5
      try rw [upL_len]
      rw [← upL_succ] at h5
      have h6 := Sep.blk (A := [_, _, _, _]) (B := [_]) h5
      obtain ⟨_, _, _, _, _, _, z2, z3⟩ := gq4 h6.hd
      have h7 := h6.setB 2 (.slice (some ⟨g, 0, none⟩) (j + 1) c)
      obtain ⟨n0, n1, n2, n3, _, _, m2, m3⟩ := gq4 h7.tl.tl.tl.tl.tl.hd
      have HS2 := qd (Sep.blk (A := [_, _]) (B := [_]) h7)
      clear h5 h6 h7 x0 x1 x2 x3 f2 f3 e0 e1 e2 e3)
    |(at_builtin
      refine app_intS rfl _ _ rfl rfl (by first | rfl | (go_simp; done) | (simp; done)) HS2.out (by rw [upL_len]; have := HSM.out; omega) ?_
      intro gg cc w7 h7
      rw [upL_len] at h7
      try rw [upL_len]
      rw [← upL_succ] at h7
      have h8 := Sep.blk (A := [_, _, _, _, _]) (B := [_]) h7
      obtain ⟨_, _, _, _, _, _, q2, q3⟩ := gq4 h8.hd
      have h9 := h8.setB 2 (.slice (some ⟨gg, 0, none⟩) (j + 1) cc)
      have hA := Sep.blk3 (X := [_, _]) (A := [_, _]) (B := [_, _]) (Sep.blk3 (X := [_, _]) (A := [_]) (B := [_]) (Sep.blk3 (X := [_]) (A := [_]) (B := [_]) (Sep.blk (A := [_, _, _]) (B := [_]) h9)))
      have HS9 := qd (hA)
      clear h7 h8 h9 hA z2 z3 m2 m3 n0 n1 n2 n3))
   go_roundw
   case rel => exact ⟨j + 1, 0, _, _, _, _, by omega, by omega, Or.inl rfl, by go_num, HS9.out⟩
   case measure => simp [intOf]; omega
  ·by_cases hl2 : j < a + b
   ·obtain rfl : x = a := by omega
    have hja : ¬ (j : Int) < (x : Int) := by omega
    have HXJ := qd (show (j : Int) = ((x + y : Nat) : Int) from by omega)
    have hji : (j : Int) < (x : Int) + (b : Int) := by omega
    have hwj : IntKind.i64.wrap ((j : Int) + 1) = (j : Int) + 1 := wrap_id (by omega) (by omega)
    clear hor hsm
    have HSY := qd (Sep.blk (A := [_, _]) (B := [_, _]) HSX.out)
    obtain ⟨x0, x1, x2, x3, _, _, f2, f3⟩ := gq4 HSX.out.tl.tl.tl.tl.hd
    obtain ⟨e0, e1, e2, e3, _, _, _, _⟩ := gq4 HSX.out.tl.tl.tl.tl.tl.hd
    go_wp2_with (first
     |(at_builtin
       refine app_intS rfl _ _ rfl rfl rfl HSY.out (by rw [frL_len]; have := HSM.out; omega) ?_
       intro g c w5 h5
       rw [frL_len] at h5
       try rw [frL_len]
       rw [HXJ.out, ← frL_succ] at h5
       have h6 := Sep.blk (A := [_, _, _, _]) (B := [_]) h5
       obtain ⟨_, _, _, _, _, _, z2, z3⟩ := gq4 h6.hd
       have h7 := h6.setB 3 (.slice (some ⟨g, 0, none⟩) (y + 1) c)
       obtain ⟨n0, n1, n2, n3, _, _, m2, m3⟩ := gq4 h7.tl.tl.tl.tl.tl.hd
       have HS2 := qd (Sep.blk (A := [_, _]) (B := [_]) h7)
       clear h5 h6 h7 x0 x1 x2 x3 f2 f3 e0 e1 e2 e3)
     |(at_builtin
       refine app_intS rfl _ _ rfl rfl (by first | rfl | (go_simp; done) | (simp; done)) HS2.out (by rw [frL_len]; have := HSM.out; omega) ?_
       intro gg cc w7 h7
       rw [frL_len] at h7
       try rw [frL_len]
       rw [HXJ.out, ← frL_succ] at h7
       have h8 := Sep.blk (A := [_, _, _, _, _]) (B := [_]) h7
       obtain ⟨_, _, _, _, _, _, q2, q3⟩ := gq4 h8.hd
       have h9 := h8.setB 3 (.slice (some ⟨gg, 0, none⟩) (y + 1) cc)
       have hA := Sep.blk3 (X := [_, _]) (A := [_, _]) (B := [_, _]) (Sep.blk3 (X := [_, _]) (A := [_]) (B := [_]) (Sep.blk3 (X := [_]) (A := [_]) (B := [_]) (Sep.blk (A := [_, _, _]) (B := [_]) h9)))
       have HS9 := qd (Sep.blk (A := [_, _]) (B := [_, _]) hA)
       clear h7 h8 h9 hA z2 z3 m2 m3 n0 n1 n2 n3))
    go_roundw
    case rel => exact ⟨x, y + 1, _, _, _, _, by omega, by omega, Or.inr rfl, by go_num, HS9.out⟩
    case measure => simp [intOf]; omega
   ·obtain ⟨rfl, rfl⟩ : x = a ∧ y = b := by omega
    have hjj : ¬ (j : Int) < (x : Int) + (y : Int) := by omega
    have h0 := Sep.blk (A := [_, _, _, _, _]) (B := [_]) HSX.out
    obtain ⟨e0, e1, e2, e3, _⟩ := gq4 h0.hd
    have hA : Sep (wr.alloc (.cells #[.int .i64 k, .int .i64 v, .slice ja x jc, .slice pa y pc] 104)) _ := h0.oneRT (E := edgeE) (y := ⟨⟨k, v, upL x, frL x y⟩, .slice ja x jc, .slice pa y pc⟩) (cs := #[.int .i64 k, .int .i64 v, .slice ja x jc, .slice pa y pc]) rfl wr.heap.size rfl
    have hB := Sep.blk (A := [_, _, _, _, _, _]) (B := [_]) hA
    obtain ⟨_, _, _, _, _, f1, _⟩ := gq4 hB.hd
    have hC := hB.setB 1 (.slice (some ⟨wr.heap.size, 0, none⟩) 1 1)
    obtain ⟨n0, n1, n2, n3, _⟩ := gq4 hC.hd
    have hD := Sep.blk (A := [_, _, _, _, _, _, _]) (B := [_]) hC
    obtain ⟨_, _, _, _, k0, k1, k2, k3⟩ := gq4 hD.hd
    have hE := (((hD.setB 0 (.int .i64 ((x : Int) + y))).setB 1 (.slice (some ⟨wr.heap.size, 0, none⟩) 1 1)).setB 2 (.slice ia x ic)).setB 3 (.slice oa y oc)
    obtain ⟨l0, l1, l2, l3, _⟩ := gq4 hE.hd
    have hF := Sep.cutA (X := [_, _, _, _, _]) (A := [_]) (Sep.cutA (X := [_]) (A := [_]) (Sep.cutA (X := []) (A := [_, _]) hE))
    have HSF := qd (Sep.bag (l := [_, _, _]) (Sep.blk3 (X := [_, _]) (A := [_, _]) (B := [_]) (Sep.blk3 (X := [_]) (A := [_]) (B := [_]) hF)))
    clear h0 hA hB hC hD hE hF
    clear hx hy hor hsm
    go_wp2_with fail
    refine bodyPost_ret_by (v := .agg #[.int .i64 ((x : Int) + y), .slice (some ⟨wr.heap.size, 0, none⟩) 1 1, .slice ia x ic, .slice oa y oc]) ?_ rfl ⟨.slice (some ⟨wr.heap.size, 0, none⟩) 1 1, [⟨⟨k, v, upL x, frL x y⟩, .slice ja x jc, .slice pa y pc⟩], .slice ia x ic, .slice oa y oc, by show _ = Ending.returned (.agg #[.int .i64 ((x + y : Nat) : Int), _, _, _]); rw [show ((x + y : Nat) : Int) = (x : Int) + y from by omega], rfl, HSF.out⟩
    simp [results, go_sem, *]
theorem hgLeaf_any (n : Nd) (w : World) (h : lfB n = true) : Calls Tryz.prog 130 #[.agg #[.int .i64 n.k, .int .i64 n.v, .string n.s]] w (OwnG (leafG n) w) := by
 have hb := h
 unfold lfB lfV at hb
 rw [Bool.and_eq_true] at hb
 have h2 := hb.2
 unfold leafG
 by_cases h1 : n.k = 1
 ·rw [if_pos h1] at h2 ⊢
  have h3 := of_decide_eq_true h2
  obtain ⟨x, hx⟩ : ∃ x : Nat, n.v = (x : Int) := ⟨n.v.toNat, by omega⟩
  rw [h1, hx]
  exact hgLeaf_one x n.s w (by omega)
 ·rw [if_neg h1] at h2 ⊢
  by_cases h4 : n.k = 2
  ·rw [if_pos h4, h4]
   exact hgLeaf_two n.v n.s w
  ·rw [if_neg h4, Bool.and_eq_true] at h2
   rw [if_neg h4]
   exact hgLeaf_gen n.k n.v n.s w h2.1
section
variable {o : Oper} {a : Act} {w : World} {v u : Value} {xs ys : List XE} {l : List Asrt} {ops : Array Oper} {Q : Exit → Act → World → Prop} {rest : List Oper}
theorem app_OE (hgd : o.guard = none) (s x : Operand) (ho : o.op = .call { callee := .builtin .append, args := #[s, x], argTypes := #[36, 36] })
 (hs : a.eval s = v) (hx : a.eval x = u) (H : Sep w (OE v xs :: OE u ys :: l)) (hl : xs.length + ys.length ≤ 10000000)
 (h : ∀ g q c w', (xs ++ ys).length = q → Sep w' (OE (.slice g q c) (xs ++ ys) :: l) → wpList Tryz.prog ops Q rest (a.put o.dst (.slice g q c)) w') : wpList Tryz.prog ops Q (o :: rest) a w := by
 have hE : Sep w (OR edgeE v xs :: (rowsE xs ++ (OE u ys :: l))) := Sep.unbag (l := OR edgeE v xs :: rowsE xs) H
 have hY : Sep w (OR edgeE u ys :: (rowsE ys ++ l)) := Sep.unbag (l := OR edgeE u ys :: rowsE ys) H.tl
 refine app_RsG (E := edgeE) info_edge rfl (by decide) Tryz.underlying36 (edge_oneT (w := w) (ys := ys) (fun A hA => Sep.all hY.tl A (List.mem_append_left _ hA))) hgd s x ho hs hx hE (OwnR.read hY.hd) hl ?_
 intro v' w' h'
 have k1 : Sep w' ([OE u ys] ++ ((OR edgeE v' (xs ++ ys) :: rowsE xs) ++ l)) := Sep.blk (A := OR edgeE v' (xs ++ ys) :: rowsE xs) (B := [OE u ys]) h'
 have k3 : Sep w' ((OR edgeE u ys :: rowsE ys) ++ ((OR edgeE v' (xs ++ ys) :: rowsE xs) ++ l)) := Sep.unbag (l := OR edgeE u ys :: rowsE ys) k1
 have k4 : Sep w' (rowsE ys ++ ((OR edgeE v' (xs ++ ys) :: rowsE xs) ++ l)) := k3.tl
 have k5 := Sep.joinE (Sep.blk (A := rowsE ys) (B := OR edgeE v' (xs ++ ys) :: rowsE xs) (r := l) k4)
 obtain ⟨ga, gc, rfl⟩ := OE.shape k5.hd
 exact h ga _ gc w' rfl k5
end
theorem fr_set {d n k : Nat} (h : k < n) : (frL d k ++ List.replicate (n - k) (0 : Int)).set k ((k : Int) + d) = frL d (k + 1) ++ List.replicate (n - (k + 1)) 0 := by
 rw [List.set_append_right _ _ (by rw [frL_len]; omega), frL_len, Nat.sub_self, show n - k = (n - (k + 1)) + 1 by omega, List.replicate_succ, List.set_cons_zero, frL_succ]
 rw [show ((d + k : Nat) : Int) = (k : Int) + d from by omega]
 simp
set_option maxHeartbeats 4000000 in
theorem hgBeside_any (a b : Gr) (ev iv ov ev' iv' ov' : Value) (w : World) (he : RdE edgeE w ev a.es) (hi : IntsV w iv a.i) (ho : IntsV w ov a.o) (he' : RdE edgeE w ev' b.es) (hi' : IntsV w iv' b.i) (ho' : IntsV w ov' b.o) (hga : grB a = true) (hgb : grB b = true) :
 Calls Tryz.prog 148 #[grV a.n ev iv ov, grV b.n ev' iv' ov'] w (OwnG (parG a b) w) := by
 obtain ⟨n, hn, hn1, a1, a2, a3, a4, a5, _⟩ := grB_n hga
 obtain ⟨m, hm, hm1, b1, b2, b3, b4, b5, _⟩ := grB_n hgb
 have hrb := gr_rng hgb hm
 have hsh : shL a b = frL n m := by unfold shL; rw [hn, hm]; rfl
 have HOW := qd fun W (hW : w.grownBy W none) => hgOwn_any ev iv ov a W (he.carry hW) (hi.carry hW) (ho.carry hW) hga
 have HMP := qd fun tv W (hW : w.grownBy W none) (ht : IntsV W tv (frL n m)) => hgMap_any ev' iv' ov' tv b b.n (frL n m) W (he'.carry hW) (hi'.carry hW) (ho'.carry hW) ht (by omega) (by omega) (by omega) (fun e h => by have := b5 e h; omega) (by rw [frL_len]; exact hrb)
 obtain ⟨i0, hbi, hz0, hz1, hz2⟩ := info_parts info_int
 have HBI := qd hbi; have HZ0 := qd hz0; have HZ1 := qd hz1; have HZ2 := qd hz2
 clear hbi hz0 hz1 hz2
 obtain ⟨K, hK⟩ : ∃ K, parG a b = K := ⟨_, rfl⟩
 rw [hK]
 have HKN := qd (show K.n = (n : Int) + m from by rw [← hK]; show a.n + b.n = _; rw [hn, hm])
 have HKE := qd (show K.es = a.es ++ b.es.map (mapE (frL n m)) from by rw [← hK, ← hsh]; rfl)
 have HKI := qd (show K.i = a.i ++ b.i.map (ofL (frL n m)) from by rw [← hK, ← hsh]; rfl)
 have HKO := qd (show K.o = a.o ++ b.o.map (ofL (frL n m)) from by rw [← hK, ← hsh]; rfl)
 have HLL := qd (show a.es.length ≤ 1000 ∧ (b.es.map (mapE (frL n m))).length ≤ 1000 ∧ (a.i.length ≤ 1000 ∧ (b.i.map (ofL (frL n m))).length ≤ 1000) ∧ a.o.length ≤ 1000 ∧ (b.o.map (ofL (frL n m))).length ≤ 1000 from by simp only [List.length_map]; omega)
 generalize b.es.map (mapE (frL n m)) = be at *
 generalize b.i.map (ofL (frL n m)) = bi at *
 generalize b.o.map (ofL (frL n m)) = bo at *
 unfold OwnG grV at *
 rw [hn] at HOW
 rw [hm] at HMP
 rw [hn, hm]
 obtain ⟨ea, ec, rfl⟩ := he.shape
 obtain ⟨ia, ic, rfl⟩ := hi.shape
 obtain ⟨oa, oc, rfl⟩ := ho.shape
 obtain ⟨eb, fc, rfl⟩ := he'.shape
 obtain ⟨ib, gc, rfl⟩ := hi'.shape
 obtain ⟨ob, hc, rfl⟩ := ho'.shape
 obtain ⟨ne, hne⟩ : ∃ x, a.es.length = x := ⟨_, rfl⟩
 obtain ⟨ni, hni⟩ : ∃ x, a.i.length = x := ⟨_, rfl⟩
 obtain ⟨no, hno⟩ : ∃ x, a.o.length = x := ⟨_, rfl⟩
 obtain ⟨me, hme⟩ : ∃ x, b.es.length = x := ⟨_, rfl⟩
 obtain ⟨mi, hmi⟩ : ∃ x, b.i.length = x := ⟨_, rfl⟩
 obtain ⟨mo, hmo⟩ : ∃ x, b.o.length = x := ⟨_, rfl⟩
 rw [hne, hni, hno] at HOW
 rw [hme, hmi, hmo] at HMP
 rw [hne, hni, hno, hme, hmi, hmo]
 have HNM := qd (show n ≤ 100 ∧ m ≤ 100 from ⟨by omega, by omega⟩)
 clear he hi ho he' hi' ho' hga hgb hrb hsh hK a1 a2 a3 a4 a5 b1 b2 b3 b4 b5 hn hm hn1 hm1 hne hni hno hme hmi hmo
 have hs0 := (((Sep.start w).boxAt w.heap.size rfl #[.int .i64 n, .slice ea ne ec, .slice ia ni ic, .slice oa no oc] 38).boxAt (w.heap.size + 1) (by simp) #[.int .i64 m, .slice eb me fc, .slice ib mi gc, .slice ob mo hc] 38).boxAt (w.heap.size + 2) (by simp) #[.int .i64 0, .slice none 0 0, .slice none 0 0, .slice none 0 0] 38
 have HS0 := qd hs0
 obtain ⟨y0, y1, y2, y3, _⟩ := gq4 hs0.tl.hd
 clear hs0
 have hnm := HNM.out
 go_enter Tryz.func148, Tryz.ntmps148
 go_upto_region 3 with (
  at_make
  refine wpList_make_full _ rfl _ _ 23 rfl _ 3 i0 (.int .i64 0) 1 Tryz.underlying23 HBI.out HZ0.out HZ1.out _ _ _ _ m rfl rfl rfl rfl (by rw [HZ2.out]; omega) (by unfold maxLen; omega) (Nat.le_refl _) ?_
  intro w1 hown' hgr'
  have hs1 := HS0.out.newI (zs := List.replicate m 0) hgr' (by rw [madeCells_int] at hown'; unfold OwnInts; rw [List.length_replicate]; exact hown')
  rw [show (((w.alloc (.cells #[.int .i64 n, .slice ea ne ec, .slice ia ni ic, .slice oa no oc] 38)).alloc (.cells #[.int .i64 m, .slice eb me fc, .slice ib mi gc, .slice ob mo hc] 38)).alloc (.cells #[.int .i64 0, .slice none 0 0, .slice none 0 0, .slice none 0 0] 38)).heap.size = w.heap.size + 3 by simp] at hs1
  try rw [show (((w.alloc (.cells #[.int .i64 n, .slice ea ne ec, .slice ia ni ic, .slice oa no oc] 38)).alloc (.cells #[.int .i64 m, .slice eb me fc, .slice ib mi gc, .slice ob mo hc] 38)).alloc (.cells #[.int .i64 0, .slice none 0 0, .slice none 0 0, .slice none 0 0] 38)).heap.size = w.heap.size + 3 by simp]
  have HS1 := qd hs1
  clear hs1 hown' hgr' y0 y1 y2 y3)
 go_loopw [6, 14] (fun _ s14 wr => ∃ k : Nat, k ≤ m ∧ s14 = .int .i64 k ∧ Sep wr [OI (.slice (some ⟨w.heap.size + 3, 0, none⟩) m m) (frL n k ++ List.replicate (m - k) 0), BxA (w.heap.size + 2) #[.int .i64 0, .slice none 0 0, .slice none 0 0, .slice none 0 0] 38, BxA (w.heap.size + 1) #[.int .i64 m, .slice eb me fc, .slice ib mi gc, .slice ob mo hc] 38, BxA w.heap.size #[.int .i64 n, .slice ea ne ec, .slice ia ni ic, .slice oa no oc] 38, KeepA w]) (fun _ s14 _ => m - (intOf s14).toNat)
 case atStart => exact ⟨0, by omega, rfl, by simpa [frL] using HS1.out⟩
 case round =>
  obtain ⟨k, hk, rfl, hs⟩ := hrel
  have HSX := qd hs
  clear hs HS0
  by_cases hlt : k < m
  ·have hll : m = (frL n k ++ List.replicate (m - k) (0 : Int)).length := by rw [List.length_append, frL_len, List.length_replicate]; omega
   have hf := HSX.out.hd.free hll k
   obtain ⟨q, hc0⟩ := HSX.out.hd.cellQ hll (j := k) hlt
   have hset := HSX.out.setI hll k ((k : Int) + n)
   rw [fr_set hlt] at hset
   have HSET := qd hset
   obtain ⟨x0, _⟩ := gq4 HSX.out.tl.tl.tl.hd
   have hki : (k : Int) < (m : Int) := by omega
   have hwr : IntKind.i64.wrap ((k : Int) + (n : Int)) = (k : Int) + (n : Int) := wrap_id (by omega) (by omega)
   clear hll hset
   go_wp2_with fail
   go_roundw
   case rel => exact ⟨k + 1, by omega, by go_num, HSET.out⟩
   case measure => simp [intOf]; omega
  ·have hkn : k = m := by omega
   subst hkn
   have hkk : ¬ (k : Int) < (k : Int) := by omega
   have hs := HSX.out
   rw [Nat.sub_self, List.replicate_zero, List.append_nil] at hs
   have HS2 := qd hs
   obtain ⟨x0, x1, x2, x3, _⟩ := gq4 hs.tl.tl.tl.hd
   have HC := qd (HOW.out wr (show w.grownBy _ none from Sep.all hs (KeepA w) (by simp)))
   clear hs HSX hlt
   go_upto_region 8 with (
    go_at_call 59
    with_reducible refine HC.out.mono ?_
    rintro e w3 ⟨u0, xs, u1, u2, rfl, hxs, hsg⟩
    have HXS := qd hxs
    obtain ⟨s0, r0, rfl⟩ := OE.shape hsg.hd
    obtain ⟨s1, r1, rfl⟩ := own_shape (show OwnInts 0 _ u1 a.i from hsg.tl.hd)
    obtain ⟨s2, r2, rfl⟩ := own_shape (show OwnInts 0 _ u2 a.o from hsg.tl.tl.hd)
    obtain ⟨q0, hq0⟩ : ∃ q, xs.length = q := ⟨_, rfl⟩
    obtain ⟨q1, hq1⟩ : ∃ q, a.i.length = q := ⟨_, rfl⟩
    obtain ⟨q2, hq2⟩ : ∃ q, a.o.length = q := ⟨_, rfl⟩
    rw [hq0, hq1, hq2] at hsg
    rw [hq0, hq1, hq2]
    have HS3 := qd ((HS2.out.graft3 hsg OE_own OI_own OI_own).boxAt w3.heap.size rfl #[.int .i64 n, .slice s0 q0 r0, .slice s1 q1 r1, .slice s2 q2 r2] 38)
    clear hxs hsg hq0 hq1 hq2 x0 x1 x2 x3)
   generalize w3.alloc (.cells #[.int .i64 n, .slice s0 q0 r0, .slice s1 q1 r1, .slice s2 q2 r2] 38) = w4 at *
   generalize w3.heap.size = b7 at *
   obtain ⟨x0, x1, x2, x3, _⟩ := gq4 HS3.out.tl.tl.tl.tl.tl.tl.hd
   have HD := qd (HMP.out _ w4 (show w.grownBy _ none from Sep.all HS3.out (KeepA w) (by simp)) (OwnInts.read (show OwnInts 0 w4 _ _ from HS3.out.tl.tl.tl.tl.hd)))
   go_upto_region 9 with (
    go_at_call 90
    with_reducible refine HD.out.mono ?_
    rintro e w5 ⟨u0, ys, u1, u2, rfl, hys, hsg⟩
    have HYS := qd hys
    obtain ⟨t0, v0, rfl⟩ := OE.shape hsg.hd
    obtain ⟨t1, v1, rfl⟩ := own_shape (show OwnInts 0 _ u1 bi from hsg.tl.hd)
    obtain ⟨t2, v2, rfl⟩ := own_shape (show OwnInts 0 _ u2 bo from hsg.tl.tl.hd)
    obtain ⟨p0, hp0⟩ : ∃ q, ys.length = q := ⟨_, rfl⟩
    obtain ⟨p1, hp1⟩ : ∃ q, bi.length = q := ⟨_, rfl⟩
    obtain ⟨p2, hp2⟩ : ∃ q, bo.length = q := ⟨_, rfl⟩
    rw [hp0, hp1, hp2] at hsg
    rw [hp0, hp1, hp2]
    have HS5 := qd ((HS3.out.graft3 hsg OE_own OI_own OI_own).boxAt w5.heap.size rfl #[.int .i64 k, .slice t0 p0 v0, .slice t1 p1 v1, .slice t2 p2 v2] 38)
    clear hys hsg hp0 hp1 hp2 x0 x1 x2 x3)
   generalize w5.alloc (.cells #[.int .i64 k, .slice t0 p0 v0, .slice t1 p1 v1, .slice t2 p2 v2] 38) = w6 at *
   generalize w5.heap.size = b8 at *
   have h6 := Sep.blk (A := [_, _, _, _]) (B := [_]) HS5.out
   obtain ⟨x0, x1, x2, x3, g0, g1, g2, g3⟩ := gq4 h6.hd
   obtain ⟨y0, _⟩ := gq4 HS5.out.tl.tl.tl.tl.tl.tl.tl.tl.tl.tl.hd
   have hwr : IntKind.i64.wrap ((n : Int) + (k : Int)) = (n : Int) + (k : Int) := wrap_id (by omega) (by omega)
   have h7 := Sep.cutA (X := [_, _, _, _, _, _, _, _, _]) (A := [_, _]) (Sep.cutA (X := [_, _, _, _, _, _, _, _]) (A := [_]) (h6.setB 0 (.int .i64 ((n : Int) + k))))
   have HS7 := qd h7
   clear h6 h7
   go_upto_region 10 with fail
   generalize w6.setCell ⟨b7, 0, none⟩ (.int .i64 ((n : Int) + k)) = w7 at *
   clear x0 x1 x2 x3 g0 g1 g2 g3 y0 hwr
   obtain ⟨x0, x1, x2, x3, g0, g1, g2, g3⟩ := gq4 HS7.out.hd
   obtain ⟨y0, y1, y2, y3, _⟩ := gq4 HS7.out.tl.hd
   have HA := qd (Sep.blk (A := [_, _, _, _, _, _]) (B := [_]) HS7.out)
   have HRI := qd (OwnInts.read (show OwnInts 0 w7 _ bi from HS7.out.tl.tl.tl.hd))
   have HLI := qd (show a.i.length + bi.length ≤ 1000000000 from by have := HLL.out; omega)
   go_upto_region 11 with (
    at_builtin
    go_loud (
    refine app_intsS rfl (.tmp 39) (.tmp 41) rfl rfl rfl HA.out HRI.out HLI.out ?_
    intro v8 w8 h8
    obtain ⟨ga, gc, rfl⟩ := own_shape (show OwnInts 0 _ v8 (a.i ++ bi) from h8.hd)
    obtain ⟨z1, hz1⟩ : ∃ q, (a.i ++ bi).length = q := ⟨_, rfl⟩
    rw [hz1] at h8
    rw [hz1]
    have h9 := Sep.blk (A := [_]) (B := [_]) h8
    obtain ⟨f0, f1, f2, f3, e0, e1, e2, e3⟩ := gq4 h9.hd
    have HS9 := qd (h9.setB 2 (.slice ga z1 gc))
    clear h8 h9 hz1 x0 x1 x2 x3 g0 g1 g2 g3 y0 y1 y2 y3))
   generalize w8.setCell ⟨b7, 2, none⟩ (.slice ga z1 gc) = w9 at *
   clear f0 f1 f2 f3 e0 e1 e2 e3
   obtain ⟨x0, x1, x2, x3, g0, g1, g2, g3⟩ := gq4 HS9.out.hd
   obtain ⟨y0, y1, y2, y3, _⟩ := gq4 HS9.out.tl.tl.hd
   have HB := qd (Sep.blk (A := [_, _, _, _, _, _, _]) (B := [_]) HS9.out)
   have HRO := qd (OwnInts.read (show OwnInts 0 w9 _ bo from HS9.out.tl.tl.tl.tl.tl.hd))
   have HLO := qd (show a.o.length + bo.length ≤ 1000000000 from by have := HLL.out; omega)
   go_upto_region 12 with (
    at_builtin
    go_loud (
    refine app_intsS rfl (.tmp 45) (.tmp 47) rfl rfl rfl HB.out HRO.out HLO.out ?_
    intro vA wA h8
    obtain ⟨gb, gd, rfl⟩ := own_shape (show OwnInts 0 _ vA (a.o ++ bo) from h8.hd)
    obtain ⟨z2, hz2⟩ : ∃ q, (a.o ++ bo).length = q := ⟨_, rfl⟩
    rw [hz2] at h8
    rw [hz2]
    have h9 := Sep.blk (A := [_]) (B := [_]) h8
    obtain ⟨f0, f1, f2, f3, e0, e1, e2, e3⟩ := gq4 h9.hd
    have HSB := qd (h9.setB 3 (.slice gb z2 gd))
    clear h8 h9 hz2 x0 x1 x2 x3 g0 g1 g2 g3 y0 y1 y2 y3))
   generalize wA.setCell ⟨b7, 3, none⟩ (.slice gb z2 gd) = wB at *
   clear f0 f1 f2 f3 e0 e1 e2 e3
   obtain ⟨x0, x1, x2, x3, g0, g1, g2, g3⟩ := gq4 HSB.out.hd
   obtain ⟨y0, y1, y2, y3, _⟩ := gq4 HSB.out.tl.tl.tl.hd
   have HCC := qd (Sep.blk (A := [_, _, _, _, _, _, _]) (B := [_]) (Sep.blk (A := [_, _, _, _]) (B := [_]) HSB.out))
   have HLE := qd (show xs.length + ys.length ≤ 10000000 from by have h1 := HLL.out; have h2 := congrArg List.length HXS.out; have h3 := congrArg List.length HYS.out; rw [eds_len] at h2 h3; omega)
   go_upto_region 13 with (
    at_builtin
    go_loud (
    refine app_OE rfl (.tmp 51) (.tmp 53) rfl rfl rfl HCC.out HLE.out ?_
    intro ge z0 gf wC hz0 h8
    clear hz0
    have h9 := Sep.blk (A := [_]) (B := [_]) h8
    obtain ⟨f0, f1, f2, f3, e0, e1, e2, e3⟩ := gq4 h9.hd
    have HSD := qd (Sep.cutA (X := [_, _, _, _]) (A := [_, _, _]) (h9.setB 1 (.slice ge z0 gf)))
    clear h8 h9 x0 x1 x2 x3 g0 g1 g2 g3 y0 y1 y2 y3))
   generalize wC.setCell ⟨b7, 1, none⟩ (.slice ge z0 gf) = wD at *
   clear f0 f1 f2 f3 e0 e1 e2 e3
   obtain ⟨x0, x1, x2, x3, _⟩ := gq4 HSD.out.hd
   have hf := Sep.blk (A := [_, _, _, _]) (B := [_]) HSD.out
   obtain ⟨_, _, _, _, g0, g1, g2, g3⟩ := gq4 hf.hd
   have hg := (((hf.setB 0 (.int .i64 ((n : Int) + k))).setB 1 (.slice ge z0 gf)).setB 2 (.slice ga z1 gc)).setB 3 (.slice gb z2 gd)
   obtain ⟨l0, l1, l2, l3, _⟩ := gq4 hg.hd
   have HSF := qd (Sep.blk3 (X := [_]) (A := [_]) (B := [_]) (Sep.cutA (X := []) (A := [_, _]) hg))
   clear hf hg
   go_wp2_with fail
   refine bodyPost_ret_by (v := .agg #[.int .i64 ((n : Int) + k), .slice ge z0 gf, .slice ga z1 gc, .slice gb z2 gd]) ?_ rfl ⟨_, xs ++ ys, _, _, by rw [HKN.out], by rw [HKE.out]; unfold eds; rw [List.map_append]; show eds xs ++ eds ys = _; rw [HXS.out, HYS.out], by rw [HKI.out, HKO.out]; exact HSF.out⟩
   simp [results, go_sem, *]
theorem hgPar_any (a b : Gr) (ev iv ov ev' iv' ov' : Value) (w : World) (he : RdE edgeE w ev a.es) (hi : IntsV w iv a.i) (ho : IntsV w ov a.o) (he' : RdE edgeE w ev' b.es) (hi' : IntsV w iv' b.i) (ho' : IntsV w ov' b.o) (hga : grB a = true) (hgb : grB b = true) :
 Calls Tryz.prog 133 #[grV a.n ev iv ov, grV b.n ev' iv' ov'] w (OwnG (parG a b) w) := by
 have HBS := qd fun W (hW : w.grownBy W none) => hgBeside_any a b ev iv ov ev' iv' ov' W (he.carry hW) (hi.carry hW) (ho.carry hW) (he'.carry hW) (hi'.carry hW) (ho'.carry hW) hga hgb
 generalize parG a b = K at *
 unfold OwnG grV at *
 generalize a.n = n at *
 generalize b.n = m at *
 obtain ⟨ea, ec, rfl⟩ := he.shape
 obtain ⟨ia, ic, rfl⟩ := hi.shape
 obtain ⟨oa, oc, rfl⟩ := ho.shape
 obtain ⟨eb, fc, rfl⟩ := he'.shape
 obtain ⟨ib, gc, rfl⟩ := hi'.shape
 obtain ⟨ob, hc, rfl⟩ := ho'.shape
 clear he hi ho he' hi' ho' hga hgb
 generalize a.es.length = ne at *
 generalize a.i.length = ni at *
 generalize a.o.length = no at *
 generalize b.es.length = me at *
 generalize b.i.length = mi at *
 generalize b.o.length = mo at *
 have hs0 := (((Sep.start w).boxAt w.heap.size rfl #[.int .i64 n, .slice ea ne ec, .slice ia ni ic, .slice oa no oc] 38).boxAt (w.heap.size + 1) (by simp) #[.int .i64 m, .slice eb me fc, .slice ib mi gc, .slice ob mo hc] 38).boxAt (w.heap.size + 2) (by simp) #[.int .i64 0, .slice none 0 0, .slice none 0 0, .slice none 0 0] 38
 have HS0 := qd hs0
 obtain ⟨x0, x1, x2, x3, _⟩ := gq4 hs0.tl.tl.hd
 obtain ⟨y0, y1, y2, y3, _⟩ := gq4 hs0.tl.hd
 have HK0 := qd (show w.grownBy _ none from hs0.tl.tl.tl.hd)
 clear hs0
 go_enter Tryz.func133, Tryz.ntmps133
 go_wp2_with (
  go_at_call 148
  with_reducible refine (HBS.out _ HK0.out).mono ?_
  rintro e w5 ⟨u0, xs, u1, u2, rfl, hx, hsg⟩
  have HXF := qd hx
  obtain ⟨t0, v0, rfl⟩ := OE.shape hsg.hd
  obtain ⟨t1, v1, rfl⟩ := own_shape (show OwnInts 0 _ u1 K.i from hsg.tl.hd)
  obtain ⟨t2, v2, rfl⟩ := own_shape (show OwnInts 0 _ u2 K.o from hsg.tl.tl.hd)
  obtain ⟨q0, hq0⟩ : ∃ q, xs.length = q := ⟨_, rfl⟩
  obtain ⟨q1, hq1⟩ : ∃ q, K.i.length = q := ⟨_, rfl⟩
  obtain ⟨q2, hq2⟩ : ∃ q, K.o.length = q := ⟨_, rfl⟩
  rw [hq0, hq1, hq2] at hsg
  rw [hq0, hq1, hq2]
  have hs1 := Sep.blk (A := [_, _, _]) (B := [_]) (HS0.out.graft3 hsg OE_own OI_own OI_own)
  obtain ⟨_, _, _, _, k4, k5, k6, k7⟩ := gq4 hs1.hd
  have hs2 := (((hs1.setB 0 (.int .i64 K.n)).setB 1 (.slice t0 q0 v0)).setB 2 (.slice t1 q1 v1)).setB 3 (.slice t2 q2 v2)
  obtain ⟨l0, l1, l2, l3, _⟩ := gq4 hs2.hd
  have HSF := qd (Sep.cutA (X := [_, _, _]) (A := [_, _]) hs2.tl)
  clear hsg hs1 hs2 hx hq0 hq1 hq2)
 refine bodyPost_ret_by (v := .agg #[.int .i64 K.n, .slice t0 q0 v0, .slice t1 q1 v1, .slice t2 q2 v2]) ?_ rfl ⟨_, xs, _, _, rfl, HXF.out, HSF.out⟩
 simp [results, go_sem, *]
end Go.Proofs.YtjagjhchnpmngaaGreat

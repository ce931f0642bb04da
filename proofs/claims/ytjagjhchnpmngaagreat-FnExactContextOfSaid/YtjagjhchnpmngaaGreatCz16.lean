/-
 Terms typed, in the program. Conditions: lengths are small; the table of small primes holds what its text lays.
-/
import Derived.Test.YtjagjhchnpmngaaGreatCz06
import Derived.Test.YtjagjhchnpmngaaGreatCz05
import Derived.Test.YtjagjhchnpmngaaGreatCz04
import Derived.Test.YtjagjhchnpmngaaGreatCz03
import Derived.Test.YtjagjhchnpmngaaGreatCz02
import Derived.Test.YtjagjhchnpmngaaGreatCz01
import Derived.Test.YtjagjhchnpmngaaGreatCz00
import Derived.Test.YtjagjhchnpmngaaGreatCz09
set_option linter.unusedVariables false
set_option linter.unusedSimpArgs false
set_option maxRecDepth 100000
namespace Go.Proofs.YtjagjhchnpmngaaGreat
open Go.RowKit
theorem Sep.emptyRT {α : Type} {w : World} {l : List Asrt} (E : Lay α) (h : Sep w l) (b : Nat) (hb : b = w.heap.size) : Sep (w.alloc (.cells #[] E.ty)) (OR E (.slice (some ⟨b, 0, none⟩) 0 0) [] :: l) := by
 subst hb
 refine h.new (grownBy_alloc _ _ none) (OwnR.empty E (Nat.zero_le _) rfl) fun k hk => ?_
 have : w.heap.size = k := by simpa [OR, Hits, Value.ownBlock] using hk
 omega
section
variable {P : Program} {ops : Array Oper} {Q : Exit → Act → World → Prop} {md : Region.Mode} {Se Sa : World → Prop} {ap : Nat}
theorem AnyL.twoM {i j : Nat} {oi oj : Oper} {fuel : Nat} {listed : Array Bool} {a : Act} {w : World} {r r' : List Oper} (hr : Region.ready md ops listed = [i, j]) (hi' : ops.toList.drop i = oi :: r) (hj' : ops.toList.drop j = oj :: r')
 (h1 : ∀ K' : Act → World → Prop, Shut (∀ a' w', Se w' → ((listed.setIfInBounds i true).getD ap true = false → Sa w') → AnyL P md ops Q Se Sa ap fuel (listed.setIfInBounds i true) a' w' → K' a' w') → if Region.wanted oi (yielded ops a.tmps) = true then Oper.wp P oi a w K' Q else K' (a.put oi.dst undef) w)
 (h2 : ∀ K' : Act → World → Prop, Shut (∀ a' w', Se w' → ((listed.setIfInBounds j true).getD ap true = false → Sa w') → AnyL P md ops Q Se Sa ap fuel (listed.setIfInBounds j true) a' w' → K' a' w') → if Region.wanted oj (yielded ops a.tmps) = true then Oper.wp P oj a w K' Q else K' (a.put oj.dst undef) w) :
 AnyL P md ops Q Se Sa ap (fuel + 1) listed a w := by
 refine ⟨fun h0 => (by rw [hr] at h0; cases h0), fun k hk => ?_⟩
 rw [hr] at hk
 simp only [List.mem_cons, List.not_mem_nil, or_false] at hk
 rcases hk with rfl | rfl
 ·exact wpOp_step (op_at hi') fun K' hK => h1 K' fun a w h1 h2 h3 => hK a w ⟨⟨h1, h2⟩, h3⟩
 ·exact wpOp_step (op_at hj') fun K' hK => h2 K' fun a w h1 h2 h3 => hK a w ⟨⟨h1, h2⟩, h3⟩
end
theorem styL_at0 {A B : Tr} {R : List Tr} : (styL (B :: A :: R)).getD R.length (0, 0) = A.ty := by
 rw [styL_two, List.getD_eq_getElem?_getD, List.getElem?_append_right (by rw [styL_len]; exact Nat.le_refl _), styL_len, Nat.sub_self]; rfl
theorem styL_at1 {A B : Tr} {R : List Tr} : (styL (B :: A :: R)).getD (R.length + 1) (0, 0) = B.ty := by
 rw [styL_two, List.getD_eq_getElem?_getD, List.getElem?_append_right (by rw [styL_len]; omega), styL_len, Nat.add_sub_cancel_left]; rfl
theorem styL_cut {A B : Tr} {R : List Tr} : (styL (B :: A :: R)).take R.length = styL R := by
 rw [styL_two, List.take_append_of_le_length (by rw [styL_len]; exact Nat.le_refl _), List.take_of_length_le (by rw [styL_len]; exact Nat.le_refl _)]
theorem styL_first {T : Tr} {R : List Tr} (h : R = []) : (styL (T :: R)).getD 0 (0, 0) = T.ty := by
 subst h; rfl
set_option maxHeartbeats 8000000 in
theorem typed_any (nv : Value) (ns : List Nd) (w : World) (hn : RdR nodeE w nv ns) (hl : ns.length ≤ 2000000) :
 Calls Tryz.prog 135 #[nv, .func (.func 136) #[] #[]] w (TyR (tmB ns) (tmT ns) w) := by
 have HN := qd hn
 obtain ⟨na, nc, rfl⟩ := hn.shape
 obtain ⟨n, hnl⟩ : ∃ n, ns.length = n := ⟨_, rfl⟩
 have HNL := qd hnl
 rw [hnl] at hl ⊢
 obtain ⟨b, hb⟩ : ∃ b, tmB ns = b := ⟨_, rfl⟩
 obtain ⟨p, hp⟩ : ∃ p, tmT ns = p := ⟨_, rfl⟩
 rw [hb, hp]
 have HB := qd hb; have HP := qd hp
 clear hn hb hp hnl
 have HWI := qd fun W => within_any (n : Int) 1 400 W
 have HLW := qd fun (k v : Int) (s : ByteArray) W => leafWires_any ⟨k, v, s⟩ W
 simp only at HLW
 have HS0 := qd ((Sep.start w).boxAt w.heap.size rfl #[.int .i64 0, .int .i64 0] 149)
 obtain ⟨y0, y1, f0, f1⟩ := bw2 HS0.out.hd
 by_cases hr : 1 ≤ (n : Int) ∧ (n : Int) ≤ 400
 ·rw [decide_eq_true hr] at HWI
  have hr1 : 1 ≤ n := by omega
  have hr2 : n ≤ 400 := by omega
  clear hr y0 y1 f0 f1
  have HS1 := qd (show Sep (w.alloc _ |>.alloc (.cells #[] 149)) _ from Sep.emptyRT wireE HS0.out (w.heap.size + 1) (by simp))
  go_enter Tryz.func135, Tryz.ntmps135
  go_upto_region 5 with (go_at_call 84; with_reducible refine (HWI.out _).mono ?_; rintro e w3 ⟨rfl, rfl⟩)
  go_loopw [6, 8, 9, 10, 11, 12, 13, 22] (fun s6 _ _ _ _ _ _ s22 wr => ∃ (i : Nat) (S : List Tr), i ≤ n ∧ s22 = .int .i64 i ∧ prun ns i = some S ∧ Sep wr [OR wireE s6 (styL S), BxA w.heap.size #[.int .i64 0, .int .i64 0] 149, KeepA w]) (fun _ _ _ _ _ _ _ s22 _ => n - (intOf s22).toNat)
  case atStart => exact ⟨0, [], by omega, rfl, rfl, HS1.out⟩
  case round =>
   obtain ⟨i, S, hi, rfl, hpr, hs⟩ := hrel
   obtain ⟨sa, sc, rfl⟩ := OwnR.shape (show OwnR wireE 0 wr _ (styL S) from hs.hd)
   rw [styL_len] at hs ⊢
   have HSQ := qd hs; have HPR := qd hpr
   have hcn := prun_cnt i S hpr
   clear hs hpr HS1
   by_cases hlt : i < n
   ·have hke : i < ns.length := by rw [HNL.out]; exact hlt
    have hji : (i : Int) < (n : Int) := by omega
    have HKE := qd hke
    obtain ⟨nb, no, rfl, _, q0, q1, q2⟩ := (HN.out.carry HSQ.out.tl.tl.hd).node rfl rfl hke
    obtain ⟨y, hy⟩ : ∃ y, ns.getD i nd0 = y := ⟨_, rfl⟩
    have HY := qd hy
    rw [hy] at q0 q1 q2
    clear hy hke
    obtain ⟨k, v, s⟩ := y
    simp only at q0 q1 q2
    have HS2 := qd (HSQ.out.boxAt wr.heap.size rfl #[.int .i64 k, .int .i64 v, .string s] 145)
    obtain ⟨z0, z1, z2⟩ := bw3 HS2.out.hd
    by_cases hop : k = 15 ∨ k = 16
    ·clear HLW
     by_cases hv : v = 0
     ·by_cases hs : s = noS
      ·by_cases hl2 : S.length < 2
       ·have hs2 : ((S.length : Nat) : Int) < 2 := by omega
        obtain rfl : b = false := by rw [← HB.out]; exact tmB_no HKE.out HPR.out (by rw [HY.out]; exact pstep_no hop (Or.inr (Or.inr hl2)))
        have hz0 := Sep.blk (A := [_, _]) (B := [_]) HS2.out
        obtain ⟨y0, y1, f0, f1⟩ := bw2 hz0.hd
        have HSZ := qd ((hz0.setB 0 (.int .i64 0)).setB 1 (.int .i64 0))
        obtain ⟨u0, u1, _, _⟩ := bw2 HSZ.out.hd
        have HKF := qd (show w.grownBy _ none from Sep.all HSZ.out (KeepA w) (by simp))
        clear hz0
        subst hv hs
        generalize S.length = sl at *
        rcases hop with rfl | rfl
        ·go_wp2_with fail
         refine bodyPost_ret_by (v := .tuple #[.agg #[.int .i64 0, .int .i64 0], .bool false]) ?_ rfl ⟨⟨(0, 0), rfl, fun h => by cases h⟩, HKF.out⟩
         simp [results, go_sem, *]
        ·go_wp2_with fail
         refine bodyPost_ret_by (v := .tuple #[.agg #[.int .i64 0, .int .i64 0], .bool false]) ?_ rfl ⟨⟨(0, 0), rfl, fun h => by cases h⟩, HKF.out⟩
         simp [results, go_sem, *]
       ·obtain ⟨A, B, R, rfl⟩ := two_le hl2
        subst hv hs
        have hinv := prun_inv i _ (by rw [HNL.out]; omega) HPR.out
        have HOA := qd (Tr.ty_small (hinv.ok A (by simp)))
        have HOB := qd (Tr.ty_small (hinv.ok B (by simp)))
        clear hinv
        simp only [List.length_cons] at HS2 hcn hl2 ⊢
        obtain ⟨m, hm⟩ : ∃ m, R.length = m := ⟨_, rfl⟩
        have HMR := qd hm
        rw [hm] at HS2 hcn hl2 ⊢
        clear hm
        obtain ⟨m1, hm1⟩ : ∃ x, m + 1 = x := ⟨_, rfl⟩
        rw [hm1] at HS2 hcn hl2 ⊢
        obtain ⟨m2, hm2⟩ : ∃ x, m1 + 1 = x := ⟨_, rfl⟩
        rw [hm2] at HS2 hcn hl2 ⊢
        obtain ⟨gg, gcp, hge, _, _, hcap⟩ := OwnR.parts (show OwnR wireE 0 _ (.slice sa m2 sc) (styL (B :: A :: R)) from HS2.out.tl.hd) (by rw [styL_len]; simp)
        injection hge with hge1 hgl hge2
        subst hge1 hge2
        clear hgl
        have hlen : m2 = (styL (B :: A :: R)).length := by rw [styL_len, List.length_cons, List.length_cons, HMR.out]; omega
        have HLEN := qd hlen
        clear hlen
        have ea := @styL_at0 A B R
        have eb := @styL_at1 A B R
        have ec := @styL_cut A B R
        rw [HMR.out] at ea eb ec
        rw [hm1] at eb
        have HEC := qd ec
        clear ec
        obtain ⟨⟨a1, a2⟩, hA⟩ : ∃ q, A.ty = q := ⟨_, rfl⟩
        obtain ⟨⟨b1, b2⟩, hB⟩ : ∃ q, B.ty = q := ⟨_, rfl⟩
        rw [hA] at ea HOA
        rw [hB] at eb HOB
        have HA := qd hA; have HB2 := qd hB
        clear hA hB
        have HCL := qd fun (W : World) (l : List Asrt) (h : Sep W (OR wireE (.slice (some ⟨gg, 0, none⟩) m2 sc) (styL (B :: A :: R)) :: l)) => show (W.cell? ⟨gg, m * 2, none⟩ = some (.int .i64 a1) ∧ W.cell? ⟨gg, m * 2 + 1, none⟩ = some (.int .i64 a2)) ∧ W.cell? ⟨gg, m1 * 2, none⟩ = some (.int .i64 b1) ∧ W.cell? ⟨gg, m1 * 2 + 1, none⟩ = some (.int .i64 b2) from by
         have h1 := OwnR.wire (show OwnR wireE 0 _ _ _ from h.hd) HLEN.out (i := m) (by omega)
         have h2 := OwnR.wire (show OwnR wireE 0 _ _ _ from h.hd) HLEN.out (i := m1) (by omega)
         rw [ea] at h1
         rw [eb] at h2
         exact ⟨h1, h2⟩
        clear ea eb
        have hwa : IntKind.i64.wrap ((m2 : Int) - 1) = (m1 : Int) := by rw [wrap_id (by omega) (by omega)]; omega
        have HM1 := qd hm1; have HM2 := qd hm2
        have hwb : IntKind.i64.wrap ((m1 : Int) - 1) = (m : Int) := by rw [wrap_id (by omega) (by omega)]; omega
        have hb1 : (m : Int) < (m2 : Int) := by omega
        have hb2 : (m1 : Int) < (m2 : Int) := by omega
        have hb3 : ¬ (m2 : Int) < 2 := by omega
        have HLM := qd (show m ≤ m2 from by omega)
        rw [← HLEN.out] at hcap
        have hms : m ≤ sc := by omega
        clear hm1 hm2 hcap
        have hqa := HOA.out; have hqb := HOB.out
        simp only at hqa hqb
        rcases hop with rfl | rfl
        ·have HJ := qd fun W => joinW_seq a1 a2 b1 b2 W
         obtain ⟨bj, hbj⟩ : ∃ x, decide (a2 = b1) = x := ⟨_, rfl⟩
         rw [hbj] at HJ
         have HBJ := qd hbj
         unfold TyR at HJ
         clear hqa hqb hbj
         have HPJ := qd (show prun ns (i + 1) = if a2 = b1 then some (.seq A B :: R) else none from by
          rw [prun_succ HPR.out, HY.out, pstep_seq rfl rfl rfl, HA.out, HB2.out])
         go_upto_region 15 with fail
         clear z0 z1 z2 q0 q1 q2
         generalize wr.alloc (.cells #[.int .i64 15, .int .i64 0, .string noS] 145) = w4 at *
         generalize wr.heap.size = kb at *
         have HBM := qd fun (W1 : World) (L : List Asrt) (h : Sep W1 (OR wireE (.slice (some ⟨gg, 0, none⟩) m2 sc) (styL (B :: A :: R)) :: L)) (h1 : BxA kb #[.int .i64 15, .int .i64 0, .string noS] 145 ∈ L) => show ((W1.cell? ⟨gg, m * 2, none⟩ = some (.int .i64 a1) ∧ W1.cell? ⟨gg, m * 2 + 1, none⟩ = some (.int .i64 a2)) ∧ W1.cell? ⟨gg, m1 * 2, none⟩ = some (.int .i64 b1) ∧ W1.cell? ⟨gg, m1 * 2 + 1, none⟩ = some (.int .i64 b2)) ∧ W1.cell? ⟨kb, 0, none⟩ = some (.int .i64 15) from by
          obtain ⟨a0, _, _⟩ := bw3 (show W1.heap[kb]? = some (.cells #[.int .i64 15, .int .i64 0, .string noS] 145 (0, 0)) from Sep.all h _ (List.mem_cons_of_mem _ h1))
          exact ⟨HCL.out _ _ h, a0⟩
         have HSD := qd (Sep.blk (A := [_]) (B := [_]) HS2.out.dr)
         have X0 := qd (HBM.out _ _ HSD.out (by simp))
         refine AnyL.start (fun W1 => ((W1.cell? ⟨gg, m * 2, none⟩ = some (.int .i64 a1) ∧ W1.cell? ⟨gg, m * 2 + 1, none⟩ = some (.int .i64 a2)) ∧ W1.cell? ⟨gg, m1 * 2, none⟩ = some (.int .i64 b1) ∧ W1.cell? ⟨gg, m1 * 2 + 1, none⟩ = some (.int .i64 b2)) ∧ W1.cell? ⟨kb, 0, none⟩ = some (.int .i64 15)) (fun _ => True) 99 (by kernel_rfl) ?_
         refine AnyL.tT 0 (by exact X0.out) ?_
         refine AnyL.tT 1 (by exact X0.out) ?_
         refine AnyL.tT 2 (by exact X0.out) ?_
         refine AnyL.tT 3 (by exact X0.out) ?_
         refine AnyL.tT 4 (by exact X0.out) ?_
         refine AnyL.tT 5 (by exact X0.out) ?_
         refine AnyL.tT 6 (by exact X0.out) ?_
         refine AnyL.tT 7 (by exact X0.out) ?_
         refine AnyL.tT 8 (by exact X0.out) ?_
         refine AnyL.tT 9 (by exact X0.out) ?_
         refine AnyL.tT 10 (by exact X0.out) ?_
         refine AnyL.twoM (i := 11) (j := 15) (by kernel_rfl) (by rfl) (by rfl) (fun K hK => ?_) (fun K hK => ?_)
         ·go_simp
          go_at_call 149
          with_reducible refine (HJ.out _).mono ?_
          rintro e w5 ⟨⟨⟨qa, qc⟩, rfl, hq⟩, hg⟩
          have HS5 := qd (HSD.out.grown hg)
          have HQ := qd hq
          clear hg hq
          refine shutNx hK _ (by exact HBM.out _ _ HS5.out (by simp)) (by exact fun _ => trivial) ?_
          clear hK K
          refine AnyL.tT 12 (by exact HBM.out _ _ HS5.out (by simp)) ?_
          refine AnyL.tT 13 (by exact HBM.out _ _ HS5.out (by simp)) ?_
          refine AnyL.tT 14 (by exact HBM.out _ _ HS5.out (by simp)) ?_
          refine AnyL.step (i := 15) (by kernel_rfl) (by rfl) (fun K hK => ?_)
          go_simp
          have HS6 := qd (Sep.blk (A := [_]) (B := [_]) (HS5.out.boxAt (w5.heap.size) (by rfl) #[.int .i64 0, .int .i64 0] 149))
          refine shutNx hK (w5.alloc (.cells #[.int .i64 0, .int .i64 0] 149)) (by exact HBM.out _ _ HS6.out (by simp)) (by exact fun _ => trivial) ?_
          clear hK K
          generalize w5.alloc (.cells #[.int .i64 0, .int .i64 0] 149) = w6 at *
          generalize w5.heap.size = xb at *
          have hx0 := Sep.blk (A := [_]) (B := [_]) HS6.out
          obtain ⟨y0, y1, f0, f1⟩ := bw2 hx0.hd
          have HS7 := qd (Sep.blk (A := [_]) (B := [_]) ((hx0.setB 0 (.int .i64 qa)).setB 1 (.int .i64 qc)))
          clear hx0
          refine AnyL.step (i := 16) (by kernel_rfl) (by rfl) (fun K hK => ?_)
          go_simp
          refine hK.out _ _ (by exact HBM.out _ _ HS7.out (by simp)) (by exact fun _ => trivial) ?_
          clear hK K
          clear y0 y1 f0 f1
          refine AnyL.tT 17 (by exact HBM.out _ _ HS7.out (by simp)) ?_
          refine AnyL.done (by kernel_rfl) ?_ _
          generalize ((w6.setCell ⟨xb, 0, none⟩ (.int .i64 qa)).setCell ⟨xb, 1, none⟩ (.int .i64 qc)) = w7 at *
          cases bj
          ·have hc := of_decide_eq_false HBJ.out
           obtain rfl : b = false := by rw [← HB.out]; exact tmB_no HKE.out HPR.out (by have h := HPJ.out; rw [if_neg hc, prun_succ HPR.out] at h; exact h)
           have hz0 := Sep.blk (A := [_, _, _]) (B := [_]) HS7.out
           obtain ⟨y0, y1, f0, f1⟩ := bw2 hz0.hd
           have HSZ := qd ((hz0.setB 0 (.int .i64 0)).setB 1 (.int .i64 0))
           obtain ⟨u0, u1, _, _⟩ := bw2 HSZ.out.hd
           have HKF := qd (show w.grownBy _ none from Sep.all HSZ.out (KeepA w) (by simp))
           clear hz0
           go_wp2_with fail
           refine bodyPost_ret_by (v := .tuple #[.agg #[.int .i64 0, .int .i64 0], .bool false]) ?_ rfl ⟨⟨(0, 0), rfl, fun h => by cases h⟩, HKF.out⟩
           simp [results, go_sem, *]
          ·have hc := of_decide_eq_true HBJ.out
           have HQ2 := qd (HQ.out rfl)
           rw [if_pos hc] at HPJ
           go_upto_region 18 with fail
           have HSE := qd HS7.out.dr
           have hcu := HSE.out.cutR (k := m) HLEN.out.symm HLM.out
           rw [HEC.out] at hcu
           have HCU := qd hcu
           clear hcu
           obtain ⟨x0, x1, _, _⟩ := bw2 HSE.out.tl.hd
           have X5 := qd x0; have X6 := qd x1
           clear x0 x1
           refine AnyL.start (fun W1 => W1.cell? ⟨xb, 0, none⟩ = some (.int .i64 qa) ∧ W1.cell? ⟨xb, 1, none⟩ = some (.int .i64 qc)) (fun _ => True) 99 (by kernel_rfl) ?_
           generalize w7.drew = w8 at *
           refine AnyL.tT 0 (by exact ⟨X5.out, X6.out⟩) ?_
           refine AnyL.tT 1 (by exact ⟨X5.out, X6.out⟩) ?_
           refine AnyL.tT 2 (by exact ⟨X5.out, X6.out⟩) ?_
           refine AnyL.tT 3 (by exact ⟨X5.out, X6.out⟩) ?_
           refine AnyL.tT 4 (by exact ⟨X5.out, X6.out⟩) ?_
           have Y5 := qd fun ob => (show _ ∧ _ from ⟨(bw2 (HCU.out.al ob).tl.hd).1, (bw2 (HCU.out.al ob).tl.hd).2.1⟩)
           refine AnyL.step (i := 5) (by kernel_rfl) (by rfl) (fun K hK => ?_)
           go_simp
           refine shutNx hK _ (by exact Y5.out _) (by exact fun _ => trivial) ?_
           clear hK K
           refine AnyL.step (i := 6) (by kernel_rfl) (by rfl) (fun K hK => ?_)
           refine step_app_RG (E := wireE) (y := (qa, qc)) (w := w8) (q := w8.heap.size) (v := .slice (some ⟨gg, 0, none⟩) m sc) info_wire rfl (by decide) Tryz.underlying184 (wire_one _ _) rfl (.tmp 85) (.tmp 87) rfl rfl rfl rfl rfl HCU.out (by rw [styL_len, HMR.out]; omega) ?_
           intro g8 c8 w9 h8
           rw [styL_len, HMR.out, HQ2.out, show styL R ++ [(a1, b2)] = styL (.seq A B :: R) from by rw [styL_push]; show _ = styL R ++ [_]; simp only [Tr.ty, HA.out, HB2.out]] at h8
           try rw [styL_len, HMR.out]
           obtain ⟨x0, x1, _, _⟩ := bw2 h8.tl.hd
           have X7 := qd x0; have X8 := qd x1
           have HS8 := qd (Sep.cutA (X := [_]) (A := [_, _]) h8)
           clear h8 x0 x1
           refine shutNx hK _ (by exact ⟨X7.out, X8.out⟩) (by exact fun _ => trivial) ?_
           clear hK K
           refine AnyL.tT 7 (by exact ⟨X7.out, X8.out⟩) ?_
           refine AnyL.done (by kernel_rfl) ?_ _
           go_wp2_with fail
           go_roundw
           case rel => exact ⟨i + 1, _, by omega, by go_num, HPJ.out, HS8.out⟩
           case measure => simp [intOf]; omega
         ·go_simp
          have HS5 := qd (Sep.blk (A := [_]) (B := [_]) (HSD.out.boxAt (w4.heap.size) (by rfl) #[.int .i64 0, .int .i64 0] 149))
          refine shutNx hK (w4.drew.alloc (.cells #[.int .i64 0, .int .i64 0] 149)) (by exact HBM.out _ _ HS5.out (by simp)) (by exact fun _ => trivial) ?_
          clear hK K
          generalize w4.drew.alloc (.cells #[.int .i64 0, .int .i64 0] 149) = w5 at *
          generalize w4.heap.size = xb at *
          refine AnyL.step (i := 11) (by kernel_rfl) (by rfl) (fun K hK => ?_)
          go_simp
          go_at_call 149
          with_reducible refine (HJ.out _).mono ?_
          rintro e w6 ⟨⟨⟨qa, qc⟩, rfl, hq⟩, hg⟩
          have HS6 := qd (HS5.out.grown hg)
          have HQ := qd hq
          clear hg hq
          refine shutNx hK _ (by exact HBM.out _ _ HS6.out (by simp)) (by exact fun _ => trivial) ?_
          clear hK K
          refine AnyL.tT 12 (by exact HBM.out _ _ HS6.out (by simp)) ?_
          refine AnyL.tT 13 (by exact HBM.out _ _ HS6.out (by simp)) ?_
          refine AnyL.tT 14 (by exact HBM.out _ _ HS6.out (by simp)) ?_
          have hx0 := Sep.blk (A := [_]) (B := [_]) HS6.out
          obtain ⟨y0, y1, f0, f1⟩ := bw2 hx0.hd
          have HS7 := qd (Sep.blk (A := [_]) (B := [_]) ((hx0.setB 0 (.int .i64 qa)).setB 1 (.int .i64 qc)))
          clear hx0
          refine AnyL.step (i := 16) (by kernel_rfl) (by rfl) (fun K hK => ?_)
          go_simp
          refine hK.out _ _ (by exact HBM.out _ _ HS7.out (by simp)) (by exact fun _ => trivial) ?_
          clear hK K
          clear y0 y1 f0 f1
          refine AnyL.tT 17 (by exact HBM.out _ _ HS7.out (by simp)) ?_
          refine AnyL.done (by kernel_rfl) ?_ _
          generalize ((w6.setCell ⟨xb, 0, none⟩ (.int .i64 qa)).setCell ⟨xb, 1, none⟩ (.int .i64 qc)) = w7 at *
          cases bj
          ·have hc := of_decide_eq_false HBJ.out
           obtain rfl : b = false := by rw [← HB.out]; exact tmB_no HKE.out HPR.out (by have h := HPJ.out; rw [if_neg hc, prun_succ HPR.out] at h; exact h)
           have hz0 := Sep.blk (A := [_, _, _]) (B := [_]) HS7.out
           obtain ⟨y0, y1, f0, f1⟩ := bw2 hz0.hd
           have HSZ := qd ((hz0.setB 0 (.int .i64 0)).setB 1 (.int .i64 0))
           obtain ⟨u0, u1, _, _⟩ := bw2 HSZ.out.hd
           have HKF := qd (show w.grownBy _ none from Sep.all HSZ.out (KeepA w) (by simp))
           clear hz0
           go_wp2_with fail
           refine bodyPost_ret_by (v := .tuple #[.agg #[.int .i64 0, .int .i64 0], .bool false]) ?_ rfl ⟨⟨(0, 0), rfl, fun h => by cases h⟩, HKF.out⟩
           simp [results, go_sem, *]
          ·have hc := of_decide_eq_true HBJ.out
           have HQ2 := qd (HQ.out rfl)
           rw [if_pos hc] at HPJ
           go_upto_region 18 with fail
           have HSE := qd HS7.out.dr
           have hcu := HSE.out.cutR (k := m) HLEN.out.symm HLM.out
           rw [HEC.out] at hcu
           have HCU := qd hcu
           clear hcu
           obtain ⟨x0, x1, _, _⟩ := bw2 HSE.out.tl.hd
           have X5 := qd x0; have X6 := qd x1
           clear x0 x1
           refine AnyL.start (fun W1 => W1.cell? ⟨xb, 0, none⟩ = some (.int .i64 qa) ∧ W1.cell? ⟨xb, 1, none⟩ = some (.int .i64 qc)) (fun _ => True) 99 (by kernel_rfl) ?_
           generalize w7.drew = w8 at *
           refine AnyL.tT 0 (by exact ⟨X5.out, X6.out⟩) ?_
           refine AnyL.tT 1 (by exact ⟨X5.out, X6.out⟩) ?_
           refine AnyL.tT 2 (by exact ⟨X5.out, X6.out⟩) ?_
           refine AnyL.tT 3 (by exact ⟨X5.out, X6.out⟩) ?_
           refine AnyL.tT 4 (by exact ⟨X5.out, X6.out⟩) ?_
           have Y5 := qd fun ob => (show _ ∧ _ from ⟨(bw2 (HCU.out.al ob).tl.hd).1, (bw2 (HCU.out.al ob).tl.hd).2.1⟩)
           refine AnyL.step (i := 5) (by kernel_rfl) (by rfl) (fun K hK => ?_)
           go_simp
           refine shutNx hK _ (by exact Y5.out _) (by exact fun _ => trivial) ?_
           clear hK K
           refine AnyL.step (i := 6) (by kernel_rfl) (by rfl) (fun K hK => ?_)
           refine step_app_RG (E := wireE) (y := (qa, qc)) (w := w8) (q := w8.heap.size) (v := .slice (some ⟨gg, 0, none⟩) m sc) info_wire rfl (by decide) Tryz.underlying184 (wire_one _ _) rfl (.tmp 85) (.tmp 87) rfl rfl rfl rfl rfl HCU.out (by rw [styL_len, HMR.out]; omega) ?_
           intro g8 c8 w9 h8
           rw [styL_len, HMR.out, HQ2.out, show styL R ++ [(a1, b2)] = styL (.seq A B :: R) from by rw [styL_push]; show _ = styL R ++ [_]; simp only [Tr.ty, HA.out, HB2.out]] at h8
           try rw [styL_len, HMR.out]
           obtain ⟨x0, x1, _, _⟩ := bw2 h8.tl.hd
           have X7 := qd x0; have X8 := qd x1
           have HS8 := qd (Sep.cutA (X := [_]) (A := [_, _]) h8)
           clear h8 x0 x1
           refine shutNx hK _ (by exact ⟨X7.out, X8.out⟩) (by exact fun _ => trivial) ?_
           clear hK K
           refine AnyL.tT 7 (by exact ⟨X7.out, X8.out⟩) ?_
           refine AnyL.done (by kernel_rfl) ?_ _
           go_wp2_with fail
           go_roundw
           case rel => exact ⟨i + 1, _, by omega, by go_num, HPJ.out, HS8.out⟩
           case measure => simp [intOf]; omega
        ·have HJ := qd fun W => joinW_par a1 a2 b1 b2 W hqa hqb
         obtain ⟨bj, hbj⟩ : ∃ x, decide (a1 + b1 ≤ 12 ∧ a2 + b2 ≤ 12) = x := ⟨_, rfl⟩
         rw [hbj] at HJ
         have HBJ := qd hbj
         unfold TyR at HJ
         clear hqa hqb hbj
         have HPJ := qd (show prun ns (i + 1) = if a1 + b1 ≤ 12 ∧ a2 + b2 ≤ 12 then some (.par A B :: R) else none from by
          rw [prun_succ HPR.out, HY.out, pstep_par rfl rfl rfl, HA.out, HB2.out])
         go_upto_region 15 with fail
         clear z0 z1 z2 q0 q1 q2
         generalize wr.alloc (.cells #[.int .i64 16, .int .i64 0, .string noS] 145) = w4 at *
         generalize wr.heap.size = kb at *
         have HBM := qd fun (W1 : World) (L : List Asrt) (h : Sep W1 (OR wireE (.slice (some ⟨gg, 0, none⟩) m2 sc) (styL (B :: A :: R)) :: L)) (h1 : BxA kb #[.int .i64 16, .int .i64 0, .string noS] 145 ∈ L) => show ((W1.cell? ⟨gg, m * 2, none⟩ = some (.int .i64 a1) ∧ W1.cell? ⟨gg, m * 2 + 1, none⟩ = some (.int .i64 a2)) ∧ W1.cell? ⟨gg, m1 * 2, none⟩ = some (.int .i64 b1) ∧ W1.cell? ⟨gg, m1 * 2 + 1, none⟩ = some (.int .i64 b2)) ∧ W1.cell? ⟨kb, 0, none⟩ = some (.int .i64 16) from by
          obtain ⟨a0, _, _⟩ := bw3 (show W1.heap[kb]? = some (.cells #[.int .i64 16, .int .i64 0, .string noS] 145 (0, 0)) from Sep.all h _ (List.mem_cons_of_mem _ h1))
          exact ⟨HCL.out _ _ h, a0⟩
         have HSD := qd (Sep.blk (A := [_]) (B := [_]) HS2.out.dr)
         have X0 := qd (HBM.out _ _ HSD.out (by simp))
         refine AnyL.start (fun W1 => ((W1.cell? ⟨gg, m * 2, none⟩ = some (.int .i64 a1) ∧ W1.cell? ⟨gg, m * 2 + 1, none⟩ = some (.int .i64 a2)) ∧ W1.cell? ⟨gg, m1 * 2, none⟩ = some (.int .i64 b1) ∧ W1.cell? ⟨gg, m1 * 2 + 1, none⟩ = some (.int .i64 b2)) ∧ W1.cell? ⟨kb, 0, none⟩ = some (.int .i64 16)) (fun _ => True) 99 (by kernel_rfl) ?_
         refine AnyL.tT 0 (by exact X0.out) ?_
         refine AnyL.tT 1 (by exact X0.out) ?_
         refine AnyL.tT 2 (by exact X0.out) ?_
         refine AnyL.tT 3 (by exact X0.out) ?_
         refine AnyL.tT 4 (by exact X0.out) ?_
         refine AnyL.tT 5 (by exact X0.out) ?_
         refine AnyL.tT 6 (by exact X0.out) ?_
         refine AnyL.tT 7 (by exact X0.out) ?_
         refine AnyL.tT 8 (by exact X0.out) ?_
         refine AnyL.tT 9 (by exact X0.out) ?_
         refine AnyL.tT 10 (by exact X0.out) ?_
         refine AnyL.twoM (i := 11) (j := 15) (by kernel_rfl) (by rfl) (by rfl) (fun K hK => ?_) (fun K hK => ?_)
         ·go_simp
          go_at_call 149
          with_reducible refine (HJ.out _).mono ?_
          rintro e w5 ⟨⟨⟨qa, qc⟩, rfl, hq⟩, hg⟩
          have HS5 := qd (HSD.out.grown hg)
          have HQ := qd hq
          clear hg hq
          refine shutNx hK _ (by exact HBM.out _ _ HS5.out (by simp)) (by exact fun _ => trivial) ?_
          clear hK K
          refine AnyL.tT 12 (by exact HBM.out _ _ HS5.out (by simp)) ?_
          refine AnyL.tT 13 (by exact HBM.out _ _ HS5.out (by simp)) ?_
          refine AnyL.tT 14 (by exact HBM.out _ _ HS5.out (by simp)) ?_
          refine AnyL.step (i := 15) (by kernel_rfl) (by rfl) (fun K hK => ?_)
          go_simp
          have HS6 := qd (Sep.blk (A := [_]) (B := [_]) (HS5.out.boxAt (w5.heap.size) (by rfl) #[.int .i64 0, .int .i64 0] 149))
          refine shutNx hK (w5.alloc (.cells #[.int .i64 0, .int .i64 0] 149)) (by exact HBM.out _ _ HS6.out (by simp)) (by exact fun _ => trivial) ?_
          clear hK K
          generalize w5.alloc (.cells #[.int .i64 0, .int .i64 0] 149) = w6 at *
          generalize w5.heap.size = xb at *
          have hx0 := Sep.blk (A := [_]) (B := [_]) HS6.out
          obtain ⟨y0, y1, f0, f1⟩ := bw2 hx0.hd
          have HS7 := qd (Sep.blk (A := [_]) (B := [_]) ((hx0.setB 0 (.int .i64 qa)).setB 1 (.int .i64 qc)))
          clear hx0
          refine AnyL.step (i := 16) (by kernel_rfl) (by rfl) (fun K hK => ?_)
          go_simp
          refine hK.out _ _ (by exact HBM.out _ _ HS7.out (by simp)) (by exact fun _ => trivial) ?_
          clear hK K
          clear y0 y1 f0 f1
          refine AnyL.tT 17 (by exact HBM.out _ _ HS7.out (by simp)) ?_
          refine AnyL.done (by kernel_rfl) ?_ _
          generalize ((w6.setCell ⟨xb, 0, none⟩ (.int .i64 qa)).setCell ⟨xb, 1, none⟩ (.int .i64 qc)) = w7 at *
          cases bj
          ·have hc := of_decide_eq_false HBJ.out
           obtain rfl : b = false := by rw [← HB.out]; exact tmB_no HKE.out HPR.out (by have h := HPJ.out; rw [if_neg hc, prun_succ HPR.out] at h; exact h)
           have hz0 := Sep.blk (A := [_, _, _]) (B := [_]) HS7.out
           obtain ⟨y0, y1, f0, f1⟩ := bw2 hz0.hd
           have HSZ := qd ((hz0.setB 0 (.int .i64 0)).setB 1 (.int .i64 0))
           obtain ⟨u0, u1, _, _⟩ := bw2 HSZ.out.hd
           have HKF := qd (show w.grownBy _ none from Sep.all HSZ.out (KeepA w) (by simp))
           clear hz0
           go_wp2_with fail
           refine bodyPost_ret_by (v := .tuple #[.agg #[.int .i64 0, .int .i64 0], .bool false]) ?_ rfl ⟨⟨(0, 0), rfl, fun h => by cases h⟩, HKF.out⟩
           simp [results, go_sem, *]
          ·have hc := of_decide_eq_true HBJ.out
           have HQ2 := qd (HQ.out rfl)
           rw [if_pos hc] at HPJ
           go_upto_region 18 with fail
           have HSE := qd HS7.out.dr
           have hcu := HSE.out.cutR (k := m) HLEN.out.symm HLM.out
           rw [HEC.out] at hcu
           have HCU := qd hcu
           clear hcu
           obtain ⟨x0, x1, _, _⟩ := bw2 HSE.out.tl.hd
           have X5 := qd x0; have X6 := qd x1
           clear x0 x1
           refine AnyL.start (fun W1 => W1.cell? ⟨xb, 0, none⟩ = some (.int .i64 qa) ∧ W1.cell? ⟨xb, 1, none⟩ = some (.int .i64 qc)) (fun _ => True) 99 (by kernel_rfl) ?_
           generalize w7.drew = w8 at *
           refine AnyL.tT 0 (by exact ⟨X5.out, X6.out⟩) ?_
           refine AnyL.tT 1 (by exact ⟨X5.out, X6.out⟩) ?_
           refine AnyL.tT 2 (by exact ⟨X5.out, X6.out⟩) ?_
           refine AnyL.tT 3 (by exact ⟨X5.out, X6.out⟩) ?_
           refine AnyL.tT 4 (by exact ⟨X5.out, X6.out⟩) ?_
           have Y5 := qd fun ob => (show _ ∧ _ from ⟨(bw2 (HCU.out.al ob).tl.hd).1, (bw2 (HCU.out.al ob).tl.hd).2.1⟩)
           refine AnyL.step (i := 5) (by kernel_rfl) (by rfl) (fun K hK => ?_)
           go_simp
           refine shutNx hK _ (by exact Y5.out _) (by exact fun _ => trivial) ?_
           clear hK K
           refine AnyL.step (i := 6) (by kernel_rfl) (by rfl) (fun K hK => ?_)
           refine step_app_RG (E := wireE) (y := (qa, qc)) (w := w8) (q := w8.heap.size) (v := .slice (some ⟨gg, 0, none⟩) m sc) info_wire rfl (by decide) Tryz.underlying184 (wire_one _ _) rfl (.tmp 85) (.tmp 87) rfl rfl rfl rfl rfl HCU.out (by rw [styL_len, HMR.out]; omega) ?_
           intro g8 c8 w9 h8
           rw [styL_len, HMR.out, HQ2.out, show styL R ++ [((a1 + b1), (a2 + b2))] = styL (.par A B :: R) from by rw [styL_push]; show _ = styL R ++ [_]; simp only [Tr.ty, HA.out, HB2.out]] at h8
           try rw [styL_len, HMR.out]
           obtain ⟨x0, x1, _, _⟩ := bw2 h8.tl.hd
           have X7 := qd x0; have X8 := qd x1
           have HS8 := qd (Sep.cutA (X := [_]) (A := [_, _]) h8)
           clear h8 x0 x1
           refine shutNx hK _ (by exact ⟨X7.out, X8.out⟩) (by exact fun _ => trivial) ?_
           clear hK K
           refine AnyL.tT 7 (by exact ⟨X7.out, X8.out⟩) ?_
           refine AnyL.done (by kernel_rfl) ?_ _
           go_wp2_with fail
           go_roundw
           case rel => exact ⟨i + 1, _, by omega, by go_num, HPJ.out, HS8.out⟩
           case measure => simp [intOf]; omega
         ·go_simp
          have HS5 := qd (Sep.blk (A := [_]) (B := [_]) (HSD.out.boxAt (w4.heap.size) (by rfl) #[.int .i64 0, .int .i64 0] 149))
          refine shutNx hK (w4.drew.alloc (.cells #[.int .i64 0, .int .i64 0] 149)) (by exact HBM.out _ _ HS5.out (by simp)) (by exact fun _ => trivial) ?_
          clear hK K
          generalize w4.drew.alloc (.cells #[.int .i64 0, .int .i64 0] 149) = w5 at *
          generalize w4.heap.size = xb at *
          refine AnyL.step (i := 11) (by kernel_rfl) (by rfl) (fun K hK => ?_)
          go_simp
          go_at_call 149
          with_reducible refine (HJ.out _).mono ?_
          rintro e w6 ⟨⟨⟨qa, qc⟩, rfl, hq⟩, hg⟩
          have HS6 := qd (HS5.out.grown hg)
          have HQ := qd hq
          clear hg hq
          refine shutNx hK _ (by exact HBM.out _ _ HS6.out (by simp)) (by exact fun _ => trivial) ?_
          clear hK K
          refine AnyL.tT 12 (by exact HBM.out _ _ HS6.out (by simp)) ?_
          refine AnyL.tT 13 (by exact HBM.out _ _ HS6.out (by simp)) ?_
          refine AnyL.tT 14 (by exact HBM.out _ _ HS6.out (by simp)) ?_
          have hx0 := Sep.blk (A := [_]) (B := [_]) HS6.out
          obtain ⟨y0, y1, f0, f1⟩ := bw2 hx0.hd
          have HS7 := qd (Sep.blk (A := [_]) (B := [_]) ((hx0.setB 0 (.int .i64 qa)).setB 1 (.int .i64 qc)))
          clear hx0
          refine AnyL.step (i := 16) (by kernel_rfl) (by rfl) (fun K hK => ?_)
          go_simp
          refine hK.out _ _ (by exact HBM.out _ _ HS7.out (by simp)) (by exact fun _ => trivial) ?_
          clear hK K
          clear y0 y1 f0 f1
          refine AnyL.tT 17 (by exact HBM.out _ _ HS7.out (by simp)) ?_
          refine AnyL.done (by kernel_rfl) ?_ _
          generalize ((w6.setCell ⟨xb, 0, none⟩ (.int .i64 qa)).setCell ⟨xb, 1, none⟩ (.int .i64 qc)) = w7 at *
          cases bj
          ·have hc := of_decide_eq_false HBJ.out
           obtain rfl : b = false := by rw [← HB.out]; exact tmB_no HKE.out HPR.out (by have h := HPJ.out; rw [if_neg hc, prun_succ HPR.out] at h; exact h)
           have hz0 := Sep.blk (A := [_, _, _]) (B := [_]) HS7.out
           obtain ⟨y0, y1, f0, f1⟩ := bw2 hz0.hd
           have HSZ := qd ((hz0.setB 0 (.int .i64 0)).setB 1 (.int .i64 0))
           obtain ⟨u0, u1, _, _⟩ := bw2 HSZ.out.hd
           have HKF := qd (show w.grownBy _ none from Sep.all HSZ.out (KeepA w) (by simp))
           clear hz0
           go_wp2_with fail
           refine bodyPost_ret_by (v := .tuple #[.agg #[.int .i64 0, .int .i64 0], .bool false]) ?_ rfl ⟨⟨(0, 0), rfl, fun h => by cases h⟩, HKF.out⟩
           simp [results, go_sem, *]
          ·have hc := of_decide_eq_true HBJ.out
           have HQ2 := qd (HQ.out rfl)
           rw [if_pos hc] at HPJ
           go_upto_region 18 with fail
           have HSE := qd HS7.out.dr
           have hcu := HSE.out.cutR (k := m) HLEN.out.symm HLM.out
           rw [HEC.out] at hcu
           have HCU := qd hcu
           clear hcu
           obtain ⟨x0, x1, _, _⟩ := bw2 HSE.out.tl.hd
           have X5 := qd x0; have X6 := qd x1
           clear x0 x1
           refine AnyL.start (fun W1 => W1.cell? ⟨xb, 0, none⟩ = some (.int .i64 qa) ∧ W1.cell? ⟨xb, 1, none⟩ = some (.int .i64 qc)) (fun _ => True) 99 (by kernel_rfl) ?_
           generalize w7.drew = w8 at *
           refine AnyL.tT 0 (by exact ⟨X5.out, X6.out⟩) ?_
           refine AnyL.tT 1 (by exact ⟨X5.out, X6.out⟩) ?_
           refine AnyL.tT 2 (by exact ⟨X5.out, X6.out⟩) ?_
           refine AnyL.tT 3 (by exact ⟨X5.out, X6.out⟩) ?_
           refine AnyL.tT 4 (by exact ⟨X5.out, X6.out⟩) ?_
           have Y5 := qd fun ob => (show _ ∧ _ from ⟨(bw2 (HCU.out.al ob).tl.hd).1, (bw2 (HCU.out.al ob).tl.hd).2.1⟩)
           refine AnyL.step (i := 5) (by kernel_rfl) (by rfl) (fun K hK => ?_)
           go_simp
           refine shutNx hK _ (by exact Y5.out _) (by exact fun _ => trivial) ?_
           clear hK K
           refine AnyL.step (i := 6) (by kernel_rfl) (by rfl) (fun K hK => ?_)
           refine step_app_RG (E := wireE) (y := (qa, qc)) (w := w8) (q := w8.heap.size) (v := .slice (some ⟨gg, 0, none⟩) m sc) info_wire rfl (by decide) Tryz.underlying184 (wire_one _ _) rfl (.tmp 85) (.tmp 87) rfl rfl rfl rfl rfl HCU.out (by rw [styL_len, HMR.out]; omega) ?_
           intro g8 c8 w9 h8
           rw [styL_len, HMR.out, HQ2.out, show styL R ++ [((a1 + b1), (a2 + b2))] = styL (.par A B :: R) from by rw [styL_push]; show _ = styL R ++ [_]; simp only [Tr.ty, HA.out, HB2.out]] at h8
           try rw [styL_len, HMR.out]
           obtain ⟨x0, x1, _, _⟩ := bw2 h8.tl.hd
           have X7 := qd x0; have X8 := qd x1
           have HS8 := qd (Sep.cutA (X := [_]) (A := [_, _]) h8)
           clear h8 x0 x1
           refine shutNx hK _ (by exact ⟨X7.out, X8.out⟩) (by exact fun _ => trivial) ?_
           clear hK K
           refine AnyL.tT 7 (by exact ⟨X7.out, X8.out⟩) ?_
           refine AnyL.done (by kernel_rfl) ?_ _
           go_wp2_with fail
           go_roundw
           case rel => exact ⟨i + 1, _, by omega, by go_num, HPJ.out, HS8.out⟩
           case measure => simp [intOf]; omega
      ·have hs1 := ba_ne hs
       obtain rfl : b = false := by rw [← HB.out]; exact tmB_no HKE.out HPR.out (by rw [HY.out]; exact pstep_no hop (Or.inr (Or.inl hs)))
       have hz0 := Sep.blk (A := [_, _]) (B := [_]) HS2.out
       obtain ⟨y0, y1, f0, f1⟩ := bw2 hz0.hd
       have HSZ := qd ((hz0.setB 0 (.int .i64 0)).setB 1 (.int .i64 0))
       obtain ⟨u0, u1, _, _⟩ := bw2 HSZ.out.hd
       have HKF := qd (show w.grownBy _ none from Sep.all HSZ.out (KeepA w) (by simp))
       clear hz0
       subst hv
       rcases hop with rfl | rfl
       ·go_wp2_with fail
        refine bodyPost_ret_by (v := .tuple #[.agg #[.int .i64 0, .int .i64 0], .bool false]) ?_ rfl ⟨⟨(0, 0), rfl, fun h => by cases h⟩, HKF.out⟩
        simp [results, go_sem, *]
       ·go_wp2_with fail
        refine bodyPost_ret_by (v := .tuple #[.agg #[.int .i64 0, .int .i64 0], .bool false]) ?_ rfl ⟨⟨(0, 0), rfl, fun h => by cases h⟩, HKF.out⟩
        simp [results, go_sem, *]
     ·have hv1 : (v != 0) = true := by simpa using hv
      obtain rfl : b = false := by rw [← HB.out]; exact tmB_no HKE.out HPR.out (by rw [HY.out]; exact pstep_no hop (Or.inl hv))
      have hz0 := Sep.blk (A := [_, _]) (B := [_]) HS2.out
      obtain ⟨y0, y1, f0, f1⟩ := bw2 hz0.hd
      have HSZ := qd ((hz0.setB 0 (.int .i64 0)).setB 1 (.int .i64 0))
      obtain ⟨u0, u1, _, _⟩ := bw2 HSZ.out.hd
      have HKF := qd (show w.grownBy _ none from Sep.all HSZ.out (KeepA w) (by simp))
      clear hz0
      rcases hop with rfl | rfl
      ·go_wp2_with fail
       refine bodyPost_ret_by (v := .tuple #[.agg #[.int .i64 0, .int .i64 0], .bool false]) ?_ rfl ⟨⟨(0, 0), rfl, fun h => by cases h⟩, HKF.out⟩
       simp [results, go_sem, *]
      ·go_wp2_with fail
       refine bodyPost_ret_by (v := .tuple #[.agg #[.int .i64 0, .int .i64 0], .bool false]) ?_ rfl ⟨⟨(0, 0), rfl, fun h => by cases h⟩, HKF.out⟩
       simp [results, go_sem, *]
    ·have h15 : (k != 15) = true := by simp; omega
     have h16 : (k != 16) = true := by simp; omega
     have HL := qd fun W => HLW.out k v s W
     cases hb : lfB ⟨k, v, s⟩
     ·rw [hb] at HL
      clear HLW
      obtain rfl : b = false := by rw [← HB.out]; exact tmB_no HKE.out HPR.out (by rw [HY.out, pstep_leaf hop, if_neg (by rw [hb]; simp)])
      unfold TyR at HL
      skip
      go_wp2_with (
       go_at_call 136
       with_reducible refine (HL.out _).mono ?_
       rintro e w3 ⟨⟨⟨qa, qc⟩, rfl, _⟩, hg⟩
       have HS3 := qd ((HS2.out.grown hg).boxAt w3.heap.size rfl #[.int .i64 qa, .int .i64 qc] 149)
       have hz0 := Sep.blk (A := [_, _, _]) (B := [_]) HS3.out
       obtain ⟨y0, y1, f0, f1⟩ := bw2 hz0.hd
       have HSZ := qd ((hz0.setB 0 (.int .i64 0)).setB 1 (.int .i64 0))
       obtain ⟨u0, u1, _, _⟩ := bw2 HSZ.out.hd
       have HKF := qd (show w.grownBy _ none from Sep.all HSZ.out (KeepA w) (by simp))
       clear hz0
       clear hg z0 z1 z2 q0 q1 q2)
      refine bodyPost_ret_by (v := .tuple #[.agg #[.int .i64 0, .int .i64 0], .bool false]) ?_ rfl ⟨⟨(0, 0), rfl, fun h => by cases h⟩, HKF.out⟩
      simp [results, go_sem, *]
     ·rw [hb] at HL
      have HPS := qd (show prun ns (i + 1) = some (.leaf ⟨k, v, s⟩ :: S) from by rw [prun_succ HPR.out, HY.out, pstep_leaf hop, if_pos hb])
      clear HLW hb
      unfold TyR at HL
      go_upto_region 11 with (
       go_at_call 136
       with_reducible refine (HL.out _).mono ?_
       rintro e w3 ⟨⟨⟨qa, qc⟩, rfl, hq⟩, hg⟩
       have HQ := qd (hq rfl)
       have HS3 := qd ((HS2.out.grown hg).boxAt w3.heap.size rfl #[.int .i64 qa, .int .i64 qc] 149)
       clear hg hq z0 z1 z2 q0 q1 q2)
      generalize w3.alloc (.cells #[.int .i64 qa, .int .i64 qc] 149) = w4 at *
      obtain ⟨x0, x1, _, _⟩ := bw2 HS3.out.hd
      generalize w3.heap.size = xb at *
      have HS4 := qd (Sep.blk (A := [_, _]) (B := [_]) HS3.out)
      go_wp2_with (
       at_builtin
       go_loud (
       refine app_R (E := wireE) (y := (qa, qc)) info_wire rfl (by decide) Tryz.underlying184 (wire_one _ _) rfl (.tmp 43) (.tmp 45) rfl rfl rfl rfl HS4.out (by rw [styL_len]; omega) ?_
       intro g5 c5 w5 h5
       rw [HQ.out, styL_len, show styL S ++ [lfTy ⟨k, v, s⟩] = styL (.leaf ⟨k, v, s⟩ :: S) from (styL_push (.leaf ⟨k, v, s⟩) S).symm] at h5
       try rw [styL_len]
       have HS5 := qd (Sep.cutA (X := [_]) (A := [_, _]) h5)
       clear h5 x0 x1))
      go_roundw
      case rel => exact ⟨i + 1, _, by omega, by go_num, HPS.out, HS5.out⟩
      case measure => simp [intOf]; omega
   ·have hin : n = i := by omega
    subst hin
    have hkk : ¬ (n : Int) < (n : Int) := by omega
    obtain ⟨T, R, rfl, e1, e2⟩ := tm_end (by rw [HNL.out]; exact hr1) (by rw [HNL.out]; exact hr2) (by rw [HNL.out]; exact HPR.out)
    rw [HB.out] at e1
    rw [HP.out] at e2
    have hlz : 0 < (styL (T :: R)).length := by rw [styL_len]; simp
    obtain ⟨gg, gcp, hge, _, _, _⟩ := OwnR.parts (show OwnR wireE 0 _ _ (styL (T :: R)) from HSQ.out.hd) hlz
    injection hge with hge1 hgl hge2
    subst hge1 hge2
    clear hgl
    obtain ⟨x0, x1⟩ := OwnR.wire (show OwnR wireE 0 _ _ _ from HSQ.out.hd) (by rw [styL_len]) (i := 0) (by simp)
    rw [Nat.zero_mul] at x0 x1
    rw [Nat.zero_add] at x1
    have HQP := qd (show b = true → (styL (T :: R)).getD 0 (0, 0) = p from fun h => by rw [e2]; exact styL_first (List.eq_nil_of_length_eq_zero (by rw [h] at e1; have := of_decide_eq_true e1.symm; simpa using this)))
    obtain ⟨⟨qa, qc⟩, hq⟩ : ∃ q, (styL (T :: R)).getD 0 (0, 0) = q := ⟨_, rfl⟩
    rw [hq] at x0 x1 HQP
    simp only at x0 x1
    have HSR := qd (Sep.blk (A := [_]) (B := [_]) HSQ.out)
    obtain ⟨y0, y1, f0, f1⟩ := bw2 HSR.out.hd
    have HSZ := qd ((HSR.out.setB 0 (.int .i64 qa)).setB 1 (.int .i64 qc))
    obtain ⟨u0, u1, _, _⟩ := bw2 HSZ.out.hd
    have HKF := qd (show w.grownBy _ none from Sep.all HSZ.out (KeepA w) (by simp))
    obtain ⟨sl, hsl⟩ : ∃ x, (T :: R).length = x := ⟨_, rfl⟩
    have hpos : (0 : Int) < (sl : Int) := by rw [← hsl, List.length_cons]; omega
    rw [hsl] at e1 HSQ HSR ⊢
    have hcmp : ((sl : Int) == 1) = b := by rw [e1]; by_cases h : sl = 1 <;> simp [h]; omega
    clear e1 e2 hq hsl hlz
    go_wp2_with fail
    refine bodyPost_ret_by (v := .tuple #[.agg #[.int .i64 qa, .int .i64 qc], .bool b]) ?_ rfl ⟨⟨_, rfl, HQP.out⟩, HKF.out⟩
    simp [results, go_sem, *]
 ·obtain rfl : b = false := by rw [← HB.out]; exact tmB_len (fun h => hr (by rw [HNL.out] at h; omega))
  rw [decide_eq_false hr] at HWI
  have HKF := qd (show w.grownBy _ none from HS0.out.tl.hd)
  go_enter Tryz.func135, Tryz.ntmps135
  go_wp2_with (go_at_call 84; with_reducible refine (HWI.out _).mono ?_; rintro e w3 ⟨rfl, rfl⟩)
  refine bodyPost_ret_by (v := .tuple #[.agg #[.int .i64 0, .int .i64 0], .bool false]) ?_ rfl ⟨⟨(0, 0), rfl, fun h => by cases h⟩, HKF.out⟩
  simp [results, go_sem, *]
end Go.Proofs.YtjagjhchnpmngaaGreat

/-
  Terms typed, in the program. Conditions: lengths are small; the table of small primes holds what its text lays.
-/
import Derived.Test.YtjagjhchnpmngaaGreatDoorYx03
namespace Go.Proofs.YtjagjhchnpmngaaGreatDoor
open Go.RowKit
set_option linter.unusedVariables false
set_option linter.unusedSimpArgs false
set_option maxRecDepth 100000

theorem Sep.emptyRT {α : Type} {w : World} {l : List Asrt} (E : Lay α) (h : Sep w l) (b : Nat) (hb : b = w.heap.size) : Sep (w.alloc (.cells #[] E.ty)) (OR E (.slice (some ⟨b, 0, none⟩) 0 0) [] :: l) := by
  subst hb
  refine h.new (grownBy_alloc _ _ none) (OwnR.empty E (Nat.zero_le _) rfl) fun k hk => ?_
  have : w.heap.size = k := by simpa [OR, Hits, Value.ownBlock] using hk
  omega
section
variable {P : Program} {ops : Array Oper} {Q : Exit → Act → World → Prop} {md : Region.Mode} {Se Sa : World → Prop} {ap : Nat}
/-- Two operations may come up now: each is carried out. -/
theorem AnyL.twoM {i j : Nat} {oi oj : Oper} {fuel : Nat} {listed : Array Bool} {a : Act} {w : World} {r r' : List Oper} (hr : Region.ready md ops listed = [i, j]) (hi' : ops.toList.drop i = oi :: r) (hj' : ops.toList.drop j = oj :: r')
    (h1 : ∀ K' : Act → World → Prop, Shut (∀ a' w', Se w' → ((listed.setIfInBounds i true).getD ap true = false → Sa w') → AnyL P md ops Q Se Sa ap fuel (listed.setIfInBounds i true) a' w' → K' a' w') → if Region.wanted oi (yielded ops a.tmps) = true then Oper.wp P oi a w K' Q else K' (a.put oi.dst undef) w)
    (h2 : ∀ K' : Act → World → Prop, Shut (∀ a' w', Se w' → ((listed.setIfInBounds j true).getD ap true = false → Sa w') → AnyL P md ops Q Se Sa ap fuel (listed.setIfInBounds j true) a' w' → K' a' w') → if Region.wanted oj (yielded ops a.tmps) = true then Oper.wp P oj a w K' Q else K' (a.put oj.dst undef) w) :
    AnyL P md ops Q Se Sa ap (fuel + 1) listed a w := by
  refine ⟨fun h0 => (by rw [hr] at h0; cases h0), fun k hk => ?_⟩
  rw [hr] at hk
  simp only [List.mem_cons, List.not_mem_nil, or_false] at hk
  rcases hk with rfl | rfl
  · exact wpOp_step (op_at hi') fun K' hK => h1 K' fun a w h1 h2 h3 => hK a w ⟨⟨h1, h2⟩, h3⟩
  · exact wpOp_step (op_at hj') fun K' hK => h2 K' fun a w h1 h2 h3 => hK a w ⟨⟨h1, h2⟩, h3⟩
end
theorem styL_at0 {A B : Tr} {R : List Tr} : (styL (B :: A :: R)).getD R.length (0, 0) = A.ty := by
  rw [styL_two, List.getD_eq_getElem?_getD, List.getElem?_append_right (by rw [styL_len]; exact Nat.le_refl _), styL_len, Nat.sub_self]; rfl
theorem styL_at1 {A B : Tr} {R : List Tr} : (styL (B :: A :: R)).getD (R.length + 1) (0, 0) = B.ty := by
  rw [styL_two, List.getD_eq_getElem?_getD, List.getElem?_append_right (by rw [styL_len]; omega), styL_len, Nat.add_sub_cancel_left]; rfl
theorem styL_cut {A B : Tr} {R : List Tr} : (styL (B :: A :: R)).take R.length = styL R := by
  rw [styL_two, List.take_append_of_le_length (by rw [styL_len]; exact Nat.le_refl _), List.take_of_length_le (by rw [styL_len]; exact Nat.le_refl _)]
theorem styL_first {T : Tr} {R : List Tr} (h : R = []) : (styL (T :: R)).getD 0 (0, 0) = T.ty := by
  subst h; rfl
set_option maxHeartbeats 8000000 in
theorem typed_any (nv : Value) (ns : List Nd) (w : World) (hn : RdR nodeE w nv ns) (hl : ns.length ≤ 2000000) :
    Calls Tryz.prog 91 #[nv, .func (.func 92) #[] #[]] w (TyR (tmB ns) (tmT ns) w) := by
  have HN := Lib.hid hn
  obtain ⟨na, nc, rfl⟩ := hn.shape
  obtain ⟨n, hnl⟩ : ∃ n, ns.length = n := ⟨_, rfl⟩
  have HNL := Lib.hid hnl
  rw [hnl] at hl ⊢
  obtain ⟨b, hb⟩ : ∃ b, tmB ns = b := ⟨_, rfl⟩
  obtain ⟨p, hp⟩ : ∃ p, tmT ns = p := ⟨_, rfl⟩
  rw [hb, hp]
  have HB := Lib.hid hb; have HP := Lib.hid hp
  clear hn hb hp hnl
  have HWI := Lib.hid fun W => within_any (n : Int) 1 400 W
  have HLW := Lib.hid fun (k v : Int) (s : ByteArray) W => leafWires_any ⟨k, v, s⟩ W
  simp only at HLW
  have HS0 := Lib.hid ((Sep.start w).boxAt w.heap.size rfl #[.int .i64 0, .int .i64 0] 95)
  obtain ⟨y0, y1, f0, f1⟩ := bw2 HS0.out.hd
  by_cases hr : 1 ≤ (n : Int) ∧ (n : Int) ≤ 400
  · rw [decide_eq_true hr] at HWI
    have hr1 : 1 ≤ n := by omega
    have hr2 : n ≤ 400 := by omega
    clear hr y0 y1 f0 f1
    have HS1 := Lib.hid (show Sep (w.alloc _ |>.alloc (.cells #[] 95)) _ from Sep.emptyRT wireE HS0.out (w.heap.size + 1) (by simp))
    go_enter Tryz.func91, Tryz.ntmps91
    go_upto_region 5 with (go_at_call 77; with_reducible refine (HWI.out _).mono ?_; rintro e w3 ⟨rfl, rfl⟩)
    go_loopw [6, 8, 9, 10, 11, 12, 13, 22] (fun s6 _ _ _ _ _ _ s22 wr => ∃ (i : Nat) (S : List Tr), i ≤ n ∧ s22 = .int .i64 i ∧ prun ns i = some S ∧ Sep wr [OR wireE s6 (styL S), BxA w.heap.size #[.int .i64 0, .int .i64 0] 95, KeepA w]) (fun _ _ _ _ _ _ _ s22 _ => n - (intOf s22).toNat)
    case atStart => exact ⟨0, [], by omega, rfl, rfl, HS1.out⟩
    case round =>
      obtain ⟨i, S, hi, rfl, hpr, hs⟩ := hrel
      obtain ⟨sa, sc, rfl⟩ := OwnR.shape (show OwnR wireE 0 wr _ (styL S) from hs.hd)
      rw [styL_len] at hs ⊢
      have HSQ := Lib.hid hs; have HPR := Lib.hid hpr
      have hcn := prun_cnt i S hpr
      clear hs hpr HS1
      by_cases hlt : i < n
      · have hke : i < ns.length := by rw [HNL.out]; exact hlt
        have hji : (i : Int) < (n : Int) := by omega
        have HKE := Lib.hid hke
        obtain ⟨nb, no, rfl, _, q0, q1, q2⟩ := (HN.out.carry HSQ.out.tl.tl.hd).node rfl rfl hke
        obtain ⟨y, hy⟩ : ∃ y, ns.getD i nd0 = y := ⟨_, rfl⟩
        have HY := Lib.hid hy
        rw [hy] at q0 q1 q2
        clear hy hke
        obtain ⟨k, v, s⟩ := y
        simp only at q0 q1 q2
        have HS2 := Lib.hid (HSQ.out.boxAt wr.heap.size rfl #[.int .i64 k, .int .i64 v, .string s] 66)
        obtain ⟨z0, z1, z2⟩ := bw3 HS2.out.hd
        by_cases hop : k = 15 ∨ k = 16
        · clear HLW
          by_cases hv : v = 0
          · by_cases hs : s = noS
            · by_cases hl2 : S.length < 2
              · have hs2 : ((S.length : Nat) : Int) < 2 := by omega
                obtain rfl : b = false := by rw [← HB.out]; exact tmB_no HKE.out HPR.out (by rw [HY.out]; exact pstep_no hop (Or.inr (Or.inr hl2)))
                have hz0 := Sep.blk (A := [_, _]) (B := [_]) HS2.out
                obtain ⟨y0, y1, f0, f1⟩ := bw2 hz0.hd
                have HSZ := Lib.hid ((hz0.setB 0 (.int .i64 0)).setB 1 (.int .i64 0))
                obtain ⟨u0, u1, _, _⟩ := bw2 HSZ.out.hd
                have HKF := Lib.hid (show w.grownBy _ none from Sep.all HSZ.out (KeepA w) (by simp))
                clear hz0
                subst hv hs
                generalize S.length = sl at *
                rcases hop with rfl | rfl
                · go_wp2_with fail
                  refine bodyPost_ret_by (v := .tuple #[.agg #[.int .i64 0, .int .i64 0], .bool false]) ?_ rfl ⟨⟨(0, 0), rfl, fun h => by cases h⟩, HKF.out⟩
                  simp [results, go_sem, *]
                · go_wp2_with fail
                  refine bodyPost_ret_by (v := .tuple #[.agg #[.int .i64 0, .int .i64 0], .bool false]) ?_ rfl ⟨⟨(0, 0), rfl, fun h => by cases h⟩, HKF.out⟩
                  simp [results, go_sem, *]
              · obtain ⟨A, B, R, rfl⟩ := two_le hl2
                subst hv hs
                have hinv := prun_inv i _ (by rw [HNL.out]; omega) HPR.out
                have HOA := Lib.hid (Tr.ty_small (hinv.ok A (by simp)))
                have HOB := Lib.hid (Tr.ty_small (hinv.ok B (by simp)))
                clear hinv
                simp only [List.length_cons] at HS2 hcn hl2 ⊢
                obtain ⟨m, hm⟩ : ∃ m, R.length = m := ⟨_, rfl⟩
                have HMR := Lib.hid hm
                rw [hm] at HS2 hcn hl2 ⊢
                clear hm
                obtain ⟨m1, hm1⟩ : ∃ x, m + 1 = x := ⟨_, rfl⟩
                rw [hm1] at HS2 hcn hl2 ⊢
                obtain ⟨m2, hm2⟩ : ∃ x, m1 + 1 = x := ⟨_, rfl⟩
                rw [hm2] at HS2 hcn hl2 ⊢
                obtain ⟨gg, gcp, hge, _, _, hcap⟩ := OwnR.parts (show OwnR wireE 0 _ (.slice sa m2 sc) (styL (B :: A :: R)) from HS2.out.tl.hd) (by rw [styL_len]; simp)
                injection hge with hge1 hgl hge2
                subst hge1 hge2
                clear hgl
                have hlen : m2 = (styL (B :: A :: R)).length := by rw [styL_len, List.length_cons, List.length_cons, HMR.out]; omega
                have HLEN := Lib.hid hlen
                clear hlen
                have ea := @styL_at0 A B R
                have eb := @styL_at1 A B R
                have ec := @styL_cut A B R
                rw [HMR.out] at ea eb ec
                rw [hm1] at eb
                have HEC := Lib.hid ec
                clear ec
                obtain ⟨⟨a1, a2⟩, hA⟩ : ∃ q, A.ty = q := ⟨_, rfl⟩
                obtain ⟨⟨b1, b2⟩, hB⟩ : ∃ q, B.ty = q := ⟨_, rfl⟩
                rw [hA] at ea HOA
                rw [hB] at eb HOB
                have HA := Lib.hid hA; have HB2 := Lib.hid hB
                clear hA hB
                have HCL := Lib.hid fun (W : World) (l : List Asrt) (h : Sep W (OR wireE (.slice (some ⟨gg, 0, none⟩) m2 sc) (styL (B :: A :: R)) :: l)) => show (W.cell? ⟨gg, m * 2, none⟩ = some (.int .i64 a1) ∧ W.cell? ⟨gg, m * 2 + 1, none⟩ = some (.int .i64 a2)) ∧ W.cell? ⟨gg, m1 * 2, none⟩ = some (.int .i64 b1) ∧ W.cell? ⟨gg, m1 * 2 + 1, none⟩ = some (.int .i64 b2) from by
                  have h1 := OwnR.wire (show OwnR wireE 0 _ _ _ from h.hd) HLEN.out (i := m) (by omega)
                  have h2 := OwnR.wire (show OwnR wireE 0 _ _ _ from h.hd) HLEN.out (i := m1) (by omega)
                  rw [ea] at h1
                  rw [eb] at h2
                  exact ⟨h1, h2⟩
                clear ea eb
                have hwa : IntKind.i64.wrap ((m2 : Int) - 1) = (m1 : Int) := by rw [wrap_id (by omega) (by omega)]; omega
                have HM1 := Lib.hid hm1; have HM2 := Lib.hid hm2
                have hwb : IntKind.i64.wrap ((m1 : Int) - 1) = (m : Int) := by rw [wrap_id (by omega) (by omega)]; omega
                have hb1 : (m : Int) < (m2 : Int) := by omega
                have hb2 : (m1 : Int) < (m2 : Int) := by omega
                have hb3 : ¬ (m2 : Int) < 2 := by omega
                have HLM := Lib.hid (show m ≤ m2 from by omega)
                rw [← HLEN.out] at hcap
                have hms : m ≤ sc := by omega
                clear hm1 hm2 hcap
                have hqa := HOA.out; have hqb := HOB.out
                simp only at hqa hqb
                rcases hop with rfl | rfl
                · have HJ := Lib.hid fun W => joinW_seq a1 a2 b1 b2 W
                  obtain ⟨bj, hbj⟩ : ∃ x, decide (a2 = b1) = x := ⟨_, rfl⟩
                  rw [hbj] at HJ
                  have HBJ := Lib.hid hbj
                  unfold TyR at HJ
                  clear hqa hqb hbj
                  have HPJ := Lib.hid (show prun ns (i + 1) = if a2 = b1 then some (.seq A B :: R) else none from by
                    rw [prun_succ HPR.out, HY.out, pstep_seq rfl rfl rfl, HA.out, HB2.out])
                  go_upto_region 15 with fail
                  clear z0 z1 z2 q0 q1 q2
                  generalize wr.alloc (.cells #[.int .i64 15, .int .i64 0, .string noS] 66) = w4 at *
                  generalize wr.heap.size = kb at *
                  have HBM := Lib.hid fun (W1 : World) (L : List Asrt) (h : Sep W1 (OR wireE (.slice (some ⟨gg, 0, none⟩) m2 sc) (styL (B :: A :: R)) :: L)) (h1 : BxA kb #[.int .i64 15, .int .i64 0, .string noS] 66 ∈ L) => show ((W1.cell? ⟨gg, m * 2, none⟩ = some (.int .i64 a1) ∧ W1.cell? ⟨gg, m * 2 + 1, none⟩ = some (.int .i64 a2)) ∧ W1.cell? ⟨gg, m1 * 2, none⟩ = some (.int .i64 b1) ∧ W1.cell? ⟨gg, m1 * 2 + 1, none⟩ = some (.int .i64 b2)) ∧ W1.cell? ⟨kb, 0, none⟩ = some (.int .i64 15) from by
                    obtain ⟨a0, _, _⟩ := bw3 (show W1.heap[kb]? = some (.cells #[.int .i64 15, .int .i64 0, .string noS] 66 (0, 0)) from Sep.all h _ (List.mem_cons_of_mem _ h1))
                    exact ⟨HCL.out _ _ h, a0⟩
                  have HSD := Lib.hid (Sep.blk (A := [_]) (B := [_]) HS2.out.dr)
                  have X0 := Lib.hid (HBM.out _ _ HSD.out (by simp))
                  refine AnyL.start (fun W1 => ((W1.cell? ⟨gg, m * 2, none⟩ = some (.int .i64 a1) ∧ W1.cell? ⟨gg, m * 2 + 1, none⟩ = some (.int .i64 a2)) ∧ W1.cell? ⟨gg, m1 * 2, none⟩ = some (.int .i64 b1) ∧ W1.cell? ⟨gg, m1 * 2 + 1, none⟩ = some (.int .i64 b2)) ∧ W1.cell? ⟨kb, 0, none⟩ = some (.int .i64 15)) (fun _ => True) 99 (by kernel_rfl) ?_
                  refine AnyL.take (i := 0) (v := ?vx1) (by rfl) (by kernel_rfl) (by kernel_rfl) (by kernel_rfl) rfl (by exact fun _ _ _ h => h) (by rfl) ?hyx1 (by exact ⟨X0.out, fun _ => trivial⟩) ?restx1
                  case hyx1 => intro W hSW; (try dsimp only at hSW); first | (go_simp; done) | (go_simp; with_reducible rfl)
                  try simp only [Act.put, List.setIfInBounds_toArray, List.set_cons_zero, List.set_cons_succ]
                  refine AnyL.take (i := 1) (v := ?vx2) (by rfl) (by kernel_rfl) (by kernel_rfl) (by kernel_rfl) rfl (by exact fun _ _ _ h => h) (by rfl) ?hyx2 (by exact ⟨X0.out, fun _ => trivial⟩) ?restx2
                  case hyx2 => intro W hSW; (try dsimp only at hSW); first | (go_simp; done) | (go_simp; with_reducible rfl)
                  try simp only [Act.put, List.setIfInBounds_toArray, List.set_cons_zero, List.set_cons_succ]
                  refine AnyL.take (i := 2) (v := ?vx3) (by rfl) (by kernel_rfl) (by kernel_rfl) (by kernel_rfl) rfl (by exact fun _ _ _ h => h) (by rfl) ?hyx3 (by exact ⟨X0.out, fun _ => trivial⟩) ?restx3
                  case hyx3 => intro W hSW; (try dsimp only at hSW); first | (go_simp; done) | (go_simp; with_reducible rfl)
                  try simp only [Act.put, List.setIfInBounds_toArray, List.set_cons_zero, List.set_cons_succ]
                  refine AnyL.take (i := 3) (v := ?vx4) (by rfl) (by kernel_rfl) (by kernel_rfl) (by kernel_rfl) rfl (by exact fun _ _ _ h => h) (by rfl) ?hyx4 (by exact ⟨X0.out, fun _ => trivial⟩) ?restx4
                  case hyx4 => intro W hSW; (try dsimp only at hSW); first | (go_simp; done) | (go_simp; with_reducible rfl)
                  try simp only [Act.put, List.setIfInBounds_toArray, List.set_cons_zero, List.set_cons_succ]
                  refine AnyL.take (i := 4) (v := ?vx5) (by rfl) (by kernel_rfl) (by kernel_rfl) (by kernel_rfl) rfl (by exact fun _ _ _ h => h) (by rfl) ?hyx5 (by exact ⟨X0.out, fun _ => trivial⟩) ?restx5
                  case hyx5 => intro W hSW; (try dsimp only at hSW); first | (go_simp; done) | (go_simp; with_reducible rfl)
                  try simp only [Act.put, List.setIfInBounds_toArray, List.set_cons_zero, List.set_cons_succ]
                  refine AnyL.take (i := 5) (v := ?vx6) (by rfl) (by kernel_rfl) (by kernel_rfl) (by kernel_rfl) rfl (by exact fun _ _ _ h => h) (by rfl) ?hyx6 (by exact ⟨X0.out, fun _ => trivial⟩) ?restx6
                  case hyx6 => intro W hSW; (try dsimp only at hSW); first | (go_simp; done) | (go_simp; with_reducible rfl)
                  try simp only [Act.put, List.setIfInBounds_toArray, List.set_cons_zero, List.set_cons_succ]
                  refine AnyL.take (i := 6) (v := ?vx7) (by rfl) (by kernel_rfl) (by kernel_rfl) (by kernel_rfl) rfl (by exact fun _ _ _ h => h) (by rfl) ?hyx7 (by exact ⟨X0.out, fun _ => trivial⟩) ?restx7
                  case hyx7 => intro W hSW; (try dsimp only at hSW); first | (go_simp; done) | (go_simp; with_reducible rfl)
                  try simp only [Act.put, List.setIfInBounds_toArray, List.set_cons_zero, List.set_cons_succ]
                  refine AnyL.take (i := 7) (v := ?vx8) (by rfl) (by kernel_rfl) (by kernel_rfl) (by kernel_rfl) rfl (by exact fun _ _ _ h => h) (by rfl) ?hyx8 (by exact ⟨X0.out, fun _ => trivial⟩) ?restx8
                  case hyx8 => intro W hSW; (try dsimp only at hSW); first | (go_simp; done) | (go_simp; with_reducible rfl)
                  try simp only [Act.put, List.setIfInBounds_toArray, List.set_cons_zero, List.set_cons_succ]
                  refine AnyL.take (i := 8) (v := ?vx9) (by rfl) (by kernel_rfl) (by kernel_rfl) (by kernel_rfl) rfl (by exact fun _ _ _ h => h) (by rfl) ?hyx9 (by exact ⟨X0.out, fun _ => trivial⟩) ?restx9
                  case hyx9 => intro W hSW; (try dsimp only at hSW); first | (go_simp; done) | (go_simp; with_reducible rfl)
                  try simp only [Act.put, List.setIfInBounds_toArray, List.set_cons_zero, List.set_cons_succ]
                  refine AnyL.take (i := 9) (v := ?vx10) (by rfl) (by kernel_rfl) (by kernel_rfl) (by kernel_rfl) rfl (by exact fun _ _ _ h => h) (by rfl) ?hyx10 (by exact ⟨X0.out, fun _ => trivial⟩) ?restx10
                  case hyx10 => intro W hSW; (try dsimp only at hSW); first | (go_simp; done) | (go_simp; with_reducible rfl)
                  try simp only [Act.put, List.setIfInBounds_toArray, List.set_cons_zero, List.set_cons_succ]
                  refine AnyL.take (i := 10) (v := ?vx11) (by rfl) (by kernel_rfl) (by kernel_rfl) (by kernel_rfl) rfl (by exact fun _ _ _ h => h) (by rfl) ?hyx11 (by exact ⟨X0.out, fun _ => trivial⟩) ?restx11
                  case hyx11 => intro W hSW; (try dsimp only at hSW); first | (go_simp; done) | (go_simp; with_reducible rfl)
                  try simp only [Act.put, List.setIfInBounds_toArray, List.set_cons_zero, List.set_cons_succ]
                  refine AnyL.twoM (i := 11) (j := 15) (by kernel_rfl) (by rfl) (by rfl) (fun K hK => ?_) (fun K hK => ?_)
                  · go_simp
                    go_at_call 104
                    with_reducible refine (HJ.out _).mono ?_
                    rintro e w5 ⟨⟨⟨qa, qc⟩, rfl, hq⟩, hg⟩
                    have HS5 := Lib.hid (HSD.out.grown hg)
                    have HQ := Lib.hid hq
                    clear hg hq
                    refine hK.out _ _ (by exact HBM.out _ _ HS5.out (by simp)) (by exact fun _ => trivial) ?_
                    clear hK K
                    try simp only [Act.put, List.setIfInBounds_toArray, List.set_cons_zero, List.set_cons_succ]
                    refine AnyL.take (i := 12) (v := ?vx12) (by rfl) (by kernel_rfl) (by kernel_rfl) (by kernel_rfl) rfl (by exact fun _ _ _ h => h) (by rfl) ?hyx12 (by exact ⟨HBM.out _ _ HS5.out (by simp), fun _ => trivial⟩) ?restx12
                    case hyx12 => intro W hSW; (try dsimp only at hSW); first | (go_simp; done) | (go_simp; with_reducible rfl)
                    try simp only [Act.put, List.setIfInBounds_toArray, List.set_cons_zero, List.set_cons_succ]
                    refine AnyL.take (i := 13) (v := ?vx13) (by rfl) (by kernel_rfl) (by kernel_rfl) (by kernel_rfl) rfl (by exact fun _ _ _ h => h) (by rfl) ?hyx13 (by exact ⟨HBM.out _ _ HS5.out (by simp), fun _ => trivial⟩) ?restx13
                    case hyx13 => intro W hSW; (try dsimp only at hSW); first | (go_simp; done) | (go_simp; with_reducible rfl)
                    try simp only [Act.put, List.setIfInBounds_toArray, List.set_cons_zero, List.set_cons_succ]
                    refine AnyL.take (i := 14) (v := ?vx14) (by rfl) (by kernel_rfl) (by kernel_rfl) (by kernel_rfl) rfl (by exact fun _ _ _ h => h) (by rfl) ?hyx14 (by exact ⟨HBM.out _ _ HS5.out (by simp), fun _ => trivial⟩) ?restx14
                    case hyx14 => intro W hSW; (try dsimp only at hSW); first | (go_simp; done) | (go_simp; with_reducible rfl)
                    try simp only [Act.put, List.setIfInBounds_toArray, List.set_cons_zero, List.set_cons_succ]
                    refine AnyL.step (i := 15) (by kernel_rfl) (by rfl) (fun K hK => ?_)
                    go_simp
                    have HS6 := Lib.hid (Sep.blk (A := [_]) (B := [_]) (HS5.out.boxAt (w5.heap.size) (by rfl) #[.int .i64 0, .int .i64 0] 95))
                    refine hK.out _ (w5.alloc (.cells #[.int .i64 0, .int .i64 0] 95)) (by exact HBM.out _ _ HS6.out (by simp)) (by exact fun _ => trivial) ?_
                    clear hK K
                    try simp only [Act.put, List.setIfInBounds_toArray, List.set_cons_zero, List.set_cons_succ]
                    generalize w5.alloc (.cells #[.int .i64 0, .int .i64 0] 95) = w6 at *
                    generalize w5.heap.size = xb at *
                    have hx0 := Sep.blk (A := [_]) (B := [_]) HS6.out
                    obtain ⟨y0, y1, f0, f1⟩ := bw2 hx0.hd
                    have HS7 := Lib.hid (Sep.blk (A := [_]) (B := [_]) ((hx0.setB 0 (.int .i64 qa)).setB 1 (.int .i64 qc)))
                    clear hx0
                    refine AnyL.step (i := 16) (by kernel_rfl) (by rfl) (fun K hK => ?_)
                    go_simp
                    refine hK.out _ _ (by exact HBM.out _ _ HS7.out (by simp)) (by exact fun _ => trivial) ?_
                    clear hK K
                    clear y0 y1 f0 f1
                    refine AnyL.take (i := 17) (v := ?vx15) (by rfl) (by kernel_rfl) (by kernel_rfl) (by kernel_rfl) rfl (by exact fun _ _ _ h => h) (by rfl) ?hyx15 (by exact ⟨HBM.out _ _ HS7.out (by simp), fun _ => trivial⟩) ?restx15
                    case hyx15 => intro W hSW; (try dsimp only at hSW); first | (go_simp; done) | (go_simp; with_reducible rfl)
                    try simp only [Act.put, List.setIfInBounds_toArray, List.set_cons_zero, List.set_cons_succ]
                    refine AnyL.done (by kernel_rfl) ?_ _
                    generalize ((w6.setCell ⟨xb, 0, none⟩ (.int .i64 qa)).setCell ⟨xb, 1, none⟩ (.int .i64 qc)) = w7 at *
                    cases bj
                    · have hc := of_decide_eq_false HBJ.out
                      obtain rfl : b = false := by rw [← HB.out]; exact tmB_no HKE.out HPR.out (by have h := HPJ.out; rw [if_neg hc, prun_succ HPR.out] at h; exact h)
                      have hz0 := Sep.blk (A := [_, _, _]) (B := [_]) HS7.out
                      obtain ⟨y0, y1, f0, f1⟩ := bw2 hz0.hd
                      have HSZ := Lib.hid ((hz0.setB 0 (.int .i64 0)).setB 1 (.int .i64 0))
                      obtain ⟨u0, u1, _, _⟩ := bw2 HSZ.out.hd
                      have HKF := Lib.hid (show w.grownBy _ none from Sep.all HSZ.out (KeepA w) (by simp))
                      clear hz0
                      go_wp2_with fail
                      refine bodyPost_ret_by (v := .tuple #[.agg #[.int .i64 0, .int .i64 0], .bool false]) ?_ rfl ⟨⟨(0, 0), rfl, fun h => by cases h⟩, HKF.out⟩
                      simp [results, go_sem, *]
                    · have hc := of_decide_eq_true HBJ.out
                      have HQ2 := Lib.hid (HQ.out rfl)
                      rw [if_pos hc] at HPJ
                      go_upto_region 18 with fail
                      have HSE := Lib.hid HS7.out.dr
                      have hcu := HSE.out.cutR (k := m) HLEN.out.symm HLM.out
                      rw [HEC.out] at hcu
                      have HCU := Lib.hid hcu
                      clear hcu
                      obtain ⟨x0, x1, _, _⟩ := bw2 HSE.out.tl.hd
                      have X5 := Lib.hid x0; have X6 := Lib.hid x1
                      clear x0 x1
                      refine AnyL.start (fun W1 => W1.cell? ⟨xb, 0, none⟩ = some (.int .i64 qa) ∧ W1.cell? ⟨xb, 1, none⟩ = some (.int .i64 qc)) (fun _ => True) 99 (by kernel_rfl) ?_
                      generalize w7.drew = w8 at *
                      refine AnyL.take (i := 0) (v := ?vx16) (by rfl) (by kernel_rfl) (by kernel_rfl) (by kernel_rfl) rfl (by exact fun _ _ _ h => h) (by rfl) ?hyx16 (by exact ⟨⟨X5.out, X6.out⟩, fun _ => trivial⟩) ?restx16
                      case hyx16 => intro W hSW; (try dsimp only at hSW); first | (go_simp; done) | (go_simp; with_reducible rfl)
                      try simp only [Act.put, List.setIfInBounds_toArray, List.set_cons_zero, List.set_cons_succ]
                      refine AnyL.take (i := 1) (v := ?vx17) (by rfl) (by kernel_rfl) (by kernel_rfl) (by kernel_rfl) rfl (by exact fun _ _ _ h => h) (by rfl) ?hyx17 (by exact ⟨⟨X5.out, X6.out⟩, fun _ => trivial⟩) ?restx17
                      case hyx17 => intro W hSW; (try dsimp only at hSW); first | (go_simp; done) | (go_simp; with_reducible rfl)
                      try simp only [Act.put, List.setIfInBounds_toArray, List.set_cons_zero, List.set_cons_succ]
                      refine AnyL.take (i := 2) (v := ?vx18) (by rfl) (by kernel_rfl) (by kernel_rfl) (by kernel_rfl) rfl (by exact fun _ _ _ h => h) (by rfl) ?hyx18 (by exact ⟨⟨X5.out, X6.out⟩, fun _ => trivial⟩) ?restx18
                      case hyx18 => intro W hSW; (try dsimp only at hSW); first | (go_simp; done) | (go_simp; with_reducible rfl)
                      try simp only [Act.put, List.setIfInBounds_toArray, List.set_cons_zero, List.set_cons_succ]
                      refine AnyL.take (i := 3) (v := ?vx19) (by rfl) (by kernel_rfl) (by kernel_rfl) (by kernel_rfl) rfl (by exact fun _ _ _ h => h) (by rfl) ?hyx19 (by exact ⟨⟨X5.out, X6.out⟩, fun _ => trivial⟩) ?restx19
                      case hyx19 => intro W hSW; (try dsimp only at hSW); first | (go_simp; done) | (go_simp; with_reducible rfl)
                      try simp only [Act.put, List.setIfInBounds_toArray, List.set_cons_zero, List.set_cons_succ]
                      refine AnyL.take (i := 4) (v := ?vx20) (by rfl) (by kernel_rfl) (by kernel_rfl) (by kernel_rfl) rfl (by exact fun _ _ _ h => h) (by rfl) ?hyx20 (by exact ⟨⟨X5.out, X6.out⟩, fun _ => trivial⟩) ?restx20
                      case hyx20 => intro W hSW; (try dsimp only at hSW); first | (go_simp; done) | (go_simp; with_reducible rfl)
                      try simp only [Act.put, List.setIfInBounds_toArray, List.set_cons_zero, List.set_cons_succ]
                      have Y5 := Lib.hid fun ob => (show _ ∧ _ from ⟨(bw2 (HCU.out.al ob).tl.hd).1, (bw2 (HCU.out.al ob).tl.hd).2.1⟩)
                      refine AnyL.step (i := 5) (by kernel_rfl) (by rfl) (fun K hK => ?_)
                      go_simp
                      refine hK.out _ _ (by exact Y5.out _) (by exact fun _ => trivial) ?_
                      clear hK K
                      try simp only [Act.put, List.setIfInBounds_toArray, List.set_cons_zero, List.set_cons_succ]
                      refine AnyL.step (i := 6) (by kernel_rfl) (by rfl) (fun K hK => ?_)
                      refine step_app_RG (E := wireE) (y := (qa, qc)) (w := w8) (q := w8.heap.size) (v := .slice (some ⟨gg, 0, none⟩) m sc) info_wire rfl (by decide) Tryz.underlying137 (wire_one _ _) rfl (.tmp 85) (.tmp 87) rfl rfl rfl rfl rfl HCU.out (by rw [styL_len, HMR.out]; omega) ?_
                      intro g8 c8 w9 h8
                      rw [styL_len, HMR.out, HQ2.out, show styL R ++ [(a1, b2)] = styL (.seq A B :: R) from by rw [styL_push]; show _ = styL R ++ [_]; simp only [Tr.ty, HA.out, HB2.out]] at h8
                      try rw [styL_len, HMR.out]
                      obtain ⟨x0, x1, _, _⟩ := bw2 h8.tl.hd
                      have X7 := Lib.hid x0; have X8 := Lib.hid x1
                      have HS8 := Lib.hid (Sep.cutA (X := [_]) (A := [_, _]) h8)
                      clear h8 x0 x1
                      refine hK.out _ _ (by exact ⟨X7.out, X8.out⟩) (by exact fun _ => trivial) ?_
                      clear hK K
                      try simp only [Act.put, List.setIfInBounds_toArray, List.set_cons_zero, List.set_cons_succ]
                      refine AnyL.take (i := 7) (v := ?vx21) (by rfl) (by kernel_rfl) (by kernel_rfl) (by kernel_rfl) rfl (by exact fun _ _ _ h => h) (by rfl) ?hyx21 (by exact ⟨⟨X7.out, X8.out⟩, fun _ => trivial⟩) ?restx21
                      case hyx21 => intro W hSW; (try dsimp only at hSW); first | (go_simp; done) | (go_simp; with_reducible rfl)
                      try simp only [Act.put, List.setIfInBounds_toArray, List.set_cons_zero, List.set_cons_succ]
                      refine AnyL.done (by kernel_rfl) ?_ _
                      go_wp2_with fail
                      go_roundw
                      case rel => exact ⟨i + 1, _, by omega, by go_num, HPJ.out, HS8.out⟩
                      case measure => simp [intOf]; omega
                  · go_simp
                    have HS5 := Lib.hid (Sep.blk (A := [_]) (B := [_]) (HSD.out.boxAt (w4.heap.size) (by rfl) #[.int .i64 0, .int .i64 0] 95))
                    refine hK.out _ (w4.drew.alloc (.cells #[.int .i64 0, .int .i64 0] 95)) (by exact HBM.out _ _ HS5.out (by simp)) (by exact fun _ => trivial) ?_
                    clear hK K
                    try simp only [Act.put, List.setIfInBounds_toArray, List.set_cons_zero, List.set_cons_succ]
                    generalize w4.drew.alloc (.cells #[.int .i64 0, .int .i64 0] 95) = w5 at *
                    generalize w4.heap.size = xb at *
                    refine AnyL.step (i := 11) (by kernel_rfl) (by rfl) (fun K hK => ?_)
                    go_simp
                    go_at_call 104
                    with_reducible refine (HJ.out _).mono ?_
                    rintro e w6 ⟨⟨⟨qa, qc⟩, rfl, hq⟩, hg⟩
                    have HS6 := Lib.hid (HS5.out.grown hg)
                    have HQ := Lib.hid hq
                    clear hg hq
                    refine hK.out _ _ (by exact HBM.out _ _ HS6.out (by simp)) (by exact fun _ => trivial) ?_
                    clear hK K
                    try simp only [Act.put, List.setIfInBounds_toArray, List.set_cons_zero, List.set_cons_succ]
                    refine AnyL.take (i := 12) (v := ?vx22) (by rfl) (by kernel_rfl) (by kernel_rfl) (by kernel_rfl) rfl (by exact fun _ _ _ h => h) (by rfl) ?hyx22 (by exact ⟨HBM.out _ _ HS6.out (by simp), fun _ => trivial⟩) ?restx22
                    case hyx22 => intro W hSW; (try dsimp only at hSW); first | (go_simp; done) | (go_simp; with_reducible rfl)
                    try simp only [Act.put, List.setIfInBounds_toArray, List.set_cons_zero, List.set_cons_succ]
                    refine AnyL.take (i := 13) (v := ?vx23) (by rfl) (by kernel_rfl) (by kernel_rfl) (by kernel_rfl) rfl (by exact fun _ _ _ h => h) (by rfl) ?hyx23 (by exact ⟨HBM.out _ _ HS6.out (by simp), fun _ => trivial⟩) ?restx23
                    case hyx23 => intro W hSW; (try dsimp only at hSW); first | (go_simp; done) | (go_simp; with_reducible rfl)
                    try simp only [Act.put, List.setIfInBounds_toArray, List.set_cons_zero, List.set_cons_succ]
                    refine AnyL.take (i := 14) (v := ?vx24) (by rfl) (by kernel_rfl) (by kernel_rfl) (by kernel_rfl) rfl (by exact fun _ _ _ h => h) (by rfl) ?hyx24 (by exact ⟨HBM.out _ _ HS6.out (by simp), fun _ => trivial⟩) ?restx24
                    case hyx24 => intro W hSW; (try dsimp only at hSW); first | (go_simp; done) | (go_simp; with_reducible rfl)
                    try simp only [Act.put, List.setIfInBounds_toArray, List.set_cons_zero, List.set_cons_succ]
                    have hx0 := Sep.blk (A := [_]) (B := [_]) HS6.out
                    obtain ⟨y0, y1, f0, f1⟩ := bw2 hx0.hd
                    have HS7 := Lib.hid (Sep.blk (A := [_]) (B := [_]) ((hx0.setB 0 (.int .i64 qa)).setB 1 (.int .i64 qc)))
                    clear hx0
                    refine AnyL.step (i := 16) (by kernel_rfl) (by rfl) (fun K hK => ?_)
                    go_simp
                    refine hK.out _ _ (by exact HBM.out _ _ HS7.out (by simp)) (by exact fun _ => trivial) ?_
                    clear hK K
                    clear y0 y1 f0 f1
                    refine AnyL.take (i := 17) (v := ?vx25) (by rfl) (by kernel_rfl) (by kernel_rfl) (by kernel_rfl) rfl (by exact fun _ _ _ h => h) (by rfl) ?hyx25 (by exact ⟨HBM.out _ _ HS7.out (by simp), fun _ => trivial⟩) ?restx25
                    case hyx25 => intro W hSW; (try dsimp only at hSW); first | (go_simp; done) | (go_simp; with_reducible rfl)
                    try simp only [Act.put, List.setIfInBounds_toArray, List.set_cons_zero, List.set_cons_succ]
                    refine AnyL.done (by kernel_rfl) ?_ _
                    generalize ((w6.setCell ⟨xb, 0, none⟩ (.int .i64 qa)).setCell ⟨xb, 1, none⟩ (.int .i64 qc)) = w7 at *
                    cases bj
                    · have hc := of_decide_eq_false HBJ.out
                      obtain rfl : b = false := by rw [← HB.out]; exact tmB_no HKE.out HPR.out (by have h := HPJ.out; rw [if_neg hc, prun_succ HPR.out] at h; exact h)
                      have hz0 := Sep.blk (A := [_, _, _]) (B := [_]) HS7.out
                      obtain ⟨y0, y1, f0, f1⟩ := bw2 hz0.hd
                      have HSZ := Lib.hid ((hz0.setB 0 (.int .i64 0)).setB 1 (.int .i64 0))
                      obtain ⟨u0, u1, _, _⟩ := bw2 HSZ.out.hd
                      have HKF := Lib.hid (show w.grownBy _ none from Sep.all HSZ.out (KeepA w) (by simp))
                      clear hz0
                      go_wp2_with fail
                      refine bodyPost_ret_by (v := .tuple #[.agg #[.int .i64 0, .int .i64 0], .bool false]) ?_ rfl ⟨⟨(0, 0), rfl, fun h => by cases h⟩, HKF.out⟩
                      simp [results, go_sem, *]
                    · have hc := of_decide_eq_true HBJ.out
                      have HQ2 := Lib.hid (HQ.out rfl)
                      rw [if_pos hc] at HPJ
                      go_upto_region 18 with fail
                      have HSE := Lib.hid HS7.out.dr
                      have hcu := HSE.out.cutR (k := m) HLEN.out.symm HLM.out
                      rw [HEC.out] at hcu
                      have HCU := Lib.hid hcu
                      clear hcu
                      obtain ⟨x0, x1, _, _⟩ := bw2 HSE.out.tl.hd
                      have X5 := Lib.hid x0; have X6 := Lib.hid x1
                      clear x0 x1
                      refine AnyL.start (fun W1 => W1.cell? ⟨xb, 0, none⟩ = some (.int .i64 qa) ∧ W1.cell? ⟨xb, 1, none⟩ = some (.int .i64 qc)) (fun _ => True) 99 (by kernel_rfl) ?_
                      generalize w7.drew = w8 at *
                      refine AnyL.take (i := 0) (v := ?vx26) (by rfl) (by kernel_rfl) (by kernel_rfl) (by kernel_rfl) rfl (by exact fun _ _ _ h => h) (by rfl) ?hyx26 (by exact ⟨⟨X5.out, X6.out⟩, fun _ => trivial⟩) ?restx26
                      case hyx26 => intro W hSW; (try dsimp only at hSW); first | (go_simp; done) | (go_simp; with_reducible rfl)
                      try simp only [Act.put, List.setIfInBounds_toArray, List.set_cons_zero, List.set_cons_succ]
                      refine AnyL.take (i := 1) (v := ?vx27) (by rfl) (by kernel_rfl) (by kernel_rfl) (by kernel_rfl) rfl (by exact fun _ _ _ h => h) (by rfl) ?hyx27 (by exact ⟨⟨X5.out, X6.out⟩, fun _ => trivial⟩) ?restx27
                      case hyx27 => intro W hSW; (try dsimp only at hSW); first | (go_simp; done) | (go_simp; with_reducible rfl)
                      try simp only [Act.put, List.setIfInBounds_toArray, List.set_cons_zero, List.set_cons_succ]
                      refine AnyL.take (i := 2) (v := ?vx28) (by rfl) (by kernel_rfl) (by kernel_rfl) (by kernel_rfl) rfl (by exact fun _ _ _ h => h) (by rfl) ?hyx28 (by exact ⟨⟨X5.out, X6.out⟩, fun _ => trivial⟩) ?restx28
                      case hyx28 => intro W hSW; (try dsimp only at hSW); first | (go_simp; done) | (go_simp; with_reducible rfl)
                      try simp only [Act.put, List.setIfInBounds_toArray, List.set_cons_zero, List.set_cons_succ]
                      refine AnyL.take (i := 3) (v := ?vx29) (by rfl) (by kernel_rfl) (by kernel_rfl) (by kernel_rfl) rfl (by exact fun _ _ _ h => h) (by rfl) ?hyx29 (by exact ⟨⟨X5.out, X6.out⟩, fun _ => trivial⟩) ?restx29
                      case hyx29 => intro W hSW; (try dsimp only at hSW); first | (go_simp; done) | (go_simp; with_reducible rfl)
                      try simp only [Act.put, List.setIfInBounds_toArray, List.set_cons_zero, List.set_cons_succ]
                      refine AnyL.take (i := 4) (v := ?vx30) (by rfl) (by kernel_rfl) (by kernel_rfl) (by kernel_rfl) rfl (by exact fun _ _ _ h => h) (by rfl) ?hyx30 (by exact ⟨⟨X5.out, X6.out⟩, fun _ => trivial⟩) ?restx30
                      case hyx30 => intro W hSW; (try dsimp only at hSW); first | (go_simp; done) | (go_simp; with_reducible rfl)
                      try simp only [Act.put, List.setIfInBounds_toArray, List.set_cons_zero, List.set_cons_succ]
                      have Y5 := Lib.hid fun ob => (show _ ∧ _ from ⟨(bw2 (HCU.out.al ob).tl.hd).1, (bw2 (HCU.out.al ob).tl.hd).2.1⟩)
                      refine AnyL.step (i := 5) (by kernel_rfl) (by rfl) (fun K hK => ?_)
                      go_simp
                      refine hK.out _ _ (by exact Y5.out _) (by exact fun _ => trivial) ?_
                      clear hK K
                      try simp only [Act.put, List.setIfInBounds_toArray, List.set_cons_zero, List.set_cons_succ]
                      refine AnyL.step (i := 6) (by kernel_rfl) (by rfl) (fun K hK => ?_)
                      refine step_app_RG (E := wireE) (y := (qa, qc)) (w := w8) (q := w8.heap.size) (v := .slice (some ⟨gg, 0, none⟩) m sc) info_wire rfl (by decide) Tryz.underlying137 (wire_one _ _) rfl (.tmp 85) (.tmp 87) rfl rfl rfl rfl rfl HCU.out (by rw [styL_len, HMR.out]; omega) ?_
                      intro g8 c8 w9 h8
                      rw [styL_len, HMR.out, HQ2.out, show styL R ++ [(a1, b2)] = styL (.seq A B :: R) from by rw [styL_push]; show _ = styL R ++ [_]; simp only [Tr.ty, HA.out, HB2.out]] at h8
                      try rw [styL_len, HMR.out]
                      obtain ⟨x0, x1, _, _⟩ := bw2 h8.tl.hd
                      have X7 := Lib.hid x0; have X8 := Lib.hid x1
                      have HS8 := Lib.hid (Sep.cutA (X := [_]) (A := [_, _]) h8)
                      clear h8 x0 x1
                      refine hK.out _ _ (by exact ⟨X7.out, X8.out⟩) (by exact fun _ => trivial) ?_
                      clear hK K
                      try simp only [Act.put, List.setIfInBounds_toArray, List.set_cons_zero, List.set_cons_succ]
                      refine AnyL.take (i := 7) (v := ?vx31) (by rfl) (by kernel_rfl) (by kernel_rfl) (by kernel_rfl) rfl (by exact fun _ _ _ h => h) (by rfl) ?hyx31 (by exact ⟨⟨X7.out, X8.out⟩, fun _ => trivial⟩) ?restx31
                      case hyx31 => intro W hSW; (try dsimp only at hSW); first | (go_simp; done) | (go_simp; with_reducible rfl)
                      try simp only [Act.put, List.setIfInBounds_toArray, List.set_cons_zero, List.set_cons_succ]
                      refine AnyL.done (by kernel_rfl) ?_ _
                      go_wp2_with fail
                      go_roundw
                      case rel => exact ⟨i + 1, _, by omega, by go_num, HPJ.out, HS8.out⟩
                      case measure => simp [intOf]; omega
                · have HJ := Lib.hid fun W => joinW_par a1 a2 b1 b2 W hqa hqb
                  obtain ⟨bj, hbj⟩ : ∃ x, decide (a1 + b1 ≤ 12 ∧ a2 + b2 ≤ 12) = x := ⟨_, rfl⟩
                  rw [hbj] at HJ
                  have HBJ := Lib.hid hbj
                  unfold TyR at HJ
                  clear hqa hqb hbj
                  have HPJ := Lib.hid (show prun ns (i + 1) = if a1 + b1 ≤ 12 ∧ a2 + b2 ≤ 12 then some (.par A B :: R) else none from by
                    rw [prun_succ HPR.out, HY.out, pstep_par rfl rfl rfl, HA.out, HB2.out])
                  go_upto_region 15 with fail
                  clear z0 z1 z2 q0 q1 q2
                  generalize wr.alloc (.cells #[.int .i64 16, .int .i64 0, .string noS] 66) = w4 at *
                  generalize wr.heap.size = kb at *
                  have HBM := Lib.hid fun (W1 : World) (L : List Asrt) (h : Sep W1 (OR wireE (.slice (some ⟨gg, 0, none⟩) m2 sc) (styL (B :: A :: R)) :: L)) (h1 : BxA kb #[.int .i64 16, .int .i64 0, .string noS] 66 ∈ L) => show ((W1.cell? ⟨gg, m * 2, none⟩ = some (.int .i64 a1) ∧ W1.cell? ⟨gg, m * 2 + 1, none⟩ = some (.int .i64 a2)) ∧ W1.cell? ⟨gg, m1 * 2, none⟩ = some (.int .i64 b1) ∧ W1.cell? ⟨gg, m1 * 2 + 1, none⟩ = some (.int .i64 b2)) ∧ W1.cell? ⟨kb, 0, none⟩ = some (.int .i64 16) from by
                    obtain ⟨a0, _, _⟩ := bw3 (show W1.heap[kb]? = some (.cells #[.int .i64 16, .int .i64 0, .string noS] 66 (0, 0)) from Sep.all h _ (List.mem_cons_of_mem _ h1))
                    exact ⟨HCL.out _ _ h, a0⟩
                  have HSD := Lib.hid (Sep.blk (A := [_]) (B := [_]) HS2.out.dr)
                  have X0 := Lib.hid (HBM.out _ _ HSD.out (by simp))
                  refine AnyL.start (fun W1 => ((W1.cell? ⟨gg, m * 2, none⟩ = some (.int .i64 a1) ∧ W1.cell? ⟨gg, m * 2 + 1, none⟩ = some (.int .i64 a2)) ∧ W1.cell? ⟨gg, m1 * 2, none⟩ = some (.int .i64 b1) ∧ W1.cell? ⟨gg, m1 * 2 + 1, none⟩ = some (.int .i64 b2)) ∧ W1.cell? ⟨kb, 0, none⟩ = some (.int .i64 16)) (fun _ => True) 99 (by kernel_rfl) ?_
                  refine AnyL.take (i := 0) (v := ?vx32) (by rfl) (by kernel_rfl) (by kernel_rfl) (by kernel_rfl) rfl (by exact fun _ _ _ h => h) (by rfl) ?hyx32 (by exact ⟨X0.out, fun _ => trivial⟩) ?restx32
                  case hyx32 => intro W hSW; (try dsimp only at hSW); first | (go_simp; done) | (go_simp; with_reducible rfl)
                  try simp only [Act.put, List.setIfInBounds_toArray, List.set_cons_zero, List.set_cons_succ]
                  refine AnyL.take (i := 1) (v := ?vx33) (by rfl) (by kernel_rfl) (by kernel_rfl) (by kernel_rfl) rfl (by exact fun _ _ _ h => h) (by rfl) ?hyx33 (by exact ⟨X0.out, fun _ => trivial⟩) ?restx33
                  case hyx33 => intro W hSW; (try dsimp only at hSW); first | (go_simp; done) | (go_simp; with_reducible rfl)
                  try simp only [Act.put, List.setIfInBounds_toArray, List.set_cons_zero, List.set_cons_succ]
                  refine AnyL.take (i := 2) (v := ?vx34) (by rfl) (by kernel_rfl) (by kernel_rfl) (by kernel_rfl) rfl (by exact fun _ _ _ h => h) (by rfl) ?hyx34 (by exact ⟨X0.out, fun _ => trivial⟩) ?restx34
                  case hyx34 => intro W hSW; (try dsimp only at hSW); first | (go_simp; done) | (go_simp; with_reducible rfl)
                  try simp only [Act.put, List.setIfInBounds_toArray, List.set_cons_zero, List.set_cons_succ]
                  refine AnyL.take (i := 3) (v := ?vx35) (by rfl) (by kernel_rfl) (by kernel_rfl) (by kernel_rfl) rfl (by exact fun _ _ _ h => h) (by rfl) ?hyx35 (by exact ⟨X0.out, fun _ => trivial⟩) ?restx35
                  case hyx35 => intro W hSW; (try dsimp only at hSW); first | (go_simp; done) | (go_simp; with_reducible rfl)
                  try simp only [Act.put, List.setIfInBounds_toArray, List.set_cons_zero, List.set_cons_succ]
                  refine AnyL.take (i := 4) (v := ?vx36) (by rfl) (by kernel_rfl) (by kernel_rfl) (by kernel_rfl) rfl (by exact fun _ _ _ h => h) (by rfl) ?hyx36 (by exact ⟨X0.out, fun _ => trivial⟩) ?restx36
                  case hyx36 => intro W hSW; (try dsimp only at hSW); first | (go_simp; done) | (go_simp; with_reducible rfl)
                  try simp only [Act.put, List.setIfInBounds_toArray, List.set_cons_zero, List.set_cons_succ]
                  refine AnyL.take (i := 5) (v := ?vx37) (by rfl) (by kernel_rfl) (by kernel_rfl) (by kernel_rfl) rfl (by exact fun _ _ _ h => h) (by rfl) ?hyx37 (by exact ⟨X0.out, fun _ => trivial⟩) ?restx37
                  case hyx37 => intro W hSW; (try dsimp only at hSW); first | (go_simp; done) | (go_simp; with_reducible rfl)
                  try simp only [Act.put, List.setIfInBounds_toArray, List.set_cons_zero, List.set_cons_succ]
                  refine AnyL.take (i := 6) (v := ?vx38) (by rfl) (by kernel_rfl) (by kernel_rfl) (by kernel_rfl) rfl (by exact fun _ _ _ h => h) (by rfl) ?hyx38 (by exact ⟨X0.out, fun _ => trivial⟩) ?restx38
                  case hyx38 => intro W hSW; (try dsimp only at hSW); first | (go_simp; done) | (go_simp; with_reducible rfl)
                  try simp only [Act.put, List.setIfInBounds_toArray, List.set_cons_zero, List.set_cons_succ]
                  refine AnyL.take (i := 7) (v := ?vx39) (by rfl) (by kernel_rfl) (by kernel_rfl) (by kernel_rfl) rfl (by exact fun _ _ _ h => h) (by rfl) ?hyx39 (by exact ⟨X0.out, fun _ => trivial⟩) ?restx39
                  case hyx39 => intro W hSW; (try dsimp only at hSW); first | (go_simp; done) | (go_simp; with_reducible rfl)
                  try simp only [Act.put, List.setIfInBounds_toArray, List.set_cons_zero, List.set_cons_succ]
                  refine AnyL.take (i := 8) (v := ?vx40) (by rfl) (by kernel_rfl) (by kernel_rfl) (by kernel_rfl) rfl (by exact fun _ _ _ h => h) (by rfl) ?hyx40 (by exact ⟨X0.out, fun _ => trivial⟩) ?restx40
                  case hyx40 => intro W hSW; (try dsimp only at hSW); first | (go_simp; done) | (go_simp; with_reducible rfl)
                  try simp only [Act.put, List.setIfInBounds_toArray, List.set_cons_zero, List.set_cons_succ]
                  refine AnyL.take (i := 9) (v := ?vx41) (by rfl) (by kernel_rfl) (by kernel_rfl) (by kernel_rfl) rfl (by exact fun _ _ _ h => h) (by rfl) ?hyx41 (by exact ⟨X0.out, fun _ => trivial⟩) ?restx41
                  case hyx41 => intro W hSW; (try dsimp only at hSW); first | (go_simp; done) | (go_simp; with_reducible rfl)
                  try simp only [Act.put, List.setIfInBounds_toArray, List.set_cons_zero, List.set_cons_succ]
                  refine AnyL.take (i := 10) (v := ?vx42) (by rfl) (by kernel_rfl) (by kernel_rfl) (by kernel_rfl) rfl (by exact fun _ _ _ h => h) (by rfl) ?hyx42 (by exact ⟨X0.out, fun _ => trivial⟩) ?restx42
                  case hyx42 => intro W hSW; (try dsimp only at hSW); first | (go_simp; done) | (go_simp; with_reducible rfl)
                  try simp only [Act.put, List.setIfInBounds_toArray, List.set_cons_zero, List.set_cons_succ]
                  refine AnyL.twoM (i := 11) (j := 15) (by kernel_rfl) (by rfl) (by rfl) (fun K hK => ?_) (fun K hK => ?_)
                  · go_simp
                    go_at_call 104
                    with_reducible refine (HJ.out _).mono ?_
                    rintro e w5 ⟨⟨⟨qa, qc⟩, rfl, hq⟩, hg⟩
                    have HS5 := Lib.hid (HSD.out.grown hg)
                    have HQ := Lib.hid hq
                    clear hg hq
                    refine hK.out _ _ (by exact HBM.out _ _ HS5.out (by simp)) (by exact fun _ => trivial) ?_
                    clear hK K
                    try simp only [Act.put, List.setIfInBounds_toArray, List.set_cons_zero, List.set_cons_succ]
                    refine AnyL.take (i := 12) (v := ?vx43) (by rfl) (by kernel_rfl) (by kernel_rfl) (by kernel_rfl) rfl (by exact fun _ _ _ h => h) (by rfl) ?hyx43 (by exact ⟨HBM.out _ _ HS5.out (by simp), fun _ => trivial⟩) ?restx43
                    case hyx43 => intro W hSW; (try dsimp only at hSW); first | (go_simp; done) | (go_simp; with_reducible rfl)
                    try simp only [Act.put, List.setIfInBounds_toArray, List.set_cons_zero, List.set_cons_succ]
                    refine AnyL.take (i := 13) (v := ?vx44) (by rfl) (by kernel_rfl) (by kernel_rfl) (by kernel_rfl) rfl (by exact fun _ _ _ h => h) (by rfl) ?hyx44 (by exact ⟨HBM.out _ _ HS5.out (by simp), fun _ => trivial⟩) ?restx44
                    case hyx44 => intro W hSW; (try dsimp only at hSW); first | (go_simp; done) | (go_simp; with_reducible rfl)
                    try simp only [Act.put, List.setIfInBounds_toArray, List.set_cons_zero, List.set_cons_succ]
                    refine AnyL.take (i := 14) (v := ?vx45) (by rfl) (by kernel_rfl) (by kernel_rfl) (by kernel_rfl) rfl (by exact fun _ _ _ h => h) (by rfl) ?hyx45 (by exact ⟨HBM.out _ _ HS5.out (by simp), fun _ => trivial⟩) ?restx45
                    case hyx45 => intro W hSW; (try dsimp only at hSW); first | (go_simp; done) | (go_simp; with_reducible rfl)
                    try simp only [Act.put, List.setIfInBounds_toArray, List.set_cons_zero, List.set_cons_succ]
                    refine AnyL.step (i := 15) (by kernel_rfl) (by rfl) (fun K hK => ?_)
                    go_simp
                    have HS6 := Lib.hid (Sep.blk (A := [_]) (B := [_]) (HS5.out.boxAt (w5.heap.size) (by rfl) #[.int .i64 0, .int .i64 0] 95))
                    refine hK.out _ (w5.alloc (.cells #[.int .i64 0, .int .i64 0] 95)) (by exact HBM.out _ _ HS6.out (by simp)) (by exact fun _ => trivial) ?_
                    clear hK K
                    try simp only [Act.put, List.setIfInBounds_toArray, List.set_cons_zero, List.set_cons_succ]
                    generalize w5.alloc (.cells #[.int .i64 0, .int .i64 0] 95) = w6 at *
                    generalize w5.heap.size = xb at *
                    have hx0 := Sep.blk (A := [_]) (B := [_]) HS6.out
                    obtain ⟨y0, y1, f0, f1⟩ := bw2 hx0.hd
                    have HS7 := Lib.hid (Sep.blk (A := [_]) (B := [_]) ((hx0.setB 0 (.int .i64 qa)).setB 1 (.int .i64 qc)))
                    clear hx0
                    refine AnyL.step (i := 16) (by kernel_rfl) (by rfl) (fun K hK => ?_)
                    go_simp
                    refine hK.out _ _ (by exact HBM.out _ _ HS7.out (by simp)) (by exact fun _ => trivial) ?_
                    clear hK K
                    clear y0 y1 f0 f1
                    refine AnyL.take (i := 17) (v := ?vx46) (by rfl) (by kernel_rfl) (by kernel_rfl) (by kernel_rfl) rfl (by exact fun _ _ _ h => h) (by rfl) ?hyx46 (by exact ⟨HBM.out _ _ HS7.out (by simp), fun _ => trivial⟩) ?restx46
                    case hyx46 => intro W hSW; (try dsimp only at hSW); first | (go_simp; done) | (go_simp; with_reducible rfl)
                    try simp only [Act.put, List.setIfInBounds_toArray, List.set_cons_zero, List.set_cons_succ]
                    refine AnyL.done (by kernel_rfl) ?_ _
                    generalize ((w6.setCell ⟨xb, 0, none⟩ (.int .i64 qa)).setCell ⟨xb, 1, none⟩ (.int .i64 qc)) = w7 at *
                    cases bj
                    · have hc := of_decide_eq_false HBJ.out
                      obtain rfl : b = false := by rw [← HB.out]; exact tmB_no HKE.out HPR.out (by have h := HPJ.out; rw [if_neg hc, prun_succ HPR.out] at h; exact h)
                      have hz0 := Sep.blk (A := [_, _, _]) (B := [_]) HS7.out
                      obtain ⟨y0, y1, f0, f1⟩ := bw2 hz0.hd
                      have HSZ := Lib.hid ((hz0.setB 0 (.int .i64 0)).setB 1 (.int .i64 0))
                      obtain ⟨u0, u1, _, _⟩ := bw2 HSZ.out.hd
                      have HKF := Lib.hid (show w.grownBy _ none from Sep.all HSZ.out (KeepA w) (by simp))
                      clear hz0
                      go_wp2_with fail
                      refine bodyPost_ret_by (v := .tuple #[.agg #[.int .i64 0, .int .i64 0], .bool false]) ?_ rfl ⟨⟨(0, 0), rfl, fun h => by cases h⟩, HKF.out⟩
                      simp [results, go_sem, *]
                    · have hc := of_decide_eq_true HBJ.out
                      have HQ2 := Lib.hid (HQ.out rfl)
                      rw [if_pos hc] at HPJ
                      go_upto_region 18 with fail
                      have HSE := Lib.hid HS7.out.dr
                      have hcu := HSE.out.cutR (k := m) HLEN.out.symm HLM.out
                      rw [HEC.out] at hcu
                      have HCU := Lib.hid hcu
                      clear hcu
                      obtain ⟨x0, x1, _, _⟩ := bw2 HSE.out.tl.hd
                      have X5 := Lib.hid x0; have X6 := Lib.hid x1
                      clear x0 x1
                      refine AnyL.start (fun W1 => W1.cell? ⟨xb, 0, none⟩ = some (.int .i64 qa) ∧ W1.cell? ⟨xb, 1, none⟩ = some (.int .i64 qc)) (fun _ => True) 99 (by kernel_rfl) ?_
                      generalize w7.drew = w8 at *
                      refine AnyL.take (i := 0) (v := ?vx47) (by rfl) (by kernel_rfl) (by kernel_rfl) (by kernel_rfl) rfl (by exact fun _ _ _ h => h) (by rfl) ?hyx47 (by exact ⟨⟨X5.out, X6.out⟩, fun _ => trivial⟩) ?restx47
                      case hyx47 => intro W hSW; (try dsimp only at hSW); first | (go_simp; done) | (go_simp; with_reducible rfl)
                      try simp only [Act.put, List.setIfInBounds_toArray, List.set_cons_zero, List.set_cons_succ]
                      refine AnyL.take (i := 1) (v := ?vx48) (by rfl) (by kernel_rfl) (by kernel_rfl) (by kernel_rfl) rfl (by exact fun _ _ _ h => h) (by rfl) ?hyx48 (by exact ⟨⟨X5.out, X6.out⟩, fun _ => trivial⟩) ?restx48
                      case hyx48 => intro W hSW; (try dsimp only at hSW); first | (go_simp; done) | (go_simp; with_reducible rfl)
                      try simp only [Act.put, List.setIfInBounds_toArray, List.set_cons_zero, List.set_cons_succ]
                      refine AnyL.take (i := 2) (v := ?vx49) (by rfl) (by kernel_rfl) (by kernel_rfl) (by kernel_rfl) rfl (by exact fun _ _ _ h => h) (by rfl) ?hyx49 (by exact ⟨⟨X5.out, X6.out⟩, fun _ => trivial⟩) ?restx49
                      case hyx49 => intro W hSW; (try dsimp only at hSW); first | (go_simp; done) | (go_simp; with_reducible rfl)
                      try simp only [Act.put, List.setIfInBounds_toArray, List.set_cons_zero, List.set_cons_succ]
                      refine AnyL.take (i := 3) (v := ?vx50) (by rfl) (by kernel_rfl) (by kernel_rfl) (by kernel_rfl) rfl (by exact fun _ _ _ h => h) (by rfl) ?hyx50 (by exact ⟨⟨X5.out, X6.out⟩, fun _ => trivial⟩) ?restx50
                      case hyx50 => intro W hSW; (try dsimp only at hSW); first | (go_simp; done) | (go_simp; with_reducible rfl)
                      try simp only [Act.put, List.setIfInBounds_toArray, List.set_cons_zero, List.set_cons_succ]
                      refine AnyL.take (i := 4) (v := ?vx51) (by rfl) (by kernel_rfl) (by kernel_rfl) (by kernel_rfl) rfl (by exact fun _ _ _ h => h) (by rfl) ?hyx51 (by exact ⟨⟨X5.out, X6.out⟩, fun _ => trivial⟩) ?restx51
                      case hyx51 => intro W hSW; (try dsimp only at hSW); first | (go_simp; done) | (go_simp; with_reducible rfl)
                      try simp only [Act.put, List.setIfInBounds_toArray, List.set_cons_zero, List.set_cons_succ]
                      have Y5 := Lib.hid fun ob => (show _ ∧ _ from ⟨(bw2 (HCU.out.al ob).tl.hd).1, (bw2 (HCU.out.al ob).tl.hd).2.1⟩)
                      refine AnyL.step (i := 5) (by kernel_rfl) (by rfl) (fun K hK => ?_)
                      go_simp
                      refine hK.out _ _ (by exact Y5.out _) (by exact fun _ => trivial) ?_
                      clear hK K
                      try simp only [Act.put, List.setIfInBounds_toArray, List.set_cons_zero, List.set_cons_succ]
                      refine AnyL.step (i := 6) (by kernel_rfl) (by rfl) (fun K hK => ?_)
                      refine step_app_RG (E := wireE) (y := (qa, qc)) (w := w8) (q := w8.heap.size) (v := .slice (some ⟨gg, 0, none⟩) m sc) info_wire rfl (by decide) Tryz.underlying137 (wire_one _ _) rfl (.tmp 85) (.tmp 87) rfl rfl rfl rfl rfl HCU.out (by rw [styL_len, HMR.out]; omega) ?_
                      intro g8 c8 w9 h8
                      rw [styL_len, HMR.out, HQ2.out, show styL R ++ [((a1 + b1), (a2 + b2))] = styL (.par A B :: R) from by rw [styL_push]; show _ = styL R ++ [_]; simp only [Tr.ty, HA.out, HB2.out]] at h8
                      try rw [styL_len, HMR.out]
                      obtain ⟨x0, x1, _, _⟩ := bw2 h8.tl.hd
                      have X7 := Lib.hid x0; have X8 := Lib.hid x1
                      have HS8 := Lib.hid (Sep.cutA (X := [_]) (A := [_, _]) h8)
                      clear h8 x0 x1
                      refine hK.out _ _ (by exact ⟨X7.out, X8.out⟩) (by exact fun _ => trivial) ?_
                      clear hK K
                      try simp only [Act.put, List.setIfInBounds_toArray, List.set_cons_zero, List.set_cons_succ]
                      refine AnyL.take (i := 7) (v := ?vx52) (by rfl) (by kernel_rfl) (by kernel_rfl) (by kernel_rfl) rfl (by exact fun _ _ _ h => h) (by rfl) ?hyx52 (by exact ⟨⟨X7.out, X8.out⟩, fun _ => trivial⟩) ?restx52
                      case hyx52 => intro W hSW; (try dsimp only at hSW); first | (go_simp; done) | (go_simp; with_reducible rfl)
                      try simp only [Act.put, List.setIfInBounds_toArray, List.set_cons_zero, List.set_cons_succ]
                      refine AnyL.done (by kernel_rfl) ?_ _
                      go_wp2_with fail
                      go_roundw
                      case rel => exact ⟨i + 1, _, by omega, by go_num, HPJ.out, HS8.out⟩
                      case measure => simp [intOf]; omega
                  · go_simp
                    have HS5 := Lib.hid (Sep.blk (A := [_]) (B := [_]) (HSD.out.boxAt (w4.heap.size) (by rfl) #[.int .i64 0, .int .i64 0] 95))
                    refine hK.out _ (w4.drew.alloc (.cells #[.int .i64 0, .int .i64 0] 95)) (by exact HBM.out _ _ HS5.out (by simp)) (by exact fun _ => trivial) ?_
                    clear hK K
                    try simp only [Act.put, List.setIfInBounds_toArray, List.set_cons_zero, List.set_cons_succ]
                    generalize w4.drew.alloc (.cells #[.int .i64 0, .int .i64 0] 95) = w5 at *
                    generalize w4.heap.size = xb at *
                    refine AnyL.step (i := 11) (by kernel_rfl) (by rfl) (fun K hK => ?_)
                    go_simp
                    go_at_call 104
                    with_reducible refine (HJ.out _).mono ?_
                    rintro e w6 ⟨⟨⟨qa, qc⟩, rfl, hq⟩, hg⟩
                    have HS6 := Lib.hid (HS5.out.grown hg)
                    have HQ := Lib.hid hq
                    clear hg hq
                    refine hK.out _ _ (by exact HBM.out _ _ HS6.out (by simp)) (by exact fun _ => trivial) ?_
                    clear hK K
                    try simp only [Act.put, List.setIfInBounds_toArray, List.set_cons_zero, List.set_cons_succ]
                    refine AnyL.take (i := 12) (v := ?vx53) (by rfl) (by kernel_rfl) (by kernel_rfl) (by kernel_rfl) rfl (by exact fun _ _ _ h => h) (by rfl) ?hyx53 (by exact ⟨HBM.out _ _ HS6.out (by simp), fun _ => trivial⟩) ?restx53
                    case hyx53 => intro W hSW; (try dsimp only at hSW); first | (go_simp; done) | (go_simp; with_reducible rfl)
                    try simp only [Act.put, List.setIfInBounds_toArray, List.set_cons_zero, List.set_cons_succ]
                    refine AnyL.take (i := 13) (v := ?vx54) (by rfl) (by kernel_rfl) (by kernel_rfl) (by kernel_rfl) rfl (by exact fun _ _ _ h => h) (by rfl) ?hyx54 (by exact ⟨HBM.out _ _ HS6.out (by simp), fun _ => trivial⟩) ?restx54
                    case hyx54 => intro W hSW; (try dsimp only at hSW); first | (go_simp; done) | (go_simp; with_reducible rfl)
                    try simp only [Act.put, List.setIfInBounds_toArray, List.set_cons_zero, List.set_cons_succ]
                    refine AnyL.take (i := 14) (v := ?vx55) (by rfl) (by kernel_rfl) (by kernel_rfl) (by kernel_rfl) rfl (by exact fun _ _ _ h => h) (by rfl) ?hyx55 (by exact ⟨HBM.out _ _ HS6.out (by simp), fun _ => trivial⟩) ?restx55
                    case hyx55 => intro W hSW; (try dsimp only at hSW); first | (go_simp; done) | (go_simp; with_reducible rfl)
                    try simp only [Act.put, List.setIfInBounds_toArray, List.set_cons_zero, List.set_cons_succ]
                    have hx0 := Sep.blk (A := [_]) (B := [_]) HS6.out
                    obtain ⟨y0, y1, f0, f1⟩ := bw2 hx0.hd
                    have HS7 := Lib.hid (Sep.blk (A := [_]) (B := [_]) ((hx0.setB 0 (.int .i64 qa)).setB 1 (.int .i64 qc)))
                    clear hx0
                    refine AnyL.step (i := 16) (by kernel_rfl) (by rfl) (fun K hK => ?_)
                    go_simp
                    refine hK.out _ _ (by exact HBM.out _ _ HS7.out (by simp)) (by exact fun _ => trivial) ?_
                    clear hK K
                    clear y0 y1 f0 f1
                    refine AnyL.take (i := 17) (v := ?vx56) (by rfl) (by kernel_rfl) (by kernel_rfl) (by kernel_rfl) rfl (by exact fun _ _ _ h => h) (by rfl) ?hyx56 (by exact ⟨HBM.out _ _ HS7.out (by simp), fun _ => trivial⟩) ?restx56
                    case hyx56 => intro W hSW; (try dsimp only at hSW); first | (go_simp; done) | (go_simp; with_reducible rfl)
                    try simp only [Act.put, List.setIfInBounds_toArray, List.set_cons_zero, List.set_cons_succ]
                    refine AnyL.done (by kernel_rfl) ?_ _
                    generalize ((w6.setCell ⟨xb, 0, none⟩ (.int .i64 qa)).setCell ⟨xb, 1, none⟩ (.int .i64 qc)) = w7 at *
                    cases bj
                    · have hc := of_decide_eq_false HBJ.out
                      obtain rfl : b = false := by rw [← HB.out]; exact tmB_no HKE.out HPR.out (by have h := HPJ.out; rw [if_neg hc, prun_succ HPR.out] at h; exact h)
                      have hz0 := Sep.blk (A := [_, _, _]) (B := [_]) HS7.out
                      obtain ⟨y0, y1, f0, f1⟩ := bw2 hz0.hd
                      have HSZ := Lib.hid ((hz0.setB 0 (.int .i64 0)).setB 1 (.int .i64 0))
                      obtain ⟨u0, u1, _, _⟩ := bw2 HSZ.out.hd
                      have HKF := Lib.hid (show w.grownBy _ none from Sep.all HSZ.out (KeepA w) (by simp))
                      clear hz0
                      go_wp2_with fail
                      refine bodyPost_ret_by (v := .tuple #[.agg #[.int .i64 0, .int .i64 0], .bool false]) ?_ rfl ⟨⟨(0, 0), rfl, fun h => by cases h⟩, HKF.out⟩
                      simp [results, go_sem, *]
                    · have hc := of_decide_eq_true HBJ.out
                      have HQ2 := Lib.hid (HQ.out rfl)
                      rw [if_pos hc] at HPJ
                      go_upto_region 18 with fail
                      have HSE := Lib.hid HS7.out.dr
                      have hcu := HSE.out.cutR (k := m) HLEN.out.symm HLM.out
                      rw [HEC.out] at hcu
                      have HCU := Lib.hid hcu
                      clear hcu
                      obtain ⟨x0, x1, _, _⟩ := bw2 HSE.out.tl.hd
                      have X5 := Lib.hid x0; have X6 := Lib.hid x1
                      clear x0 x1
                      refine AnyL.start (fun W1 => W1.cell? ⟨xb, 0, none⟩ = some (.int .i64 qa) ∧ W1.cell? ⟨xb, 1, none⟩ = some (.int .i64 qc)) (fun _ => True) 99 (by kernel_rfl) ?_
                      generalize w7.drew = w8 at *
                      refine AnyL.take (i := 0) (v := ?vx57) (by rfl) (by kernel_rfl) (by kernel_rfl) (by kernel_rfl) rfl (by exact fun _ _ _ h => h) (by rfl) ?hyx57 (by exact ⟨⟨X5.out, X6.out⟩, fun _ => trivial⟩) ?restx57
                      case hyx57 => intro W hSW; (try dsimp only at hSW); first | (go_simp; done) | (go_simp; with_reducible rfl)
                      try simp only [Act.put, List.setIfInBounds_toArray, List.set_cons_zero, List.set_cons_succ]
                      refine AnyL.take (i := 1) (v := ?vx58) (by rfl) (by kernel_rfl) (by kernel_rfl) (by kernel_rfl) rfl (by exact fun _ _ _ h => h) (by rfl) ?hyx58 (by exact ⟨⟨X5.out, X6.out⟩, fun _ => trivial⟩) ?restx58
                      case hyx58 => intro W hSW; (try dsimp only at hSW); first | (go_simp; done) | (go_simp; with_reducible rfl)
                      try simp only [Act.put, List.setIfInBounds_toArray, List.set_cons_zero, List.set_cons_succ]
                      refine AnyL.take (i := 2) (v := ?vx59) (by rfl) (by kernel_rfl) (by kernel_rfl) (by kernel_rfl) rfl (by exact fun _ _ _ h => h) (by rfl) ?hyx59 (by exact ⟨⟨X5.out, X6.out⟩, fun _ => trivial⟩) ?restx59
                      case hyx59 => intro W hSW; (try dsimp only at hSW); first | (go_simp; done) | (go_simp; with_reducible rfl)
                      try simp only [Act.put, List.setIfInBounds_toArray, List.set_cons_zero, List.set_cons_succ]
                      refine AnyL.take (i := 3) (v := ?vx60) (by rfl) (by kernel_rfl) (by kernel_rfl) (by kernel_rfl) rfl (by exact fun _ _ _ h => h) (by rfl) ?hyx60 (by exact ⟨⟨X5.out, X6.out⟩, fun _ => trivial⟩) ?restx60
                      case hyx60 => intro W hSW; (try dsimp only at hSW); first | (go_simp; done) | (go_simp; with_reducible rfl)
                      try simp only [Act.put, List.setIfInBounds_toArray, List.set_cons_zero, List.set_cons_succ]
                      refine AnyL.take (i := 4) (v := ?vx61) (by rfl) (by kernel_rfl) (by kernel_rfl) (by kernel_rfl) rfl (by exact fun _ _ _ h => h) (by rfl) ?hyx61 (by exact ⟨⟨X5.out, X6.out⟩, fun _ => trivial⟩) ?restx61
                      case hyx61 => intro W hSW; (try dsimp only at hSW); first | (go_simp; done) | (go_simp; with_reducible rfl)
                      try simp only [Act.put, List.setIfInBounds_toArray, List.set_cons_zero, List.set_cons_succ]
                      have Y5 := Lib.hid fun ob => (show _ ∧ _ from ⟨(bw2 (HCU.out.al ob).tl.hd).1, (bw2 (HCU.out.al ob).tl.hd).2.1⟩)
                      refine AnyL.step (i := 5) (by kernel_rfl) (by rfl) (fun K hK => ?_)
                      go_simp
                      refine hK.out _ _ (by exact Y5.out _) (by exact fun _ => trivial) ?_
                      clear hK K
                      try simp only [Act.put, List.setIfInBounds_toArray, List.set_cons_zero, List.set_cons_succ]
                      refine AnyL.step (i := 6) (by kernel_rfl) (by rfl) (fun K hK => ?_)
                      refine step_app_RG (E := wireE) (y := (qa, qc)) (w := w8) (q := w8.heap.size) (v := .slice (some ⟨gg, 0, none⟩) m sc) info_wire rfl (by decide) Tryz.underlying137 (wire_one _ _) rfl (.tmp 85) (.tmp 87) rfl rfl rfl rfl rfl HCU.out (by rw [styL_len, HMR.out]; omega) ?_
                      intro g8 c8 w9 h8
                      rw [styL_len, HMR.out, HQ2.out, show styL R ++ [((a1 + b1), (a2 + b2))] = styL (.par A B :: R) from by rw [styL_push]; show _ = styL R ++ [_]; simp only [Tr.ty, HA.out, HB2.out]] at h8
                      try rw [styL_len, HMR.out]
                      obtain ⟨x0, x1, _, _⟩ := bw2 h8.tl.hd
                      have X7 := Lib.hid x0; have X8 := Lib.hid x1
                      have HS8 := Lib.hid (Sep.cutA (X := [_]) (A := [_, _]) h8)
                      clear h8 x0 x1
                      refine hK.out _ _ (by exact ⟨X7.out, X8.out⟩) (by exact fun _ => trivial) ?_
                      clear hK K
                      try simp only [Act.put, List.setIfInBounds_toArray, List.set_cons_zero, List.set_cons_succ]
                      refine AnyL.take (i := 7) (v := ?vx62) (by rfl) (by kernel_rfl) (by kernel_rfl) (by kernel_rfl) rfl (by exact fun _ _ _ h => h) (by rfl) ?hyx62 (by exact ⟨⟨X7.out, X8.out⟩, fun _ => trivial⟩) ?restx62
                      case hyx62 => intro W hSW; (try dsimp only at hSW); first | (go_simp; done) | (go_simp; with_reducible rfl)
                      try simp only [Act.put, List.setIfInBounds_toArray, List.set_cons_zero, List.set_cons_succ]
                      refine AnyL.done (by kernel_rfl) ?_ _
                      go_wp2_with fail
                      go_roundw
                      case rel => exact ⟨i + 1, _, by omega, by go_num, HPJ.out, HS8.out⟩
                      case measure => simp [intOf]; omega
            · have hs1 := ba_ne hs
              obtain rfl : b = false := by rw [← HB.out]; exact tmB_no HKE.out HPR.out (by rw [HY.out]; exact pstep_no hop (Or.inr (Or.inl hs)))
              have hz0 := Sep.blk (A := [_, _]) (B := [_]) HS2.out
              obtain ⟨y0, y1, f0, f1⟩ := bw2 hz0.hd
              have HSZ := Lib.hid ((hz0.setB 0 (.int .i64 0)).setB 1 (.int .i64 0))
              obtain ⟨u0, u1, _, _⟩ := bw2 HSZ.out.hd
              have HKF := Lib.hid (show w.grownBy _ none from Sep.all HSZ.out (KeepA w) (by simp))
              clear hz0
              subst hv
              rcases hop with rfl | rfl
              · go_wp2_with fail
                refine bodyPost_ret_by (v := .tuple #[.agg #[.int .i64 0, .int .i64 0], .bool false]) ?_ rfl ⟨⟨(0, 0), rfl, fun h => by cases h⟩, HKF.out⟩
                simp [results, go_sem, *]
              · go_wp2_with fail
                refine bodyPost_ret_by (v := .tuple #[.agg #[.int .i64 0, .int .i64 0], .bool false]) ?_ rfl ⟨⟨(0, 0), rfl, fun h => by cases h⟩, HKF.out⟩
                simp [results, go_sem, *]
          · have hv1 : (v != 0) = true := by simpa using hv
            obtain rfl : b = false := by rw [← HB.out]; exact tmB_no HKE.out HPR.out (by rw [HY.out]; exact pstep_no hop (Or.inl hv))
            have hz0 := Sep.blk (A := [_, _]) (B := [_]) HS2.out
            obtain ⟨y0, y1, f0, f1⟩ := bw2 hz0.hd
            have HSZ := Lib.hid ((hz0.setB 0 (.int .i64 0)).setB 1 (.int .i64 0))
            obtain ⟨u0, u1, _, _⟩ := bw2 HSZ.out.hd
            have HKF := Lib.hid (show w.grownBy _ none from Sep.all HSZ.out (KeepA w) (by simp))
            clear hz0
            rcases hop with rfl | rfl
            · go_wp2_with fail
              refine bodyPost_ret_by (v := .tuple #[.agg #[.int .i64 0, .int .i64 0], .bool false]) ?_ rfl ⟨⟨(0, 0), rfl, fun h => by cases h⟩, HKF.out⟩
              simp [results, go_sem, *]
            · go_wp2_with fail
              refine bodyPost_ret_by (v := .tuple #[.agg #[.int .i64 0, .int .i64 0], .bool false]) ?_ rfl ⟨⟨(0, 0), rfl, fun h => by cases h⟩, HKF.out⟩
              simp [results, go_sem, *]
        · have h15 : (k != 15) = true := by simp; omega
          have h16 : (k != 16) = true := by simp; omega
          have HL := Lib.hid fun W => HLW.out k v s W
          cases hb : lfB ⟨k, v, s⟩
          · rw [hb] at HL
            clear HLW
            obtain rfl : b = false := by rw [← HB.out]; exact tmB_no HKE.out HPR.out (by rw [HY.out, pstep_leaf hop, if_neg (by rw [hb]; simp)])
            unfold TyR at HL
            skip
            go_wp2_with (
              go_at_call 92
              with_reducible refine (HL.out _).mono ?_
              rintro e w3 ⟨⟨⟨qa, qc⟩, rfl, _⟩, hg⟩
              have HS3 := Lib.hid ((HS2.out.grown hg).boxAt w3.heap.size rfl #[.int .i64 qa, .int .i64 qc] 95)
              have hz0 := Sep.blk (A := [_, _, _]) (B := [_]) HS3.out
              obtain ⟨y0, y1, f0, f1⟩ := bw2 hz0.hd
              have HSZ := Lib.hid ((hz0.setB 0 (.int .i64 0)).setB 1 (.int .i64 0))
              obtain ⟨u0, u1, _, _⟩ := bw2 HSZ.out.hd
              have HKF := Lib.hid (show w.grownBy _ none from Sep.all HSZ.out (KeepA w) (by simp))
              clear hz0
              clear hg z0 z1 z2 q0 q1 q2)
            refine bodyPost_ret_by (v := .tuple #[.agg #[.int .i64 0, .int .i64 0], .bool false]) ?_ rfl ⟨⟨(0, 0), rfl, fun h => by cases h⟩, HKF.out⟩
            simp [results, go_sem, *]
          · rw [hb] at HL
            have HPS := Lib.hid (show prun ns (i + 1) = some (.leaf ⟨k, v, s⟩ :: S) from by rw [prun_succ HPR.out, HY.out, pstep_leaf hop, if_pos hb])
            clear HLW hb
            unfold TyR at HL
            go_upto_region 11 with (
              go_at_call 92
              with_reducible refine (HL.out _).mono ?_
              rintro e w3 ⟨⟨⟨qa, qc⟩, rfl, hq⟩, hg⟩
              have HQ := Lib.hid (hq rfl)
              have HS3 := Lib.hid ((HS2.out.grown hg).boxAt w3.heap.size rfl #[.int .i64 qa, .int .i64 qc] 95)
              clear hg hq z0 z1 z2 q0 q1 q2)
            generalize w3.alloc (.cells #[.int .i64 qa, .int .i64 qc] 95) = w4 at *
            obtain ⟨x0, x1, _, _⟩ := bw2 HS3.out.hd
            generalize w3.heap.size = xb at *
            have HS4 := Lib.hid (Sep.blk (A := [_, _]) (B := [_]) HS3.out)
            go_wp2_with (
              at_builtin
              go_loud (
              refine app_R (E := wireE) (y := (qa, qc)) info_wire rfl (by decide) Tryz.underlying137 (wire_one _ _) rfl (.tmp 43) (.tmp 45) rfl rfl rfl rfl HS4.out (by rw [styL_len]; omega) ?_
              intro g5 c5 w5 h5
              rw [HQ.out, styL_len, show styL S ++ [lfTy ⟨k, v, s⟩] = styL (.leaf ⟨k, v, s⟩ :: S) from (styL_push (.leaf ⟨k, v, s⟩) S).symm] at h5
              try rw [styL_len]
              have HS5 := Lib.hid (Sep.cutA (X := [_]) (A := [_, _]) h5)
              clear h5 x0 x1))
            go_roundw
            case rel => exact ⟨i + 1, _, by omega, by go_num, HPS.out, HS5.out⟩
            case measure => simp [intOf]; omega
      · have hin : n = i := by omega
        subst hin
        have hkk : ¬ (n : Int) < (n : Int) := by omega
        obtain ⟨T, R, rfl, e1, e2⟩ := tm_end (by rw [HNL.out]; exact hr1) (by rw [HNL.out]; exact hr2) (by rw [HNL.out]; exact HPR.out)
        rw [HB.out] at e1
        rw [HP.out] at e2
        have hlz : 0 < (styL (T :: R)).length := by rw [styL_len]; simp
        obtain ⟨gg, gcp, hge, _, _, _⟩ := OwnR.parts (show OwnR wireE 0 _ _ (styL (T :: R)) from HSQ.out.hd) hlz
        injection hge with hge1 hgl hge2
        subst hge1 hge2
        clear hgl
        obtain ⟨x0, x1⟩ := OwnR.wire (show OwnR wireE 0 _ _ _ from HSQ.out.hd) (by rw [styL_len]) (i := 0) (by simp)
        rw [Nat.zero_mul] at x0 x1
        rw [Nat.zero_add] at x1
        have HQP := Lib.hid (show b = true → (styL (T :: R)).getD 0 (0, 0) = p from fun h => by rw [e2]; exact styL_first (List.eq_nil_of_length_eq_zero (by rw [h] at e1; have := of_decide_eq_true e1.symm; simpa using this)))
        obtain ⟨⟨qa, qc⟩, hq⟩ : ∃ q, (styL (T :: R)).getD 0 (0, 0) = q := ⟨_, rfl⟩
        rw [hq] at x0 x1 HQP
        simp only at x0 x1
        have HSR := Lib.hid (Sep.blk (A := [_]) (B := [_]) HSQ.out)
        obtain ⟨y0, y1, f0, f1⟩ := bw2 HSR.out.hd
        have HSZ := Lib.hid ((HSR.out.setB 0 (.int .i64 qa)).setB 1 (.int .i64 qc))
        obtain ⟨u0, u1, _, _⟩ := bw2 HSZ.out.hd
        have HKF := Lib.hid (show w.grownBy _ none from Sep.all HSZ.out (KeepA w) (by simp))
        obtain ⟨sl, hsl⟩ : ∃ x, (T :: R).length = x := ⟨_, rfl⟩
        have hpos : (0 : Int) < (sl : Int) := by rw [← hsl, List.length_cons]; omega
        rw [hsl] at e1 HSQ HSR ⊢
        have hcmp : ((sl : Int) == 1) = b := by rw [e1]; by_cases h : sl = 1 <;> simp [h]; omega
        clear e1 e2 hq hsl hlz
        go_wp2_with fail
        refine bodyPost_ret_by (v := .tuple #[.agg #[.int .i64 qa, .int .i64 qc], .bool b]) ?_ rfl ⟨⟨_, rfl, HQP.out⟩, HKF.out⟩
        simp [results, go_sem, *]
  · obtain rfl : b = false := by rw [← HB.out]; exact tmB_len (fun h => hr (by rw [HNL.out] at h; omega))
    rw [decide_eq_false hr] at HWI
    have HKF := Lib.hid (show w.grownBy _ none from HS0.out.tl.hd)
    go_enter Tryz.func91, Tryz.ntmps91
    go_wp2_with (go_at_call 77; with_reducible refine (HWI.out _).mono ?_; rintro e w3 ⟨rfl, rfl⟩)
    refine bodyPost_ret_by (v := .tuple #[.agg #[.int .i64 0, .int .i64 0], .bool false]) ?_ rfl ⟨⟨(0, 0), rfl, fun h => by cases h⟩, HKF.out⟩
    simp [results, go_sem, *]
end Go.Proofs.YtjagjhchnpmngaaGreatDoor

/-
  The entry that draws two relations, the second one often inside the first one. Conditions: the code is well laid.
-/
import Derived.Test.YtpeaeminjbjlnaaDoorMr04
import Derived.Test.YtpeaeminjbjlnaaDoorMo02
namespace Go.Proofs.YtpeaeminjbjlnaaDoor
open Go.RowKit
set_option linter.unusedVariables false

theorem small_rows {q n : Nat} {L : List (List Int)} (h : L.length ≤ 24) (hr : RowsOk q n L) (hn : n ≤ 1000) : Small 1000 L := ⟨by omega, fun row hrow => by rw [(hr row hrow).1]; exact hn⟩

theorem Sep.toEnd {w : World} : ∀ {l : List Asrt} {A : Asrt}, Sep w (A :: l) → Sep w (l ++ [A])
  | [], _, h => h
  | C :: l, A, h => by
    have h2 := h.s2
    exact h2.under Sep.toEnd fun D hD => by
      rcases List.mem_append.1 hD with h3 | h3
      · exact List.mem_cons_of_mem _ h3
      · rw [List.mem_singleton] at h3; rw [h3]; simp
theorem Sep.s8 {w : World} {A C D E F G H I : Asrt} {l : List Asrt} (h : Sep w (A :: C :: D :: E :: F :: G :: H :: I :: l)) : Sep w (I :: A :: C :: D :: E :: F :: G :: H :: l) := (h.under Sep.s7 (by simp +contextual)).s2

set_option maxRecDepth 100000 in
set_option maxHeartbeats 16000000 in
theorem drawIncludesRelation_any (cv : Value) (w : World) (hc : CodeAt w cv) : Calls Tryd.prog 97 #[cv] w (DComp w) := by
  have HS := Lib.hid (Sep.startD2 hc #[.int .i64 0, .int .i64 0, .slice none 0 0] #[.int .i64 0, .int .i64 0, .slice none 0 0] 65 65)
  have hs0 : ((w.alloc (.cells #[.int .i64 0, .int .i64 0, .slice none 0 0] 65)).alloc (.cells #[.int .i64 0, .int .i64 0, .slice none 0 0] 65)).heap.size = w.heap.size + 1 + 1 := by simp
  have hs00 : (w.alloc (.cells #[.int .i64 0, .int .i64 0, .slice none 0 0] 65)).heap.size = w.heap.size + 1 := by simp
  obtain ⟨a0, len, cap, rfl, _, _⟩ := hc
  go_enter Tryd.func97, Tryd.ntmps97
  go_wp2_with fail
  generalize ((w.alloc (.cells #[.int .i64 0, .int .i64 0, .slice none 0 0] 65)).alloc (.cells #[.int .i64 0, .int .i64 0, .slice none 0 0] 65)).alloc (.cells #[.slice a0 len cap, .int .i64 0, .int .u64 0] 140) = w0 at *
  generalize hN : w.heap.size = N at *
  refine (Bd.prime_any _ _ _ HS.out.hd (by omega)).mono ?_
  rintro e w1 ⟨p, rfl, hp, c1, g1⟩
  obtain ⟨q, rfl, hq2, hq97, hf⟩ := prime_fld hp
  haveI : NeZero q := ⟨by omega⟩
  have HF := Lib.hid hf
  have HS1 := Lib.hid (HS.out.draw c1 g1)
  clear hp c1 g1 hf
  go_wp2_with (first
    | (go_at_call 152
       go_loud (refine (rlSide_any _ _ _ HS1.out.hd (by omega)).mono ?_)
       rintro e w2 ⟨l, rfl, ⟨hl0, hl1⟩, c2, g2⟩
       obtain ⟨l, rfl⟩ := Int.eq_ofNat_of_zero_le hl0
       have hln : l ≤ 5 := by omega
       have HS2 := Lib.hid (HS1.out.draw c2 g2)
       clear c2 g2 hl0 hl1)
    | (go_at_call 152
       go_loud (refine (rlSide_any _ _ _ HS2.out.hd (by omega)).mono ?_)
       rintro e w4 ⟨r, rfl, ⟨hr0, hr1⟩, c2, g2⟩
       obtain ⟨r, rfl⟩ := Int.eq_ofNat_of_zero_le hr0
       have hrn : r ≤ 5 := by omega
       have HS4 := Lib.hid (HS2.out.draw c2 g2)
       clear c2 g2 hr0 hr1)
    | (go_at_call 154
       go_loud (refine (drawnRel_any q l r _ _ _ HF.out (by omega) HS4.out.hd (by omega) (by omega) (by omega) (by omega) (by omega)).mono ?_)
       rintro e w7 ⟨o, vs, A, rfl, ho, hl, hll, c7, g7⟩
       obtain ⟨oa, oc, hoe, _, _⟩ := own_form ho
       subst hoe
       have HS7 := Lib.hid (HS4.out.drawM c7 g7 ho)
       rw [show ((l : Int) + (r : Int)).toNat = l + r by omega] at hll
       have HL := Lib.hid hl; have HLL := Lib.hid hll
       unfold rlV
       generalize hla : A.length = la at *
       have HLA := Lib.hid hla
       have HS8 := Lib.hid (HS7.out.box #[.int .i64 l, .int .i64 r, .slice oa la oc] 65).s3
       clear ho hl hll c7 g7 hla))
  generalize hw8 : w7.alloc (.cells #[.int .i64 l, .int .i64 r, .slice oa la oc] 65) = w8 at *
  clear hw8
  generalize w7.heap.size = ka at *
  refine (Bd.one_any 2 _ _ _ HS8.out.hd (by omega) (by omega)).mono ?_
  rintro e w9 ⟨bw, rfl, c9, g9⟩
  have HS10 := Lib.hid (HS8.out.draw c9 g9)
  clear c9 g9
  have hla24 : la ≤ 24 := HL.out
  have XA := Lib.hid fun W m (lst : List Asrt) (h : Sep W (CA N (N + 1 + 1) m :: BxA ka #[.int .i64 l, .int .i64 r, .slice oa la oc] 65 :: lst)) => And.intro (bx3 h.s2.hd).1 (And.intro (bx3 h.s2.hd).2.1 (bx3 h.s2.hd).2.2.1)
  cases bw
  · go_wp2_with fail
    refine (Bd.one_any 8 _ _ _ HS10.out.hd (by omega) (by omega)).mono ?_
    rintro e w10 ⟨bx', rfl, c10, g10⟩
    have HS11 := Lib.hid (HS10.out.draw c10 g10)
    clear c10 g10
    obtain ⟨d0, d1, d2⟩ := XA.out _ _ _ HS11.out
    cases bx'
    · go_wp2_with (first
        | (go_at_call 155
           go_loud (refine (rlBend_any q _ _ _ _ _ _ A w10 HS11.out.s3 (by rw [HLA.out]; exact HL.out) (fun row hr => by rw [(HLL.out row hr).1]; omega) (by omega) (by omega) (by omega) (by omega)).mono ?_)
           rintro e w11 ⟨l3, m3, o3, vs3, A3, rfl, hs3, h3⟩
           obtain ⟨oa3, oc3, hoe, _, _⟩ := own_form (show OwnM 0 w11 o3 vs3 A3 from h3.hd)
           subst hoe
           have HS12 := Lib.hid h3; have HSM3 := Lib.hid hs3
           unfold rlV
           generalize A3.length = la3 at *
           clear h3 hs3)
        | (go_at_call 154
           go_loud (refine (drawnRel_any q _ _ _ _ _ HF.out (by omega) HS12.out.s2.hd (by omega) (by omega) (by omega) (by omega) (by omega)).mono ?_)
           rintro e w12 ⟨o4, vs4, B4, rfl, ho, hl, hll, c12, g12⟩
           obtain ⟨oa4, oc4, hoe, _, _⟩ := own_form ho
           subst hoe
           have h5 := HS12.out.s2.drawM c12 g12 ho
           have HSM5 := Lib.hid (small_rows (show B4.length ≤ 24 from hl) hll (by omega))
           unfold rlV
           generalize B4.length = lb5 at *
           obtain ⟨k0, k1, k2, k3, k4, k5⟩ := bx3 h5.s6.hd
           have h14 := ((h5.s6.set31 (.int .i64 l3)).set32 (.int .i64 m3)).setB3 (.slice oa3 la3 oc3)
           obtain ⟨m0, m1, m2, m3', m4, m5⟩ := bx3 h14.s6.hd
           have HS15 := Lib.hid fun x y => ((h14.s6.set31 (.int .i64 x)).set32 (.int .i64 y)).setB3 (.slice oa4 lb5 oc4)
           have HFI := Lib.hid fun x y => And.intro (HS15.out x y).tl.tl.drop2.drop2.drop2.mat (And.intro ((HS15.out x y).tl.tl.tl.tl.drop2.mat) (show w.grownBy _ none from (HS15.out x y).tl.tl.tl.tl.tl.tl.hd))
           have HV := Lib.hid fun x y => And.intro (bx3 (HS15.out x y).hd) (bx3 (HS15.out x y).s2.hd)
           clear h5 h14 ho hl hll c12 g12))
      obtain ⟨⟨v0, v1, v2, _, _, _⟩, v3, v4, v5, _, _, _⟩ := HV.out (l) r
      have hfi := HFI.out (l) r
      refine bodyPost_ret_by (v := .tuple #[.int .i64 q, .agg #[.int .i64 l3, .int .i64 m3, .slice oa3 la3 oc3], .agg #[.int .i64 (l), .int .i64 r, .slice oa4 lb5 oc4]]) ?_ rfl ⟨q, l3, m3, l, r, _, vs3, A3, _, vs4, B4, rfl, hq2, hq97, hfi.2.1, HSM3.out, hfi.1, HSM5.out, hfi.2.2⟩
      simp [results, go_sem, *]
    · go_wp2_with (first
        | (go_at_call 155
           go_loud (refine (rlBend_any q _ _ _ _ _ _ A w10 HS11.out.s3 (by rw [HLA.out]; exact HL.out) (fun row hr => by rw [(HLL.out row hr).1]; omega) (by omega) (by omega) (by omega) (by omega)).mono ?_)
           rintro e w11 ⟨l3, m3, o3, vs3, A3, rfl, hs3, h3⟩
           obtain ⟨oa3, oc3, hoe, _, _⟩ := own_form (show OwnM 0 w11 o3 vs3 A3 from h3.hd)
           subst hoe
           have HS12 := Lib.hid h3; have HSM3 := Lib.hid hs3
           unfold rlV
           generalize A3.length = la3 at *
           clear h3 hs3)
        | (go_at_call 154
           go_loud (refine (drawnRel_any q _ _ _ _ _ HF.out (by omega) HS12.out.s2.hd (by omega) (by omega) (by omega) (by omega) (by omega)).mono ?_)
           rintro e w12 ⟨o4, vs4, B4, rfl, ho, hl, hll, c12, g12⟩
           obtain ⟨oa4, oc4, hoe, _, _⟩ := own_form ho
           subst hoe
           have h5 := HS12.out.s2.drawM c12 g12 ho
           have HSM5 := Lib.hid (small_rows (show B4.length ≤ 24 from hl) hll (by omega))
           unfold rlV
           generalize B4.length = lb5 at *
           obtain ⟨k0, k1, k2, k3, k4, k5⟩ := bx3 h5.s6.hd
           have h14 := ((h5.s6.set31 (.int .i64 l3)).set32 (.int .i64 m3)).setB3 (.slice oa3 la3 oc3)
           obtain ⟨m0, m1, m2, m3', m4, m5⟩ := bx3 h14.s6.hd
           have HS15 := Lib.hid fun x y => ((h14.s6.set31 (.int .i64 x)).set32 (.int .i64 y)).setB3 (.slice oa4 lb5 oc4)
           have HFI := Lib.hid fun x y => And.intro (HS15.out x y).tl.tl.drop2.drop2.drop2.mat (And.intro ((HS15.out x y).tl.tl.tl.tl.drop2.mat) (show w.grownBy _ none from (HS15.out x y).tl.tl.tl.tl.tl.tl.hd))
           have HV := Lib.hid fun x y => And.intro (bx3 (HS15.out x y).hd) (bx3 (HS15.out x y).s2.hd)
           clear h5 h14 ho hl hll c12 g12))
      obtain ⟨⟨v0, v1, v2, _, _, _⟩, v3, v4, v5, _, _, _⟩ := HV.out (l + 1) r
      have hfi := HFI.out (l + 1) r
      refine bodyPost_ret_by (v := .tuple #[.int .i64 q, .agg #[.int .i64 l3, .int .i64 m3, .slice oa3 la3 oc3], .agg #[.int .i64 (l + 1), .int .i64 r, .slice oa4 lb5 oc4]]) ?_ rfl ⟨q, l3, m3, l + 1, r, _, vs3, A3, _, vs4, B4, rfl, hq2, hq97, hfi.2.1, HSM3.out, hfi.1, HSM5.out, hfi.2.2⟩
      simp [results, go_sem, *]
  · go_wp2_with fail
    have HD := Lib.hid HS10.out.dr
    have hdb := (HS10.out.box #[.int .i64 0, .int .i64 0, .slice none 0 0] 65).toEnd.dr
    simp only [List.cons_append, List.nil_append] at hdb
    have HDb := Lib.hid hdb
    clear hdb
    have X0 := Lib.hid (XA.out _ _ _ HD.out)
    have X0b := Lib.hid fun ob => XA.out _ _ _ (HS10.out.al ob).dr
    have hlr : (((l + r : Nat)) : Int) = (l : Int) + (r : Int) := by omega
    have hwr : IntKind.i64.wrap ((l : Int) + (r : Int)) = (l : Int) + (r : Int) := by rw [IntKind.wrap_i64]; omega
    have HMU := Lib.hid fun W v u (M : List (List Int)) (hv : MatV W v M) (hu : MatV W u A) (hM : RowsOk q la M) (hm : M.length ≤ 1000) => mxMul_any q (l + r) la v u M A W hq2 hq97 hv hu (by rw [HLA.out]; exact hM) HLL.out hm (by rw [HLA.out]; omega) (by omega)
    have hmu := HMU.out
    rw [hlr] at hmu
    have HMU := Lib.hid hmu
    have HTO := Lib.hid fun (M : List (List Int)) => timesL_ok (p := q) (X := M) (by omega) HLL.out
    clear hmu
    unfold mxV at HMU
    have hfd : ∀ (x y : Value) (W : World), (Instr.field 39 (.agg #[x, y]) 1).run Tryd.prog W = .ok y W := fun _ _ _ => by kernel_rfl
    go_region_held3 (fun w' => w'.cell? ⟨ka, 0, none⟩ = some (.int .i64 l) ∧ w'.cell? ⟨ka, 1, none⟩ = some (.int .i64 r) ∧ w'.cell? ⟨ka, 2, none⟩ = some (.slice oa la oc))
      (first | with_reducible exact X0.out | with_reducible exact X0b.out _ | with_reducible exact X1.out | with_reducible exact X1b.out _ | with_reducible exact X2.out | with_reducible exact X2b.out _ | with_reducible exact X3.out | with_reducible exact X3b.out _ | with_reducible exact X4.out | with_reducible exact X4b.out _ | with_reducible exact X5.out)
      (first
        | (go_at_call 131
           first
             | (have hcu := (show Bd.Cur N w9.drew (N + 1 + 1) _ from HD.out.hd)
                with_reducible refine (Bd.pick_any 4 _ _ _ hcu (by omega) (by omega)).mono ?_
                rintro e w10 ⟨x, rfl, ⟨x0, x1⟩, c10, g10⟩
                have HS11 := Lib.hid (HD.out.draw c10 g10))
             | (have hcu := (show Bd.Cur N (w9.alloc _).drew (N + 1 + 1) _ from HDb.out.hd)
                with_reducible refine (Bd.pick_any 4 _ _ _ hcu (by omega) (by omega)).mono ?_
                rintro e w10 ⟨x, rfl, ⟨x0, x1⟩, c10, g10⟩
                have HS11 := Lib.hid (HDb.out.draw c10 g10)
                generalize w9.heap.size = kb at *)
           obtain ⟨x, rfl⟩ := Int.eq_ofNat_of_zero_le x0
           have hx4 : x ≤ 4 := by omega
           have X1 := Lib.hid (XA.out _ _ _ HS11.out)
           have X1b := Lib.hid fun ob => XA.out _ _ _ (HS11.out.al ob)
           clear c10 g10 x0 x1)
        | (go_at_call 181
           first
             | (have hcu := (show Bd.Cur N w10 (N + 1 + 1) _ from HS11.out.hd)
                with_reducible refine (matrix_any q x la _ _ w10 hcu (by omega) (by omega) (by omega) (by omega) (by omega) (by omega)).mono ?_
                rintro e w12 ⟨o4, vs4, L4, rfl, ho, hl, hok, c12, g12⟩
                have HS12 := Lib.hid (HS11.out.drawM c12 g12 ho))
             | (have h11 := (HS11.out.box #[.int .i64 0, .int .i64 0, .slice none 0 0] 65).toEnd
                simp only [List.cons_append, List.nil_append] at h11
                have hcu := (show Bd.Cur N (w10.alloc _) (N + 1 + 1) _ from h11.hd)
                with_reducible refine (matrix_any q x la _ _ _ hcu (by omega) (by omega) (by omega) (by omega) (by omega) (by omega)).mono ?_
                rintro e w12 ⟨o4, vs4, L4, rfl, ho, hl, hok, c12, g12⟩
                have HS12 := Lib.hid (h11.drawM c12 g12 ho)
                clear h11
                generalize w10.heap.size = kb at *)
           obtain ⟨oa4, oc4, hoe, _, _⟩ := own_form ho
           subst hoe
           have X2 := Lib.hid (XA.out _ _ _ HS12.out.tl)
           have X2b := Lib.hid fun ob => XA.out _ _ _ (HS12.out.tl.al ob)
           have HO4 := Lib.hid hok; have HL4 := Lib.hid hl
           unfold mxV
           clear ho hl hok c12 g12)
        | (go_at_call 182
           first
             | (have r1 := HS12.out.hd.read
                have r2 := HS12.out.s4.hd.read
                with_reducible refine (HMU.out _ _ _ L4 r1 r2 HO4.out (by rw [HL4.out]; omega)).mono ?_
                rintro e w13 ⟨o5, vs5, rfl, ho, g13⟩
                have HS13 := Lib.hid (HS12.out.tl.newM g13 ho))
             | (have h12 := (HS12.out.box #[.int .i64 0, .int .i64 0, .slice none 0 0] 65).toEnd
                simp only [List.cons_append, List.nil_append] at h12
                have r1 := (show OwnM 0 (w12.alloc _) _ _ L4 from h12.hd).read
                have r2 := (show OwnM 0 (w12.alloc _) _ _ A from h12.s4.hd).read
                with_reducible refine (HMU.out _ _ _ L4 r1 r2 HO4.out (by rw [HL4.out]; omega)).mono ?_
                rintro e w13 ⟨o5, vs5, rfl, ho, g13⟩
                have HS13 := Lib.hid (h12.tl.newM g13 ho)
                clear h12
                generalize w12.heap.size = kb at *)
           obtain ⟨oa5, oc5, hoe, _, _⟩ := own_form ho
           subst hoe
           have X3 := Lib.hid (XA.out _ _ _ HS13.out.tl)
           have X3b := Lib.hid fun ob => XA.out _ _ _ (HS13.out.tl.al ob)
           clear ho g13)
        | (go_at_call 238
           first
             | (have r1 := HS13.out.hd.read
                with_reducible refine (rlOf_any q l r _ (timesL q L4 A (l + r)) w13 HF.out (by omega) r1 (HTO.out L4) (by rw [timesL_len, HL4.out]; omega) (by omega)).mono ?_
                rintro e w14 ⟨o6, rfl, ⟨vs6, ho⟩, g14⟩
                have h6 := HS13.out.tl.newM g14 ho)
             | (have h13 := (HS13.out.box #[.int .i64 0, .int .i64 0, .slice none 0 0] 65).toEnd
                simp only [List.cons_append, List.nil_append] at h13
                have r1 := (show OwnM 0 (w13.alloc _) _ _ _ from h13.hd).read
                with_reducible refine (rlOf_any q l r _ (timesL q L4 A (l + r)) _ HF.out (by omega) r1 (HTO.out L4) (by rw [timesL_len, HL4.out]; omega) (by omega)).mono ?_
                rintro e w14 ⟨o6, rfl, ⟨vs6, ho⟩, g14⟩
                have h6 := h13.tl.newM g14 ho
                clear h13
                generalize w13.heap.size = kb at *)
           have hred := reducedL_red HF.out (HTO.out L4)
           have HSM6 := Lib.hid (small_rows (Nat.le_trans hred.len_le (by omega)) hred.1 (by omega))
           obtain ⟨oa6, oc6, hoe, _, _⟩ := own_form ho
           subst hoe
           unfold rlV
           generalize reducedL q (l + r) (timesL q L4 A (l + r)) = red at *
           generalize red.length = lr6 at *
           have X4 := Lib.hid (XA.out _ _ _ h6.tl)
           have X4b := Lib.hid fun ob => XA.out _ _ _ (h6.tl.al ob)
           first
             | (have h7 := (show Sep w14 (_ :: _ :: _ :: _ :: _ :: _ :: _ :: BxA kb #[.int .i64 0, .int .i64 0, .slice none 0 0] 65 :: []) from h6).s8
                obtain ⟨t0, t1, t2, t3, t4, t5⟩ := bx3 h7.hd
                have h16 := ((h7.set31 (.int .i64 l)).set32 (.int .i64 r)).setB3 (.slice oa6 lr6 oc6)
                have X5 := Lib.hid (XA.out _ _ _ h16.tl.tl)
                have HS16 := Lib.hid h16
                clear h7 h16)
             | (have h16 := h6.box #[.int .i64 l, .int .i64 r, .slice oa6 lr6 oc6] 65
                have X5 := Lib.hid (XA.out _ _ _ h16.tl.tl)
                have HS16 := Lib.hid h16
                clear h16)
           clear hred ho g14 h6))
    all_goals
      first
        | (generalize hw16 : w14.alloc (.cells #[.int .i64 l, .int .i64 r, .slice oa6 lr6 oc6] 65) = w16 at *
           generalize w14.heap.size = kb at *
           have HS17 : Hid (Sep w16 _) := HS16)
        | (generalize hw16 : ((w14.setCell ⟨kb, 0, none⟩ (.int .i64 l)).setCell ⟨kb, 1, none⟩ (.int .i64 r)).setCell ⟨kb, 2, none⟩ (.slice oa6 lr6 oc6) = w16 at *
           have HS17 : Hid (Sep w16 _) := HS16)
      clear hw16
      have XB := Lib.hid fun W (l1 l2' : List Asrt) (h : Sep W (BxA kb #[.int .i64 l, .int .i64 r, .slice oa6 lr6 oc6] 65 :: l1)) (h2 : Sep W (BxA ka #[.int .i64 l, .int .i64 r, .slice oa la oc] 65 :: l2')) => And.intro (bx3 h.hd).1 (And.intro (bx3 h.hd).2.1 (And.intro (bx3 h.hd).2.2.1 (And.intro (bx3 h2.hd).1 (And.intro (bx3 h2.hd).2.1 (bx3 h2.hd).2.2.1))))
      have HD2 := Lib.hid HS17.out.dr
      have Y0 := Lib.hid (XB.out _ _ _ HD2.out HD2.out.s4)
      go_wp2_with fail
      go_region_held3 (fun w' => w'.cell? ⟨kb, 0, none⟩ = some (.int .i64 l) ∧ w'.cell? ⟨kb, 1, none⟩ = some (.int .i64 r) ∧ w'.cell? ⟨kb, 2, none⟩ = some (.slice oa6 lr6 oc6) ∧ w'.cell? ⟨ka, 0, none⟩ = some (.int .i64 l) ∧ w'.cell? ⟨ka, 1, none⟩ = some (.int .i64 r) ∧ w'.cell? ⟨ka, 2, none⟩ = some (.slice oa la oc))
        (first | with_reducible exact Y0.out | with_reducible exact Y1.out | with_reducible exact Y2.out | with_reducible exact Y3.out)
        (first
          | (go_at_call 155
             have hr1 := rlBend_any q l r _ _ _ _ A _ HD2.out.s3.s5 (by rw [HLA.out]; exact HL.out) (fun row hr => by rw [(HLL.out row hr).1]; omega) (by omega) (by omega) (by omega) (by omega)
             unfold rlV at hr1
             go_loud (with_reducible refine hr1.mono ?_)
             clear hr1
             rintro e w17 ⟨l3, m3, o3, vs3, A3, rfl, hs3, h3⟩
             obtain ⟨oa3, oc3, hoe, _, _⟩ := own_form (show OwnM 0 w17 o3 vs3 A3 from h3.hd)
             subst hoe
             have HSM3 := Lib.hid hs3
             unfold rlV
             generalize A3.length = la3 at *
             have Y1 := Lib.hid (XB.out _ _ _ h3.s3 h3.s5)
             obtain ⟨k0, k1, k2, k3, k4, k5⟩ := bx3 h3.s7.hd
             have h14 := ((h3.s7.set31 (.int .i64 l3)).set32 (.int .i64 m3)).setB3 (.slice oa3 la3 oc3)
             have Y2 := Lib.hid (XB.out _ _ _ h14.s4 h14.s6)
             obtain ⟨m0, m1, m2, m3', m4, m5⟩ := bx3 h14.s7.hd
             have h15 := ((h14.s7.set31 (.int .i64 l)).set32 (.int .i64 r)).setB3 (.slice oa6 lr6 oc6)
             have Y3 := Lib.hid (XB.out _ _ _ h15.s5 h15.s7)
             have HS15 := Lib.hid h15
             clear hs3 h3 h14 h15))
      all_goals
        obtain ⟨v0, v1, v2, _, _, _⟩ := bx3 HS15.out.hd
        obtain ⟨v3, v4, v5, _, _, _⟩ := bx3 HS15.out.s2.hd
        have HFI := Lib.hid (And.intro HS15.out.tl.tl.tl.tl.tl.drop2.mat (And.intro HS15.out.tl.tl.drop2.drop2.drop2.drop2.mat (show w.grownBy _ none from HS15.out.tl.tl.tl.tl.tl.tl.tl.hd)))
        go_wp2_with fail
        refine bodyPost_ret_by (v := .tuple #[.int .i64 q, .agg #[.int .i64 l3, .int .i64 m3, .slice oa3 la3 oc3], .agg #[.int .i64 l, .int .i64 r, .slice oa6 lr6 oc6]]) ?_ rfl ⟨q, l3, m3, l, r, _, vs3, A3, _, vs6, red, rfl, hq2, hq97, HFI.out.2.1, HSM3.out, HFI.out.1, HSM6.out, HFI.out.2.2⟩
        simp [results, go_sem, *]
end Go.Proofs.YtpeaeminjbjlnaaDoor

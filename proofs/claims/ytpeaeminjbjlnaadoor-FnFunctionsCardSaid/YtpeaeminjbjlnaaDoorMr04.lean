/-
  The entry that draws two relations. Conditions: the code is well laid.
-/
import Derived.Test.YtpeaeminjbjlnaaDoorMr03
import Derived.Test.YtpeaeminjbjlnaaDoorMv14
namespace Go.Proofs.YtpeaeminjbjlnaaDoor
open Go.RowKit
set_option linter.unusedVariables false

theorem prime_fld {p : Int} (h : p ∈ [(2 : Int), 3, 5, 7, 2, 3, 5, 11, 13, 97]) : ∃ q : Nat, p = q ∧ 2 ≤ q ∧ q ≤ 97 ∧ fldN q = true := by
  simp only [List.mem_cons, List.mem_nil_iff, or_false] at h
  rcases h with rfl | rfl | rfl | rfl | rfl | rfl | rfl | rfl | rfl | rfl
  · exact ⟨2, rfl, by decide, by decide, by decide⟩
  · exact ⟨3, rfl, by decide, by decide, by decide⟩
  · exact ⟨5, rfl, by decide, by decide, by decide⟩
  · exact ⟨7, rfl, by decide, by decide, by decide⟩
  · exact ⟨2, rfl, by decide, by decide, by decide⟩
  · exact ⟨3, rfl, by decide, by decide, by decide⟩
  · exact ⟨5, rfl, by decide, by decide, by decide⟩
  · exact ⟨11, rfl, by decide, by decide, by decide⟩
  · exact ⟨13, rfl, by decide, by decide, by decide⟩
  · exact ⟨97, rfl, by decide, by decide, by decide⟩
/-- a drawn prime and two relations -/
def DComp (w : World) (e : Ending) (w' : World) : Prop :=
  ∃ (p : Nat) (l m m2 r : Int) (o : Value) (vs : List Value) (L : List (List Int)) (u : Value) (us : List Value) (M : List (List Int)), e = .returned (.tuple #[.int .i64 p, rlV l m o, rlV m2 r u]) ∧ 2 ≤ p ∧ p ≤ 97 ∧ OwnM w.heap.size w' o vs L ∧ Small 1000 L ∧ OwnM w.heap.size w' u us M ∧ Small 1000 M ∧ w.grownBy w' none

set_option maxRecDepth 100000 in
set_option maxHeartbeats 4000000 in
theorem drawComposeRelations_any (cv : Value) (w : World) (hc : CodeAt w cv) : Calls Tryd.prog 44 #[cv] w (DComp w) := by
  have HS := Lib.hid (Sep.startD2 hc #[.int .i64 0, .int .i64 0, .slice none 0 0] #[.int .i64 0, .int .i64 0, .slice none 0 0] 65 65)
  have hs0 : ((w.alloc (.cells #[.int .i64 0, .int .i64 0, .slice none 0 0] 65)).alloc (.cells #[.int .i64 0, .int .i64 0, .slice none 0 0] 65)).heap.size = w.heap.size + 1 + 1 := by simp
  have hs00 : (w.alloc (.cells #[.int .i64 0, .int .i64 0, .slice none 0 0] 65)).heap.size = w.heap.size + 1 := by simp
  obtain ⟨a0, len, cap, rfl, _, _⟩ := hc
  go_enter Tryd.func44, Tryd.ntmps44
  go_wp2_with fail
  generalize ((w.alloc (.cells #[.int .i64 0, .int .i64 0, .slice none 0 0] 65)).alloc (.cells #[.int .i64 0, .int .i64 0, .slice none 0 0] 65)).alloc (.cells #[.slice a0 len cap, .int .i64 0, .int .u64 0] 140) = w0 at *
  generalize hN : w.heap.size = N at *
  refine (Bd.prime_any _ _ _ HS.out.hd (by omega)).mono ?_
  rintro e w1 ⟨p, rfl, hp, c1, g1⟩
  obtain ⟨q, rfl, hq2, hq97, hf⟩ := prime_fld hp
  haveI : NeZero q := ⟨by omega⟩
  have HF := Lib.hid hf
  have HS1 := Lib.hid (HS.out.draw c1 g1)
  clear hp c1 g1 hf
  go_wp2_with (first
    | (go_at_call 152
       go_loud (refine (rlSide_any _ _ _ HS1.out.hd (by omega)).mono ?_)
       rintro e w2 ⟨l, rfl, ⟨hl0, hl1⟩, c2, g2⟩
       have HS2 := Lib.hid (HS1.out.draw c2 g2)
       clear c2 g2)
    | (go_at_call 152
       go_loud (refine (rlSide_any _ _ _ HS2.out.hd (by omega)).mono ?_)
       rintro e w3 ⟨m, rfl, ⟨hm0, hm1⟩, c2, g2⟩
       have HS3 := Lib.hid (HS2.out.draw c2 g2)
       clear c2 g2)
    | (go_at_call 152
       go_loud (refine (rlSide_any _ _ _ HS3.out.hd (by omega)).mono ?_)
       rintro e w4 ⟨r, rfl, ⟨hr0, hr1⟩, c2, g2⟩
       have HS4 := Lib.hid (HS3.out.draw c2 g2)
       clear c2 g2))
  refine (Bd.one_any 12 _ _ _ HS4.out.hd (by omega) (by omega)).mono ?_
  rintro e w5 ⟨bv, rfl, c5, g5⟩
  have HS5 := Lib.hid (HS4.out.draw c5 g5)
  clear c5 g5
  cases bv
  · go_wp2_with (
      go_at_call 154
      go_loud (refine (drawnRel_any q _ _ _ _ _ HF.out (by omega) HS5.out.hd (by omega) (by omega) (by omega) (by omega) (by omega)).mono ?_)
      rintro e w7 ⟨o, vs, A, rfl, ho, hl, hll, c7, g7⟩
      obtain ⟨oa, oc, hoe, _, _⟩ := own_form ho
      subst hoe
      have HS7 := Lib.hid (HS5.out.drawM c7 g7 ho)
      have HL := Lib.hid hl; have HLL := Lib.hid hll
      unfold rlV
      generalize hla : A.length = la at *
      have HLA := Lib.hid hla
      have h8 := fun x y => (HS7.out.box #[.int .i64 x, .int .i64 y, .slice oa la oc] 65).s3
      have HS8 := Lib.hid h8
      clear ho hl hll c7 g7 hla h8)
    refine (Bd.one_any 12 _ _ _ (HS8.out _ _).hd (by omega) (by omega)).mono ?_
    rintro e w9 ⟨bw, rfl, c9, g9⟩
    have HS10 := Lib.hid ((HS8.out _ _).draw c9 g9)
    obtain ⟨d0, d1, d2, _, _, _⟩ := bx3 HS10.out.s2.hd
    clear c9 g9
    cases bw
    all_goals
      go_wp2_with (first
        | (go_at_call 155
           have hr1 := rlBend_any q (l) (m) _ _ _ _ A w9 HS10.out.s3 (by rw [HLA.out]; exact HL.out) (fun row hr => (HLL.out row hr).1) (by omega) (by omega) (by omega) (by omega)
           unfold rlV at hr1
           go_loud (with_reducible refine hr1.mono ?_)
           clear hr1
           rintro e w11 ⟨l3, m3, o3, vs3, A3, rfl, hs3, h3⟩
           obtain ⟨oa3, oc3, hoe, _, _⟩ := own_form (show OwnM 0 w11 o3 vs3 A3 from h3.hd)
           subst hoe
           have HS11 := Lib.hid h3; have HSM3 := Lib.hid hs3
           unfold rlV
           generalize A3.length = la3 at *
           clear h3 hs3)
        | (go_at_call 154
           first
             | (have hr2 := drawnRel_any q (m) (r) _ _ _ HF.out (by omega) HS11.out.s2.hd (by omega) (by omega) (by omega) (by omega) (by omega)
                with_reducible refine hr2.mono ?_)
             | (have hr2 := drawnRel_any q (m + 1) (r) _ _ _ HF.out (by omega) HS11.out.s2.hd (by omega) (by omega) (by omega) (by omega) (by omega)
                with_reducible refine hr2.mono ?_)
           clear hr2
           rintro e w12 ⟨o4, vs4, B4, rfl, ho, hl, hll, c12, g12⟩
           obtain ⟨oa4, oc4, hoe, _, _⟩ := own_form ho
           subst hoe
           have HS12 := Lib.hid (HS11.out.s2.drawM c12 g12 ho)
           have HL4 := Lib.hid hl; have HLL4 := Lib.hid hll
           unfold rlV
           clear ho hl hll c12 g12)
        | (go_at_call 155
           have hr3 := rlBend_any q _ _ _ _ _ _ B4 w12 HS12.out HL4.out (fun row hr => (HLL4.out row hr).1) (by omega) (by omega) (by omega) (by omega)
           unfold rlV at hr3
           go_loud (with_reducible refine hr3.mono ?_)
           clear hr3
           rintro e w13 ⟨l5, r5, o5, vs5, B5, rfl, hs5, h5⟩
           obtain ⟨oa5, oc5, hoe, _, _⟩ := own_form (show OwnM 0 w13 o5 vs5 B5 from h5.hd)
           subst hoe
           unfold rlV
           generalize B5.length = lb5 at *
           obtain ⟨k0, k1, k2, k3, k4, k5⟩ := bx3 h5.s6.hd
           have h14 := ((h5.s6.set31 (.int .i64 l3)).set32 (.int .i64 m3)).setB3 (.slice oa3 la3 oc3)
           obtain ⟨m0, m1, m2, m3', m4, m5⟩ := bx3 h14.s6.hd
           have HS15 := Lib.hid (((h14.s6.set31 (.int .i64 l5)).set32 (.int .i64 r5)).setB3 (.slice oa5 lb5 oc5))
           have HSM5 := Lib.hid hs5
           clear h5 h14 hs5))
      obtain ⟨v0, v1, v2, _, _, _⟩ := bx3 HS15.out.hd
      obtain ⟨v3, v4, v5, _, _, _⟩ := bx3 HS15.out.s2.hd
      have HFI := Lib.hid (And.intro HS15.out.tl.tl.drop2.drop2.drop2.mat (And.intro (HS15.out.tl.tl.tl.tl.drop2.mat) (show w.grownBy _ none from HS15.out.tl.tl.tl.tl.tl.tl.hd)))
      refine bodyPost_ret_by (v := .tuple #[.int .i64 q, .agg #[.int .i64 l3, .int .i64 m3, .slice oa3 la3 oc3], .agg #[.int .i64 l5, .int .i64 r5, .slice oa5 lb5 oc5]]) ?_ rfl ?_
      · simp [results, go_sem, *]
      · exact ⟨q, l3, m3, l5, r5, _, vs3, A3, _, vs5, B5, rfl, hq2, hq97, HFI.out.2.1, HSM3.out, HFI.out.1, HSM5.out, HFI.out.2.2⟩
  · go_wp2_with (
      go_at_call 131
      refine (Bd.pick_any 2 _ _ _ HS5.out.hd (by omega) (by omega)).mono ?_
      rintro e w6 ⟨x, rfl, ⟨hx0, hx1⟩, c6, g6⟩
      have HS6 := Lib.hid (HS5.out.draw c6 g6)
      clear c6 g6)
    go_wp2_with (
      go_at_call 154
      go_loud (refine (drawnRel_any q _ _ _ _ _ HF.out (by omega) HS6.out.hd (by omega) (by omega) (by omega) (by omega) (by omega)).mono ?_)
      rintro e w7 ⟨o, vs, A, rfl, ho, hl, hll, c7, g7⟩
      obtain ⟨oa, oc, hoe, _, _⟩ := own_form ho
      subst hoe
      have HS7 := Lib.hid (HS6.out.drawM c7 g7 ho)
      have HL := Lib.hid hl; have HLL := Lib.hid hll
      unfold rlV
      generalize hla : A.length = la at *
      have HLA := Lib.hid hla
      have h8 := fun x y => (HS7.out.box #[.int .i64 x, .int .i64 y, .slice oa la oc] 65).s3
      have HS8 := Lib.hid h8
      clear ho hl hll c7 g7 hla h8)
    refine (Bd.one_any 12 _ _ _ (HS8.out _ _).hd (by omega) (by omega)).mono ?_
    rintro e w9 ⟨bw, rfl, c9, g9⟩
    have HS10 := Lib.hid ((HS8.out _ _).draw c9 g9)
    obtain ⟨d0, d1, d2, _, _, _⟩ := bx3 HS10.out.s2.hd
    clear c9 g9
    cases bw
    all_goals
      go_wp2_with (first
        | (go_at_call 155
           have hr1 := rlBend_any q (13) (2) _ _ _ _ A w9 HS10.out.s3 (by rw [HLA.out]; exact HL.out) (fun row hr => (HLL.out row hr).1) (by omega) (by omega) (by omega) (by omega)
           unfold rlV at hr1
           go_loud (with_reducible refine hr1.mono ?_)
           clear hr1
           rintro e w11 ⟨l3, m3, o3, vs3, A3, rfl, hs3, h3⟩
           obtain ⟨oa3, oc3, hoe, _, _⟩ := own_form (show OwnM 0 w11 o3 vs3 A3 from h3.hd)
           subst hoe
           have HS11 := Lib.hid h3; have HSM3 := Lib.hid hs3
           unfold rlV
           generalize A3.length = la3 at *
           clear h3 hs3)
        | (go_at_call 154
           first
             | (have hr2 := drawnRel_any q (2) (11 + x) _ _ _ HF.out (by omega) HS11.out.s2.hd (by omega) (by omega) (by omega) (by omega) (by omega)
                with_reducible refine hr2.mono ?_)
             | (have hr2 := drawnRel_any q (3) (11 + x) _ _ _ HF.out (by omega) HS11.out.s2.hd (by omega) (by omega) (by omega) (by omega) (by omega)
                with_reducible refine hr2.mono ?_)
           clear hr2
           rintro e w12 ⟨o4, vs4, B4, rfl, ho, hl, hll, c12, g12⟩
           obtain ⟨oa4, oc4, hoe, _, _⟩ := own_form ho
           subst hoe
           have HS12 := Lib.hid (HS11.out.s2.drawM c12 g12 ho)
           have HL4 := Lib.hid hl; have HLL4 := Lib.hid hll
           unfold rlV
           clear ho hl hll c12 g12)
        | (go_at_call 155
           have hr3 := rlBend_any q _ _ _ _ _ _ B4 w12 HS12.out HL4.out (fun row hr => (HLL4.out row hr).1) (by omega) (by omega) (by omega) (by omega)
           unfold rlV at hr3
           go_loud (with_reducible refine hr3.mono ?_)
           clear hr3
           rintro e w13 ⟨l5, r5, o5, vs5, B5, rfl, hs5, h5⟩
           obtain ⟨oa5, oc5, hoe, _, _⟩ := own_form (show OwnM 0 w13 o5 vs5 B5 from h5.hd)
           subst hoe
           unfold rlV
           generalize B5.length = lb5 at *
           obtain ⟨k0, k1, k2, k3, k4, k5⟩ := bx3 h5.s6.hd
           have h14 := ((h5.s6.set31 (.int .i64 l3)).set32 (.int .i64 m3)).setB3 (.slice oa3 la3 oc3)
           obtain ⟨m0, m1, m2, m3', m4, m5⟩ := bx3 h14.s6.hd
           have HS15 := Lib.hid (((h14.s6.set31 (.int .i64 l5)).set32 (.int .i64 r5)).setB3 (.slice oa5 lb5 oc5))
           have HSM5 := Lib.hid hs5
           clear h5 h14 hs5))
      obtain ⟨v0, v1, v2, _, _, _⟩ := bx3 HS15.out.hd
      obtain ⟨v3, v4, v5, _, _, _⟩ := bx3 HS15.out.s2.hd
      have HFI := Lib.hid (And.intro HS15.out.tl.tl.drop2.drop2.drop2.mat (And.intro (HS15.out.tl.tl.tl.tl.drop2.mat) (show w.grownBy _ none from HS15.out.tl.tl.tl.tl.tl.tl.hd)))
      refine bodyPost_ret_by (v := .tuple #[.int .i64 q, .agg #[.int .i64 l3, .int .i64 m3, .slice oa3 la3 oc3], .agg #[.int .i64 l5, .int .i64 r5, .slice oa5 lb5 oc5]]) ?_ rfl ?_
      · simp [results, go_sem, *]
      · exact ⟨q, l3, m3, l5, r5, _, vs3, A3, _, vs5, B5, rfl, hq2, hq97, HFI.out.2.1, HSM3.out, HFI.out.1, HSM5.out, HFI.out.2.2⟩
end Go.Proofs.YtpeaeminjbjlnaaDoor

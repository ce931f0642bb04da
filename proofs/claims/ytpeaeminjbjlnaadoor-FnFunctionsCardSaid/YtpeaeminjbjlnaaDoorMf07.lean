/-
  The entries that draw a relation and two matrices. Conditions: the code is well laid.
-/
import Derived.Test.YtpeaeminjbjlnaaDoorMr04
import Derived.Test.YtpeaeminjbjlnaaDoorMf06
namespace Go.Proofs.YtpeaeminjbjlnaaDoor
open Go.RowKit
set_option linter.unusedVariables false

set_option maxRecDepth 100000 in
set_option maxHeartbeats 1000000 in
theorem anyRelation_any {N : Nat} {lst : List Asrt} (q : Nat) [NeZero q] (b : Nat) (n : Int) (w : World) (h : Sep w (CA N b n :: lst)) (hf : fldN q = true) (hq : q ≤ 97) (hn0 : 0 ≤ n) (hn : n + 60000 ≤ 1000000000000) :
    Calls Tryd.prog 214 #[.pointer (some ⟨b, 0, none⟩), .int .i64 q] w (DBend N b (n + 50000) lst) := by
  have HF := Lib.hid hf
  have HS := Lib.hid (h.box #[.int .i64 0, .int .i64 0, .slice none 0 0] 65).s2
  clear h hf
  go_enter Tryd.func214, Tryd.ntmps214
  go_wp2_with (first
    | (go_at_call 152
       go_loud (refine (rlSide_any _ _ _ HS.out.hd (by omega)).mono ?_)
       rintro e w2 ⟨l, rfl, ⟨hl0, hl1⟩, c2, g2⟩
       have HS2 := Lib.hid (HS.out.draw c2 g2)
       clear c2 g2)
    | (go_at_call 152
       go_loud (refine (rlSide_any _ _ _ HS2.out.hd (by omega)).mono ?_)
       rintro e w4 ⟨r, rfl, ⟨hr0, hr1⟩, c2, g2⟩
       have HS4 := Lib.hid (HS2.out.draw c2 g2)
       clear c2 g2)
    | (go_at_call 154
       go_loud (refine (drawnRel_any q l r _ _ _ HF.out (by omega) HS4.out.hd (by omega) (by omega) (by omega) (by omega) (by omega)).mono ?_)
       rintro e w7 ⟨o, vs, A, rfl, ho, hl, hll, c7, g7⟩
       obtain ⟨oa, oc, hoe, _, _⟩ := own_form ho
       subst hoe
       have HS7 := Lib.hid (HS4.out.drawM c7 g7 ho)
       have hr1 := rlBend_any q l r _ _ _ _ A w7 HS7.out hl (fun row hr => (hll row hr).1) (by omega) (by omega) (by omega) (by omega)
       unfold rlV at hr1 ⊢
       have HR := Lib.hid hr1
       clear ho hl hll c7 g7 hr1)
    | (go_at_call 155
       go_loud (with_reducible refine HR.out.mono ?_)
       rintro e w11 ⟨l3, m3, o3, vs3, A3, rfl, hs3, h3⟩
       obtain ⟨oa3, oc3, hoe, _, _⟩ := own_form (show OwnM 0 w11 o3 vs3 A3 from h3.hd)
       subst hoe
       have HSM3 := Lib.hid hs3
       unfold rlV
       obtain ⟨x0, x1, x2, x3, x4, x5⟩ := bx3 h3.s3.hd
       have HQ := Lib.hid ((((h3.s3.set31 (.int .i64 l3)).set32 (.int .i64 m3)).setB3 (.slice oa3 A3.length oc3)).tl.s2.more (m := n + 50000) (by omega)).s2
       clear hs3 h3))
  refine bodyPost_ret_by (v := .agg #[.int .i64 l3, .int .i64 m3, .slice oa3 A3.length oc3]) ?_ rfl ⟨l3, m3, _, vs3, A3, rfl, HSM3.out, HQ.out⟩
  simp [results, go_sem, *]

/-- a drawn prime and a relation -/
def DFn (w : World) (e : Ending) (w' : World) : Prop :=
  ∃ (p : Nat) (l m : Int) (o : Value) (vs : List Value) (L : List (List Int)), e = .returned (.tuple #[.int .i64 p, rlV l m o]) ∧ 2 ≤ p ∧ p ≤ 97 ∧ OwnM w.heap.size w' o vs L ∧ Small 1000 L ∧ w.grownBy w' none
set_option maxRecDepth 100000 in
set_option maxHeartbeats 2000000 in
theorem drawFunctionOf_any (cv : Value) (w : World) (hc : CodeAt w cv) : Calls Tryd.prog 86 #[cv] w (DFn w) := by
  have HS := Lib.hid (Sep.startDB hc #[.int .i64 0, .int .i64 0, .slice none 0 0] 65)
  have hs0 : (w.alloc (.cells #[.int .i64 0, .int .i64 0, .slice none 0 0] 65)).heap.size = w.heap.size + 1 := by simp
  obtain ⟨a0, len, cap, rfl, _, _⟩ := hc
  go_enter Tryd.func86, Tryd.ntmps86
  go_wp2_with fail
  generalize (w.alloc (.cells #[.int .i64 0, .int .i64 0, .slice none 0 0] 65)).alloc (.cells #[.slice a0 len cap, .int .i64 0, .int .u64 0] 140) = w0 at *
  generalize hN : w.heap.size = N at *
  refine (Bd.prime_any _ _ _ HS.out.hd (by omega)).mono ?_
  rintro e w1 ⟨p, rfl, hp, c1, g1⟩
  obtain ⟨q, rfl, hq2, hq97, hf⟩ := prime_fld hp
  haveI : NeZero q := ⟨by omega⟩
  have HF := Lib.hid hf
  have HS1 := Lib.hid (HS.out.draw c1 g1)
  clear hp c1 g1 hf
  go_wp2_with fail
  refine (Bd.one_any 2 _ _ _ HS1.out.hd (by omega) (by omega)).mono ?_
  rintro e w2 ⟨bv, rfl, c2, g2⟩
  have HS2 := Lib.hid (HS1.out.draw c2 g2)
  clear c2 g2
  cases bv
  · have hr0 := anyRelation_any q _ _ w2 HS2.out HF.out hq97 (by omega) (by omega)
    have HR := Lib.hid hr0
    clear hr0
    go_wp2_with (first
      | (go_at_call 214
         go_loud (with_reducible refine HR.out.mono ?_)
         rintro e w11 ⟨l3, m3, o3, vs3, A3, rfl, hs3, h3⟩
         obtain ⟨oa3, oc3, hoe, _, _⟩ := own_form (show OwnM 0 w11 o3 vs3 A3 from h3.hd)
         subst hoe
         have HSM3 := Lib.hid hs3
         unfold rlV
         obtain ⟨x0, x1, x2, x3, x4, x5⟩ := bx3 h3.s3.hd
         have HQ := Lib.hid ((((h3.s3.set31 (.int .i64 l3)).set32 (.int .i64 m3)).setB3 (.slice oa3 A3.length oc3)))
         clear hs3 h3))
    have HFI := Lib.hid (And.intro HQ.out.tl.drop2.mat (show w.grownBy _ none from HQ.out.tl.tl.tl.hd))
    obtain ⟨v0, v1, v2, _, _, _⟩ := bx3 HQ.out.hd
    refine bodyPost_ret_by (v := .tuple #[.int .i64 q, .agg #[.int .i64 l3, .int .i64 m3, .slice oa3 A3.length oc3]]) ?_ rfl ⟨q, l3, m3, _, vs3, A3, rfl, hq2, hq97, HFI.out.1, HSM3.out, HFI.out.2⟩
    simp [results, go_sem, *]
  · go_wp2_with (first
      | (go_at_call 152
         go_loud (refine (rlSide_any _ _ _ HS2.out.hd (by omega)).mono ?_)
         rintro e w3 ⟨l, rfl, ⟨hl0, hl1⟩, c2, g2⟩
         obtain ⟨l, rfl⟩ := Int.eq_ofNat_of_zero_le hl0
         have hln : l ≤ 5 := by omega
         have HS3 := Lib.hid (HS2.out.draw c2 g2)
         clear c2 g2 hl0 hl1)
      | (go_at_call 152
         go_loud (refine (rlSide_any _ _ _ HS3.out.hd (by omega)).mono ?_)
         rintro e w4 ⟨r, rfl, ⟨hr0, hr1⟩, c2, g2⟩
         obtain ⟨r, rfl⟩ := Int.eq_ofNat_of_zero_le hr0
         have hrn : r ≤ 5 := by omega
         have HS4 := Lib.hid (HS3.out.draw c2 g2)
         clear c2 g2 hr0 hr1)
      | (go_at_call 181
         go_loud (refine (matrix_any q l r _ _ w4 HS4.out.hd (by omega) (by omega) (by omega) (by omega) (by omega) (by omega)).mono ?_)
         rintro e w5 ⟨o, vs, L, rfl, ho, hl, hok, c3, g3⟩
         obtain ⟨oa, oc, hoe, _, _⟩ := own_form ho
         subst hoe
         have HS5 := Lib.hid (HS4.out.drawM c3 g3 ho)
         have HOK := Lib.hid hok; have HL := Lib.hid hl
         unfold mxV
         clear ho hl hok c3 g3)
      | (go_at_call 210
         go_loud (refine (rlMatrix_any r _ L _ HS5.out.hd.read (fun row hr => (HOK.out row hr).1) (by rw [HL.out]; omega) (by omega)).mono ?_)
         rintro e w6 ⟨o4, vs4, rfl, ho, g4⟩
         have hmo := matRel_ok (p := q) (by omega) HOK.out
         have hml := matRel_len L
         rw [HL.out] at hmo hml ⊢
         obtain ⟨oa4, oc4, hoe, _, _⟩ := own_form ho
         subst hoe
         have HS6 := Lib.hid (HS5.out.tl.newM g4 ho)
         have hr1 := rlBend_any q l r _ _ _ _ (matRel L) w6 HS6.out (by rw [hml]; omega) (fun row hr => by rw [(hmo row hr).1]; omega) (by omega) (by omega) (by omega) (by omega)
         unfold rlV at hr1 ⊢
         have HR := Lib.hid hr1
         generalize matRel L = red at *
         clear ho g4 hmo hml hr1)
      | (go_at_call 155
         go_loud (with_reducible refine HR.out.mono ?_)
         rintro e w11 ⟨l3, m3, o3, vs3, A3, rfl, hs3, h3⟩
         obtain ⟨oa3, oc3, hoe, _, _⟩ := own_form (show OwnM 0 w11 o3 vs3 A3 from h3.hd)
         subst hoe
         have HSM3 := Lib.hid hs3
         unfold rlV
         obtain ⟨x0, x1, x2, x3, x4, x5⟩ := bx3 h3.s3.hd
         have HQ := Lib.hid ((((h3.s3.set31 (.int .i64 l3)).set32 (.int .i64 m3)).setB3 (.slice oa3 A3.length oc3)))
         clear hs3 h3))
    have HFI := Lib.hid (And.intro HQ.out.tl.drop2.mat (show w.grownBy _ none from HQ.out.tl.tl.tl.hd))
    obtain ⟨v0, v1, v2, _, _, _⟩ := bx3 HQ.out.hd
    refine bodyPost_ret_by (v := .tuple #[.int .i64 q, .agg #[.int .i64 l3, .int .i64 m3, .slice oa3 A3.length oc3]]) ?_ rfl ⟨q, l3, m3, _, vs3, A3, rfl, hq2, hq97, HFI.out.1, HSM3.out, HFI.out.2⟩
    simp [results, go_sem, *]

theorem only_grown {w w' : World} {b : Nat} (h : Only (fun k => k = b ∨ w.heap.size ≤ k) w w') : w.grownBy w' (some b) :=
  ⟨h.os, h.tape, h.output, h.size, fun k hk hn => h.block k hk (by
    rintro (e | e)
    · exact hn (by rw [e])
    · omega)⟩
/-- a drawn prime and two matrices -/
def DMul (w : World) (e : Ending) (w' : World) : Prop :=
  ∃ (p : Nat) (ca cb : Int) (o : Value) (vs : List Value) (L : List (List Int)) (u : Value) (us : List Value) (M : List (List Int)), e = .returned (.tuple #[.int .i64 p, mxV ca o, mxV cb u]) ∧ 2 ≤ p ∧ p ≤ 97 ∧ OwnM w.heap.size w' o vs L ∧ Small 1000 L ∧ OwnM w.heap.size w' u us M ∧ Small 1000 M ∧ w.grownBy w' none
set_option maxRecDepth 100000 in
set_option maxHeartbeats 4000000 in
theorem drawMulMatrices_any (cv : Value) (w : World) (hc : CodeAt w cv) : Calls Tryd.prog 61 #[cv] w (DMul w) := by
  have HS := Lib.hid (Sep.startD2 hc #[.int .i64 0, .slice none 0 0] #[.int .i64 0, .slice none 0 0] 39 39)
  have hs0 : ((w.alloc (.cells #[.int .i64 0, .slice none 0 0] 39)).alloc (.cells #[.int .i64 0, .slice none 0 0] 39)).heap.size = w.heap.size + 1 + 1 := by simp
  have hs00 : (w.alloc (.cells #[.int .i64 0, .slice none 0 0] 39)).heap.size = w.heap.size + 1 := by simp
  obtain ⟨a0, len, cap, rfl, _, _⟩ := hc
  go_enter Tryd.func61, Tryd.ntmps61
  go_wp2_with fail
  generalize ((w.alloc (.cells #[.int .i64 0, .slice none 0 0] 39)).alloc (.cells #[.int .i64 0, .slice none 0 0] 39)).alloc (.cells #[.slice a0 len cap, .int .i64 0, .int .u64 0] 140) = w0 at *
  generalize hN : w.heap.size = N at *
  refine (Bd.prime_any _ _ _ HS.out.hd (by omega)).mono ?_
  rintro e w1 ⟨p, rfl, hp, c1, g1⟩
  obtain ⟨q, rfl, hq2, hq97, hf⟩ := prime_fld hp
  have HS1 := Lib.hid (HS.out.draw c1 g1)
  clear hp c1 g1 hf
  go_wp2_with (first
    | (go_at_call 179
       go_loud (refine (mxSide_any _ _ _ HS1.out.hd (by omega)).mono ?_)
       rintro e w2 ⟨l, rfl, ⟨hl0, hl1⟩, c2, g2⟩
       obtain ⟨l, rfl⟩ := Int.eq_ofNat_of_zero_le hl0
       have hln : l ≤ 24 := by omega
       have HS2 := Lib.hid (HS1.out.draw c2 g2)
       clear c2 g2 hl0 hl1)
    | (go_at_call 179
       go_loud (refine (mxSide_any _ _ _ HS2.out.hd (by omega)).mono ?_)
       rintro e w3 ⟨m, rfl, ⟨hm0, hm1⟩, c2, g2⟩
       obtain ⟨m, rfl⟩ := Int.eq_ofNat_of_zero_le hm0
       have hmn : m ≤ 24 := by omega
       have HS3 := Lib.hid (HS2.out.draw c2 g2)
       clear c2 g2 hm0 hm1)
    | (go_at_call 181
       go_loud (refine (matrix_any q l m _ _ w3 HS3.out.hd (by omega) (by omega) (by omega) (by omega) (by omega) (by omega)).mono ?_)
       rintro e w4 ⟨o, vs, L, rfl, ho, hl, hok, c4, g4⟩
       have hb := HS3.out.hd.lt
       have hsz := g4.size
       have hb1 := mxBend_any q m (N + 1 + 1) w3.heap.size _ o vs L w4 c4 ho (by rw [hl]; exact hln) (fun row hr => by rw [(hok row hr).1]) (by omega) (by omega) hsz (by omega) (by omega) (by omega) (by omega) (by omega) (by omega)
       obtain ⟨oa, oc, hoe, _, _⟩ := own_form ho
       subst hoe
       unfold mxV at hb1 ⊢
       have HB1 := Lib.hid hb1; have HG4 := Lib.hid g4
       clear ho hl hok c4 g4 hb1 hb hsz)
    | (go_at_call 180
       go_loud (with_reducible refine HB1.out.mono ?_)
       rintro e w5 ⟨c5, o5, vs5, L5, rfl, ho5, hl5, hll5, c5', hon⟩
       obtain ⟨oa5, oc5, hoe, _, _⟩ := own_form ho5
       subst hoe
       have HS5 := Lib.hid (HS3.out.drawM c5' (only_grown (((Only.of_grown (S := (· = N + 1 + 1)) HG4.out fun k hk => (Option.some.inj hk).symm).mono fun k hk => Or.inl hk).trans hon)) ho5)
       have HSM5 := Lib.hid (show Small 1000 L5 from ⟨hl5, hll5⟩)
       unfold mxV
       generalize L5.length = l5 at *
       have HS6 := Lib.hid (HS5.out.box #[.int .i64 c5, .slice oa5 l5 oc5] 39).s3
       clear ho5 hl5 hll5 hon c5'))
  generalize hw6 : w5.alloc (.cells #[.int .i64 c5, .slice oa5 l5 oc5] 39) = w6 at *
  clear hw6
  generalize w5.heap.size = ka at *
  have XA := Lib.hid fun W k (lst : List Asrt) (h : Sep W (CA N (N + 1 + 1) k :: BxA ka #[.int .i64 c5, .slice oa5 l5 oc5] 39 :: lst)) => And.intro (bx h.s2.hd).1 (bx h.s2.hd).2.1
  have HD := Lib.hid HS6.out.dr
  have X0 := Lib.hid (XA.out _ _ _ HD.out)
  have HCU := Lib.hid (show Bd.Cur N w6.drew (N + 1 + 1) _ from HD.out.hd)
  go_wp2_with fail
  go_region_held3 (fun w' => w'.cell? ⟨ka, 0, none⟩ = some (.int .i64 c5) ∧ w'.cell? ⟨ka, 1, none⟩ = some (.slice oa5 l5 oc5))
    (first | with_reducible exact X0.out | with_reducible exact X1.out | with_reducible exact X2.out | with_reducible exact X3.out | with_reducible exact X4.out | with_reducible exact X5.out)
    (first
      | (go_at_call 179
         go_loud (with_reducible refine (mxSide_any _ _ _ HCU.out (by omega)).mono ?_)
         rintro e w7 ⟨r, rfl, ⟨hr0, hr1⟩, c2, g2⟩
         obtain ⟨r, rfl⟩ := Int.eq_ofNat_of_zero_le hr0
         have hrn : r ≤ 24 := by omega
         have HS7 := Lib.hid (HD.out.draw c2 g2)
         have X1 := Lib.hid (XA.out _ _ _ HS7.out)
         clear c2 g2 hr0 hr1)
      | (go_at_call 181
         go_loud (refine (matrix_any q m r _ _ w7 HS7.out.hd (by omega) (by omega) (by omega) (by omega) (by omega) (by omega)).mono ?_)
         rintro e w8 ⟨o8, vs8, L8, rfl, ho, hl, hok, c8, g8⟩
         have hb := HS7.out.hd.lt
         have hsz := g8.size
         have hb1 := mxBend_any q r (N + 1 + 1) w7.heap.size _ o8 vs8 L8 w8 c8 ho (by rw [hl]; exact hmn) (fun row hr => by rw [(hok row hr).1]) (by omega) (by omega) hsz (by omega) (by omega) (by omega) (by omega) (by omega) (by omega)
         have X2 := Lib.hid (XA.out _ _ _ (HS7.out.draw c8 g8))
         obtain ⟨oa8, oc8, hoe, _, _⟩ := own_form ho
         subst hoe
         unfold mxV at hb1 ⊢
         have HB2 := Lib.hid hb1; have HG8 := Lib.hid g8
         clear ho hl hok c8 g8 hb1 hb hsz)
      | (go_at_call 180
         go_loud (with_reducible refine HB2.out.mono ?_)
         rintro e w9 ⟨c9, o9, vs9, L9, rfl, ho9, hl9, hll9, c9', hon⟩
         obtain ⟨oa9, oc9, hoe, _, _⟩ := own_form ho9
         subst hoe
         have h9 := HS7.out.drawM c9' (only_grown (((Only.of_grown (S := (· = N + 1 + 1)) HG8.out fun k hk => (Option.some.inj hk).symm).mono fun k hk => Or.inl hk).trans hon)) ho9
         have HSM9 := Lib.hid (show Small 1000 L9 from ⟨hl9, hll9⟩)
         unfold mxV
         generalize L9.length = l9 at *
         have X3 := Lib.hid (XA.out _ _ _ h9.tl)
         obtain ⟨k0, k1, k2, k3⟩ := bx h9.s6.hd
         have h10 := (h9.s6.setB 0 (.int .i64 c5)).setB 1 (.slice oa5 l5 oc5)
         have X4 := Lib.hid (XA.out _ _ _ h10.tl.tl)
         obtain ⟨m0, m1, m2, m3⟩ := bx h10.s6.hd
         have h11 := (h10.s6.setB 0 (.int .i64 c9)).setB 1 (.slice oa9 l9 oc9)
         have X5 := Lib.hid (XA.out _ _ _ h11.tl.tl.tl)
         have HS15 := Lib.hid h11
         clear ho9 hl9 hll9 hon c9' h9 h10 h11))
  all_goals
    obtain ⟨v0, v1, _, _⟩ := bx HS15.out.hd
    obtain ⟨v2, v3, _, _⟩ := bx HS15.out.s2.hd
    have HFI := Lib.hid (And.intro HS15.out.tl.tl.drop2.drop2.drop2.mat (And.intro HS15.out.tl.tl.tl.tl.tl.mat (show w.grownBy _ none from HS15.out.tl.tl.tl.tl.tl.tl.hd)))
    go_wp2_with fail
    refine bodyPost_ret_by (v := .tuple #[.int .i64 q, .agg #[.int .i64 c5, .slice oa5 l5 oc5], .agg #[.int .i64 c9, .slice oa9 l9 oc9]]) ?_ rfl ⟨q, c5, c9, _, vs5, L5, _, vs9, L9, rfl, hq2, hq97, HFI.out.2.1, HSM5.out, HFI.out.1, HSM9.out, HFI.out.2.2⟩
    simp [results, go_sem, *]
end Go.Proofs.YtpeaeminjbjlnaaDoor

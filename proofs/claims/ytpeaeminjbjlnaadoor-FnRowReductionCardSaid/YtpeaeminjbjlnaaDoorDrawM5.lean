/-
  The drawn arguments of the law of row reduction. Conditions: the code reads as bytes.
-/
import Derived.Test.YtpeaeminjbjlnaaDoorDrawM4
namespace Go.Proofs.YtpeaeminjbjlnaaDoor
open Go.RowKit
set_option linter.unusedVariables false

set_option maxRecDepth 100000 in
set_option maxHeartbeats 1000000 in
theorem anyMatrix_any {N : Nat} (p : Int) (b : Nat) (n : Int) (w : World) (hc : Bd.Cur N w b n) (hp : 1 ≤ p) (hp2 : p ≤ 1000) (hn0 : 0 ≤ n) (hn : n + 30000 ≤ 1000000000000) :
    Calls Tryd.prog 188 #[.pointer (some ⟨b, 0, none⟩), .int .i64 p] w fun e w' => ∃ (cols : Int) (o : Value) (vs : List Value) (L : List (List Int)), e = .returned (mxV cols o) ∧ OwnM w.heap.size w' o vs L ∧ L.length ≤ 1000 ∧ (∀ row ∈ L, row.length ≤ 1000) ∧ w.grownBy w' (some b) := by
  have hbw := hc.lt
  have hNw := hc.nb
  have HC := Lib.hid (hc.alloc (.cells #[.int .i64 0, .slice none 0 0] 39))
  clear hc
  go_enter Tryd.func188, Tryd.ntmps188
  go_wp2_with fail
  have hr := alloc_heap_new w (.cells #[.int .i64 0, .slice none 0 0] 39)
  have hg0 := grownBy_alloc w (.cells #[.int .i64 0, .slice none 0 0] 39) (some b)
  have hs0 : (w.alloc (.cells #[.int .i64 0, .slice none 0 0] 39)).heap.size = w.heap.size + 1 := by simp
  generalize w.alloc (.cells #[.int .i64 0, .slice none 0 0] 39) = w0 at *
  have HR := Lib.hid hr; have HG0 := Lib.hid hg0
  clear hr hg0
  with_reducible refine (mxSide_any b n _ HC.out (by omega)).mono ?_
  rintro e w1 ⟨rows, rfl, ⟨hr0, hr1⟩, c1, g1⟩
  obtain ⟨rows, rfl⟩ := Int.eq_ofNat_of_zero_le hr0
  have C1 := Lib.hid c1; have G1 := Lib.hid g1
  have s1 := g1.size
  clear c1 g1 hr0
  go_wp2_with fail
  with_reducible refine (mxSide_any b (n + 2) _ C1.out (by omega)).mono ?_
  rintro e w2 ⟨cols, rfl, ⟨hc0, hc1⟩, c2, g2⟩
  obtain ⟨cols, rfl⟩ := Int.eq_ofNat_of_zero_le hc0
  have C2 := Lib.hid c2; have G2 := Lib.hid g2
  have s2 := g2.size
  clear c2 g2 hc0
  go_wp2_with fail
  with_reducible refine (matrix_any p rows cols b (n + 2 + 2) _ C2.out hp hp2 (by omega) (by omega) (by omega) (by omega)).mono ?_
  rintro e w3 ⟨o, vs, L, rfl, ho, hl, hok, c3, g3⟩
  have C3 := Lib.hid c3; have G3 := Lib.hid g3; have HO := Lib.hid ho
  have s3 := g3.size
  have HB := Lib.hid (mxBend_any p (cols : Int) b w2.heap.size (n + 2 + 2 + 10000) o vs L w3 c3 ho (by omega) (fun row hrow => by rw [(hok row hrow).1]) (by omega) (by omega) (by omega) (by omega) (by omega) (by omega) (by omega) (by omega) (by omega))
  obtain ⟨oa, oc, hoe, hx⟩ := ho.read
  clear hx
  subst hoe
  clear c3 g3 ho hl hok
  unfold mxV at HB ⊢
  go_wp2_with fail
  with_reducible refine HB.out.mono ?_
  rintro e w4 ⟨cols4, o4, vs4, L4, rfl, h1, h2, h3, h4, h5⟩
  obtain ⟨oa4, oc4, hoe4, hx⟩ := h1.read
  clear hx
  subst hoe4
  have hrr := (G3.out.block w.heap.size (by omega) (by simp; omega)).trans ((G2.out.block w.heap.size (by omega) (by simp; omega)).trans ((G1.out.block w.heap.size (by omega) (by simp; omega)).trans HR.out))
  have hr4 := (h5.block w.heap.size (by omega) (by omega)).trans hrr
  have b4 := (box_facts hr4).1
  have H1 := Lib.hid h1; have H5 := Lib.hid h5; have H2 := Lib.hid h2; have H3 := Lib.hid h3
  clear h1 h2 h3 h4 h5 hrr hr4
  unfold mxV
  generalize hgl : L4.length = l4 at *
  have HGL := Lib.hid hgl
  clear hgl
  go_wp2
  refine bodyPost_ret_by (v := .agg #[.int .i64 cols4, .slice oa4 l4 oc4]) ?_ rfl ?_
  · simp [results, go_sem, *]
  · have o5 := one_set (w := w4) w.heap.size (.int .i64 cols4) (.slice oa4 l4 oc4)
    refine ⟨cols4, _, vs4, L4, rfl, (H1.out.only o5 fun k hk hk' => by have := (H1.out.lt hk).1; omega).base (by omega), by rw [HGL.out]; exact H2.out, H3.out, ?_⟩
    have g := grownBy_trans (grownBy_trans (grownBy_trans HG0.out G1.out) G2.out) G3.out
    have ho := ((Only.of_grown (S := fun k => k = b ∨ w.heap.size ≤ k) g (fun k hk => Or.inl (Option.some.inj hk).symm)).trans (H5.out.mono (S' := fun k => k = b ∨ w.heap.size ≤ k) fun k hk => by omega)).trans (o5.mono (S' := fun k => k = b ∨ w.heap.size ≤ k) fun k hk => Or.inr (by omega))
    exact ⟨ho.os, ho.tape, ho.output, ho.size, fun k hk hk2 => ho.block k hk (by rintro (h | h); exact hk2 (by rw [h]); omega)⟩

def DMat (w : World) (e : Ending) (w' : World) : Prop :=
  ∃ (p cols : Int) (o : Value) (vs : List Value) (L : List (List Int)), e = .returned (.tuple #[.int .i64 p, mxV cols o]) ∧ anyP p ∧ OwnM w.heap.size w' o vs L ∧ L.length ≤ 1000 ∧ (∀ row ∈ L, row.length ≤ 1000) ∧ w.grownBy w' none

set_option maxRecDepth 100000 in
set_option maxHeartbeats 1000000 in
theorem drawIsMatrix_any (cv : Value) (w : World) (hc : CodeAt w cv) : Calls Tryd.prog 116 #[cv] w (DMat w) := by
  have hs0 : (w.alloc (.cells #[.int .i64 0, .slice none 0 0] 39)).heap.size = w.heap.size + 1 := by simp
  have hn := Bd.Cur.start (hc.carry (grownBy_alloc w (.cells #[.int .i64 0, .slice none 0 0] 39) none))
  obtain ⟨a0, len, cap, rfl, _, _⟩ := hc
  have hr := alloc_heap_new w (.cells #[.int .i64 0, .slice none 0 0] 39)
  have hr2 := (alloc_heap_old (w.alloc (.cells #[.int .i64 0, .slice none 0 0] 39)) (.cells #[.slice a0 len cap, .int .i64 0, .int .u64 0] 140) w.heap.size (by omega)).trans hr
  have hg0 := (grownBy_alloc w (.cells #[.int .i64 0, .slice none 0 0] 39) none).trans (grownBy_alloc (w.alloc (.cells #[.int .i64 0, .slice none 0 0] 39)) (.cells #[.slice a0 len cap, .int .i64 0, .int .u64 0] 140) none)
  rw [hs0] at hn
  have HN := Lib.hid hn; have HR := Lib.hid hr2; have HG0 := Lib.hid hg0
  have hs1 : ((w.alloc (.cells #[.int .i64 0, .slice none 0 0] 39)).alloc (.cells #[.slice a0 len cap, .int .i64 0, .int .u64 0] 140)).heap.size = w.heap.size + 1 + 1 := by simp
  clear hn hr hr2 hg0 hs0
  go_enter Tryd.func116, Tryd.ntmps116
  go_wp2_with fail
  generalize (w.alloc (.cells #[.int .i64 0, .slice none 0 0] 39)).alloc (.cells #[.slice a0 len cap, .int .i64 0, .int .u64 0] 140) = w0 at *
  refine (Bd.anyPrime_any _ _ _ HN.out (by omega)).mono ?_
  rintro e w1 ⟨p, rfl, hp, c1, g1⟩
  have hpb := anyP_bd hp
  have HP := Lib.hid hp; have C1 := Lib.hid c1; have G1 := Lib.hid g1
  have s1 := g1.size
  clear hp c1 g1
  go_wp2_with (first
    | (go_at_call 189; refine (l1Most_any _ _ _).mono ?_; rintro e w' ⟨rfl, rfl⟩)
    | (go_at_call 188
       go_loud (refine (anyMatrix_any _ _ _ _ C1.out (by omega) (by omega) (by omega) (by omega)).mono ?_)
       rintro e w2 ⟨cols, o, vs, L, rfl, ho, hl, hll, g2⟩
       obtain ⟨oa, oc, hoe, hx⟩ := ho.read
       clear hx
       subst hoe
       have q2 := (g2.block w.heap.size (by omega) (by simp)).trans ((G1.out.block w.heap.size (by omega) (by simp)).trans HR.out)
       have b2 := (box_facts q2).1
       have HO := Lib.hid ho; have HL := Lib.hid hl; have HLL := Lib.hid hll; have G2 := Lib.hid g2
       clear ho hl hll g2 q2
       unfold mxV
       generalize hgl : L.length = l at *
       have HGL := Lib.hid hgl
       clear hgl))
  refine bodyPost_ret_by (v := .tuple #[.int .i64 p, .agg #[.int .i64 cols, .slice oa l oc]]) ?_ rfl ?_
  · simp [results, go_sem, *]
  · have o5 := one_set (w := w2) w.heap.size (.int .i64 cols) (.slice oa l oc)
    refine ⟨p, cols, _, vs, L, rfl, HP.out, (HO.out.only o5 fun k hk hk' => by have := (HO.out.lt hk).1; omega).base (by omega), by rw [HGL.out]; exact HL.out, HLL.out, ?_⟩
    have g := grownBy_trans G1.out G2.out
    have ho := ((Only.of_grown (S := fun k => w.heap.size ≤ k) HG0.out (by simp)).trans (Only.of_grown (S := fun k => w.heap.size ≤ k) g (fun k hk => by have := Option.some.inj hk; omega))).trans (o5.mono (S' := fun k => w.heap.size ≤ k) fun k hk => by omega)
    exact ⟨ho.os, ho.tape, ho.output, ho.size, fun k hk _ => ho.block k hk (by omega)⟩

set_option maxRecDepth 100000 in
set_option maxHeartbeats 1000000 in
theorem drawRowReduce_any (cv : Value) (w : World) (hc : CodeAt w cv) : Calls Tryd.prog 25 #[cv] w (DMat w) := by
  have hs0 : (w.alloc (.cells #[.int .i64 0, .slice none 0 0] 39)).heap.size = w.heap.size + 1 := by simp
  have HD := Lib.hid (drawIsMatrix_any cv _ (hc.carry (grownBy_alloc w (.cells #[.int .i64 0, .slice none 0 0] 39) none)))
  obtain ⟨a0, len, cap, rfl, _, _⟩ := hc
  have HR := Lib.hid (alloc_heap_new w (.cells #[.int .i64 0, .slice none 0 0] 39))
  have HG0 := Lib.hid (grownBy_alloc w (.cells #[.int .i64 0, .slice none 0 0] 39) none)
  go_enter Tryd.func25, Tryd.ntmps25
  go_wp2_with fail
  refine HD.out.mono ?_
  rintro e w2 ⟨p, cols, o, vs, L, rfl, hp, ho, hl, hll, g2⟩
  obtain ⟨oa, oc, hoe, hx⟩ := ho.read
  clear hx
  subst hoe
  have q2 := (g2.block w.heap.size (by omega) (by simp)).trans HR.out
  have b2 := (box_facts q2).1
  have HO := Lib.hid ho; have HL := Lib.hid hl; have HLL := Lib.hid hll; have G2 := Lib.hid g2; have HP := Lib.hid hp
  clear ho hl hll g2 q2 hp
  unfold mxV
  generalize hgl : L.length = l at *
  have HGL := Lib.hid hgl
  clear hgl
  go_wp2
  refine bodyPost_ret_by (v := .tuple #[.int .i64 p, .agg #[.int .i64 cols, .slice oa l oc]]) ?_ rfl ?_
  · simp [results, go_sem, *]
  · have o5 := one_set (w := w2) w.heap.size (.int .i64 cols) (.slice oa l oc)
    refine ⟨p, cols, _, vs, L, rfl, HP.out, (HO.out.only o5 fun k hk hk' => by have := (HO.out.lt hk).1; omega).base (by omega), by rw [HGL.out]; exact HL.out, HLL.out, ?_⟩
    have ho := (Only.of_grown (S := fun k => w.heap.size ≤ k) (HG0.out.trans G2.out) (by simp)).trans (o5.mono (S' := fun k => w.heap.size ≤ k) fun k hk => by omega)
    exact ⟨ho.os, ho.tape, ho.output, ho.size, fun k hk _ => ho.block k hk (by omega)⟩

end Go.Proofs.YtpeaeminjbjlnaaDoor

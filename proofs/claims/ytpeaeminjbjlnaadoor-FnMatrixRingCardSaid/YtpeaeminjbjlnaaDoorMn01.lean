/-
  What the law of matrices asks of the functions: products, transposes, determinants, powers. Conditions: small sizes.
-/
import Derived.Test.YtpeaeminjbjlnaaDoorMj04
import Derived.Test.YtpeaeminjbjlnaaDoorMn00
import Derived.Test.YtpeaeminjbjlnaaDoorMj06
import Derived.Test.YtpeaeminjbjlnaaDoorMj01
import Derived.Deep.CutRange
import Derived.Test.YtpeaeminjbjlnaaDoorMj02
import Derived.Deep.RegionHeld3
namespace Go.Proofs.YtpeaeminjbjlnaaDoor
open Go.RowKit La
set_option linter.unusedVariables false

/-- what a product answers on both sides -/
structure MulAns (p ca cb : Int) (A B : List (List Int)) (b : Bool) (c' : Int) (K : List (List Int)) : Prop where
  small : Small 24 K
  yes : b = true → mulB p ca A cb B = true ∧ c' = cb ∧ K = timesL p A B cb.toNat
  impl : ∀ (u v : Value) (W : World), Tab W → MatV W u A → MatV W v B → Calls Tryd.prog 29 #[.int .i64 p, mxV ca u, mxV cb v] W fun e w' => ∃ o, e = .returned (.tuple #[mxV c' o, .bool b]) ∧ MatV w' o K ∧ W.grownBy w' none
  spec : ∀ (u v : Value) (W : World), MatV W u A → MatV W v B → Calls Tryd.prog 62 #[.int .i64 p, mxV ca u, mxV cb v] W fun e w' => ∃ o, e = .returned (.tuple #[mxV c' o, .bool b]) ∧ MatV w' o K ∧ W.grownBy w' none
theorem mul_both (p ca cb : Int) (A B : List (List Int)) (hA : Small 1000 A) (hB : Small 1000 B) (hp0 : -1000 ≤ p) (hp1 : p ≤ 1000) : ∃ (b : Bool) (c' : Int) (K : List (List Int)), MulAns p ca cb A B b c' K := by
  have a1 := Nat.le_trans hA.1 (show 1000 ≤ 1000000 by decide)
  have a2 := fun row hr => Nat.le_trans (hA.2 row hr) (show 1000 ≤ 1000000 by decide)
  have b1 := Nat.le_trans hB.1 (show 1000 ≤ 1000000 by decide)
  have b2 := fun row hr => Nat.le_trans (hB.2 row hr) (show 1000 ≤ 1000000 by decide)
  cases hb : mulB p ca A cb B
  · refine ⟨false, 0, [], ⟨by simp, fun r hr => by simp at hr⟩, (fun h => by cases h), fun u v W ht hu hv => ?_, fun u v W hu hv => ?_⟩
    · refine (mulMatrices_no p ca cb u v A B W ht hu hv a1 a2 b1 b2 hb).mono ?_
      rintro e w' ⟨rfl, g⟩
      exact ⟨nilS, rfl, nil_mat' _, g⟩
    · refine (sMulMatrices_no p ca cb u v A B W hu hv a1 a2 b1 b2 hp0 hp1 hb).mono ?_
      rintro e w' ⟨rfl, g⟩
      exact ⟨nilS, rfl, nil_mat' _, g⟩
  · have hb0 := hb
    unfold mulB at hb0
    simp only [Bool.and_eq_true, beq_iff_eq] at hb0
    obtain ⟨h1, h2, h3⟩ := hb0
    obtain ⟨q, iq, n, rfl, hcb, hf, hq, hn, hm, hok⟩ := matB_nat h2
    refine ⟨true, cb, _, ?_, fun _ => ⟨hb, rfl, rfl⟩, fun u v W ht hu hv => mulMatrices_yes q ca cb u v A B W ht hu hv h1 h2 h3, fun u v W hu hv => ?_⟩
    · subst hcb
      rw [Int.toNat_natCast]
      exact ⟨by rw [timesL_len]; exact (mat_bd h1).2.2, fun row hr => by rw [(timesL_ok (p := q) (X := A) (lt_p hf) hok row hr).1]; exact hn⟩
    · refine (sMulMatrices_yes q ca cb u v A B W hu hv hp0 hp1 hb).mono ?_
      rintro e w' ⟨o, vs, rfl, ho, g⟩
      exact ⟨o, rfl, ho.read, g⟩
/-- a product that is made: transposes and determinants -/
structure MrYes (p ca cb : Int) (A B K X Y Z : List (List Int)) : Prop where
  sZ : Small 1000 Z
  h1 : ∀ (u : Value) (W : World), Tab W → MatV W u A → Calls Tryd.prog 63 #[.int .i64 p, mxV ca u] W fun e w' => ∃ o, e = .returned (.tuple #[mxV A.length o, .bool true]) ∧ MatV w' o X ∧ W.grownBy w' none
  h2 : ∀ (u : Value) (W : World), Tab W → MatV W u B → Calls Tryd.prog 63 #[.int .i64 p, mxV cb u] W fun e w' => ∃ o, e = .returned (.tuple #[mxV B.length o, .bool true]) ∧ MatV w' o Y ∧ W.grownBy w' none
  h3 : ∀ (u v : Value) (W : World), Tab W → MatV W u Y → MatV W v X → Calls Tryd.prog 29 #[.int .i64 p, mxV B.length u, mxV A.length v] W fun e w' => ∃ o, e = .returned (.tuple #[mxV A.length o, .bool true]) ∧ MatV w' o Z ∧ W.grownBy w' none
  h4 : ∀ (u : Value) (W : World), Tab W → MatV W u K → Calls Tryd.prog 63 #[.int .i64 p, mxV cb u] W fun e w' => ∃ o, e = .returned (.tuple #[mxV A.length o, .bool true]) ∧ MatV w' o Z ∧ W.grownBy w' none
theorem mr_yes {p ca cb : Int} {A B : List (List Int)} (h : mulB p ca A cb B = true) : ∃ X Y Z, MrYes p ca cb A B (timesL p A B cb.toNat) X Y Z := by
  unfold mulB at h
  simp only [Bool.and_eq_true, beq_iff_eq] at h
  obtain ⟨h1, h2, h3⟩ := h
  subst h3
  obtain ⟨q, iq, n, rfl, rfl, hf, hq, hn, hm, hB⟩ := matB_nat h2
  obtain ⟨q', iq', m, e1, e2, _, _, _, hm', hA⟩ := matB_nat h1
  obtain rfl : q = q' := by omega
  obtain rfl : m = B.length := by omega
  have hp := lt_p hf
  rw [Int.toNat_natCast]
  have oX := transL_ok hA
  have oY := transL_ok hB
  have hK := timesL_ok (X := A) hp hB
  have hKm : matB q n (timesL q A B n) = true := matB_of hf hn (by rw [timesL_len]; exact hm') hK
  have hXm : matB q A.length (transL A B.length) = true := matB_of hf hm' (by rw [transL_len]; exact hm) oX
  have hYm : matB q B.length (transL B n) = true := matB_of hf hm (by rw [transL_len]; exact hn) oY
  have tt := trans_times hp hA hB
  refine ⟨transL A B.length, transL B n, transL (timesL q A B n) n, ⟨by rw [transL_len]; omega, fun row hr => ?_⟩, fun u W ht hu => ?_, fun u W ht hu => ?_, fun u v W ht hu hv => ?_, fun u W ht hu => ?_⟩
  · have oC := transL_ok hK
    rw [timesL_len] at oC
    rw [(oC row hr).1]
    omega
  · refine (transpose_yes q B.length u A W ht hu h1).mono ?_
    rintro e w' ⟨o, vs, rfl, ho, g⟩
    rw [Int.toNat_natCast] at ho
    exact ⟨o, rfl, ho.read, g⟩
  · refine (transpose_yes q n u B W ht hu h2).mono ?_
    rintro e w' ⟨o, vs, rfl, ho, g⟩
    rw [Int.toNat_natCast] at ho
    exact ⟨o, rfl, ho.read, g⟩
  · have h := mulMatrices_yes q B.length A.length u v (transL B n) (transL A B.length) W ht hu hv hYm hXm (by rw [transL_len])
    rw [Int.toNat_natCast, tt] at h
    exact h
  · have h := transpose_yes q n u (timesL q A B n) W ht hu hKm
    rw [Int.toNat_natCast, timesL_len] at h
    refine h.mono ?_
    rintro e w' ⟨o, vs, rfl, ho, g⟩
    exact ⟨o, rfl, ho.read, g⟩
/-- the three determinants -/
structure DetAns (p ca cb : Int) (A B K : List (List Int)) (b1 b2 b3 : Bool) (d1 d2 d3 : Int) : Prop where
  h1 : ∀ (u : Value) (W : World), Tab W → MatV W u A → Calls Tryd.prog 64 #[.int .i64 p, mxV ca u] W fun e w' => e = .returned (.tuple #[.int .i64 d1, .bool b1]) ∧ W.grownBy w' none
  h2 : ∀ (u : Value) (W : World), Tab W → MatV W u B → Calls Tryd.prog 64 #[.int .i64 p, mxV cb u] W fun e w' => e = .returned (.tuple #[.int .i64 d2, .bool b2]) ∧ W.grownBy w' none
  h3 : ∀ (u : Value) (W : World), Tab W → MatV W u K → Calls Tryd.prog 64 #[.int .i64 p, mxV cb u] W fun e w' => e = .returned (.tuple #[.int .i64 d3, .bool b3]) ∧ W.grownBy w' none
  rel : b1 = false ∨ b1 = true ∧ b2 = false ∨ b1 = true ∧ b2 = true ∧ b3 = true ∧ 0 ≤ d1 ∧ d1 < p ∧ 0 ≤ d2 ∧ d2 < p ∧ p ≤ 97 ∧ d3 = d1 * d2 % p
theorem det_ans {p ca cb : Int} {A B : List (List Int)} (h : mulB p ca A cb B = true) (hA1 : Small 1000 A) (hB1 : Small 1000 B) (hK1 : Small 1000 (timesL p A B cb.toNat)) : ∃ b1 b2 b3 d1 d2 d3, DetAns p ca cb A B (timesL p A B cb.toNat) b1 b2 b3 d1 d2 d3 := by
  obtain ⟨b1, d1, hb1, hd1, c1⟩ := det_some p ca A
  obtain ⟨b2, d2, hb2, hd2, c2⟩ := det_some p cb B
  obtain ⟨b3, d3, hb3, hd3, c3⟩ := det_some p cb (timesL p A B cb.toNat)
  refine ⟨b1, b2, b3, d1, d2, d3, fun u W ht hu => c1 u W ht hu hA1, fun u W ht hu => c2 u W ht hu hB1, fun u W ht hu => c3 u W ht hu hK1, ?_⟩
  cases b1
  · exact Or.inl rfl
  · cases b2
    · exact Or.inr (Or.inl ⟨rfl, rfl⟩)
    · refine Or.inr (Or.inr ?_)
      unfold mulB at h
      simp only [Bool.and_eq_true, beq_iff_eq] at h
      obtain ⟨h1, h2, h3⟩ := h
      subst h3
      obtain ⟨q, iq, n, rfl, rfl, hf, hq, hn, hm, hB⟩ := matB_nat h2
      obtain ⟨q', iq', m, e1, e2, _, _, _, hm', hA⟩ := matB_nat h1
      obtain rfl : q = q' := by omega
      obtain rfl : m = B.length := by omega
      have s1 := hb1.symm
      have s2 := hb2.symm
      unfold sqB at s1 s2
      rw [Bool.and_eq_true, decide_eq_true_eq] at s1 s2
      have l1 : A.length = B.length := by omega
      obtain rfl : n = B.length := by omega
      rw [Int.toNat_natCast] at hb3 hd3
      have hK := timesL_ok (X := A) (lt_p hf) hB
      have hKm : matB q B.length (timesL q A B B.length) = true := matB_of hf hn (by rw [timesL_len]; exact hm') hK
      have hb3' : b3 = true := by
        rw [hb3]
        unfold sqB
        rw [hKm, timesL_len, l1]
        simp
      obtain ⟨x1, x2, x3⟩ := hd1 q rfl rfl
      obtain ⟨y1, y2, y3⟩ := hd2 q rfl rfl
      obtain ⟨z1, z2, z3⟩ := hd3 q rfl hb3'
      have hdt := det_times hf (by rw [l1] at *; exact hA) hB l1 rfl
      rw [timesL_len, l1] at z3
      rw [l1] at x3
      refine ⟨rfl, rfl, hb3', x1, x2, y1, y2, by omega, ?_⟩
      refine toF_inj z1 z2 (Int.emod_nonneg _ (by omega)) (Int.emod_lt_of_pos _ (by omega)) ?_
      rw [toF_emod, toF_mul, ← z3, ← x3, ← y3, hdt]
/-- what a power answers on both sides; and the step -/
structure PowAns (p c : Int) (M : List (List Int)) (n : Int) (b : Bool) (c' : Int) (K : List (List Int)) : Prop where
  small : Small 24 K
  impl : ∀ (u : Value) (W : World), Tab W → MatV W u M → Calls Tryd.prog 66 #[.int .i64 p, mxV c u, .int .i64 n] W fun e w' => ∃ o, e = .returned (.tuple #[mxV c' o, .bool b]) ∧ MatV w' o K ∧ W.grownBy w' none
  spec : ∀ (u : Value) (W : World), MatV W u M → Calls Tryd.prog 67 #[.int .i64 p, mxV c u, .int .i64 n] W fun e w' => ∃ o, e = .returned (.tuple #[mxV c' o, .bool b]) ∧ MatV w' o K ∧ W.grownBy w' none
  step : b = true → 0 < n → ∃ K1, c' = c ∧ (∀ (u : Value) (W : World), Tab W → MatV W u M → Calls Tryd.prog 66 #[.int .i64 p, mxV c u, .int .i64 (n - 1)] W fun e w' => ∃ o, e = .returned (.tuple #[mxV c o, .bool true]) ∧ MatV w' o K1 ∧ W.grownBy w' none) ∧
    (∀ (u v : Value) (W : World), Tab W → MatV W u K1 → MatV W v M → Calls Tryd.prog 29 #[.int .i64 p, mxV c u, mxV c v] W fun e w' => ∃ o, e = .returned (.tuple #[mxV c o, .bool true]) ∧ MatV w' o K ∧ W.grownBy w' none)
theorem pow_both (p c : Int) (M : List (List Int)) (n : Int) (hM : Small 1000 M) (hp0 : -1000 ≤ p) (hp1 : p ≤ 1000) : ∃ (b : Bool) (c' : Int) (K : List (List Int)), PowAns p c M n b c' K := by
  have a1 := Nat.le_trans hM.1 (show 1000 ≤ 1000000 by decide)
  have a2 := fun row hr => Nat.le_trans (hM.2 row hr) (show 1000 ≤ 1000000 by decide)
  cases hb : powB p c M n
  · refine ⟨false, 0, [], ⟨by simp, fun r hr => by simp at hr⟩, fun u W ht hu => ?_, fun u W hu => ?_, fun h => by cases h⟩
    · refine (matrixPower_no p c n u M W ht hu a1 a2 hb).mono ?_
      rintro e w' ⟨rfl, g⟩
      exact ⟨nilS, rfl, nil_mat' _, g⟩
    · refine (sMatrixPower_no p c n u M W hu a1 a2 hp0 hp1 hb).mono ?_
      rintro e w' ⟨rfl, g⟩
      exact ⟨nilS, rfl, nil_mat' _, g⟩
  · have hb0 := hb
    unfold powB at hb0
    rw [Bool.and_eq_true, decide_eq_true_eq] at hb0
    obtain ⟨hs, hn0, hn1⟩ := hb0
    have hs0 := hs
    obtain ⟨q, iq, rfl, rfl, hf, hq, hm, hok⟩ := sqB_nat hs
    have hpl := pw_len (q : Int) (n := M.length) M
    have hpo := pw_ok (p := q) (n := M.length) (lt_p hf) hok
    refine ⟨true, M.length, pwL q M.length M n.toNat, ⟨by rw [hpl]; exact hm, fun row hr => by rw [(hpo _ row hr).1]; exact hm⟩, fun u W ht hu => matrixPower_yes q u M n W ht hu hb, fun u W hu => sMatrixPower_yes q u M n W hu hb, fun _ h0 => ?_⟩
    have hb1 : powB q M.length M (n - 1) = true := by
      unfold powB
      rw [hs0, Bool.true_and, decide_eq_true_eq]
      omega
    refine ⟨pwL q M.length M (n - 1).toNat, rfl, fun u W ht hu => matrixPower_yes q u M (n - 1) W ht hu hb1, fun u v W ht hu hv => ?_⟩
    have hmk : matB q M.length (pwL q M.length M (n - 1).toNat) = true := matB_of hf hm (by rw [hpl]; exact hm) (hpo _)
    have hmm : matB q M.length M = true := matB_of hf hm hm hok
    have h := mulMatrices_yes q M.length M.length u v (pwL q M.length M (n - 1).toNat) M W ht hu hv hmk hmm rfl
    rw [Int.toNat_natCast] at h
    rw [show n.toNat = (n - 1).toNat + 1 by omega]
    exact h
/-- the row that solves, multiplied -/
theorem slv_mul {p c : Int} {M : List (List Int)} {x K : List Int} (h : SlvAns p c M x true K) : ∀ (u v : Value) (W : World), Tab W → MatV W u [K] → MatV W v M → Calls Tryd.prog 29 #[.int .i64 p, mxV K.length u, mxV c v] W fun e w' => ∃ o, e = .returned (.tuple #[mxV c o, .bool true]) ∧ MatV w' o [x] ∧ W.grownBy w' none := by
  intro u v W ht hu hv
  obtain ⟨q, iq, n, rfl, rfl, hf, hq, hn, hm, hok, hx, hk, he⟩ := h.yes rfl
  have hkm : matB q K.length [K] = true := matB_of hf (by rw [hk.1]; exact hm) (by simp) fun row hr => by
    rw [List.mem_singleton] at hr
    subst hr
    exact ⟨rfl, hk.2⟩
  have h := mulMatrices_yes q K.length n u v [K] M W ht hu hv hkm (matB_of hf hn hm hok) (by rw [hk.1])
  rw [Int.toNat_natCast, show timesL (q : Int) [K] M n = [x] by show [combTo q K M n M.length] = _; rw [he]] at h
  exact h
end Go.Proofs.YtpeaeminjbjlnaaDoor

/-
  Drawn square matrices. Conditions: small sizes.
-/
namespace Go.Proofs.YtpeaeminjbjlnaaDoor
open Go.RowKit
set_option linter.unusedVariables false

theorem set_rows {L : List (List Int)} {k j l : Nat} {x : Int} (hk : k < L.length) (h : ∀ row ∈ L, row.length = l) : ∀ row ∈ L.set k ((L.getD k []).set j x), row.length = l := by
  intro row hr
  rcases List.mem_or_eq_of_mem_set hr with h1 | rfl
  · exact h row h1
  · rw [List.length_set]
    exact h _ (getD_mem hk)
theorem swap_rows {L : List (List Int)} {r j l : Nat} (h : ∀ row ∈ L, row.length = l) (hr : r < L.length) (hj : j < L.length) : ∀ row ∈ swapL L r j, row.length = l := by
  unfold swapL
  intro row hrow
  rcases List.mem_or_eq_of_mem_set hrow with h1 | rfl
  · rcases List.mem_or_eq_of_mem_set h1 with h2 | rfl
    · exact h row h2
    · exact h _ (getD_mem hj)
  · exact h _ (getD_mem hr)
/-- a drawn matrix beside the cursor -/
def DSq (N b : Nat) (n : Int) (lst : List Asrt) (e : Ending) (w' : World) : Prop :=
  ∃ (c : Int) (o : Value) (vs : List Value) (L : List (List Int)), e = .returned (mxV c o) ∧ Small 1000 L ∧ Sep w' (OM o vs L :: CA N b n :: lst)
set_option maxRecDepth 100000 in
set_option maxHeartbeats 4000000 in
theorem square_any {N : Nat} {lst : List Asrt} (q b : Nat) (n : Int) (w : World) (h : Sep w (CA N b n :: lst)) (hq1 : 1 ≤ q) (hq : q ≤ 1000) (hn0 : 0 ≤ n) (hn : n + 60000 ≤ 1000000000000) :
    Calls Tryd.prog 185 #[.pointer (some ⟨b, 0, none⟩), .int .i64 q] w (DSq N b (n + 50000) lst) := by
  have HS := Lib.hid (h.box #[.int .i64 0, .slice none 0 0] 39).s2
  clear h
  go_enter Tryd.func185, Tryd.ntmps185
  go_wp2_with (first
    | (go_at_call 179
       go_loud (refine (mxSide_any _ _ _ HS.out.hd (by omega)).mono ?_)
       rintro e w2 ⟨l, rfl, ⟨hl0, hl1⟩, c2, g2⟩
       obtain ⟨l, rfl⟩ := Int.eq_ofNat_of_zero_le hl0
       have hln : l ≤ 24 := by omega
       have HS2 := Lib.hid (HS.out.draw c2 g2)
       clear c2 g2 hl0 hl1)
    | (go_at_call 181
       go_loud (refine (matrix_any q l l _ _ w2 HS2.out.hd (by omega) (by omega) (by omega) (by omega) (by omega) (by omega)).mono ?_)
       rintro e w3 ⟨o, vs, L, rfl, ho, hl, hok, c3, g3⟩
       have hx3 := (Sep.startX HS2.out.hd).drawM c3 g3 ho
       obtain ⟨oa, oc, hoe, _, _⟩ := own_form ho
       rw [hl] at hoe
       subst hoe
       have HX3 := Lib.hid ((hx3.box #[.int .i64 l, .slice oa l oc] 39).s2)
       have HL := Lib.hid hl
       have HR := Lib.hid (show ∀ row ∈ L, row.length = l from fun row hr => (hok row hr).1)
       unfold mxV
       clear ho hl hok c3 g3 hx3))
  generalize hw4 : w3.alloc (.cells #[.int .i64 l, .slice oa l oc] 39) = w4 at *
  clear hw4
  generalize w3.heap.size = s at *
  refine (Bd.one_any 2 b _ w4 HX3.out.s3.hd (by omega) (by omega)).mono ?_
  rintro e w5 ⟨bv, rfl, c5, g5⟩
  have HX5 := Lib.hid ((HX3.out.s3.draw c5 g5).s3.s3)
  clear c5 g5
  cases bv
  · obtain ⟨x0, x1, _, _⟩ := bx HX5.out.s2.hd
    have hkx : w2.grownBy w5 (some b) := HX5.out.tl.tl.tl.hd
    have hb := HS2.out.hd.lt
    have hNb := HS2.out.hd.nb
    have hsz := hkx.size
    have hb1 := mxBend_any q l b w2.heap.size (n + 30000) (.slice oa l oc) vs L w5 (HX5.out.s3.hd.mono (by omega)) HX5.out.drop2.matX (by rw [HL.out]; exact hln) (fun row hr => by rw [HR.out row hr]) (by omega) (by omega) hsz (by omega) (by omega) (by omega) (by omega) (by omega) (by omega)
    have HKX := Lib.hid hkx
    unfold mxV at hb1
    have HB1 := Lib.hid hb1
    clear hb1 hb hNb hsz hkx
    go_wp2_with (
      go_at_call 180
      go_loud (with_reducible refine HB1.out.mono ?_)
      rintro e w9 ⟨c9, o9, vs9, L9, rfl, ho9, hl9, hll9, c9', hon⟩
      obtain ⟨oa9, oc9, hoe, _, _⟩ := own_form ho9
      subst hoe
      have h9 := HS2.out.drawM c9' (only_grown (((Only.of_grown (S := (· = b)) HKX.out fun k hk => (Option.some.inj hk).symm).mono fun k hk => Or.inl hk).trans hon)) ho9
      have HSM9 := Lib.hid (show Small 1000 L9 from ⟨hl9, hll9⟩)
      unfold mxV
      obtain ⟨k0, k1, k2, k3⟩ := bx h9.s3.hd
      have HQ := Lib.hid (((h9.s3.setB 0 (.int .i64 c9)).setB 1 (.slice oa9 L9.length oc9)).tl.s2.more (m := n + 50000) (by omega)).s2
      generalize L9.length = l9 at *
      clear ho9 hl9 hll9 hon c9' h9)
    refine bodyPost_ret_by (v := .agg #[.int .i64 c9, .slice oa9 l9 oc9]) ?_ rfl ⟨c9, _, vs9, L9, rfl, HSM9.out, HQ.out⟩
    simp [results, go_sem, *]
  · obtain ⟨a0, a1, _, _⟩ := bx HX5.out.s2.hd
    go_wp2_with fail
    go_loopw [23] (fun i wr => ∃ (k : Nat) (L : List (List Int)), k ≤ l ∧ i = .int .i64 k ∧ L.length = l ∧ (∀ row ∈ L, row.length = l) ∧ Sep wr [OM (.slice oa l oc) vs L, BxA s #[.int .i64 l, .slice oa l oc] 39, CA N b (n + 2 + 10000 + 2), KeepX w2 b]) (fun i _ => l - (intOf i).toNat)
    case atStart => exact ⟨0, L, by omega, rfl, HL.out, HR.out, HX5.out⟩
    case round =>
      obtain ⟨k, L1, hk, rfl, hl1, hr1, hs1⟩ := hrel
      have HL1 := Lib.hid hl1; have HR1 := Lib.hid hr1; have HS1 := Lib.hid hs1
      clear hl1 hr1 hs1 a0 a1
      by_cases hlt : k < l
      · obtain ⟨g, gc, hge, _⟩ := HS1.out.hd.head (by intro h; have := HL1.out; rw [h] at this; simp at this; omega)
        rw [HL1.out] at hge
        cases hge
        obtain ⟨G, C, hGC⟩ := row_names HS1.out.hd HR1.out (by omega)
        rw [HL1.out] at hGC
        have HGC := Lib.hid hGC
        obtain ⟨b0, b1, _, _⟩ := bx HS1.out.s2.hd
        clear hGC
        go_wp2_with fail
        go_loopw [8] (fun j wx => ∃ (t : Nat) (L2 : List (List Int)), t ≤ k ∧ j = .int .i64 t ∧ L2.length = l ∧ (∀ row ∈ L2, row.length = l) ∧ Sep wx [OM (.slice (some ⟨g, 0, none⟩) l oc) vs L2, BxA s #[.int .i64 l, .slice (some ⟨g, 0, none⟩) l oc] 39, CA N b (n + 2 + 10000 + 2), KeepX w2 b]) (fun j _ => k - (intOf j).toNat)
        case atStart => exact ⟨0, L1, by omega, rfl, HL1.out, HR1.out, HS1.out⟩
        case round =>
          obtain ⟨t, L2, ht, rfl, hl2, hr2, hs2⟩ := hrel
          have HL2 := Lib.hid hl2; have HR2 := Lib.hid hr2; have HT2 := Lib.hid hs2
          clear hl2 hr2 hs2 b0 b1
          obtain ⟨d0, d1, _, _⟩ := bx HT2.out.s2.hd
          have z1 := heads HT2.out HL2.out HGC.out k hlt
          by_cases hlt2 : t < k
          · have htl : t < l := by omega
            obtain ⟨old, z2, z3, z4⟩ := bend_elem HT2.out HL2.out HGC.out HR2.out hlt htl
            have HZ := Lib.hid (z4 0)
            have HRZ := Lib.hid (set_rows (x := 0) (j := t) (show k < L2.length by rw [HL2.out]; exact hlt) HR2.out)
            clear z4
            go_wp2_with fail
            go_roundw
            case rel => exact ⟨t + 1, _, by omega, by go_num, by rw [List.length_set]; exact HL2.out, HRZ.out, HZ.out⟩
            case measure => simp [intOf]; omega
          · have htk : t = k := by omega
            subst htk
            obtain ⟨old, z2, z3, z4⟩ := bend_elem HT2.out HL2.out HGC.out HR2.out hlt hlt
            have HZ := Lib.hid (z4 1)
            have HRZ := Lib.hid (set_rows (x := 1) (j := t) (show t < L2.length by rw [HL2.out]; exact hlt) HR2.out)
            clear z4
            by_cases h0 : old = 0
            · subst h0
              go_wp2_with fail
              go_roundw
              case rel => exact ⟨t + 1, _, by omega, by go_num, by rw [List.length_set]; exact HL2.out, HRZ.out, HZ.out⟩
              case measure => simp [intOf]; omega
            · have h0' : (old == 0) = false := by rw [beq_eq_false_iff_ne]; exact h0
              go_wp2_with fail
              go_roundw
              case rel => exact ⟨t + 1, _, by omega, by go_num, HL2.out, HR2.out, HT2.out⟩
              case measure => simp [intOf]; omega
      · by_cases h1 : 1 < (l : Int)
        · go_wp2_with fail
          refine (Bd.one_any 2 b _ wr HS1.out.s3.hd (by omega) (by omega)).mono ?_
          rintro e w6 ⟨bv2, rfl, c6, g6⟩
          have HS6 := Lib.hid ((HS1.out.s3.draw c6 g6).s3.s3)
          clear c6 g6
          cases bv2
          · obtain ⟨x0, x1, _, _⟩ := bx HS6.out.s2.hd
            have hkx : w2.grownBy w6 (some b) := HS6.out.tl.tl.tl.hd
            have hb := HS2.out.hd.lt
            have hNb := HS2.out.hd.nb
            have hsz := hkx.size
            have hb1 := mxBend_any q l b w2.heap.size (n + 30000) (.slice oa l oc) vs L1 w6 (HS6.out.s3.hd.mono (by omega)) HS6.out.drop2.matX (by rw [HL1.out]; exact hln) (fun row hr => by rw [HR1.out row hr]) (by omega) (by omega) hsz (by omega) (by omega) (by omega) (by omega) (by omega) (by omega)
            have HKX := Lib.hid hkx
            unfold mxV at hb1
            have HB1 := Lib.hid hb1
            clear hb1 hb hNb hsz hkx
            go_wp2_with (
              go_at_call 180
              go_loud (with_reducible refine HB1.out.mono ?_)
              rintro e w9 ⟨c9, o9, vs9, L9, rfl, ho9, hl9, hll9, c9', hon⟩
              obtain ⟨oa9, oc9, hoe, _, _⟩ := own_form ho9
              subst hoe
              have h9 := HS2.out.drawM c9' (only_grown (((Only.of_grown (S := (· = b)) HKX.out fun k hk => (Option.some.inj hk).symm).mono fun k hk => Or.inl hk).trans hon)) ho9
              have HSM9 := Lib.hid (show Small 1000 L9 from ⟨hl9, hll9⟩)
              unfold mxV
              obtain ⟨k0, k1, k2, k3⟩ := bx h9.s3.hd
              have HQ := Lib.hid (((h9.s3.setB 0 (.int .i64 c9)).setB 1 (.slice oa9 L9.length oc9)).tl.s2.more (m := n + 50000) (by omega)).s2
              generalize L9.length = l9 at *
              clear ho9 hl9 hll9 hon c9' h9)
            refine bodyPost_ret_by (v := .agg #[.int .i64 c9, .slice oa9 l9 oc9]) ?_ rfl ⟨c9, _, vs9, L9, rfl, HSM9.out, HQ.out⟩
            simp [results, go_sem, *]
          · go_wp2_with (
              go_at_call 131
              go_loud (refine (Bd.pick_any _ b _ _ HS6.out.s3.hd (by omega) (by omega)).mono ?_)
              rintro e w7 ⟨kk, rfl, hkk, c7, g7⟩
              obtain ⟨kk, rfl⟩ := Int.eq_ofNat_of_zero_le hkk.1
              have hk0 : kk < l := by omega
              have hk1 : kk + 1 < l := by omega
              have HS7 := Lib.hid ((HS6.out.s3.draw c7 g7).s3.s3)
              clear c7 g7 hkk
              obtain ⟨g, gc, hge, _⟩ := HS7.out.hd.head (by intro h; have := HL1.out; rw [h] at this; simp at this; omega)
              rw [HL1.out] at hge
              cases hge
              obtain ⟨d0, d1, _, _⟩ := bx HS7.out.s2.hd
              obtain ⟨ar, cr, aj, cj, t1, t2, t3, t4, vs', t5⟩ := HS7.out.swapN HL1.out.symm HR1.out (r := kk) (j := kk + 1) (by rw [HL1.out]; exact hk0) (by rw [HL1.out]; exact hk1)
              have HS8 := Lib.hid t5.dr
              have HL8 := Lib.hid (show (swapL L1 kk (kk + 1)).length = l by rw [swapL_len]; exact HL1.out)
              have HR8 := Lib.hid (swap_rows HR1.out (r := kk) (j := kk + 1) (by rw [HL1.out]; exact hk0) (by rw [HL1.out]; exact hk1))
              have hgs : g ≠ s := fun e => HS7.out.apt.1 g (Or.inl rfl) e
              have hsg : s ≠ g := fun e => hgs e.symm
              have hw1 : IntKind.i64.wrap ((kk : Int) + 1) = ((kk + 1 : Nat) : Int) := by rw [IntKind.wrap_i64]; omega
              clear t5)
            go_region
            go_wp2_with fail
            generalize ((w7.setCell ⟨g, kk, none⟩ (.slice aj l cj)).setCell ⟨g, kk + 1, none⟩ (.slice ar l cr)).drew = w8 at *
            generalize swapL L1 kk (kk + 1) = L8 at *
            obtain ⟨x0, x1, _, _⟩ := bx HS8.out.s2.hd
            have hkx : w2.grownBy w8 (some b) := HS8.out.tl.tl.tl.hd
            have hb := HS2.out.hd.lt
            have hNb := HS2.out.hd.nb
            have hsz := hkx.size
            have hb1 := mxBend_any q l b w2.heap.size (n + 30000) (.slice (some ⟨g, 0, none⟩) l oc) vs' L8 w8 (HS8.out.s3.hd.mono (by omega)) HS8.out.drop2.matX (by rw [HL8.out]; exact hln) (fun row hr => by rw [HR8.out row hr]) (by omega) (by omega) hsz (by omega) (by omega) (by omega) (by omega) (by omega) (by omega)
            have HKX := Lib.hid hkx
            unfold mxV at hb1
            have HB1 := Lib.hid hb1
            clear hb1 hb hNb hsz hkx
            go_wp2_with (
              go_at_call 180
              go_loud (with_reducible refine HB1.out.mono ?_)
              rintro e w9 ⟨c9, o9, vs9, L9, rfl, ho9, hl9, hll9, c9', hon⟩
              obtain ⟨oa9, oc9, hoe, _, _⟩ := own_form ho9
              subst hoe
              have h9 := HS2.out.drawM c9' (only_grown (((Only.of_grown (S := (· = b)) HKX.out fun k hk => (Option.some.inj hk).symm).mono fun k hk => Or.inl hk).trans hon)) ho9
              have HSM9 := Lib.hid (show Small 1000 L9 from ⟨hl9, hll9⟩)
              unfold mxV
              obtain ⟨k0, k1, k2, k3⟩ := bx h9.s3.hd
              have HQ := Lib.hid (((h9.s3.setB 0 (.int .i64 c9)).setB 1 (.slice oa9 L9.length oc9)).tl.s2.more (m := n + 50000) (by omega)).s2
              generalize L9.length = l9 at *
              clear ho9 hl9 hll9 hon c9' h9)
            refine bodyPost_ret_by (v := .agg #[.int .i64 c9, .slice oa9 l9 oc9]) ?_ rfl ⟨c9, _, vs9, L9, rfl, HSM9.out, HQ.out⟩
            simp [results, go_sem, *]
        · obtain ⟨x0, x1, _, _⟩ := bx HS1.out.s2.hd
          have hkx : w2.grownBy wr (some b) := HS1.out.tl.tl.tl.hd
          have hb := HS2.out.hd.lt
          have hNb := HS2.out.hd.nb
          have hsz := hkx.size
          have hb1 := mxBend_any q l b w2.heap.size (n + 30000) (.slice oa l oc) vs L1 wr (HS1.out.s3.hd.mono (by omega)) HS1.out.drop2.matX (by rw [HL1.out]; exact hln) (fun row hr => by rw [HR1.out row hr]) (by omega) (by omega) hsz (by omega) (by omega) (by omega) (by omega) (by omega) (by omega)
          have HKX := Lib.hid hkx
          unfold mxV at hb1
          have HB1 := Lib.hid hb1
          clear hb1 hb hNb hsz hkx
          go_wp2_with (
            go_at_call 180
            go_loud (with_reducible refine HB1.out.mono ?_)
            rintro e w9 ⟨c9, o9, vs9, L9, rfl, ho9, hl9, hll9, c9', hon⟩
            obtain ⟨oa9, oc9, hoe, _, _⟩ := own_form ho9
            subst hoe
            have h9 := HS2.out.drawM c9' (only_grown (((Only.of_grown (S := (· = b)) HKX.out fun k hk => (Option.some.inj hk).symm).mono fun k hk => Or.inl hk).trans hon)) ho9
            have HSM9 := Lib.hid (show Small 1000 L9 from ⟨hl9, hll9⟩)
            unfold mxV
            obtain ⟨k0, k1, k2, k3⟩ := bx h9.s3.hd
            have HQ := Lib.hid (((h9.s3.setB 0 (.int .i64 c9)).setB 1 (.slice oa9 L9.length oc9)).tl.s2.more (m := n + 50000) (by omega)).s2
            generalize L9.length = l9 at *
            clear ho9 hl9 hll9 hon c9' h9)
          refine bodyPost_ret_by (v := .agg #[.int .i64 c9, .slice oa9 l9 oc9]) ?_ rfl ⟨c9, _, vs9, L9, rfl, HSM9.out, HQ.out⟩
          simp [results, go_sem, *]
end Go.Proofs.YtpeaeminjbjlnaaDoor

/-
  The entries that draw a power of a matrix and a linear system. Conditions: the code is well laid.
-/
namespace Go.Proofs.YtpeaeminjbjlnaaDoor
open Go.RowKit
set_option linter.unusedVariables false

theorem Sep.matK {w w0 : World} {l : List Asrt} {v : Value} {vs : List Value} {L : List (List Int)} (h : Sep w (OM v vs L :: l)) (hk : KeepA w0 ∈ l) : OwnM w0.heap.size w v vs L := h.hd.rebase fun k hk' => Nat.le_of_not_lt ((h.2.1 _ hk).1 k hk')
set_option maxRecDepth 100000 in
set_option maxHeartbeats 1000000 in
theorem anyMatrix_sep {N : Nat} {lst : List Asrt} (q b : Nat) (n : Int) (w : World) (h : Sep w (CA N b n :: lst)) (hq1 : 1 ≤ q) (hq : q ≤ 1000) (hn0 : 0 ≤ n) (hn : n + 60000 ≤ 1000000000000) :
    Calls Tryd.prog 188 #[.pointer (some ⟨b, 0, none⟩), .int .i64 q] w (DSq N b (n + 50000) lst) := by
  have HS := Lib.hid (h.box #[.int .i64 0, .slice none 0 0] 39).s2
  clear h
  go_enter Tryd.func188, Tryd.ntmps188
  go_wp2_with (first
    | (go_at_call 179
       go_loud (refine (mxSide_any _ _ _ HS.out.hd (by omega)).mono ?_)
       rintro e w1 ⟨r, rfl, ⟨hr0, hr1⟩, c2, g2⟩
       obtain ⟨r, rfl⟩ := Int.eq_ofNat_of_zero_le hr0
       have hrn : r ≤ 24 := by omega
       have HS1 := Lib.hid (HS.out.draw c2 g2)
       clear c2 g2 hr0 hr1)
    | (go_at_call 179
       go_loud (refine (mxSide_any _ _ _ HS1.out.hd (by omega)).mono ?_)
       rintro e w2 ⟨l, rfl, ⟨hl0, hl1⟩, c2, g2⟩
       obtain ⟨l, rfl⟩ := Int.eq_ofNat_of_zero_le hl0
       have hln : l ≤ 24 := by omega
       have HS2 := Lib.hid (HS1.out.draw c2 g2)
       clear c2 g2 hl0 hl1)
    | (go_at_call 181
       go_loud (refine (matrix_any q r l _ _ w2 HS2.out.hd (by omega) (by omega) (by omega) (by omega) (by omega) (by omega)).mono ?_)
       rintro e w3 ⟨o, vs, L, rfl, ho, hl, hok, c3, g3⟩
       have hb := HS2.out.hd.lt
       have hNb := HS2.out.hd.nb
       have hsz := g3.size
       have hb1 := mxBend_any q l b w2.heap.size _ o vs L w3 c3 ho (by rw [hl]; exact hrn) (fun row hr => by rw [(hok row hr).1]) (by omega) (by omega) hsz (by omega) (by omega) (by omega) (by omega) (by omega) (by omega)
       obtain ⟨oa, oc, hoe, _, _⟩ := own_form ho
       subst hoe
       unfold mxV at hb1 ⊢
       have HB1 := Lib.hid hb1; have HG3 := Lib.hid g3
       clear ho hl hok c3 g3 hb1 hb hNb hsz)
    | (go_at_call 180
       go_loud (with_reducible refine HB1.out.mono ?_)
       rintro e w9 ⟨c9, o9, vs9, L9, rfl, ho9, hl9, hll9, c9', hon⟩
       obtain ⟨oa9, oc9, hoe, _, _⟩ := own_form ho9
       subst hoe
       have h9 := HS2.out.drawM c9' (only_grown (((Only.of_grown (S := (· = b)) HG3.out fun k hk => (Option.some.inj hk).symm).mono fun k hk => Or.inl hk).trans hon)) ho9
       have HSM9 := Lib.hid (show Small 1000 L9 from ⟨hl9, hll9⟩)
       unfold mxV
       obtain ⟨k0, k1, k2, k3⟩ := bx h9.s3.hd
       have HQ := Lib.hid (((h9.s3.setB 0 (.int .i64 c9)).setB 1 (.slice oa9 L9.length oc9)).tl.s2.more (m := n + 50000) (by omega)).s2
       generalize L9.length = l9 at *
       clear ho9 hl9 hll9 hon c9' h9))
  refine bodyPost_ret_by (v := .agg #[.int .i64 c9, .slice oa9 l9 oc9]) ?_ rfl ⟨c9, _, vs9, L9, rfl, HSM9.out, HQ.out⟩
  simp [results, go_sem, *]

/-- a drawn prime, a matrix and an exponent -/
def DPow (w : World) (e : Ending) (w' : World) : Prop :=
  ∃ (p : Nat) (c : Int) (o : Value) (vs : List Value) (L : List (List Int)) (n : Int), e = .returned (.tuple #[.int .i64 p, mxV c o, .int .i64 n]) ∧ 2 ≤ p ∧ p ≤ 97 ∧ OwnM w.heap.size w' o vs L ∧ Small 1000 L ∧ -1 ≤ n ∧ n ≤ 1001 ∧ w.grownBy w' none
set_option maxRecDepth 100000 in
set_option maxHeartbeats 4000000 in
theorem drawMatrixPower_any (cv : Value) (w : World) (hc : CodeAt w cv) : Calls Tryd.prog 65 #[cv] w (DPow w) := by
  have HS := Lib.hid (Sep.startDB hc #[.int .i64 0, .slice none 0 0] 39)
  have hs0 : (w.alloc (.cells #[.int .i64 0, .slice none 0 0] 39)).heap.size = w.heap.size + 1 := by simp
  obtain ⟨a0, len, cap, rfl, _, _⟩ := hc
  go_enter Tryd.func65, Tryd.ntmps65
  go_wp2_with fail
  generalize (w.alloc (.cells #[.int .i64 0, .slice none 0 0] 39)).alloc (.cells #[.slice a0 len cap, .int .i64 0, .int .u64 0] 140) = w0 at *
  generalize hN : w.heap.size = N at *
  refine (Bd.prime_any _ _ _ HS.out.hd (by omega)).mono ?_
  rintro e w1 ⟨p, rfl, hp, c1, g1⟩
  obtain ⟨q, rfl, hq2, hq97, hf⟩ := prime_fld hp
  have hr0 := square_any q (N + 1) _ w1 (HS.out.draw c1 g1) (by omega) (by omega) (by omega) (by omega)
  have HR := Lib.hid hr0
  clear hp c1 g1 hf hr0
  go_wp2_with (
    go_at_call 185
    go_loud (with_reducible refine HR.out.mono ?_)
    rintro e w2 ⟨c, o, vs, L, rfl, hsm, h2⟩
    obtain ⟨oa, oc, hoe, _, _⟩ := own_form (show OwnM 0 w2 o vs L from h2.hd)
    subst hoe
    have HSM := Lib.hid hsm
    unfold mxV
    generalize L.length = l at *
    have HS3 := Lib.hid ((h2.box #[.int .i64 c, .slice oa l oc] 39).s3)
    clear h2 hsm)
  generalize hw3 : w2.alloc (.cells #[.int .i64 c, .slice oa l oc] 39) = w3 at *
  clear hw3
  generalize w2.heap.size = s at *
  have XA := Lib.hid fun W k (lst : List Asrt) (h : Sep W (CA N (N + 1) k :: BxA s #[.int .i64 c, .slice oa l oc] 39 :: lst)) => And.intro (bx h.s2.hd).1 (bx h.s2.hd).2.1
  have HD := Lib.hid HS3.out.dr
  have HCU := Lib.hid (show Bd.Cur N w3.drew (N + 1) _ from HD.out.hd)
  have X0 := Lib.hid (XA.out _ _ _ HD.out)
  go_wp2_with fail
  go_region_held3 (fun w' => w'.cell? ⟨s, 0, none⟩ = some (.int .i64 c) ∧ w'.cell? ⟨s, 1, none⟩ = some (.slice oa l oc))
    (first | with_reducible exact X0.out | with_reducible exact X1.out | with_reducible exact X2.out _ | with_reducible exact X3.out | with_reducible exact X4.out)
    (first
      | (go_at_call 131
         go_loud (with_reducible refine (Bd.pick_any 200 _ _ _ HCU.out (by omega) (by omega)).mono ?_)
         rintro e w4 ⟨x, rfl, hx, c4, g4⟩
         have HS4 := Lib.hid (HD.out.draw c4 g4)
         have X1 := Lib.hid (XA.out _ _ _ HS4.out)
         have X2 := Lib.hid fun o => XA.out _ _ _ (HS4.out.al o)
         clear c4 g4)
      | (go_at_call 130
         go_loud (refine (Bd.among_new [(0 : Int), 1, 2, 3, 4, 7, 10, 1000, 1001, -1, x] _ _ _ w4 HS4.out.hd (by simp) (by simp) (by omega)).mono ?_)
         rintro e w5 ⟨v, rfl, hv, c5, g5⟩
         have h5 := HS4.out.draw c5 g5
         have X3 := Lib.hid (XA.out _ _ _ h5)
         obtain ⟨k0, k1, k2, k3⟩ := bx h5.s4.hd
         have h6 := (h5.s4.setB 0 (.int .i64 c)).setB 1 (.slice oa l oc)
         have X4 := Lib.hid (XA.out _ _ _ h6.tl)
         have HS6 := Lib.hid h6
         have hv1 : -1 ≤ v ∧ v ≤ 1001 := by simp at hv; omega
         clear c5 g5 h5 h6 hv))
  all_goals
    obtain ⟨v0, v1, _, _⟩ := bx HS6.out.hd
    have HFI := Lib.hid (And.intro (HS6.out.tl.tl.tl.matK (w0 := w) (by simp)) (show w.grownBy _ none from HS6.out.tl.tl.tl.tl.hd))
    go_wp2_with fail
    refine bodyPost_ret_by (v := .tuple #[.int .i64 q, .agg #[.int .i64 c, .slice oa l oc], .int .i64 v]) ?_ rfl ⟨q, c, _, vs, L, v, rfl, hq2, hq97, HFI.out.1, HSM.out, hv1.1, hv1.2, HFI.out.2⟩
    simp [results, go_sem, *]

/-- a drawn prime, a matrix and a list -/
def DSlv (w : World) (e : Ending) (w' : World) : Prop :=
  ∃ (p : Nat) (c : Int) (o : Value) (vs : List Value) (L : List (List Int)) (u : Value) (zs : List Int), e = .returned (.tuple #[.int .i64 p, mxV c o, u]) ∧ 2 ≤ p ∧ p ≤ 97 ∧ OwnM w.heap.size w' o vs L ∧ Small 1000 L ∧ OwnInts w.heap.size w' u zs ∧ zs.length ≤ 1000 ∧ w.grownBy w' none
set_option maxRecDepth 100000 in
set_option maxHeartbeats 4000000 in
theorem drawSolveLinear_any (cv : Value) (w : World) (hc : CodeAt w cv) : Calls Tryd.prog 68 #[cv] w (DSlv w) := by
  have HS := Lib.hid (Sep.startDB hc #[.int .i64 0, .slice none 0 0] 39)
  have hs0 : (w.alloc (.cells #[.int .i64 0, .slice none 0 0] 39)).heap.size = w.heap.size + 1 := by simp
  obtain ⟨a0, len, cap, rfl, _, _⟩ := hc
  go_enter Tryd.func68, Tryd.ntmps68
  go_wp2_with fail
  generalize (w.alloc (.cells #[.int .i64 0, .slice none 0 0] 39)).alloc (.cells #[.slice a0 len cap, .int .i64 0, .int .u64 0] 140) = w0 at *
  generalize hN : w.heap.size = N at *
  refine (Bd.prime_any _ _ _ HS.out.hd (by omega)).mono ?_
  rintro e w1 ⟨p, rfl, hp, c1, g1⟩
  obtain ⟨q, rfl, hq2, hq97, hf⟩ := prime_fld hp
  have hr0 := anyMatrix_sep q (N + 1) _ w1 (HS.out.draw c1 g1) (by omega) (by omega) (by omega) (by omega)
  have HR := Lib.hid hr0
  clear hp c1 g1 hf hr0
  go_wp2_with (
    go_at_call 188
    go_loud (with_reducible refine HR.out.mono ?_)
    rintro e w2 ⟨c, o, vs, L, rfl, hsm, h2⟩
    obtain ⟨oa, oc, hoe, _, _⟩ := own_form (show OwnM 0 w2 o vs L from h2.hd)
    subst hoe
    have HSM := Lib.hid hsm
    unfold mxV
    generalize hll : L.length = l at *
    have HLL := Lib.hid hll
    have HS3 := Lib.hid ((h2.box #[.int .i64 c, .slice oa l oc] 39).s3)
    clear h2 hsm hll)
  generalize hw3 : w2.alloc (.cells #[.int .i64 c, .slice oa l oc] 39) = w3 at *
  clear hw3
  generalize w2.heap.size = s at *
  have XA := Lib.hid fun W k (lst : List Asrt) (h : Sep W (CA N (N + 1) k :: BxA s #[.int .i64 c, .slice oa l oc] 39 :: lst)) => And.intro (bx h.s2.hd).1 (bx h.s2.hd).2.1
  obtain ⟨b0, b1⟩ := XA.out _ _ _ HS3.out
  have hgood := mxGood_any q c (.slice oa l oc) L w3 (show OwnM 0 w3 (.slice oa l oc) vs L from HS3.out.tl.tl.hd).read (Nat.le_trans HSM.out.1 (by decide)) (fun row hr => Nat.le_trans (HSM.out.2 row hr) (by decide)) (by omega) (by omega)
  unfold mxV at hgood
  cases hmb : matB q c L
  · rw [hmb] at hgood
    have HGD := Lib.hid hgood
    clear hgood hmb
    go_wp2_with (
      go_at_call 121
      go_loud (with_reducible refine HGD.out.mono ?_)
      rintro e w5 ⟨rfl, g5⟩
      have HS5 := Lib.hid (HS3.out.grown g5)
      clear g5)
    have HD := Lib.hid HS5.out.dr
    have HCU := Lib.hid (show Bd.Cur N w5.drew (N + 1) _ from HD.out.hd)
    have X0 := Lib.hid (XA.out _ _ _ HD.out)
    have XZ := Lib.hid fun o => XA.out _ _ _ (HD.out.al o)
    have XY := Lib.hid fun o => XA.out _ _ _ (HS5.out.al o).dr
    have HLE := Lib.hid fun W => l1Least_any c 30 W
    have HMO := Lib.hid fun W => l1Most_any 0 (min c 30) W
    obtain ⟨mm, hmm⟩ : ∃ mm, mm = max 0 (min c 30) := ⟨_, rfl⟩
    rw [← hmm] at HMO
    have hm0 : 0 ≤ mm := by omega
    have hm1 : mm ≤ 30 := by omega
    generalize min c 30 = mc at *
    clear hmm
    go_wp2_with fail
    go_region_held3 (fun w' => w'.cell? ⟨s, 0, none⟩ = some (.int .i64 c) ∧ w'.cell? ⟨s, 1, none⟩ = some (.slice oa l oc))
      (first | with_reducible exact X0.out | with_reducible exact XZ.out _ | with_reducible exact XY.out _ | with_reducible exact X1.out | with_reducible exact X2.out | with_reducible exact X3.out)
      (first
        | (go_at_call 190
           refine (HLE.out _).mono ?_
           rintro e w' ⟨rfl, rfl⟩)
        | (go_at_call 189
           refine (HMO.out _).mono ?_
           rintro e w' ⟨rfl, rfl⟩)
        | (go_at_call 130
           go_loud (refine (Bd.among_new [(0 : Int), 0, 0, 1] _ _ _ w5.drew HCU.out (by decide) (by decide) (by omega)).mono ?_)
           rintro e w7 ⟨v, rfl, hv, c7, g7⟩
           have HS7 := Lib.hid (HD.out.draw c7 g7)
           have hv1 : 0 ≤ v ∧ v ≤ 1 := by simp at hv; omega
           have hwr : IntKind.i64.wrap (mm + v) = mm + v := by rw [IntKind.wrap_i64]; omega
           have X1 := Lib.hid (XA.out _ _ _ HS7.out)
           clear c7 g7 hv)
        | (go_at_call 175
           go_loud (refine (elems_any q (mm + v) _ _ _ HS7.out.hd (by omega) (by omega) (by omega) (by omega)).mono ?_)
           rintro e w8 ⟨o8, zs, rfl, ho8, hz, _, c8, g8⟩
           have h8 := HS7.out.drawI c8 g8 ho8
           have X2 := Lib.hid (XA.out _ _ _ h8.tl)
           obtain ⟨k0, k1, k2, k3⟩ := bx h8.s5.hd
           have h9 := (h8.s5.setB 0 (.int .i64 c)).setB 1 (.slice oa l oc)
           have X3 := Lib.hid (XA.out _ _ _ h9.tl.tl)
           have HS9 := Lib.hid h9
           have HZ := Lib.hid (show zs.length ≤ 1000 by rw [hz]; omega)
           clear c8 g8 ho8 hz h8 h9))
    all_goals
      obtain ⟨v0, v1, _, _⟩ := bx HS9.out.hd
      have HFI := Lib.hid (And.intro (HS9.out.tl.intsK (w0 := w) (by simp)) (And.intro (HS9.out.tl.tl.tl.tl.matK (w0 := w) (by simp)) (show w.grownBy _ none from HS9.out.tl.tl.tl.tl.tl.hd)))
      go_wp2_with fail
      refine bodyPost_ret_by (v := .tuple #[.int .i64 q, .agg #[.int .i64 c, .slice oa l oc], o8]) ?_ rfl ⟨q, c, _, vs, L, o8, zs, rfl, hq2, hq97, HFI.out.2.1, HSM.out, HFI.out.1, HZ.out, HFI.out.2.2⟩
      simp [results, go_sem, *]
  · rw [hmb] at hgood
    have HGD := Lib.hid hgood
    obtain ⟨q', iq, c', e1, hcq, hf, hq9, hcc, hlc, hok⟩ := matB_nat hmb
    obtain rfl : q = q' := by omega
    rw [HLL.out] at hlc
    have HOK := Lib.hid hok
    clear hgood hmb e1 hok
    go_wp2_with (
      go_at_call 121
      go_loud (with_reducible refine HGD.out.mono ?_)
      rintro e w5 ⟨rfl, g5⟩
      have HS5 := Lib.hid (HS3.out.grown g5)
      clear g5)
    refine (Bd.one_any 4 _ _ w5 HS5.out.hd (by omega) (by omega)).mono ?_
    rintro e w6 ⟨bv, rfl, c6, g6⟩
    have HS6 := Lib.hid (HS5.out.draw c6 g6)
    clear c6 g6
    cases bv
    · subst hcq
      have HD := Lib.hid HS6.out.dr
      have X0 := Lib.hid (XA.out _ _ _ HD.out)
      go_wp2_with fail
      go_region_held3 (fun w' => w'.cell? ⟨s, 0, none⟩ = some (.int .i64 c') ∧ w'.cell? ⟨s, 1, none⟩ = some (.slice oa l oc))
        (first | with_reducible exact X0.out | with_reducible exact X1.out | with_reducible exact X2.out | with_reducible exact X3.out)
        (first
          | (go_at_call 175
             go_loud (refine (elems_any q l _ _ w6.drew HD.out.hd (by omega) (by omega) (by omega) (by omega)).mono ?_)
             rintro e w7 ⟨o7, zs, rfl, ho7, hz, hel, c7, g7⟩
             have h7 := HD.out.drawI c7 g7 ho7
             have X1 := Lib.hid (XA.out _ _ _ h7.tl)
             have HS7 := Lib.hid h7
             have hrow := mxRow_any q c' o7 (.slice oa l oc) zs L w7 hq2 hq97 h7.hd.read (show OwnM 0 w7 (.slice oa l oc) vs L from h7.tl.tl.tl.hd).read ⟨by rw [hz, HLL.out]; simp, fun z hz' => by have := hel z hz'; omega⟩ HOK.out (by rw [HLL.out]; omega) (by omega)
             unfold mxV at hrow
             have HRW := Lib.hid hrow
             clear c7 g7 ho7 hz hel h7 hrow)
          | (go_at_call 191
             go_loud (with_reducible refine HRW.out.mono ?_)
             rintro e w8 ⟨o8, rfl, ho8, g8⟩
             have hlen := (combTo_ok (x := zs) (show 1 < q by omega) HOK.out L.length (Nat.le_refl _)).1
             have h8 := HS7.out.tl.newI g8 ho8
             have X2 := Lib.hid (XA.out _ _ _ h8.tl)
             obtain ⟨k0, k1, k2, k3⟩ := bx h8.s5.hd
             have h9 := (h8.s5.setB 0 (.int .i64 c')).setB 1 (.slice oa l oc)
             have X3 := Lib.hid (XA.out _ _ _ h9.tl.tl)
             generalize combTo q zs L c' L.length = zs8 at *
             have HZ := Lib.hid (show zs8.length ≤ 1000 by rw [hlen]; omega)
             have HS9 := Lib.hid h9
             clear g8 ho8 h8 h9 hlen))
      all_goals
        obtain ⟨v0, v1, _, _⟩ := bx HS9.out.hd
        have HFI := Lib.hid (And.intro (HS9.out.tl.intsK (w0 := w) (by simp)) (And.intro (HS9.out.tl.tl.tl.tl.matK (w0 := w) (by simp)) (show w.grownBy _ none from HS9.out.tl.tl.tl.tl.tl.hd)))
        go_wp2_with fail
        refine bodyPost_ret_by (v := .tuple #[.int .i64 q, .agg #[.int .i64 c', .slice oa l oc], o8]) ?_ rfl ⟨q, c', _, vs, L, o8, zs8, rfl, hq2, hq97, HFI.out.2.1, HSM.out, HFI.out.1, HZ.out, HFI.out.2.2⟩
        simp [results, go_sem, *]
    · clear hcq
      have HD := Lib.hid HS6.out.dr
      have HCU := Lib.hid (show Bd.Cur N w6.drew (N + 1) _ from HD.out.hd)
      have X0 := Lib.hid (XA.out _ _ _ HD.out)
      have XZ := Lib.hid fun o => XA.out _ _ _ (HD.out.al o)
      have XY := Lib.hid fun o => XA.out _ _ _ (HS6.out.al o).dr
      have HLE := Lib.hid fun W => l1Least_any c 30 W
      have HMO := Lib.hid fun W => l1Most_any 0 (min c 30) W
      obtain ⟨mm, hmm⟩ : ∃ mm, mm = max 0 (min c 30) := ⟨_, rfl⟩
      rw [← hmm] at HMO
      have hm0 : 0 ≤ mm := by omega
      have hm1 : mm ≤ 30 := by omega
      generalize min c 30 = mc at *
      clear hmm
      go_wp2_with fail
      go_region_held3 (fun w' => w'.cell? ⟨s, 0, none⟩ = some (.int .i64 c) ∧ w'.cell? ⟨s, 1, none⟩ = some (.slice oa l oc))
        (first | with_reducible exact X0.out | with_reducible exact XZ.out _ | with_reducible exact XY.out _ | with_reducible exact X1.out | with_reducible exact X2.out | with_reducible exact X3.out)
        (first
          | (go_at_call 190
             refine (HLE.out _).mono ?_
             rintro e w' ⟨rfl, rfl⟩)
          | (go_at_call 189
             refine (HMO.out _).mono ?_
             rintro e w' ⟨rfl, rfl⟩)
          | (go_at_call 130
             go_loud (refine (Bd.among_new [(0 : Int), 0, 0, 1] _ _ _ w6.drew HCU.out (by decide) (by decide) (by omega)).mono ?_)
             rintro e w7 ⟨v, rfl, hv, c7, g7⟩
             have HS7 := Lib.hid (HD.out.draw c7 g7)
             have hv1 : 0 ≤ v ∧ v ≤ 1 := by simp at hv; omega
             have hwr : IntKind.i64.wrap (mm + v) = mm + v := by rw [IntKind.wrap_i64]; omega
             have X1 := Lib.hid (XA.out _ _ _ HS7.out)
             clear c7 g7 hv)
          | (go_at_call 175
             go_loud (refine (elems_any q (mm + v) _ _ _ HS7.out.hd (by omega) (by omega) (by omega) (by omega)).mono ?_)
             rintro e w8 ⟨o8, zs, rfl, ho8, hz, _, c8, g8⟩
             have h8 := HS7.out.drawI c8 g8 ho8
             have X2 := Lib.hid (XA.out _ _ _ h8.tl)
             obtain ⟨k0, k1, k2, k3⟩ := bx h8.s5.hd
             have h9 := (h8.s5.setB 0 (.int .i64 c)).setB 1 (.slice oa l oc)
             have X3 := Lib.hid (XA.out _ _ _ h9.tl.tl)
             have HS9 := Lib.hid h9
             have HZ := Lib.hid (show zs.length ≤ 1000 by rw [hz]; omega)
             clear c8 g8 ho8 hz h8 h9))
      all_goals
        obtain ⟨v0, v1, _, _⟩ := bx HS9.out.hd
        have HFI := Lib.hid (And.intro (HS9.out.tl.intsK (w0 := w) (by simp)) (And.intro (HS9.out.tl.tl.tl.tl.matK (w0 := w) (by simp)) (show w.grownBy _ none from HS9.out.tl.tl.tl.tl.tl.hd)))
        go_wp2_with fail
        refine bodyPost_ret_by (v := .tuple #[.int .i64 q, .agg #[.int .i64 c, .slice oa l oc], o8]) ?_ rfl ⟨q, c, _, vs, L, o8, zs, rfl, hq2, hq97, HFI.out.2.1, HSM.out, HFI.out.1, HZ.out, HFI.out.2.2⟩
        simp [results, go_sem, *]
end Go.Proofs.YtpeaeminjbjlnaaDoor

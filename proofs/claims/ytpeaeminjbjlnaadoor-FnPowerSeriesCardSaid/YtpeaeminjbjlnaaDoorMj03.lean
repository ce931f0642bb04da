/-
  Small helping facts. Conditions: as each says.
-/
import Derived.Test.YtpeaeminjbjlnaaDoorMk09
import Derived.Test.YtpeaeminjbjlnaaDoorMj02
import Derived.Test.YtpeaeminjbjlnaaDoorMj01
import Derived.Test.YtpeaeminjbjlnaaDoorMk11
namespace Go.Proofs.YtpeaeminjbjlnaaDoor
open Go.RowKit
set_option linter.unusedVariables false

theorem twoS {w : World} (b : Nat) (x y : Value) : Only (fun k => k = b) w ((w.setCell ⟨b, 0, none⟩ x).setCell ⟨b, 1, none⟩ y) := (set_only w ⟨b, 0, none⟩ x).trans (set_only _ ⟨b, 1, none⟩ y)
end Go.Proofs.YtpeaeminjbjlnaaDoor

/-
  Transposition; products of matrices in the reference, checked. Conditions: small sizes.
-/
namespace Go.Proofs.YtpeaeminjbjlnaaDoor
open Go.RowKit
set_option linter.unusedVariables false

theorem matB_nat {p cols : Int} {M : List (List Int)} (h : matB p cols M = true) : ∃ (q : Nat) (_ : NeZero q) (c : Nat), p = q ∧ cols = c ∧ fldN q = true ∧ q ≤ 97 ∧ c ≤ 24 ∧ M.length ≤ 24 ∧ RowsOk q c M := by
  have hfb : fldB p = true := by
    have h1 := h
    unfold matB at h1
    rw [Bool.and_eq_true] at h1
    exact h1.1
  obtain ⟨a1, a2⟩ := fldB_bd hfb
  obtain ⟨q, rfl⟩ := Int.eq_ofNat_of_zero_le (show 0 ≤ p by omega)
  haveI : NeZero q := ⟨by omega⟩
  obtain ⟨hf, hq, n, rfl, hn, hm, hok⟩ := matB_parts h
  exact ⟨q, inferInstance, n, rfl, rfl, hf, by omega, hn, hm, hok⟩
set_option maxRecDepth 100000 in
set_option maxHeartbeats 1000000 in
theorem transpose_yes (p cols : Int) (u : Value) (M : List (List Int)) (w : World) (ht : Tab w) (hu : MatV w u M) (hb : matB p cols M = true) :
    Calls Tryd.prog 63 #[.int .i64 p, mxV cols u] w fun e w' => ∃ o vs, e = .returned (.tuple #[mxV M.length o, .bool true]) ∧ OwnM w.heap.size w' o vs (transL M cols.toNat) ∧ w.grownBy w' none := by
  have hb0 := hb
  obtain ⟨q, iq, c, rfl, rfl, hf, hq, hc, hm, hok⟩ := matB_nat hb
  have H1 := fun W (hg : w.grownBy W none) => isMatrix_any q c u M W (ht.grown hg) (hu.carry hg) (by omega) (fun row hr => by rw [(hok row hr).1]; omega)
  rw [hb0] at H1
  rw [Int.toNat_natCast]
  have H2 := fun W (hg : w.grownBy W none) => transposed_any u M c W (hu.carry hg) (fun row hr => (hok row hr).1) (by omega) (by omega)
  obtain ⟨ua, uc, rfl⟩ := hu.shape
  unfold mxV at *
  have HA := Lib.hid H1; have HB := Lib.hid H2
  generalize transL M c = PL at *
  generalize M.length = n at *
  have HS := Lib.hid (((Sep.start w).box #[.int .i64 c, .slice ua n uc] 39).box #[.int .i64 0, .slice none 0 0] 39)
  have HG := Lib.hid (show w.grownBy _ none from HS.out.tl.tl.hd)
  simp only [show ∀ (W : World) o, (W.alloc o).heap.size = W.heap.size + 1 from fun W o => by simp] at HS
  have XF := Lib.hid fun W (c6 : Array Value) (h : Sep W [BxA (w.heap.size + 1) c6 39, BxA w.heap.size #[.int .i64 c, .slice ua n uc] 39, KeepA w]) =>
    And.intro (bx h.s2.hd).1 (bx h.s2.hd).2.1
  obtain ⟨y0, y1⟩ := XF.out _ _ HS.out
  clear hu hok hb hb0 H1 H2 ht hf
  go_enter Tryd.func63, Tryd.ntmps63
  go_wp2_with (
    go_at_call 117
    with_reducible refine (HA.out _ HG.out).mono ?_
    rintro e w1 ⟨rfl, g1⟩
    have HS1 := Lib.hid (HS.out.grown g1)
    clear g1)
  have HD := Lib.hid HS1.out.dr
  have HGD := Lib.hid (show w.grownBy _ none from HD.out.tl.tl.hd)
  have X0 := Lib.hid (XF.out _ _ HD.out)
  go_region_held3 (fun w' => w'.cell? ⟨w.heap.size, 0, none⟩ = some (.int .i64 c) ∧ w'.cell? ⟨w.heap.size, 1, none⟩ = some (.slice ua n uc))
    (first | with_reducible exact X0.out | with_reducible exact X3.out | with_reducible exact X4.out)
    (first
      | (go_at_call 183
         go_loud (refine (HB.out _ HGD.out).mono ?_)
         rintro e w4 ⟨o3, vs3, rfl, hp, g3⟩
         obtain ⟨ra, rc, hoe, _, _⟩ := own_form hp
         subst hoe
         have HP := Lib.hid hp
         have hsz := lt_of_blk HD.out.hd
         have HD3 := Lib.hid (HD.out.grown g3)
         have X3 := Lib.hid (XF.out _ _ HD3.out)
         obtain ⟨t0, t1, t2, t3⟩ := bx HD3.out.hd
         have HD4 := Lib.hid ((HD3.out.setB 0 (.int .i64 n)).setB 1 (.slice ra PL.length rc))
         have X4 := Lib.hid (XF.out _ _ HD4.out)
         clear hp g3))
  all_goals
    have HMM := Lib.hid (HP.out.only (twoS (w := w4) (w.heap.size + 1) (.int .i64 n) (.slice ra PL.length rc)) (fun k' hf' hk' => by have : k' = w.heap.size + 1 := hk'; have := (HP.out.lt hf').1; omega))
    obtain ⟨u0, u1, u2, u3⟩ := bx HD4.out.hd
    have HE := Lib.hid (show w.grownBy _ none from HD4.out.tl.tl.hd)
    generalize PL.length = rl at *
    generalize (w4.setCell ⟨w.heap.size + 1, 0, none⟩ (.int .i64 n)).setCell ⟨w.heap.size + 1, 1, none⟩ (.slice ra rl rc) = w5 at *
    go_wp2
    refine bodyPost_ret_by (v := .tuple #[.agg #[.int .i64 n, .slice ra rl rc], .bool true]) ?_ rfl ⟨_, _, rfl, HMM.out.base (by omega), HE.out⟩
    simp [results, go_sem, *]

set_option maxRecDepth 100000 in
set_option maxHeartbeats 1000000 in
theorem sMulMatrices_no (p ca cb : Int) (u v : Value) (A M : List (List Int)) (w : World) (hu : MatV w u A) (hv : MatV w v M) (ha : A.length ≤ 1000000) (haa : ∀ row ∈ A, row.length ≤ 1000000) (hm : M.length ≤ 1000000) (hmm : ∀ row ∈ M, row.length ≤ 1000000) (hp0 : -1000 ≤ p) (hp1 : p ≤ 1000) (hno : mulB p ca A cb M = false) :
    Calls Tryd.prog 62 #[.int .i64 p, mxV ca u, mxV cb v] w fun e w' => e = .returned (.tuple #[mxV 0 nilS, .bool false]) ∧ w.grownBy w' none := by
  have H1 := fun W (hg : w.grownBy W none) => mxGood_any p ca u A W (hu.carry hg) ha haa hp0 hp1
  have H2 := fun W (hg : w.grownBy W none) => mxGood_any p cb v M W (hv.carry hg) hm hmm hp0 hp1
  obtain ⟨ua, uc, rfl⟩ := hu.shape
  obtain ⟨va, vc, rfl⟩ := hv.shape
  unfold mxV nilS at *
  unfold mulB at hno
  generalize A.length = la at *
  generalize M.length = lm at *
  have HS := Lib.hid ((((Sep.start w).box #[.int .i64 ca, .slice ua la uc] 39).box #[.int .i64 cb, .slice va lm vc] 39).box #[.int .i64 0, .slice none 0 0] 39)
  have HG := Lib.hid (show w.grownBy _ none from HS.out.tl.tl.tl.hd)
  simp only [show ∀ (W : World) o, (W.alloc o).heap.size = W.heap.size + 1 from fun W o => by simp] at HS
  obtain ⟨y0, y1, _, _⟩ := bx HS.out.s3.hd
  obtain ⟨z0, z1, _, _⟩ := bx HS.out.s2.hd
  clear hu hv haa hmm
  cases h1 : matB p ca A <;> cases h2 : matB p cb M <;> by_cases h3 : ca = (lm : Int)
  all_goals
    rw [h1] at H1
    rw [h2] at H2
    first
      | (exfalso; rw [h1, h2] at hno; simp [h3] at hno; done)
      | (have HA := Lib.hid H1; have HB := Lib.hid H2
         clear H1 H2 h1 h2 hno
         try subst h3
         go_enter Tryd.func62, Tryd.ntmps62
         go_wp2_with (first
           | (go_at_call 121
              with_reducible refine (HA.out _ HG.out).mono ?_
              rintro e w1 ⟨rfl, g1⟩
              have HS1 := Lib.hid (HS.out.grown g1)
              have HG1 := Lib.hid (HG.out.trans g1)
              obtain ⟨x0, x1, x2, x3⟩ := bx HS1.out.hd
              obtain ⟨a0, a1, _, _⟩ := bx HS1.out.s3.hd
              obtain ⟨b0, b1, _, _⟩ := bx HS1.out.s2.hd
              have HQ := Lib.hid ((HS1.out.setB 0 (.int .i64 0)).setB 1 (.slice none 0 0))
              clear g1)
           | (go_at_call 121
              with_reducible refine (HB.out _ HG1.out).mono ?_
              rintro e w2 ⟨rfl, g2⟩
              have HS2 := Lib.hid (HS1.out.grown g2)
              obtain ⟨d0, d1, d2, d3⟩ := bx HS2.out.hd
              obtain ⟨e0, e1, _, _⟩ := bx HS2.out.s3.hd
              obtain ⟨f0, f1, _, _⟩ := bx HS2.out.s2.hd
              have HQ := Lib.hid ((HS2.out.setB 0 (.int .i64 0)).setB 1 (.slice none 0 0))
              clear g2))
         refine bodyPost_ret_by (v := .tuple #[.agg #[.int .i64 0, .slice none 0 0], .bool false]) ?_ rfl ?_
         · simp [results, go_sem, *]
         · exact ⟨rfl, HQ.out.tl.tl.tl.hd⟩)
set_option maxRecDepth 100000 in
set_option maxHeartbeats 1000000 in
theorem sMulMatrices_yes (p ca cb : Int) (u v : Value) (A M : List (List Int)) (w : World) (hu : MatV w u A) (hv : MatV w v M) (hp0 : -1000 ≤ p) (hp1 : p ≤ 1000) (hb : mulB p ca A cb M = true) :
    Calls Tryd.prog 62 #[.int .i64 p, mxV ca u, mxV cb v] w fun e w' => ∃ o vs, e = .returned (.tuple #[mxV cb o, .bool true]) ∧ OwnM w.heap.size w' o vs (timesL p A M cb.toNat) ∧ w.grownBy w' none := by
  have hb0 := hb
  unfold mulB at hb0
  simp only [Bool.and_eq_true, beq_iff_eq] at hb0
  obtain ⟨g1, g2, g3⟩ := hb0
  obtain ⟨q, iq, a, rfl, rfl, hf, hq, hac, hal, hA⟩ := matB_nat g1
  obtain ⟨q', iq', c, e1, rfl, _, _, hcc, hml, hM⟩ := matB_nat g2
  obtain rfl : q = q' := by omega
  obtain rfl : a = M.length := by omega
  have hq2 := lt_p hf
  have H1 := fun W (hg : w.grownBy W none) => mxGood_any q (M.length : Int) u A W (hu.carry hg) (by omega) (fun row hr => by rw [(hA row hr).1]; omega) hp0 hp1
  have H2 := fun W (hg : w.grownBy W none) => mxGood_any q c v M W (hv.carry hg) (by omega) (fun row hr => by rw [(hM row hr).1]; omega) hp0 hp1
  rw [g1] at H1
  rw [g2] at H2
  have HA := Lib.hid H1; have HB := Lib.hid H2
  rw [Int.toNat_natCast]
  have HD := Lib.hid fun W (hg : w.grownBy W none) => mxMul_any q c (M.length : Int) u v A M W (by omega) hq (hu.carry hg) (hv.carry hg) hA hM (by omega) (by omega) (by omega)
  obtain ⟨ua, uc, rfl⟩ := hu.shape
  obtain ⟨va, vc, rfl⟩ := hv.shape
  unfold mxV at *
  generalize timesL q A M c = PL at *
  generalize A.length = la at *
  generalize M.length = lm at *
  have HS := Lib.hid ((((Sep.start w).box #[.int .i64 lm, .slice ua la uc] 39).box #[.int .i64 c, .slice va lm vc] 39).box #[.int .i64 0, .slice none 0 0] 39)
  have HG := Lib.hid (show w.grownBy _ none from HS.out.tl.tl.tl.hd)
  simp only [show ∀ (W : World) o, (W.alloc o).heap.size = W.heap.size + 1 from fun W o => by simp] at HS
  obtain ⟨y0, y1, _, _⟩ := bx HS.out.s3.hd
  obtain ⟨z0, z1, _, _⟩ := bx HS.out.s2.hd
  clear hu hv hA hM hb g1 g2 H1 H2 hf
  go_enter Tryd.func62, Tryd.ntmps62
  go_wp2_with (first
    | (go_at_call 121
       with_reducible refine (HA.out _ HG.out).mono ?_
       rintro e w1 ⟨rfl, g1⟩
       have HS1 := Lib.hid (HS.out.grown g1)
       have HG1 := Lib.hid (HG.out.trans g1)
       obtain ⟨a0, a1, _, _⟩ := bx HS1.out.s3.hd
       obtain ⟨b0, b1, _, _⟩ := bx HS1.out.s2.hd
       clear g1)
    | (go_at_call 121
       with_reducible refine (HB.out _ HG1.out).mono ?_
       rintro e w2 ⟨rfl, g2⟩
       have HS2 := Lib.hid (HS1.out.grown g2)
       have HG2 := Lib.hid (HG1.out.trans g2)
       obtain ⟨e0, e1, _, _⟩ := bx HS2.out.s3.hd
       obtain ⟨f0, f1, _, _⟩ := bx HS2.out.s2.hd
       clear g2)
    | (go_at_call 182
       go_loud (with_reducible refine (HD.out _ HG2.out).mono ?_)
       rintro e w4 ⟨o, vs, rfl, hp, g4⟩
       obtain ⟨ra, rc, hoe, _, _⟩ := own_form hp
       subst hoe
       have HP := Lib.hid hp
       have hsz := lt_of_blk HS2.out.hd
       have HS3 := Lib.hid (HS2.out.grown g4)
       obtain ⟨t0, t1, t2, t3⟩ := bx HS3.out.hd
       have HQ := Lib.hid ((HS3.out.setB 0 (.int .i64 c)).setB 1 (.slice ra PL.length rc))
       clear hp g4))
  have HMM := Lib.hid (HP.out.only (twoS (w := w4) (w.heap.size + 1 + 1) (.int .i64 c) (.slice ra PL.length rc)) (fun k' hf' hk' => by have : k' = w.heap.size + 1 + 1 := hk'; have := (HP.out.lt hf').1; omega))
  generalize PL.length = rl at *
  refine bodyPost_ret_by (v := .tuple #[.agg #[.int .i64 c, .slice ra rl rc], .bool true]) ?_ rfl ⟨_, _, rfl, HMM.out.base (by omega), HQ.out.tl.tl.tl.hd⟩
  simp [results, go_sem, *]
end Go.Proofs.YtpeaeminjbjlnaaDoor

/-
  The program's DeterminantOf, for every matrix. Conditions: small sizes.
-/
namespace Go.Proofs.YtpeaeminjbjlnaaDoor
open Go.RowKit La
set_option linter.unusedVariables false

def sqB (p cols : Int) (M : List (List Int)) : Bool := matB p cols M && decide ((M.length : Int) = cols)
theorem sqB_nat {p cols : Int} {M : List (List Int)} (h : sqB p cols M = true) : ∃ (q : Nat) (_ : NeZero q), p = q ∧ cols = (M.length : Int) ∧ fldN q = true ∧ q ≤ 97 ∧ M.length ≤ 24 ∧ RowsOk q M.length M := by
  unfold sqB at h
  rw [Bool.and_eq_true, decide_eq_true_eq] at h
  obtain ⟨h1, h2⟩ := h
  obtain ⟨q, iq, c, rfl, rfl, hf, hq, _, hm, hok⟩ := matB_nat h1
  obtain rfl : M.length = c := by omega
  exact ⟨q, iq, rfl, rfl, hf, hq, hm, hok⟩
set_option maxRecDepth 100000 in
set_option maxHeartbeats 1000000 in
theorem determinantOf_no (p cols : Int) (u : Value) (M : List (List Int)) (w : World) (ht : Tab w) (hu : MatV w u M) (ha : M.length ≤ 1000000) (haa : ∀ row ∈ M, row.length ≤ 1000000) (hno : sqB p cols M = false) :
    Calls Tryd.prog 64 #[.int .i64 p, mxV cols u] w fun e w' => e = .returned (.tuple #[.int .i64 0, .bool false]) ∧ w.grownBy w' none := by
  have H1 := fun W (hg : w.grownBy W none) => isMatrix_any p cols u M W (ht.grown hg) (hu.carry hg) ha haa
  have H2 := fun W (hg : w.grownBy W none) => isSquare_any cols u M W (hu.carry hg) ha
  obtain ⟨ua, uc, rfl⟩ := hu.shape
  unfold mxV at *
  unfold sqB at hno
  generalize M.length = l at *
  have HS := Lib.hid ((Sep.start w).box #[.int .i64 cols, .slice ua l uc] 39)
  have HG := Lib.hid (show w.grownBy _ none from HS.out.tl.hd)
  obtain ⟨y0, y1, _, _⟩ := bx HS.out.hd
  clear hu haa ht
  cases h1 : matB p cols M <;> cases h2 : decide ((l : Int) = cols)
  all_goals
    rw [h1] at H1
    rw [h2] at H2
    first
      | (exfalso; rw [h1, h2] at hno; cases hno; done)
      | (have HA := Lib.hid H1; have HB := Lib.hid H2
         clear H1 H2 h1 h2 hno
         go_enter Tryd.func64, Tryd.ntmps64
         go_wp2_with (first
           | (go_at_call 117
              with_reducible refine (HA.out _ HG.out).mono ?_
              rintro e w1 ⟨rfl, g1⟩
              have HS1 := Lib.hid (HS.out.grown g1)
              have HG1 := Lib.hid (HG.out.trans g1)
              have HE := HG1
              obtain ⟨a0, a1, _, _⟩ := bx HS1.out.hd
              clear g1)
           | (go_at_call 124
              with_reducible refine (HB.out _ HG1.out).mono ?_
              rintro e w2 ⟨rfl, g2⟩
              have HE := Lib.hid (HG1.out.trans g2)
              clear g2))
         refine bodyPost_ret_by (v := .tuple #[.int .i64 0, .bool false]) ?_ rfl ?_
         · simp [results, go_sem, *]
         · exact ⟨rfl, HE.out⟩)
set_option maxRecDepth 100000 in
set_option maxHeartbeats 1000000 in
theorem determinantOf_yes (q : Nat) [NeZero q] (u : Value) (M : List (List Int)) (w : World) (ht : Tab w) (hu : MatV w u M) (hb : sqB q M.length M = true) :
    Calls Tryd.prog 64 #[.int .i64 q, mxV M.length u] w fun e w' => ∃ d, e = .returned (.tuple #[.int .i64 d, .bool true]) ∧ 0 ≤ d ∧ d < q ∧ Ldet M.length (mx q M) = toF q d ∧ w.grownBy w' none := by
  obtain ⟨q', _, e1, _, hf, hq, hm, hok⟩ := sqB_nat hb
  obtain rfl : q' = q := by omega
  unfold sqB at hb
  rw [Bool.and_eq_true] at hb
  have H1 := fun W (hg : w.grownBy W none) => isMatrix_any q' M.length u M W (ht.grown hg) (hu.carry hg) (by omega) (fun row hr => by rw [(hok row hr).1]; omega)
  have H2 := fun W (hg : w.grownBy W none) => isSquare_any M.length u M W (hu.carry hg) (by omega)
  rw [hb.1] at H1
  rw [hb.2] at H2
  have HD := Lib.hid fun W (hg : w.grownBy W none) => determinant_any q' u M M.length W hf (hu.carry hg) hok rfl (by omega)
  have HA := Lib.hid H1; have HB := Lib.hid H2
  obtain ⟨ua, uc, rfl⟩ := hu.shape
  unfold mxV at *
  generalize Ldet M.length (mx q' M) = DT at *
  clear hok hb H1 H2 ht hu hf e1
  generalize M.length = l at *
  have HS := Lib.hid ((Sep.start w).box #[.int .i64 l, .slice ua l uc] 39)
  have HG := Lib.hid (show w.grownBy _ none from HS.out.tl.hd)
  obtain ⟨y0, y1, _, _⟩ := bx HS.out.hd
  go_enter Tryd.func64, Tryd.ntmps64
  go_wp2_with (first
    | (go_at_call 117
       with_reducible refine (HA.out _ HG.out).mono ?_
       rintro e w1 ⟨rfl, g1⟩
       have HS1 := Lib.hid (HS.out.grown g1)
       have HG1 := Lib.hid (HG.out.trans g1)
       obtain ⟨a0, a1, _, _⟩ := bx HS1.out.hd
       clear g1)
    | (go_at_call 124
       with_reducible refine (HB.out _ HG1.out).mono ?_
       rintro e w2 ⟨rfl, g2⟩
       have HS2 := Lib.hid (HS1.out.grown g2)
       have HG2 := Lib.hid (HG1.out.trans g2)
       obtain ⟨b0, b1, _, _⟩ := bx HS2.out.hd
       clear g2)
    | (go_at_call 184
       with_reducible refine (HD.out _ HG2.out).mono ?_
       rintro e w3 ⟨d, rfl, h0, h1, h2, g3⟩
       have HG3 := Lib.hid (HG2.out.trans g3)
       have HDT := Lib.hid h2
       clear g3 h2))
  refine bodyPost_ret_by (v := .tuple #[.int .i64 d, .bool true]) ?_ rfl ⟨d, rfl, h0, h1, HDT.out, HG3.out⟩
  simp [results, go_sem, *]
/-- what DeterminantOf answers, whatever the matrix is -/
theorem det_some (p cols : Int) (M : List (List Int)) : ∃ (b : Bool) (d : Int), b = sqB p cols M ∧ (∀ (q : Nat) [NeZero q], p = q → b = true → 0 ≤ d ∧ d < q ∧ Ldet M.length (mx q M) = toF q d) ∧
    ∀ (u : Value) (W : World), Tab W → MatV W u M → Small 1000 M → Calls Tryd.prog 64 #[.int .i64 p, mxV cols u] W fun e w' => e = .returned (.tuple #[.int .i64 d, .bool b]) ∧ W.grownBy w' none := by
  cases hb : sqB p cols M
  · refine ⟨false, 0, rfl, (fun q _ _ h => by cases h), fun u W ht hu hs => ?_⟩
    exact determinantOf_no p cols u M W ht hu (Nat.le_trans hs.1 (by decide)) (fun row hr => Nat.le_trans (hs.2 row hr) (by decide)) hb
  · obtain ⟨q, iq, rfl, rfl, hf, hq, hm, hok⟩ := sqB_nat hb
    have hv := toF_back (Ldet M.length (mx q M))
    refine ⟨true, (Ldet M.length (mx q M)).val, rfl, fun q' _ e _ => ?_, fun u W ht hu hs => ?_⟩
    · obtain rfl : q = q' := by omega
      exact ⟨by omega, by have := (Ldet M.length (mx q M)).isLt; omega, hv.symm⟩
    · refine (determinantOf_yes q u M W ht hu hb).mono ?_
      rintro e w' ⟨d, rfl, h0, h1, h2, g⟩
      obtain rfl : d = ((Ldet M.length (mx q M)).val : Int) := toF_inj h0 h1 (by omega) (by have := (Ldet M.length (mx q M)).isLt; omega) (by rw [hv, h2])
      exact ⟨rfl, g⟩
end Go.Proofs.YtpeaeminjbjlnaaDoor

/-
  A list of rows that can be read, whatever is changed outside of its own blocks: a part of memory that nothing writes. Conditions: none.
-/
namespace Go.Proofs.YtpeaeminjbjlnaaDoor
open Go.RowKit
set_option linter.unusedVariables false

def MVA (S : Nat → Prop) (v : Value) (L : List (List Int)) : Asrt where
  foot := fun _ => False
  sees := S
  holds := fun W => (∀ k, S k → k < W.heap.size) ∧ ∀ W', Only (fun k => ¬ S k) W W' → MatV W' v L
  sub := fun _ h => h.elim
  lt := fun W k h hk => h.1 k hk
  keep := fun W W' h ho => ⟨fun k hk => Nat.lt_of_lt_of_le (h.1 k hk) ho.size, fun W'' h2 => h.2 W'' (ho.trans h2)⟩
def IVA (S : Nat → Prop) (v : Value) (zs : List Int) : Asrt where
  foot := fun _ => False
  sees := S
  holds := fun W => (∀ k, S k → k < W.heap.size) ∧ ∀ W', Only (fun k => ¬ S k) W W' → IntsV W' v zs
  sub := fun _ h => h.elim
  lt := fun W k h hk => h.1 k hk
  keep := fun W W' h ho => ⟨fun k hk => Nat.lt_of_lt_of_le (h.1 k hk) ho.size, fun W'' h2 => h.2 W'' (ho.trans h2)⟩
section
variable {w : World} {l : List Asrt} {v : Value} {vs : List Value} {L : List (List Int)} {S : Nat → Prop}
theorem Sep.readV (h : Sep w (MVA S v L :: l)) : MatV w v L := h.hd.2 w (Only.refl _ _)
theorem Sep.readI {zs : List Int} (h : Sep w (IVA S v zs :: l)) : IntsV w v zs := h.hd.2 w (Only.refl _ _)
/-- an own list, from now on only read -/
theorem Sep.mv (h : Sep w (OM v vs L :: l)) : Sep w (MVA (Foot v vs) v L :: l) :=
  ⟨⟨fun k hk => (h.hd.lt hk).2, fun W' ho => (h.hd.only ho fun k hf hk => hk hf).read⟩, fun C hC => ⟨fun _ hf => hf.elim, fun k hf => (h.2.1 C hC).2 k hf⟩, h.2.2⟩
theorem Sep.iv {zs : List Int} (h : Sep w (OI v zs :: l)) : Sep w (IVA (Hits v) v zs :: l) :=
  ⟨⟨fun k hk => (h.hd.lt k hk).2, fun W' ho => (h.hd.only ho fun k hf hk => hk hf).read⟩, fun C hC => ⟨fun _ hf => hf.elim, fun k hf => (h.2.1 C hC).2 k hf⟩, h.2.2⟩
theorem keep_grown {w w' : World} (h : Only (fun k => ¬ k < w.heap.size) w w') : w.grownBy w' none :=
  ⟨h.os, h.tape, h.output, h.size, fun k hk _ => h.block k hk fun hn => hn hk⟩
theorem Sep.startV (hu : MatV w v L) : Sep w [MVA (fun k => k < w.heap.size) v L, KeepA w] :=
  (Sep.start w).share ⟨fun k hk => hk, fun W' ho => hu.carry (keep_grown ho)⟩ (fun _ h => h) fun C hC k hk => by
    rw [List.mem_singleton] at hC
    subst hC
    exact hk.elim
/-- what was read of old stays readable -/
theorem MVA.old (hu : MatV w v L) : (MVA (fun k => k < w.heap.size) v L).holds w := ⟨fun k hk => hk, fun W' ho => hu.carry (keep_grown ho)⟩
end
end Go.Proofs.YtpeaeminjbjlnaaDoor

/-
  The plain laws of the matrix ring: transposition of products, determinants of products, powers, solutions. Plain mathematics. Conditions: a field of the program's kind; rows of one length.
-/
namespace Go.Proofs.YtpeaeminjbjlnaaDoor
open La
set_option linter.unusedVariables false
section mrl
variable {p : Nat} [NeZero p]

/-! ### determinants -/
theorem stepWith_mx {m n c k : Nat} {s : St} (hf : fldN p = true) (lR : s.R.length = m) (okR : RowsOk p n s.R) (hk : s.r ≤ k) (hkm : k < m) (hy : at2 s.R k c ≠ 0) :
    ∃ y z : Fin p, z * y = 1 ∧ ∀ i, i < m → ∀ j, mx p (stepWith p c k s).R i j = La.clear m s.r c (scale s.r y fun i => mx p s.R (tw s.r k i)) (scale s.r y fun i => mx p s.R (tw s.r k i)) i j := by
  have hrm : s.r < m := by omega
  have l1 := swapL_len s.R s.r k
  have o1 := swapL_ok okR (a := s.r) (b := k) (by omega) (by omega)
  generalize hy' : invI p (at2 (swapL s.R s.r k) s.r c) = y
  have hat : at2 (swapL s.R s.r k) s.r c = at2 s.R k c := by
    unfold at2
    rw [swapL_get (by omega) (by omega)]
    simp [tw]
  have hinv : mx p s.R k c * toF p y = 1 := by
    have hb := at2_ok (i := k) (c := c) okR
    rw [mx_at2, ← hy', hat]
    exact toF_inv hf (by omega) hb.2
  have l3 := divL_len (p := p) (swapL s.R s.r k) s.r y
  have o3 := divL_ok o1 (r := s.r) (by omega) y
  have e : (stepWith p c k s).R = clearL p (divL p (swapL s.R s.r k) s.r y) c s.r (divL p (swapL s.R s.r k) s.r y) := by
    unfold stepWith
    simp only [hy']
  have eR : ∀ i j, mx p (divL p (swapL s.R s.r k) s.r y) i j = scale s.r (toF p y) (fun i => mx p s.R (tw s.r k i)) i j := by
    intro i j
    rw [mx_divL (by omega)]
    unfold La.scale
    rw [mx_swapL (by omega) (by omega)]
  refine ⟨toF p y, mx p s.R k c, hinv, fun i hi j => ?_⟩
  rw [e, mx_clearL o3 (by omega) hrm i hi]
  unfold La.clear
  simp only [eR]
theorem det_red {m n : Nat} {A T : List (List Int)} (hf : fldN p = true) (hA : RowsOk p n A) (hT : RowsOk p m T) (lA : A.length = m) (lT : T.length = m) : ∀ c, c ≤ n → DetTo m (mx p A) (mx p (redTo p A T c).R) := by
  intro c
  induction c with
  | zero => intro _; exact DetTo.refl _ _
  | succ c ih =>
    intro hc
    have h := ih (by omega)
    have g := (red_inv hf hA hT lA lT c (by omega)).1
    obtain ⟨piv, he⟩ := g.elim
    have hrm := he.rm
    have lR := g.lenR
    have okR := g.okR
    show DetTo m (mx p A) (mx p (stepL p c (redTo p A T c)).R)
    generalize redTo (p : Int) A T c = s at *
    unfold stepL
    cases hp : pivAt s.R c s.r with
    | none => exact h
    | some k =>
      obtain ⟨h1, h2, h3⟩ := pivAt_some (by omega) hp
      obtain ⟨y, z, hyz, hmx⟩ := stepWith_mx hf lR okR h1 (by omega) h3
      exact (h.step (c := c) (show s.r < m by omega) (show k < m by omega) hyz).congr fun i hi j _ => (hmx i hi j).symm
theorem piv_full {m : Nat} {piv : Nat → Nat} (lt : ∀ i, i < m → piv i < m) (inc : ∀ i j, i < j → j < m → piv i < piv j) : ∀ i, i < m → piv i = i := by
  have low : ∀ i, i < m → i ≤ piv i := by
    intro i
    induction i with
    | zero => intro _; omega
    | succ i ih =>
      intro hi
      have h1 := ih (by omega)
      have h2 := inc i (i + 1) (by omega) hi
      omega
  have hig : ∀ d i, i + d + 1 = m → piv i ≤ i := by
    intro d
    induction d with
    | zero => intro i hi; have := lt i (by omega); omega
    | succ d ih =>
      intro i hi
      have h1 := ih (i + 1) (by omega)
      have h2 := inc i (i + 1) (by omega) (by omega)
      omega
  intro i hi
  have h1 := low i hi
  have h2 := hig (m - i - 1) i (by omega)
  omega
theorem prod_id {m : Nat} (A : Mx p) : ∀ i, i < m → ∀ j, j < m → prodM m A (fun i j => if i = j then 1 else 0) i j = A i j := by
  intro i _ j hj
  exact comb_delta hj _ fun t ht => rfl
theorem det_prod {m : Nat} {A : List (List Int)} (hf : fldN p = true) (hA : RowsOk p m A) (hl : A.length = m) (B : Mx p) : Ldet m (prodM m (mx p A) B) = Ldet m (mx p A) * Ldet m B := by
  have hT : RowsOk p m (idL m) := idL_ok (lt_p hf)
  obtain ⟨s, hs⟩ := (det_red hf hA hT hl (idL_len m) m (Nat.le_refl _)).ex
  have g := ge hf hA hl
  have hA1 : Ldet m (mx p A) = s * Ldet m (mx p (redTo p A (idL m) m).R) := by
    rw [← Ldet_congr m (prod_id (mx p A)), hs, Ldet_congr m (prod_id _)]
  rw [hs, hA1]
  obtain ⟨piv, hrr, hcol⟩ := g.rr
  have hlow := g.low
  have hrm := g.rm
  generalize redTo (p : Int) A (idL m) m = t at *
  by_cases hr : t.r = m
  · rw [hr] at hrr
    have hpv := piv_full hrr.lt hrr.inc
    have hid : ∀ i, i < m → ∀ j, j < m → mx p t.R i j = if i = j then 1 else 0 := by
      intro i hi j hj
      have hpj := hpv j hj
      by_cases e : i = j
      · subst e
        rw [if_pos rfl]
        have := hrr.one i hi
        rwa [hpj] at this
      · rw [if_neg e]
        have := hrr.col j i hj hi e
        rwa [hpj] at this
    have h1 : Ldet m (mx p t.R) = 1 := by rw [Ldet_congr m hid, Ldet_id]
    have h2 : Ldet m (prodM m (mx p t.R) B) = Ldet m B := by
      refine Ldet_congr m fun i hi j hj => ?_
      show comb m (mx p t.R i) B j = _
      rw [comb_congr (fun t ht => hid i hi t ht) (fun _ _ => rfl), comb_delta' hi]
    rw [h1, h2]
    grind
  · have h1 : Ldet m (mx p t.R) = 0 := Ldet_zero_row (r := t.r) (by omega) fun j hj => hlow t.r j (Nat.le_refl _) (by omega) hj
    have h2 : Ldet m (prodM m (mx p t.R) B) = 0 := Ldet_zero_row (r := t.r) (by omega) fun j hj => by
      show comb m (mx p t.R t.r) B j = 0
      unfold comb
      exact S_zero' fun i hi => by rw [hlow t.r i (Nat.le_refl _) (by omega) hi]; grind
    rw [h1, h2]
    grind
theorem det_times {m : Nat} {A B : List (List Int)} (hf : fldN p = true) (hA : RowsOk p m A) (hB : RowsOk p m B) (la : A.length = m) (lb : B.length = m) :
    Ldet m (mx p (timesL p A B m)) = Ldet m (mx p A) * Ldet m (mx p B) := by
  rw [← det_prod hf hA la]
  refine Ldet_congr m fun i hi j hj => ?_
  rw [mx_timesL (lt_p hf) hB (by omega) hj, lb]
  rfl

/-! ### transposition -/
theorem trans_times {n : Nat} {A B : List (List Int)} (hp : 1 < p) (hA : RowsOk p B.length A) (hB : RowsOk p n B) :
    timesL p (transL B n) (transL A B.length) A.length = transL (timesL p A B n) n := by
  have oA := transL_ok hA
  have oC := transL_ok (timesL_ok (X := A) hp hB)
  rw [timesL_len] at oC
  refine rows_ext (m := n) (timesL_ok hp oA) oC (by rw [timesL_len, transL_len]) (transL_len _ _) fun i hi j hj => ?_
  rw [mx_timesL hp oA (by rw [transL_len]; exact hi) hj, mx_transL hi (by rw [timesL_len]; exact hj), mx_timesL hp hB hj hi, transL_len]
  unfold comb
  exact S_congr fun t ht => by rw [mx_transL hi ht, mx_transL ht hj]; grind

/-! ### powers -/
theorem times_assoc {n k : Nat} {A B C : List (List Int)} (hp : 1 < p) (hA : RowsOk p B.length A) (hB : RowsOk p C.length B) (hC : RowsOk p k C) :
    timesL p (timesL p A B C.length) C k = timesL p A (timesL p B C k) k := by
  refine rows_ext (m := A.length) (timesL_ok hp hC) (timesL_ok hp (timesL_ok hp hC)) (by rw [timesL_len, timesL_len]) (timesL_len _ _ _ _) fun i hi j hj => ?_
  rw [mx_timesL hp hC (by rw [timesL_len]; exact hi) hj, mx_timesL hp (timesL_ok hp hC) hi hj, timesL_len]
  rw [comb_congr (x := mx p (timesL p A B C.length) i) (y := fun t => comb B.length (mx p A i) (mx p B) t) (fun t ht => mx_timesL hp hB hi ht) (fun _ _ => rfl), comb_comb]
  exact comb_congr (fun _ _ => rfl) fun t ht => (mx_timesL hp hC ht hj).symm
theorem times_id {n : Nat} {A : List (List Int)} (hp : 1 < p) (hA : RowsOk p n A) : timesL p A (idL n) n = A := by
  refine rows_ext (m := A.length) (timesL_ok hp (idL_ok hp)) hA (timesL_len _ _ _ _) rfl fun i hi j hj => ?_
  rw [mx_timesL hp (idL_ok hp) hi hj, idL_len]
  exact comb_delta hj _ fun t ht => mx_idL ht hj
theorem id_times {n : Nat} {A : List (List Int)} (hp : 1 < p) (hA : RowsOk p n A) (hl : A.length = n) : timesL p (idL n) A n = A := by
  refine rows_ext (m := n) (timesL_ok hp hA) hA (by rw [timesL_len, idL_len]) hl fun i hi j hj => ?_
  rw [mx_timesL hp hA (by rw [idL_len]; exact hi) hj, hl, comb_congr (y := fun t => if i = t then 1 else 0) (fun t ht => mx_idL hi ht) (fun _ _ => rfl)]
  exact comb_delta' hi _ j
end mrl
/-- powers -/
def pwL (p : Int) (n : Nat) (M : List (List Int)) : Nat → List (List Int)
  | 0 => idL n
  | k + 1 => timesL p (pwL p n M k) M n
section mrl2
variable {p : Nat} [NeZero p]
theorem pw_ok {n : Nat} {M : List (List Int)} (hp : 1 < p) (hM : RowsOk p n M) : ∀ k, RowsOk p n (pwL p n M k)
  | 0 => idL_ok hp
  | k + 1 => timesL_ok hp hM
theorem pw_len (q : Int) {n : Nat} (M : List (List Int)) : ∀ k, (pwL q n M k).length = n
  | 0 => idL_len _
  | k + 1 => (timesL_len _ _ _ _).trans (pw_len q M k)
theorem pw_add {n : Nat} {M : List (List Int)} (hp : 1 < p) (hM : RowsOk p n M) (hl : M.length = n) (a : Nat) : ∀ b, timesL p (pwL p n M a) (pwL p n M b) n = pwL p n M (a + b) := by
  intro b
  induction b with
  | zero => exact times_id hp (pw_ok hp hM a)
  | succ b ih =>
    show timesL p (pwL p n M a) (timesL p (pwL p n M b) M n) n = timesL p (pwL p n M (a + b)) M n
    have h := times_assoc (n := n) (k := n) (A := pwL p n M a) (B := pwL p n M b) (C := M) hp (by rw [pw_len]; exact pw_ok hp hM a) (by rw [hl]; exact pw_ok hp hM b) hM
    rw [hl, ih] at h
    exact h.symm
theorem pw_one {n : Nat} {M : List (List Int)} (hp : 1 < p) (hM : RowsOk p n M) (hl : M.length = n) : pwL p n M 1 = M := id_times hp hM hl

/-! ### solutions -/
def solveB (p : Int) (c : Nat) (M : List (List Int)) (b : List Int) : Bool := hasB p c (reducedL p c M) b
def solveL (p : Int) (c : Nat) (M : List (List Int)) (b : List Int) : List Int :=
  combTo p (coordsL (reducedL p c M) b) ((redTo p M (idL M.length) c).T.take (reducedL p c M).length) M.length (reducedL p c M).length
theorem solve_ok {c : Nat} {M : List (List Int)} {b : List Int} (hf : fldN p = true) (hM : RowsOk p c M) : VecOk p M.length (solveL p c M b) := by
  have g := ge hf hM rfl
  have hrl : (reducedL p c M).length = (redTo p M (idL M.length) c).r := by rw [reducedL_len hf hM, rankL_eq]
  exact combTo_ok (lt_p hf) (take_ok g.okT) _ (by rw [List.length_take, g.lenT, hrl]; have := g.rm; omega)
theorem solve_solves {c : Nat} {M : List (List Int)} {b : List Int} (hf : fldN p = true) (hM : RowsOk p c M) (hb : VecOk p c b) (h : solveB p c M b = true) : combTo p (solveL p c M b) M c M.length = b := by
  have g := ge hf hM rfl
  have hrl : (reducedL p c M).length = (redTo p M (idL M.length) c).r := by rw [reducedL_len hf hM, rankL_eq]
  unfold solveB hasB at h
  rw [beq_iff_eq] at h
  have hR := reducedL_eq (p : Int) c M (idL M.length)
  have hrm := g.rm
  have hmade := g.inv.made
  have okR := g.okR
  have okT := g.okT
  have lR := g.lenR
  have lT := g.lenT
  unfold solveL
  generalize redTo (p : Int) M (idL M.length) c = s at *
  generalize coordsL (reducedL p c M) b = x at *
  rw [hrl] at h ⊢
  rw [hR] at h
  refine vec_ext (combTo_ok (lt_p hf) hM _ (Nat.le_refl _)) hb fun j hj => ?_
  rw [vec_combTo (lt_p hf) hM (Nat.le_refl _) hj, ← h, vec_combTo (lt_p hf) (take_ok okR) (by rw [List.length_take, lR]; omega) hj]
  have e1 : S M.length (fun i => vec p (combTo p x (s.T.take s.r) M.length s.r) i * mx p M i j) = comb M.length (fun t => comb s.r (vec p x) (mx p s.T) t) (mx p M) j := by
    unfold comb
    refine S_congr fun i hi => ?_
    rw [vec_combTo (lt_p hf) (take_ok okT) (by rw [List.length_take, lT]; omega) hi]
    refine congrArg (· * mx p M i j) (S_congr fun t ht => ?_)
    rw [mx_take ht]
  rw [e1, comb_comb]
  unfold comb
  refine S_congr fun t ht => ?_
  rw [mx_take ht, hmade t (by omega) j hj]
  rfl
end mrl2
end Go.Proofs.YtpeaeminjbjlnaaDoor

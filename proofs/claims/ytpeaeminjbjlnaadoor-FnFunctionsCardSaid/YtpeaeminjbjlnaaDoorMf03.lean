/-
  What the law of functions asks of the lists; products that are refused. Conditions: small sizes.
-/
import Derived.Test.YtpeaeminjbjlnaaDoorMf02
import Derived.Test.YtpeaeminjbjlnaaDoorMr01
import Derived.Test.YtpeaeminjbjlnaaDoorMv04
import Derived.Test.YtpeaeminjbjlnaaDoorMv06
import Derived.Test.YtpeaeminjbjlnaaDoorMv05
namespace Go.Proofs.YtpeaeminjbjlnaaDoor
open Go.RowKit La
set_option linter.unusedVariables false

def mulB (p ca : Int) (A : List (List Int)) (cb : Int) (B : List (List Int)) : Bool := matB p ca A && (matB p cb B && ca == (B.length : Int))
set_option maxRecDepth 100000 in
set_option maxHeartbeats 1000000 in
theorem mulMatrices_no (p ca cb : Int) (u v : Value) (A M : List (List Int)) (w : World) (ht : Tab w) (hu : MatV w u A) (hv : MatV w v M) (ha : A.length ≤ 1000000) (haa : ∀ row ∈ A, row.length ≤ 1000000) (hm : M.length ≤ 1000000) (hmm : ∀ row ∈ M, row.length ≤ 1000000) (hno : mulB p ca A cb M = false) :
    Calls Tryd.prog 29 #[.int .i64 p, mxV ca u, mxV cb v] w fun e w' => e = .returned (.tuple #[mxV 0 nilS, .bool false]) ∧ w.grownBy w' none := by
  have H1 := fun W (hg : w.grownBy W none) => isMatrix_any p ca u A W (ht.grown hg) (hu.carry hg) ha haa
  have H2 := fun W (hg : w.grownBy W none) => isMatrix_any p cb v M W (ht.grown hg) (hv.carry hg) hm hmm
  obtain ⟨ua, uc, rfl⟩ := hu.shape
  obtain ⟨va, vc, rfl⟩ := hv.shape
  unfold mxV nilS at *
  unfold mulB at hno
  generalize A.length = la at *
  generalize M.length = lm at *
  have HS := Lib.hid ((((Sep.start w).box #[.int .i64 ca, .slice ua la uc] 39).box #[.int .i64 cb, .slice va lm vc] 39).box #[.int .i64 0, .slice none 0 0] 39)
  have HG := Lib.hid (show w.grownBy _ none from HS.out.tl.tl.tl.hd)
  simp only [show ∀ (W : World) o, (W.alloc o).heap.size = W.heap.size + 1 from fun W o => by simp] at HS
  obtain ⟨y0, y1, _, _⟩ := bx HS.out.s3.hd
  obtain ⟨z0, z1, _, _⟩ := bx HS.out.s2.hd
  clear hu hv haa hmm ht
  cases h1 : matB p ca A <;> cases h2 : matB p cb M <;> by_cases h3 : ca = (lm : Int)
  all_goals
    rw [h1] at H1
    rw [h2] at H2
    first
      | (exfalso; rw [h1, h2] at hno; simp [h3] at hno; done)
      | (have HA := Lib.hid H1; have HB := Lib.hid H2
         clear H1 H2 h1 h2 hno
         try subst h3
         go_enter Tryd.func29, Tryd.ntmps29
         go_wp2_with (first
           | (go_at_call 117
              with_reducible refine (HA.out _ HG.out).mono ?_
              rintro e w1 ⟨rfl, g1⟩
              have HS1 := Lib.hid (HS.out.grown g1)
              have HG1 := Lib.hid (HG.out.trans g1)
              obtain ⟨x0, x1, x2, x3⟩ := bx HS1.out.hd
              obtain ⟨a0, a1, _, _⟩ := bx HS1.out.s3.hd
              obtain ⟨b0, b1, _, _⟩ := bx HS1.out.s2.hd
              have HQ := Lib.hid ((HS1.out.setB 0 (.int .i64 0)).setB 1 (.slice none 0 0))
              clear g1)
           | (go_at_call 117
              with_reducible refine (HB.out _ HG1.out).mono ?_
              rintro e w2 ⟨rfl, g2⟩
              have HS2 := Lib.hid (HS1.out.grown g2)
              obtain ⟨d0, d1, d2, d3⟩ := bx HS2.out.hd
              obtain ⟨e0, e1, _, _⟩ := bx HS2.out.s3.hd
              obtain ⟨f0, f1, _, _⟩ := bx HS2.out.s2.hd
              have HQ := Lib.hid ((HS2.out.setB 0 (.int .i64 0)).setB 1 (.slice none 0 0))
              clear g2))
         refine bodyPost_ret_by (v := .tuple #[.agg #[.int .i64 0, .slice none 0 0], .bool false]) ?_ rfl ?_
         · simp [results, go_sem, *]
         · exact ⟨rfl, HQ.out.tl.tl.tl.hd⟩)

/-- what a matrix's relation answers, whatever the matrix is -/
theorem matrel_some (p cols : Int) (M : List (List Int)) : ∃ (b : Bool) (l' r' : Int) (K : List (List Int)), b = mrB p cols M ∧ (b = true → l' = M.length ∧ r' = cols ∧ K = matRel M) ∧ Small 24 K ∧
    ∀ (u : Value) (W : World), Tab W → MatV W u M → Small 1000 M → Calls Tryd.prog 81 #[.int .i64 p, mxV cols u] W fun e w' => ∃ o, e = .returned (.tuple #[rlV l' r' o, .bool b]) ∧ MatC w' o K ∧ W.grownBy w' none := by
  cases hb : mrB p cols M
  · refine ⟨false, 0, 0, [], rfl, (fun h => by cases h), ⟨by simp, fun r hr => by simp at hr⟩, fun u W ht hu hs => ?_⟩
    refine (matrixRelation_no p cols u M W ht hu (Nat.le_trans hs.1 (by decide)) (fun row hr => Nat.le_trans (hs.2 row hr) (by decide)) hb).mono ?_
    rintro e w' ⟨rfl, g⟩
    exact ⟨nilS, rfl, (OwnM.start (B := 0) (World.ownsRow_nil _ _ _ _)).readC, g⟩
  · obtain ⟨q, iq, c, rfl, rfl, hf, hq, hmc, hok⟩ := mrB_parts hb
    refine ⟨true, M.length, c, matRel M, rfl, fun _ => ⟨rfl, rfl, rfl⟩, (matRel_red (lt_p hf) hok).small hmc, fun u W ht hu hs => ?_⟩
    refine (matrixRelation_yes q c u M W ht hu hb).mono ?_
    rintro e w' ⟨o, vs, rfl, hp, g⟩
    exact ⟨o, rfl, hp.readC, g⟩
/-- what a product answers, whatever the matrices are -/
theorem mul_some (p ca : Int) (A : List (List Int)) (cb : Int) (B : List (List Int)) : ∃ (b : Bool) (c' : Int) (K : List (List Int)), b = mulB p ca A cb B ∧ (b = true → c' = cb ∧ K = timesL p A B cb.toNat) ∧ Small 24 K ∧
    ∀ (u v : Value) (W : World), Tab W → MatV W u A → MatV W v B → Small 1000 A → Small 1000 B → Calls Tryd.prog 29 #[.int .i64 p, mxV ca u, mxV cb v] W fun e w' => ∃ o, e = .returned (.tuple #[mxV c' o, .bool b]) ∧ MatV w' o K ∧ W.grownBy w' none := by
  cases hb : mulB p ca A cb B
  · refine ⟨false, 0, [], rfl, (fun h => by cases h), ⟨by simp, fun r hr => by simp at hr⟩, fun u v W ht hu hv ha hc => ?_⟩
    refine (mulMatrices_no p ca cb u v A B W ht hu hv (Nat.le_trans ha.1 (by decide)) (fun row hr => Nat.le_trans (ha.2 row hr) (by decide)) (Nat.le_trans hc.1 (by decide)) (fun row hr => Nat.le_trans (hc.2 row hr) (by decide)) hb).mono ?_
    rintro e w' ⟨rfl, g⟩
    exact ⟨nilS, rfl, nil_mat' _, g⟩
  · have hb0 := hb
    unfold mulB at hb0
    simp only [Bool.and_eq_true, beq_iff_eq] at hb0
    obtain ⟨h1, h2, h3⟩ := hb0
    have hfb : fldB p = true := by
      have h := h1
      unfold matB at h
      rw [Bool.and_eq_true] at h
      exact h.1
    obtain ⟨a1, a2⟩ := fldB_bd hfb
    obtain ⟨q, rfl⟩ := Int.eq_ofNat_of_zero_le (show 0 ≤ p by omega)
    haveI : NeZero q := ⟨by omega⟩
    obtain ⟨_, _, n, rfl, hn, hm, hB⟩ := matB_parts h2
    have hl : A.length ≤ 24 := (mat_bd h1).2.2
    refine ⟨true, n, _, rfl, fun _ => ⟨rfl, rfl⟩, ?_, fun u v W ht hu hv ha hc => mulMatrices_yes q ca n u v A B W ht hu hv h1 h2 h3⟩
    rw [Int.toNat_natCast]
    exact ⟨by rw [timesL_len]; exact hl, fun row hr => by rw [(timesL_ok (p := q) (X := A) (by omega) hB row hr).1]; exact hn⟩

/-- a matrix's relation is total and single-valued and has the matrix back -/
theorem matRel_fn {q c : Nat} [NeZero q] {M : List (List Int)} (hf : fldN q = true) (hM : RowsOk q c M) : totB q M.length (matRel M) = true ∧ sglB M.length (matRel M) = true ∧ ((matRel M).map fun x => x.drop M.length) = M := by
  have hat : ∀ t, t < M.length → (matRel M).getD t [] = matRow M.length M t := by
    intro t ht
    unfold matRel
    rw [List.getD_eq_getElem?_getD, List.getElem?_map, List.getElem?_range ht]
    rfl
  have hul : ∀ t, (unitL M.length t).length = M.length := fun t => by simp [unitL]
  refine ⟨?_, ?_, ?_⟩
  · unfold totB domL
    rw [matRel_total hf hM]
    simp
  · refine sgl_yes fun t ht => ?_
    rw [matRel_len] at ht
    rw [hat t ht]
    unfold matRow
    rw [List.take_append_of_le_length (by rw [hul]; exact Nat.le_refl _), List.take_of_length_le (by rw [hul]; exact Nat.le_refl _)]
    unfold zeroB leadL
    rw [beq_eq_false_iff_ne, hul]
    intro h
    have h1 : (unitL M.length t).findIdx (fun x => x != 0) < (unitL M.length t).length := by
      refine List.findIdx_lt_length_of_exists ⟨1, ?_, by decide⟩
      unfold unitL
      exact List.mem_set (by simpa using ht) 1
    rw [hul] at h1
    omega
  · refine List.ext_getElem (by rw [List.length_map, matRel_len]) fun t h1 h2 => ?_
    rw [List.getElem_map]
    have h3 : (matRel M)[t]'(by rw [matRel_len]; exact h2) = matRow M.length M t := by
      have := hat t h2
      rwa [getD_at (by rw [matRel_len]; exact h2)] at this
    rw [h3]
    unfold matRow
    rw [List.drop_append_of_le_length (by rw [hul]; exact Nat.le_refl _), List.drop_of_length_le (by rw [hul]; exact Nat.le_refl _), List.nil_append, getD_at h2]
end Go.Proofs.YtpeaeminjbjlnaaDoor

/-
  The answers that the law of functions asks for. Plain facts. Conditions: small sizes.
-/
namespace Go.Proofs.YtpeaeminjbjlnaaDoor
open Go.RowKit
set_option linter.unusedVariables false

theorem pSame_m (c : Int) (u v : Value) (w : World) {A : List (List Int)} (hu : MatV w u A) (hv : MatV w v A) (hs : Small 1000 A) :
    Calls Tryd.prog 28 #[.agg #[.int .i64 c, u], .agg #[.int .i64 c, v]] w fun e w' => e = .returned (.bool true) ∧ w.grownBy w' none := by
  have h := pSame_any c c u v A A w hu hv (Nat.le_trans hs.1 (by decide)) (Nat.le_trans hs.1 (by decide)) (fun row hr => Nat.le_trans (hs.2 row hr) (by decide)) (fun row hr => Nat.le_trans (hs.2 row hr) (by decide))
  rw [show (c == c && A == A) = true by simp] at h
  exact h
structure FnNo (p ca : Int) (u : Value) (w : World) : Prop where
  h1 : ∀ W, w.grownBy W none → Calls Tryd.prog 81 #[.int .i64 p, mxV ca u] W fun e w' => e = .returned (.tuple #[rlV 0 0 nilS, .bool false]) ∧ W.grownBy w' none
  h2 : ∀ W, w.grownBy W none → Calls Tryd.prog 82 #[.int .i64 p, mxV ca u] W fun e w' => e = .returned (.tuple #[rlV 0 0 nilS, .bool false]) ∧ W.grownBy w' none
structure FnYes (q n c : Nat) (u : Value) (A X : List (List Int)) (w : World) : Prop where
  h1 : ∀ W, w.grownBy W none → Calls Tryd.prog 81 #[.int .i64 q, mxV c u] W fun e w' => ∃ o, e = .returned (.tuple #[rlV n c o, .bool true]) ∧ MatC w' o X ∧ W.grownBy w' none
  h2 : ∀ W, w.grownBy W none → Calls Tryd.prog 82 #[.int .i64 q, mxV c u] W fun e w' => ∃ o, e = .returned (.tuple #[rlV n c o, .bool true]) ∧ MatC w' o X ∧ W.grownBy w' none
  h3 : ∀ W o, w.grownBy W none → MatC W o X → Calls Tryd.prog 83 #[.int .i64 q, rlV n c o] W fun e w' => e = .returned (.tuple #[.bool true, .bool true]) ∧ W.grownBy w' none
  h4 : ∀ W o, w.grownBy W none → MatC W o X → Calls Tryd.prog 84 #[.int .i64 q, rlV n c o] W fun e w' => e = .returned (.tuple #[.bool true, .bool true]) ∧ W.grownBy w' none
  h5 : ∀ W o, w.grownBy W none → MatC W o X → Calls Tryd.prog 85 #[.int .i64 q, rlV n c o] W fun e w' => ∃ o', e = .returned (.tuple #[mxV c o', .bool true]) ∧ MatV w' o' A ∧ W.grownBy w' none
structure FnRest (p ca cb : Int) (u v : Value) (w : World) (b1 b2 b3 : Bool) (ly ry cc lz rz : Int) (KY KC KZ : List (List Int)) : Prop where
  h6 : ∀ W, w.grownBy W none → Calls Tryd.prog 81 #[.int .i64 p, mxV cb v] W fun e w' => ∃ o, e = .returned (.tuple #[rlV ly ry o, .bool b1]) ∧ MatC w' o KY ∧ W.grownBy w' none
  h7 : ∀ W, w.grownBy W none → Calls Tryd.prog 29 #[.int .i64 p, mxV ca u, mxV cb v] W fun e w' => ∃ o, e = .returned (.tuple #[mxV cc o, .bool b2]) ∧ MatV w' o KC ∧ W.grownBy w' none
  h8 : ∀ W o, w.grownBy W none → MatV W o KC → Calls Tryd.prog 81 #[.int .i64 p, mxV cc o] W fun e w' => ∃ o, e = .returned (.tuple #[rlV lz rz o, .bool b3]) ∧ MatC w' o KZ ∧ W.grownBy w' none
def FnComp (q n c : Nat) (X : List (List Int)) (w : World) (ly ry lz rz : Int) (KY KZ : List (List Int)) : Prop :=
  ∀ W o o', w.grownBy W none → MatC W o X → MatC W o' KY → Calls Tryd.prog 45 #[.int .i64 q, rlV n c o, rlV ly ry o'] W fun e w' => ∃ o2, e = .returned (.tuple #[rlV lz rz o2, .bool true]) ∧ MatC w' o2 KZ ∧ W.grownBy w' none
theorem fn1 {p ca cb : Int} {u v : Value} {A B : List (List Int)} {w : World} (ht : Tab w) (hu : MatV w u A) (hv : MatV w v B) (ha : Small 1000 A) (hb : Small 1000 B) (hp0 : -1000 ≤ p) (hp1 : p ≤ 1000) :
    ∃ b1 b2 b3 ly ry cc lz rz KY KC KZ, FnRest p ca cb u v w b1 b2 b3 ly ry cc lz rz KY KC KZ ∧ (FnNo p ca u w ∨ ∃ (q n c : Nat) (X : List (List Int)), p = q ∧ A.length = n ∧ ca = c ∧ FnYes q n c u A X w ∧ Small 24 X ∧
      (b1 = false ∨ b1 = true ∧ b2 = false ∨ b1 = true ∧ b2 = true ∧ b3 = false ∨ b1 = true ∧ b2 = true ∧ b3 = true ∧ FnComp q n c X w ly ry lz rz KY KZ ∧ Small 24 KZ)) := by
  have bA : A.length ≤ 1000000 := Nat.le_trans ha.1 (by decide)
  have bAA : ∀ row ∈ A, row.length ≤ 1000000 := fun row hr => Nat.le_trans (ha.2 row hr) (by decide)
  obtain ⟨b1, ly, ry, KY, e1, f1, s1, c1⟩ := matrel_some p cb B
  obtain ⟨b2, cc, KC, e2, f2, s2, c2⟩ := mul_some p ca A cb B
  obtain ⟨b3, lz, rz, KZ, e3, f3, s3, c3⟩ := matrel_some p cc KC
  refine ⟨b1, b2, b3, ly, ry, cc, lz, rz, KY, KC, KZ, ⟨fun W hg => c1 v W (ht.grown hg) (hv.carry hg) hb, fun W hg => c2 u v W (ht.grown hg) (hu.carry hg) (hv.carry hg) ha hb, fun W o hg ho => c3 o W (ht.grown hg) ho (Small.up (by decide) s2)⟩, ?_⟩
  cases hok : mrB p ca A
  · exact Or.inl ⟨fun W hg => matrixRelation_no p ca u A W (ht.grown hg) (hu.carry hg) bA bAA hok, fun W hg => sMatrixRelation_no p ca u A W (hu.carry hg) bA bAA hp0 hp1 hok⟩
  · have hok' := hok
    obtain ⟨q, iq, c, rfl, rfl, hf, hq, hmc, hA⟩ := mrB_parts hok'
    have rX := matRel_red (lt_p hf) hA
    have rb := rel_red hf hmc rX
    obtain ⟨t1, t2, t3⟩ := matRel_fn hf hA
    have sX := rX.small hmc
    have hX1 : (matRel A).length ≤ 1000000 := Nat.le_trans sX.1 (by decide)
    have hX2 : ∀ row ∈ matRel A, row.length ≤ 1000000 := fun row hr => Nat.le_trans (sX.2 row hr) (by decide)
    refine Or.inr ⟨q, A.length, c, matRel A, rfl, rfl, rfl, ⟨fun W hg => ?_, fun W hg => ?_, fun W o hg ho => ?_, fun W o hg ho => ?_, fun W o hg ho => ?_⟩, sX, ?_⟩
    · exact (matrixRelation_yes q c u A W (ht.grown hg) (hu.carry hg) hok).mono fun e w' ⟨o, vs, he, hp, g⟩ => ⟨o, he, hp.readC, g⟩
    · exact (sMatrixRelation_yes q c u A W (hu.carry hg) hp0 hp1 hok).mono fun e w' ⟨o, vs, he, hp, g⟩ => ⟨o, he, hp.readC, g⟩
    · have h := isTotalRel_any q A.length c o (matRel A) W (ht.grown hg) ho hX1 hX2
      simp only [Int.toNat_natCast] at h
      rw [rb, t1] at h
      exact h
    · have h := isSingleRel_any q A.length c o (matRel A) W (ht.grown hg) ho hX1 hX2
      simp only [Int.toNat_natCast] at h
      rw [rb, t2] at h
      exact h
    · have hfn : fnRB q A.length c (matRel A) = true := by
        unfold fnRB fnB
        simp only [Int.toNat_natCast]
        rw [rb, t1, t2]
        rfl
      have h := functionOfRel_yes q A.length c o (matRel A) W (ht.grown hg) ho hfn
      simp only [Int.toNat_natCast] at h
      rw [t3] at h
      exact h.mono fun e w' ⟨o', vs, he, hp, g⟩ => ⟨o', he, hp.read, g⟩
    · cases hb1 : b1
      · exact Or.inl rfl
      · cases hb2 : b2
        · exact Or.inr (Or.inl ⟨rfl, rfl⟩)
        · cases hb3 : b3
          · exact Or.inr (Or.inr (Or.inl ⟨rfl, rfl, rfl⟩))
          · refine Or.inr (Or.inr (Or.inr ⟨rfl, rfl, rfl, ?_, s3⟩))
            obtain ⟨rfl, rfl, rfl⟩ := f1 hb1
            obtain ⟨rfl, rfl⟩ := f2 hb2
            obtain ⟨rfl, rfl, rfl⟩ := f3 hb3
            rw [hb1] at e1
            rw [hb2] at e2
            rw [hb3] at e3
            obtain ⟨q1, _, c', k1, rfl, _, _, hmc1, hB⟩ := mrB_parts e1.symm
            obtain ⟨q3, _, c3', k3, k4, _, _, hmc3, hT⟩ := mrB_parts e3.symm
            obtain rfl : q = q1 := by omega
            have h2 := e2.symm
            unfold mulB at h2
            simp only [Bool.and_eq_true, beq_iff_eq] at h2
            have hcl : B.length = c := by omega
            rw [timesL_len] at hmc3
            have hac : A.length + c' ≤ 24 := by omega
            intro W o o' hg ho ho'
            have rY := matRel_red (lt_p hf) hB
            have r2 := rel_red hf hmc1 rY
            rw [hcl] at r2
            have h := composeRelations_yes q A.length c c c' o o' (matRel A) (matRel B) W (ht.grown hg) ho ho' (compB_of rb r2 hac)
            simp only [Int.toNat_natCast] at h
            rw [matRel_comp hf hA hB hcl] at h
            rw [hcl, timesL_len, Int.toNat_natCast]
            exact h.mono fun e w' ⟨o2, he, hp, g⟩ => ⟨o2, he, hp.readC, g⟩

structure GnRes (p l r : Int) (u : Value) (w : World) (fb tb sb rb : Bool) (c' : Int) (K : List (List Int)) : Prop where
  h1 : ∀ W, w.grownBy W none → Calls Tryd.prog 85 #[.int .i64 p, rlV l r u] W fun e w' => ∃ o, e = .returned (.tuple #[mxV c' o, .bool fb]) ∧ MatV w' o K ∧ W.grownBy w' none
  h2 : ∀ W, w.grownBy W none → Calls Tryd.prog 87 #[.int .i64 p, rlV l r u] W fun e w' => ∃ o, e = .returned (.tuple #[mxV c' o, .bool fb]) ∧ MatV w' o K ∧ W.grownBy w' none
  h3 : ∀ W, w.grownBy W none → Calls Tryd.prog 83 #[.int .i64 p, rlV l r u] W fun e w' => e = .returned (.tuple #[.bool tb, .bool rb]) ∧ W.grownBy w' none
  h4 : ∀ W, w.grownBy W none → Calls Tryd.prog 84 #[.int .i64 p, rlV l r u] W fun e w' => e = .returned (.tuple #[.bool sb, .bool rb]) ∧ W.grownBy w' none
  ok : rb = false ∧ fb = false ∨ rb = true ∧ tb = true ∧ sb = true ∧ fb = true ∨ rb = true ∧ tb = true ∧ sb = false ∧ fb = false ∨ rb = true ∧ tb = false ∧ fb = false
theorem fn2 {p l r : Int} {u : Value} {A : List (List Int)} {w : World} (ht : Tab w) (hu : MatC w u A) (ha : Small 1000 A) (hp0 : -1000 ≤ p) (hp1 : p ≤ 1000) :
    ∃ fb tb sb rb c' K, GnRes p l r u w fb tb sb rb c' K ∧ Small 1000 K := by
  have bA : A.length ≤ 1000000 := Nat.le_trans ha.1 (by decide)
  have bAA : ∀ row ∈ A, row.length ≤ 1000000 := fun row hr => Nat.le_trans (ha.2 row hr) (by decide)
  have k3 := fun W (hg : w.grownBy W none) => isTotalRel_any p l r u A W (ht.grown hg) (hu.carry hg) bA bAA
  have k4 := fun W (hg : w.grownBy W none) => isSingleRel_any p l r u A W (ht.grown hg) (hu.carry hg) bA bAA
  cases hfn : fnRB p l r A
  · refine ⟨false, _, _, _, 0, [], ⟨fun W hg => ?_, fun W hg => ?_, k3, k4, ?_⟩, ⟨by simp, fun r hr => by simp at hr⟩⟩
    · exact (functionOfRel_no p l r u A W (ht.grown hg) (hu.carry hg) bA bAA hfn).mono fun e w' ⟨he, g⟩ => ⟨nilS, he, nil_mat' _, g⟩
    · exact (sFunctionOf_no p l r u A W (hu.carry hg) bA bAA hp0 hp1 hfn).mono fun e w' ⟨he, g⟩ => ⟨nilS, he, nil_mat' _, g⟩
    · unfold fnRB fnB at hfn
      cases hr : relB p l r A
      · exact Or.inl ⟨rfl, rfl⟩
      · rw [hr] at hfn
        cases htt : totB p l.toNat A
        · exact Or.inr (Or.inr (Or.inr ⟨rfl, rfl, rfl⟩))
        · rw [htt] at hfn
          cases hss : sglB l.toNat A
          · exact Or.inr (Or.inr (Or.inl ⟨rfl, rfl, rfl, rfl⟩))
          · rw [hss] at hfn
            cases hfn
  · refine ⟨true, _, _, _, r, A.map fun x => x.drop l.toNat, ⟨fun W hg => ?_, fun W hg => ?_, k3, k4, ?_⟩, ⟨by rw [List.length_map]; exact ha.1, fun row hr => by
      obtain ⟨a, ha', rfl⟩ := List.mem_map.1 hr
      rw [List.length_drop]
      exact Nat.le_trans (Nat.sub_le _ _) (ha.2 a ha')⟩⟩
    · exact (functionOfRel_yes p l r u A W (ht.grown hg) (hu.carry hg) hfn).mono fun e w' ⟨o, vs, he, hp, g⟩ => ⟨o, he, hp.read, g⟩
    · exact (sFunctionOf_yes p l r u A W (hu.carry hg) hp0 hp1 hfn).mono fun e w' ⟨o, vs, he, hp, g⟩ => ⟨o, he, hp.read, g⟩
    · unfold fnRB fnB at hfn
      simp only [Bool.and_eq_true] at hfn
      obtain ⟨hr, htt, hss⟩ := hfn
      exact Or.inr (Or.inl ⟨hr, by rw [hr, htt]; rfl, by rw [hr, hss]; rfl, rfl⟩)
end Go.Proofs.YtpeaeminjbjlnaaDoor

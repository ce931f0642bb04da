/-
  Compositions of relations in the reference, checked. Conditions: small sizes.
-/
import Derived.Test.YtpeaeminjbjlnaaDoorMr00
import Derived.Test.YtpeaeminjbjlnaaDoorMl05
import Derived.Test.YtpeaeminjbjlnaaDoorMl06
import Derived.Test.YtpeaeminjbjlnaaDoorMv14
import Derived.Test.YtpeaeminjbjlnaaDoorMl07
import Derived.Test.YtpeaeminjbjlnaaDoorMv15
namespace Go.Proofs.YtpeaeminjbjlnaaDoor
open Go.RowKit
set_option linter.unusedVariables false

theorem relB_bd {p l r : Int} {L : List (List Int)} (h : relB p l r L = true) : 0 ≤ l ∧ l ≤ 24 ∧ 0 ≤ r ∧ r ≤ 24 := by
  unfold relB at h
  simp only [Bool.and_eq_true] at h
  obtain ⟨_, h2, _⟩ := h
  rw [fitsB_iff] at h2
  omega
set_option maxRecDepth 100000 in
set_option maxHeartbeats 1000000 in
theorem sComposeRelations_no (p l m m2 r : Int) (u v : Value) (A M : List (List Int)) (w : World) (hu : MatV w u A) (hv : MatV w v M) (ha : A.length ≤ 1000000) (haa : ∀ row ∈ A, row.length ≤ 1000000) (hm : M.length ≤ 1000000) (hmm : ∀ row ∈ M, row.length ≤ 1000000) (hp0 : -1000 ≤ p) (hp1 : p ≤ 1000) (hno : compB p l m A m2 r M = false) :
    Calls Tryd.prog 46 #[.int .i64 p, rlV l m u, rlV m2 r v] w fun e w' => e = .returned (.tuple #[rlV 0 0 nilS, .bool false]) ∧ w.grownBy w' none := by
  have H1 := fun W (hg : w.grownBy W none) => rlGood_any p l m u A W (hu.carry hg) ha haa hp0 hp1
  have H2 := fun W (hg : w.grownBy W none) => rlGood_any p m2 r v M W (hv.carry hg) hm hmm hp0 hp1
  obtain ⟨ua, uc, rfl⟩ := hu.shape
  obtain ⟨va, vc, rfl⟩ := hv.shape
  unfold rlV nilS at *
  unfold compB at hno
  generalize A.length = la at *
  generalize M.length = lm at *
  have HS := Lib.hid ((((Sep.start w).box #[.int .i64 l, .int .i64 m, .slice ua la uc] 65).box #[.int .i64 m2, .int .i64 r, .slice va lm vc] 65).box #[.int .i64 0, .int .i64 0, .slice none 0 0] 65)
  have HG := Lib.hid HS.out.endR
  simp only [show ∀ (W : World) o, (W.alloc o).heap.size = W.heap.size + 1 from fun W o => by simp] at HS
  obtain ⟨y0, y1, y2, _, _, _⟩ := bx3 HS.out.s3.hd
  obtain ⟨z0, z1, z2, _, _, _⟩ := bx3 HS.out.s2.hd
  obtain ⟨z3, z4, z5, z6, z7, z8⟩ := bx3 HS.out.hd
  clear hu hv haa hmm
  cases h1 : relB p l m A <;> cases h2 : relB p m2 r M <;> by_cases h3 : m = m2 <;> by_cases h4 : 24 < l + r
  all_goals
    rw [h1] at H1
    rw [h2] at H2
    try obtain ⟨q1, q2, q3, q4⟩ := relB_bd h1
    try obtain ⟨q5, q6, q7, q8⟩ := relB_bd h2
    first
      | (exfalso; have h5 : fitsB l r = true := fitsB_iff.2 (by omega); rw [h1, h2, h5] at hno; simp [h3] at hno; done)
      | (have HA := Lib.hid H1; have HB := Lib.hid H2
         clear H1 H2 h1 h2 hno
         try subst h3
         go_enter Tryd.func46, Tryd.ntmps46
         go_wp2_with (first
           | (go_at_call 159
              with_reducible refine (HA.out _ HG.out).mono ?_
              rintro e w1 ⟨rfl, g1⟩
              have HS1 := Lib.hid (HS.out.grown g1)
              have HG1 := Lib.hid (HG.out.trans g1)
              obtain ⟨x0, x1, x2, x3, x4, x5⟩ := bx3 HS1.out.hd
              obtain ⟨a0, a1, a2, _, _, _⟩ := bx3 HS1.out.s3.hd
              obtain ⟨b0, b1, b2, _, _, _⟩ := bx3 HS1.out.s2.hd
              have HQ := Lib.hid (((HS1.out.setB 0 (.int .i64 0)).setB 1 (.int .i64 0)).setB 2 (.slice none 0 0))
              clear g1)
           | (go_at_call 159
              with_reducible refine (HB.out _ HG1.out).mono ?_
              rintro e w2 ⟨rfl, g2⟩
              have HS2 := Lib.hid (HS1.out.grown g2)
              obtain ⟨d0, d1, d2, d3, d4, d5⟩ := bx3 HS2.out.hd
              obtain ⟨e0, e1, e2, _, _, _⟩ := bx3 HS2.out.s3.hd
              obtain ⟨f0, f1, f2, _, _, _⟩ := bx3 HS2.out.s2.hd
              have HQ := Lib.hid (((HS2.out.setB 0 (.int .i64 0)).setB 1 (.int .i64 0)).setB 2 (.slice none 0 0))
              clear g2))
         refine bodyPost_ret_by (v := .tuple #[.agg #[.int .i64 0, .int .i64 0, .slice none 0 0], .bool false]) ?_ rfl ?_
         · simp [results, go_sem, *]
         · exact ⟨rfl, HQ.out.endR⟩)
set_option maxRecDepth 100000 in
set_option maxHeartbeats 2000000 in
theorem sComposeRelations_yes (p l m m2 r : Int) (u v : Value) (A C : List (List Int)) (w : World) (hu : MatV w u A) (hv : MatV w v C) (hp0 : -1000 ≤ p) (hp1 : p ≤ 1000) (hb : compB p l m A m2 r C = true) :
    Calls Tryd.prog 46 #[.int .i64 p, rlV l m u, rlV m2 r v] w fun e w' => ∃ o, e = .returned (.tuple #[rlV l r o, .bool true]) ∧ (∃ vs, OwnM w.heap.size w' o vs (compL p l.toNat m.toNat r.toNat A C)) ∧ w.grownBy w' none := by
  have hb0 := hb
  unfold compB at hb0
  simp only [Bool.and_eq_true, beq_iff_eq] at hb0
  obtain ⟨b1, b2, b3, b4⟩ := hb0
  obtain ⟨q, iq, a, b, c, rfl, rfl, rfl, rfl, rfl, hf, hq, h1, h2, h3, h4, h5, hA, hC⟩ := compB_parts hb
  simp only [Int.toNat_natCast]
  have H1 := fun W (hg : w.grownBy W none) => rlGood_any q a b u A W (hu.carry hg) (by omega) (fun row hr => by rw [(hA.1 row hr).1]; omega) hp0 hp1
  have H2 := fun W (hg : w.grownBy W none) => rlGood_any q b c v C W (hv.carry hg) (by omega) (fun row hr => by rw [(hC.1 row hr).1]; omega) hp0 hp1
  rw [b1] at H1
  rw [b2] at H2
  have HA := Lib.hid H1; have HB := Lib.hid H2
  have HD := Lib.hid fun W (hg : w.grownBy W none) => rlCompose_any q a b c u v A C W hf hq (hu.carry hg) (hv.carry hg) hA.1 hC.1 (by omega) (by omega) h1 h2 h3
  obtain ⟨ua, uc, rfl⟩ := hu.shape
  obtain ⟨va, vc, rfl⟩ := hv.shape
  unfold rlV at *
  generalize compL q a b c A C = PL at *
  generalize A.length = la at *
  generalize C.length = lm at *
  have HS := Lib.hid ((((Sep.start w).box #[.int .i64 a, .int .i64 b, .slice ua la uc] 65).box #[.int .i64 b, .int .i64 c, .slice va lm vc] 65).box #[.int .i64 0, .int .i64 0, .slice none 0 0] 65)
  have HG := Lib.hid HS.out.endR
  simp only [show ∀ (W : World) o, (W.alloc o).heap.size = W.heap.size + 1 from fun W o => by simp] at HS
  obtain ⟨y0, y1, y2, _, _, _⟩ := bx3 HS.out.s3.hd
  obtain ⟨z0, z1, z2, _, _, _⟩ := bx3 HS.out.s2.hd
  obtain ⟨z3, z4, z5, z6, z7, z8⟩ := bx3 HS.out.hd
  have hbz : w.heap.size + 1 + 1 < (((w.alloc (.cells #[.int .i64 a, .int .i64 b, .slice ua la uc] 65)).alloc (.cells #[.int .i64 b, .int .i64 c, .slice va lm vc] 65)).alloc (.cells #[.int .i64 0, .int .i64 0, .slice none 0 0] 65)).heap.size := by simp
  have hac : (a : Int) + (c : Int) ≤ 24 := by omega
  clear hu hv hA hC hb b1 b2 b3 b4 H1 H2
  go_enter Tryd.func46, Tryd.ntmps46
  go_wp2_with (first
    | (go_at_call 159
       with_reducible refine (HA.out _ HG.out).mono ?_
       rintro e w1 ⟨rfl, g1⟩
       have HS1 := Lib.hid (HS.out.grown g1)
       have HG1 := Lib.hid (HG.out.trans g1)
       have HZ1 := Lib.hid (Nat.lt_of_lt_of_le hbz g1.size)
       obtain ⟨a0, a1, a2, _, _, _⟩ := bx3 HS1.out.s3.hd
       obtain ⟨b0, b1, b2, _, _, _⟩ := bx3 HS1.out.s2.hd
       clear g1)
    | (go_at_call 159
       with_reducible refine (HB.out _ HG1.out).mono ?_
       rintro e w2 ⟨rfl, g2⟩
       have HS2 := Lib.hid (HS1.out.grown g2)
       have HG2 := Lib.hid (HG1.out.trans g2)
       have HZ2 := Lib.hid (Nat.lt_of_lt_of_le HZ1.out g2.size)
       obtain ⟨e0, e1, e2, _, _, _⟩ := bx3 HS2.out.s3.hd
       obtain ⟨f0, f1, f2, _, _, _⟩ := bx3 HS2.out.s2.hd
       clear g2)
    | (go_at_call 160
       go_loud (with_reducible refine (HD.out _ HG2.out).mono ?_)
       rintro e w4 ⟨o, rfl, ⟨vs4, hp⟩, g4⟩
       obtain ⟨ra, rc, hoe, _, _⟩ := own_form hp
       subst hoe
       have HP := Lib.hid hp
       have HG4 := Lib.hid (HG2.out.trans g4)
       obtain ⟨t0, t1, t2, t3, t4, t5⟩ := bx3 (HS2.out.grown g4).hd
       clear hp g4))
  have hz2 := HZ2.out
  have HMM := Lib.hid (HP.out.only (three_set (w := w4) (w.heap.size + 1 + 1) (.int .i64 a) (.int .i64 c) (.slice ra PL.length rc)) (fun k' hf' hk' => by have : k' = w.heap.size + 1 + 1 := hk'; have := (HP.out.lt hf').1; omega))
  have HE := Lib.hid (box3_end HG4.out (show w.heap.size ≤ w.heap.size + 1 + 1 by omega) (.int .i64 a) (.int .i64 c) (.slice ra PL.length rc))
  generalize PL.length = rl at *
  refine bodyPost_ret_by (v := .tuple #[.agg #[.int .i64 a, .int .i64 c, .slice ra rl rc], .bool true]) ?_ rfl ⟨_, rfl, ⟨_, HMM.out.base (by omega)⟩, HE.out⟩
  simp [results, go_sem, *]
end Go.Proofs.YtpeaeminjbjlnaaDoor

/-
  What the law of relations asks of the lists. Plain facts, and the comparison of relations. Conditions: small sizes.
-/
namespace Go.Proofs.YtpeaeminjbjlnaaDoor
open Go.RowKit
set_option linter.unusedVariables false

theorem sameRel_self (l r : Int) (u v : Value) (A : List (List Int)) (w : World) (hu : MatV w u A) (hv : MatV w v A) (l1 : A.length ≤ 1000000) (m1 : ∀ row ∈ A, row.length ≤ 1000000) :
    Calls Tryd.prog 47 #[rlV l r u, rlV l r v] w fun e w' => e = .returned (.bool true) ∧ w.grownBy w' none := by
  have HS := Lib.hid fun w1 (hg : w.grownBy w1 none) => same_selfL u v A w1 (hu.carry hg) (hv.carry hg) l1 m1
  obtain ⟨ua, uc, rfl⟩ := hu.shape
  obtain ⟨va, vc, rfl⟩ := hv.shape
  clear hu hv m1
  unfold rlV
  generalize A.length = la at *
  have HG := Lib.hid fun o1 o2 => (grownBy_alloc w o1 none).trans (grownBy_alloc _ o2 none)
  go_enter Tryd.func47, Tryd.ntmps47
  go_wp2_with (
    go_at_call 53
    with_reducible refine (HS.out _ (HG.out _ _)).mono ?_
    rintro e w' ⟨rfl, g⟩
    have G := Lib.hid g
    clear g)
  go_ret
  exact ⟨rfl, (HG.out _ _).trans G.out⟩

theorem sameRel_n (l r : Int) (u v : Value) (w : World) {A : List (List Int)} (hu : MatV w u A) (hv : MatV w v A) (hs : Small 24 A) :
    Calls Tryd.prog 47 #[.agg #[.int .i64 l, .int .i64 r, u], .agg #[.int .i64 l, .int .i64 r, v]] w fun e w' => e = .returned (.bool true) ∧ w.grownBy w' none :=
  sameRel_self l r u v A w hu hv (Nat.le_trans hs.1 (by decide)) fun row hr => Nat.le_trans (hs.2 row hr) (by decide)
theorem sameRel_eq {l r l' r' : Int} {u v : Value} {w : World} {A A' : List (List Int)} (hu : MatV w u A) (hv : MatV w v A') (h : l' = l ∧ r' = r ∧ A' = A) (hs : Small 24 A) :
    Calls Tryd.prog 47 #[.agg #[.int .i64 l, .int .i64 r, u], .agg #[.int .i64 l', .int .i64 r', v]] w fun e w' => e = .returned (.bool true) ∧ w.grownBy w' none := by
  obtain ⟨rfl, rfl, rfl⟩ := h
  exact sameRel_n _ _ u v w hu hv hs
theorem sameRel_nil (w : World) : Calls Tryd.prog 47 #[.agg #[.int .i64 0, .int .i64 0, .slice none 0 0], .agg #[.int .i64 0, .int .i64 0, .slice none 0 0]] w fun e w' => e = .returned (.bool true) ∧ w.grownBy w' none :=
  sameRel_n 0 0 _ _ w (nil_mat' w) (nil_mat' w) ⟨by simp, fun r hr => by simp at hr⟩
theorem Small.up {n m : Nat} {L : List (List Int)} (h : n ≤ m) (hs : Small n L) : Small m L := ⟨Nat.le_trans hs.1 h, fun row hr => Nat.le_trans (hs.2 row hr) h⟩
theorem rel_red {q a b : Nat} [NeZero q] {R : List (List Int)} (hf : fldN q = true) (h : a + b ≤ 24) (hr : IsRed q (a + b) R) : relB q a b R = true := by
  have h1 := space_red hf h hr
  unfold spaceB at h1
  simp only [Bool.and_eq_true] at h1
  obtain ⟨h2, h3, h4⟩ := h1
  unfold relB
  rw [h2, fitsB_iff.2 (by omega), show ((a : Int) + (b : Int)) = ((a + b : Nat) : Int) by omega, h4]
  rfl
theorem compB_of {q a b c : Nat} {A C : List (List Int)} (h1 : relB q a b A = true) (h2 : relB q b c C = true) (h : a + c ≤ 24) : compB q a b A b c C = true := by
  unfold compB
  rw [h1, h2, fitsB_iff.2 (by omega)]
  simp

theorem idRel_red {q n : Nat} [NeZero q] (hf : fldN q = true) : IsRed q (n + n) (idRel n) := by
  have hM : RowsOk q n ((List.range n).map (unitL n)) := by
    intro row hr
    obtain ⟨i, _, rfl⟩ := List.mem_map.1 hr
    exact unitL_ok (lt_p hf)
  have hl : ((List.range n).map (unitL n)).length = n := by simp
  have e : idRel n = matRel ((List.range n).map (unitL n)) := by
    unfold idRel matRel
    rw [hl]
    refine List.map_congr_left fun i hi => ?_
    unfold idRow matRow
    rw [List.getD_eq_getElem?_getD, List.getElem?_map, List.getElem?_range (List.mem_range.1 hi)]
    rfl
  have h := matRel_red (p := q) (lt_p hf) hM
  rw [hl] at h
  rw [e]
  exact h

/-- what a composition answers, whatever its arguments are -/
theorem comp_some (p l m m2 r : Int) (A C : List (List Int)) : ∃ (b : Bool) (l' r' : Int) (K : List (List Int)), b = compB p l m A m2 r C ∧ (b = true → l' = l ∧ r' = r ∧ K = compL p l.toNat m.toNat r.toNat A C) ∧ Small 24 K ∧
    ∀ (u v : Value) (W : World), Tab W → MatC W u A → MatC W v C → Small 1000 A → Small 1000 C →
      Calls Tryd.prog 45 #[.int .i64 p, rlV l m u, rlV m2 r v] W fun e w' => ∃ o, e = .returned (.tuple #[rlV l' r' o, .bool b]) ∧ MatC w' o K ∧ W.grownBy w' none := by
  cases hb : compB p l m A m2 r C
  · refine ⟨false, 0, 0, [], rfl, (fun h => by cases h), ⟨by simp, fun r hr => by simp at hr⟩, fun u v W ht hu hv ha hc => ?_⟩
    refine (composeRelations_no p l m m2 r u v A C W ht hu.v hv.v (Nat.le_trans ha.1 (by decide)) (fun row hr => Nat.le_trans (ha.2 row hr) (by decide)) (Nat.le_trans hc.1 (by decide)) (fun row hr => Nat.le_trans (hc.2 row hr) (by decide)) hb).mono ?_
    rintro e w' ⟨rfl, g⟩
    exact ⟨nilS, rfl, (OwnM.start (B := 0) (World.ownsRow_nil _ _ _ _)).readC, g⟩
  · obtain ⟨q, iq, a, b, c, rfl, rfl, rfl, rfl, rfl, hf, hq, h1, h2, h3, h4, h5, hA, hC⟩ := compB_parts hb
    refine ⟨true, a, c, _, rfl, fun _ => ⟨rfl, rfl, rfl⟩, ?_, fun u v W ht hu hv ha hc => ?_⟩
    · simp only [Int.toNat_natCast]
      exact (compL_red hf hA.1 hC.1).small h3
    · refine (composeRelations_yes q a b b c u v A C W ht hu hv hb).mono ?_
      rintro e w' ⟨o, rfl, hp, g⟩
      exact ⟨o, rfl, hp.readC, g⟩

/-- the answers at the law's end -/
structure RlTail (q l m r : Nat) (u v : Value) (CL : List (List Int)) (el er : Int) (E : List (List Int)) (w : World) (b5 b6 b7 : Bool) (l5 r5 l6 r6 l7 r7 : Int) (K5 K6 K7 : List (List Int)) : Prop where
  t5 : ∀ W oc ev, w.grownBy W none → MatC W oc CL → MatC W ev E → Calls Tryd.prog 45 #[.int .i64 q, rlV l r oc, rlV el er ev] W fun e w' => ∃ o, e = .returned (.tuple #[rlV l5 r5 o, .bool b5]) ∧ MatC w' o K5 ∧ W.grownBy w' none
  t6 : ∀ W ev, w.grownBy W none → MatC W ev E → Calls Tryd.prog 45 #[.int .i64 q, rlV m r v, rlV el er ev] W fun e w' => ∃ o, e = .returned (.tuple #[rlV l6 r6 o, .bool b6]) ∧ MatC w' o K6 ∧ W.grownBy w' none
  t7 : ∀ W o, w.grownBy W none → MatC W o K6 → Calls Tryd.prog 45 #[.int .i64 q, rlV l m u, rlV l6 r6 o] W fun e w' => ∃ o, e = .returned (.tuple #[rlV l7 r7 o, .bool b7]) ∧ MatC w' o K7 ∧ W.grownBy w' none
  ok : b5 = false ∨ b5 = true ∧ b6 = false ∨ b5 = true ∧ b6 = true ∧ b7 = false ∨ b5 = true ∧ b6 = true ∧ b7 = true ∧ l7 = l5 ∧ r7 = r5 ∧ K7 = K5 ∧ Small 24 K5

theorem rl_tail {q l m r : Nat} [NeZero q] {u v : Value} {A C : List (List Int)} {w : World} (ht : Tab w) (hu : MatC w u A) (hv : MatC w v C) (hf : fldN q = true) (h1 : l + m ≤ 24) (h2 : m + r ≤ 24) (h3 : l + r ≤ 24) (hA : IsRed q (l + m) A) (hC : IsRed q (m + r) C) (el er : Int) (E : List (List Int)) (hE : Small 1000 E) :
    ∃ b5 b6 b7 l5 r5 l6 r6 l7 r7 K5 K6 K7, RlTail q l m r u v (compL q l m r A C) el er E w b5 b6 b7 l5 r5 l6 r6 l7 r7 K5 K6 K7 := by
  have big : ∀ {K : List (List Int)}, Small 24 K → Small 1000 K := fun h => ⟨Nat.le_trans h.1 (by decide), fun row hr => Nat.le_trans (h.2 row hr) (by decide)⟩
  have sA := big (hA.small h1)
  have sC := big (hC.small h2)
  have rCL := compL_red (p := q) hf hA.1 hC.1
  have sCL := big (rCL.small h3)
  obtain ⟨b5, l5, r5, K5, e5, f5, s5, c5⟩ := comp_some q l r el er (compL q l m r A C) E
  obtain ⟨b6, l6, r6, K6, e6, f6, s6, c6⟩ := comp_some q m r el er C E
  obtain ⟨b7, l7, r7, K7, e7, f7, s7, c7⟩ := comp_some q l m l6 r6 A K6
  refine ⟨b5, b6, b7, l5, r5, l6, r6, l7, r7, K5, K6, K7, fun W oc ev hg ho he => c5 _ _ W (ht.grown hg) ho he sCL hE, fun W ev hg he => c6 _ _ W (ht.grown hg) (hv.carry hg) he sC hE, fun W o hg ho => c7 _ _ W (ht.grown hg) (hu.carry hg) ho sA (big s6), ?_⟩
  cases hb5 : b5
  · exact Or.inl rfl
  · cases hb6 : b6
    · exact Or.inr (Or.inl ⟨rfl, rfl⟩)
    · cases hb7 : b7
      · exact Or.inr (Or.inr (Or.inl ⟨rfl, rfl, rfl⟩))
      · refine Or.inr (Or.inr (Or.inr ⟨rfl, rfl, rfl, ?_⟩))
        obtain ⟨rfl, rfl, rfl⟩ := f5 hb5
        obtain ⟨rfl, rfl, rfl⟩ := f6 hb6
        obtain ⟨rfl, rfl, rfl⟩ := f7 hb7
        rw [hb5] at e5
        obtain ⟨q', iq, a, b, c, k1, k2, k3, rfl, rfl, _, _, _, _, _, _, _, _, hEr⟩ := compB_parts e5.symm
        obtain rfl : q = q' := by omega
        obtain rfl : r = b := by omega
        refine ⟨rfl, rfl, ?_, s5⟩
        simp only [Int.toNat_natCast]
        exact (comp_assoc hf hA.1 hC.1 hEr.1).symm

structure RlNo (p l m m2 r : Int) (u v : Value) (w : World) : Prop where
  h1 : ∀ W, w.grownBy W none → Calls Tryd.prog 45 #[.int .i64 p, rlV l m u, rlV m2 r v] W fun e w' => e = .returned (.tuple #[rlV 0 0 nilS, .bool false]) ∧ W.grownBy w' none
  h2 : ∀ W, w.grownBy W none → Calls Tryd.prog 46 #[.int .i64 p, rlV l m u, rlV m2 r v] W fun e w' => e = .returned (.tuple #[rlV 0 0 nilS, .bool false]) ∧ W.grownBy w' none
/-- the answers where the relations are valid and fit -/
structure RlYes (q l m r : Nat) (u v : Value) (A CL X Y Z : List (List Int)) (w : World) : Prop where
  h1 : ∀ W, w.grownBy W none → Calls Tryd.prog 45 #[.int .i64 q, rlV l m u, rlV m r v] W fun e w' => ∃ o, e = .returned (.tuple #[rlV l r o, .bool true]) ∧ MatC w' o CL ∧ W.grownBy w' none
  h2 : ∀ W, w.grownBy W none → Calls Tryd.prog 46 #[.int .i64 q, rlV l m u, rlV m r v] W fun e w' => ∃ o, e = .returned (.tuple #[rlV l r o, .bool true]) ∧ MatC w' o CL ∧ W.grownBy w' none
  h3 : ∀ W, w.grownBy W none → Calls Tryd.prog 48 #[.int .i64 q, rlV l m u] W fun e w' => ∃ o, e = .returned (.tuple #[rlV m l o, .bool true]) ∧ MatC w' o X ∧ W.grownBy w' none
  h4 : ∀ W, w.grownBy W none → Calls Tryd.prog 48 #[.int .i64 q, rlV m r v] W fun e w' => ∃ o, e = .returned (.tuple #[rlV r m o, .bool true]) ∧ MatC w' o Y ∧ W.grownBy w' none
  h5 : ∀ W o o', w.grownBy W none → MatC W o Y → MatC W o' X → Calls Tryd.prog 45 #[.int .i64 q, rlV r m o, rlV m l o'] W fun e w' => ∃ o, e = .returned (.tuple #[rlV r l o, .bool true]) ∧ MatC w' o Z ∧ W.grownBy w' none
  h6 : ∀ W o, w.grownBy W none → MatC W o CL → Calls Tryd.prog 48 #[.int .i64 q, rlV l r o] W fun e w' => ∃ o, e = .returned (.tuple #[rlV r l o, .bool true]) ∧ MatC w' o Z ∧ W.grownBy w' none
  h7 : l + l ≤ 24 → ∀ W o, w.grownBy W none → MatC W o (idRel l) → Calls Tryd.prog 45 #[.int .i64 q, rlV l l o, rlV l m u] W fun e w' => ∃ o, e = .returned (.tuple #[rlV l m o, .bool true]) ∧ MatC w' o A ∧ W.grownBy w' none
  h8 : ∀ el er E, Small 1000 E → ∃ b5 b6 b7 l5 r5 l6 r6 l7 r7 K5 K6 K7, RlTail q l m r u v CL el er E w b5 b6 b7 l5 r5 l6 r6 l7 r7 K5 K6 K7
theorem rl1 {p l m m2 r : Int} {u v : Value} {A C : List (List Int)} {w : World} (ht : Tab w) (hu : MatC w u A) (hv : MatC w v C) (ha : Small 1000 A) (hc : Small 1000 C) (hp0 : -1000 ≤ p) (hp1 : p ≤ 1000) :
    RlNo p l m m2 r u v w ∨ ∃ (q a b c : Nat) (CL X Y Z : List (List Int)), p = q ∧ l = a ∧ m = b ∧ m2 = b ∧ r = c ∧ RlYes q a b c u v A CL X Y Z w ∧ Small 24 A ∧ Small 24 CL ∧ Small 24 Z ∧ Small 24 Y ∧ a ≤ 24 := by
  have bA : A.length ≤ 1000000 := Nat.le_trans ha.1 (by decide)
  have bAA : ∀ row ∈ A, row.length ≤ 1000000 := fun row hr => Nat.le_trans (ha.2 row hr) (by decide)
  have bC : C.length ≤ 1000000 := Nat.le_trans hc.1 (by decide)
  have bCC : ∀ row ∈ C, row.length ≤ 1000000 := fun row hr => Nat.le_trans (hc.2 row hr) (by decide)
  cases hb : compB p l m A m2 r C
  · exact Or.inl ⟨fun W hg => composeRelations_no p l m m2 r u v A C W (ht.grown hg) (hu.v.carry hg) (hv.v.carry hg) bA bAA bC bCC hb, fun W hg => sComposeRelations_no p l m m2 r u v A C W (hu.v.carry hg) (hv.v.carry hg) bA bAA bC bCC hp0 hp1 hb⟩
  · have hb' := hb
    obtain ⟨q, iq, a, b, c, rfl, rfl, rfl, rfl, rfl, hf, hq, h1, h2, h3, h4, h5, hA, hC⟩ := compB_parts hb'
    have p1 := rel_red hf h1 hA
    have p2 := rel_red hf h2 hC
    have rCL := compL_red (p := q) hf hA.1 hC.1
    have rX := conv_red (p := q) hf hA.1
    have rY := conv_red (p := q) hf hC.1
    have rZ := conv_red (p := q) hf rCL.1
    have p3 := rel_red hf h3 rCL
    have p4 := rel_red hf (show b + a ≤ 24 by omega) rX
    have p5 := rel_red hf (show c + b ≤ 24 by omega) rY
    refine Or.inr ⟨q, a, b, c, compL q a b c A C, convL q a b A, convL q b c C, convL q a c (compL q a b c A C), rfl, rfl, rfl, rfl, rfl, ⟨fun W hg => ?_, fun W hg => ?_, fun W hg => ?_, fun W hg => ?_, fun W o o' hg ho ho' => ?_, fun W o hg ho => ?_, fun hl W o hg ho => ?_, fun el er E hE => rl_tail ht hu hv hf h1 h2 h3 hA hC el er E hE⟩, hA.small h1, rCL.small h3, rZ.small (by omega), rY.small (by omega), by omega⟩
    · have h := composeRelations_yes q a b b c u v A C W (ht.grown hg) (hu.carry hg) (hv.carry hg) hb
      simp only [Int.toNat_natCast] at h
      exact h.mono fun e w' ⟨o, he, hp, g⟩ => ⟨o, he, hp.readC, g⟩
    · have h := sComposeRelations_yes q a b b c u v A C W (hu.v.carry hg) (hv.v.carry hg) hp0 hp1 hb
      simp only [Int.toNat_natCast] at h
      exact h.mono fun e w' ⟨o, he, ⟨_, hp⟩, g⟩ => ⟨o, he, hp.readC, g⟩
    · have h := converseRelation_yes q a b u A W (ht.grown hg) (hu.carry hg) p1
      simp only [Int.toNat_natCast] at h
      exact h.mono fun e w' ⟨o, he, hp, g⟩ => ⟨o, he, hp.readC, g⟩
    · have h := converseRelation_yes q b c v C W (ht.grown hg) (hv.carry hg) p2
      simp only [Int.toNat_natCast] at h
      exact h.mono fun e w' ⟨o, he, hp, g⟩ => ⟨o, he, hp.readC, g⟩
    · have h := composeRelations_yes q c b b a o o' _ _ W (ht.grown hg) ho ho' (compB_of p5 p4 (by omega))
      simp only [Int.toNat_natCast] at h
      rw [conv_comp hf hA.1 hC.1] at h
      exact h.mono fun e w' ⟨o, he, hp, g⟩ => ⟨o, he, hp.readC, g⟩
    · have h := converseRelation_yes q a c o _ W (ht.grown hg) ho p3
      simp only [Int.toNat_natCast] at h
      exact h.mono fun e w' ⟨o, he, hp, g⟩ => ⟨o, he, hp.readC, g⟩
    · have hid : relB q a a (idRel a) = true := rel_red hf hl (idRel_red hf)
      have h := composeRelations_yes q a a a b o u _ A W (ht.grown hg) ho (hu.carry hg) (compB_of hid p1 h1)
      simp only [Int.toNat_natCast] at h
      rw [id_comp hf hA] at h
      exact h.mono fun e w' ⟨o, he, hp, g⟩ => ⟨o, he, hp.readC, g⟩
end Go.Proofs.YtpeaeminjbjlnaaDoor

/-
  Compositions of relations, checked. Conditions: small sizes.
-/
import Derived.Test.YtpeaeminjbjlnaaDoorMl04
import Derived.Test.YtpeaeminjbjlnaaDoorMl03
namespace Go.Proofs.YtpeaeminjbjlnaaDoor
open Go.RowKit
set_option linter.unusedVariables false

def compB (p l m : Int) (A : List (List Int)) (m2 r : Int) (C : List (List Int)) : Bool := relB p l m A && (relB p m2 r C && (m == m2 && fitsB l r))
theorem compB_parts {p l m m2 r : Int} {A C : List (List Int)} (h : compB p l m A m2 r C = true) : ∃ (q : Nat) (_ : NeZero q) (a b c : Nat), p = q ∧ l = a ∧ m = b ∧ m2 = b ∧ r = c ∧ fldN q = true ∧ q ≤ 97 ∧ a + b ≤ 24 ∧ b + c ≤ 24 ∧ a + c ≤ 24 ∧ A.length ≤ a + b ∧ C.length ≤ b + c ∧ IsRed q (a + b) A ∧ IsRed q (b + c) C := by
  unfold compB at h
  simp only [Bool.and_eq_true, beq_iff_eq] at h
  obtain ⟨h1, h2, rfl, h4⟩ := h
  rw [fitsB_iff] at h4
  obtain ⟨q, i, a, b, rfl, rfl, rfl, f1, f2, f3, f4, f5, _⟩ := relB_parts h1
  obtain ⟨q', i', b', c, e1, e2, rfl, _, _, g3, g4, g5, _⟩ := relB_parts h2
  obtain rfl : q = q' := by omega
  obtain rfl : b = b' := by omega
  exact ⟨q, i, a, b, c, rfl, rfl, rfl, rfl, rfl, f1, f2, f3, g3, by omega, f4, g4, f5, g5⟩
theorem Sep.endR {w w' : World} {k4 k5 k6 : Nat} {c4 c5 c6 : Array Value} {t t' t'' : TypeId} (h : Sep w' [BxA k6 c6 t, BxA k5 c5 t', BxA k4 c4 t'', KeepA w]) : w.grownBy w' none := h.tl.tl.tl.hd
set_option maxRecDepth 100000 in
set_option maxHeartbeats 1000000 in
theorem composeRelations_no (p l m m2 r : Int) (u v : Value) (A M : List (List Int)) (w : World) (ht : Tab w) (hu : MatV w u A) (hv : MatV w v M) (ha : A.length ≤ 1000000) (haa : ∀ row ∈ A, row.length ≤ 1000000) (hm : M.length ≤ 1000000) (hmm : ∀ row ∈ M, row.length ≤ 1000000) (hno : compB p l m A m2 r M = false) :
    Calls Tryd.prog 45 #[.int .i64 p, rlV l m u, rlV m2 r v] w fun e w' => e = .returned (.tuple #[rlV 0 0 nilS, .bool false]) ∧ w.grownBy w' none := by
  have H1 := fun W (hg : w.grownBy W none) => isRelation_any p l m u A W (ht.grown hg) (hu.carry hg) ha haa
  have H2 := fun W (hg : w.grownBy W none) => isRelation_any p m2 r v M W (ht.grown hg) (hv.carry hg) hm hmm
  have H3 := fun W => fits_any l r W
  obtain ⟨ua, uc, rfl⟩ := hu.shape
  obtain ⟨va, vc, rfl⟩ := hv.shape
  unfold rlV nilS at *
  unfold compB at hno
  generalize A.length = la at *
  generalize M.length = lm at *
  have HS := Lib.hid ((((Sep.start w).box #[.int .i64 l, .int .i64 m, .slice ua la uc] 65).box #[.int .i64 m2, .int .i64 r, .slice va lm vc] 65).box #[.int .i64 0, .int .i64 0, .slice none 0 0] 65)
  have HG := Lib.hid HS.out.endR
  simp only [show ∀ (W : World) o, (W.alloc o).heap.size = W.heap.size + 1 from fun W o => by simp] at HS
  obtain ⟨y0, y1, y2, _, _, _⟩ := bx3 HS.out.s3.hd
  obtain ⟨z0, z1, z2, _, _, _⟩ := bx3 HS.out.s2.hd
  obtain ⟨z3, z4, z5, z6, z7, z8⟩ := bx3 HS.out.hd
  clear hu hv haa hmm
  cases h1 : relB p l m A <;> cases h2 : relB p m2 r M <;> by_cases h3 : m = m2 <;> cases h4 : fitsB l r
  all_goals
    rw [h1] at H1
    rw [h2] at H2
    rw [h4] at H3
    first
      | (exfalso; rw [h1, h2, h4] at hno; simp [h3] at hno; done)
      | (have HA := Lib.hid H1; have HB := Lib.hid H2; have HC := Lib.hid H3
         clear H1 H2 H3 h1 h2 h4 hno
         try subst h3
         go_enter Tryd.func45, Tryd.ntmps45
         go_wp2_with (first
           | (go_at_call 156
              with_reducible refine (HA.out _ HG.out).mono ?_
              rintro e w1 ⟨rfl, g1⟩
              have HS1 := Lib.hid (HS.out.grown g1)
              have HG1 := Lib.hid (HG.out.trans g1)
              obtain ⟨x0, x1, x2, x3, x4, x5⟩ := bx3 HS1.out.hd
              obtain ⟨a0, a1, a2, _, _, _⟩ := bx3 HS1.out.s3.hd
              obtain ⟨b0, b1, b2, _, _, _⟩ := bx3 HS1.out.s2.hd
              have HQ := Lib.hid (((HS1.out.setB 0 (.int .i64 0)).setB 1 (.int .i64 0)).setB 2 (.slice none 0 0))
              clear g1)
           | (go_at_call 156
              with_reducible refine (HB.out _ HG1.out).mono ?_
              rintro e w2 ⟨rfl, g2⟩
              have HS2 := Lib.hid (HS1.out.grown g2)
              obtain ⟨d0, d1, d2, d3, d4, d5⟩ := bx3 HS2.out.hd
              obtain ⟨e0, e1, e2, _, _, _⟩ := bx3 HS2.out.s3.hd
              obtain ⟨f0, f1, f2, _, _, _⟩ := bx3 HS2.out.s2.hd
              have HQ := Lib.hid (((HS2.out.setB 0 (.int .i64 0)).setB 1 (.int .i64 0)).setB 2 (.slice none 0 0))
              clear g2)
           | (go_at_call 157
              with_reducible refine (HC.out _).mono ?_
              rintro e w3 ⟨rfl, rfl⟩))
         refine bodyPost_ret_by (v := .tuple #[.agg #[.int .i64 0, .int .i64 0, .slice none 0 0], .bool false]) ?_ rfl ?_
         · simp [results, go_sem, *]
         · exact ⟨rfl, HQ.out.endR⟩)
set_option maxRecDepth 100000 in
set_option maxHeartbeats 2000000 in
theorem composeRelations_yes (p l m m2 r : Int) (u v : Value) (A C : List (List Int)) (w : World) (ht : Tab w) (hu : MatC w u A) (hv : MatC w v C) (hb : compB p l m A m2 r C = true) :
    Calls Tryd.prog 45 #[.int .i64 p, rlV l m u, rlV m2 r v] w fun e w' => ∃ o, e = .returned (.tuple #[rlV l r o, .bool true]) ∧ Pre w.heap.size w' o (compL p l.toNat m.toNat r.toNat A C) ∧ w.grownBy w' none := by
  have hb0 := hb
  unfold compB at hb0
  simp only [Bool.and_eq_true, beq_iff_eq] at hb0
  obtain ⟨b1, b2, b3, b4⟩ := hb0
  obtain ⟨q, iq, a, b, c, rfl, rfl, rfl, rfl, rfl, hf, hq, h1, h2, h3, h4, h5, hA, hC⟩ := compB_parts hb
  simp only [Int.toNat_natCast]
  have H1 := fun W (hg : w.grownBy W none) => isRelation_any q a b u A W (ht.grown hg) (hu.v.carry hg) (by omega) (fun row hr => by rw [(hA.1 row hr).1]; omega)
  have H2 := fun W (hg : w.grownBy W none) => isRelation_any q b c v C W (ht.grown hg) (hv.v.carry hg) (by omega) (fun row hr => by rw [(hC.1 row hr).1]; omega)
  have H3 := fun W => fits_any a c W
  rw [b1] at H1
  rw [b2] at H2
  rw [b4] at H3
  have HA := Lib.hid H1; have HB := Lib.hid H2; have HC := Lib.hid H3
  have HD := Lib.hid fun W (hg : w.grownBy W none) => composed_any q a b c u v A C W hf hq (hu.carry hg) (hv.carry hg) hA.1 hC.1 (by omega) (by omega) h1 h2 h3
  obtain ⟨ua, uc, rfl⟩ := hu.shape
  obtain ⟨va, vc, rfl⟩ := hv.shape
  unfold rlV at *
  generalize compL q a b c A C = PL at *
  generalize A.length = la at *
  generalize C.length = lm at *
  have HS := Lib.hid ((((Sep.start w).box #[.int .i64 a, .int .i64 b, .slice ua la uc] 65).box #[.int .i64 b, .int .i64 c, .slice va lm vc] 65).box #[.int .i64 0, .int .i64 0, .slice none 0 0] 65)
  have HG := Lib.hid HS.out.endR
  simp only [show ∀ (W : World) o, (W.alloc o).heap.size = W.heap.size + 1 from fun W o => by simp] at HS
  obtain ⟨y0, y1, y2, _, _, _⟩ := bx3 HS.out.s3.hd
  obtain ⟨z0, z1, z2, _, _, _⟩ := bx3 HS.out.s2.hd
  obtain ⟨z3, z4, z5, z6, z7, z8⟩ := bx3 HS.out.hd
  have hbz : w.heap.size + 1 + 1 < (((w.alloc (.cells #[.int .i64 a, .int .i64 b, .slice ua la uc] 65)).alloc (.cells #[.int .i64 b, .int .i64 c, .slice va lm vc] 65)).alloc (.cells #[.int .i64 0, .int .i64 0, .slice none 0 0] 65)).heap.size := by simp
  clear hu hv hA hC hb b1 b2 b3 b4 H1 H2 H3 ht
  go_enter Tryd.func45, Tryd.ntmps45
  go_wp2_with (first
    | (go_at_call 156
       with_reducible refine (HA.out _ HG.out).mono ?_
       rintro e w1 ⟨rfl, g1⟩
       have HS1 := Lib.hid (HS.out.grown g1)
       have HG1 := Lib.hid (HG.out.trans g1)
       have HZ1 := Lib.hid (Nat.lt_of_lt_of_le hbz g1.size)
       obtain ⟨a0, a1, a2, _, _, _⟩ := bx3 HS1.out.s3.hd
       obtain ⟨b0, b1, b2, _, _, _⟩ := bx3 HS1.out.s2.hd
       clear g1)
    | (go_at_call 156
       with_reducible refine (HB.out _ HG1.out).mono ?_
       rintro e w2 ⟨rfl, g2⟩
       have HS2 := Lib.hid (HS1.out.grown g2)
       have HG2 := Lib.hid (HG1.out.trans g2)
       have HZ2 := Lib.hid (Nat.lt_of_lt_of_le HZ1.out g2.size)
       obtain ⟨e0, e1, e2, _, _, _⟩ := bx3 HS2.out.s3.hd
       obtain ⟨f0, f1, f2, _, _, _⟩ := bx3 HS2.out.s2.hd
       clear g2)
    | (go_at_call 157
       with_reducible refine (HC.out _).mono ?_
       rintro e w3 ⟨rfl, rfl⟩)
    | (go_at_call 158
       go_loud (with_reducible refine (HD.out _ HG2.out).mono ?_)
       rintro e w4 ⟨o, rfl, hp, g4⟩
       obtain ⟨ra, rc, rfl⟩ := hp.shape
       have HP := Lib.hid hp
       have HG4 := Lib.hid (HG2.out.trans g4)
       obtain ⟨t0, t1, t2, t3, t4, t5⟩ := bx3 (HS2.out.grown g4).hd
       clear hp g4))
  have hz2 := HZ2.out
  have HMM := Lib.hid (HP.out.only (three_set (w := w4) (w.heap.size + 1 + 1) (.int .i64 a) (.int .i64 c) (.slice ra PL.length rc)) (fun k' hk' => by have : k' = w.heap.size + 1 + 1 := hk'; omega))
  have HE := Lib.hid (box3_end HG4.out (show w.heap.size ≤ w.heap.size + 1 + 1 by omega) (.int .i64 a) (.int .i64 c) (.slice ra PL.length rc))
  generalize PL.length = rl at *
  refine bodyPost_ret_by (v := .tuple #[.agg #[.int .i64 a, .int .i64 c, .slice ra rl rc], .bool true]) ?_ rfl ⟨_, rfl, HMM.out.base (by omega), HE.out⟩
  simp [results, go_sem, *]
end Go.Proofs.YtpeaeminjbjlnaaDoor

/-
  Laws of linear relations: converses, identities, associativity. Plain mathematics. Conditions: the number of elements is a field of the program's kind; rows of one length with elements.
-/
namespace Go.Proofs.YtpeaeminjbjlnaaDoor
open La
set_option linter.unusedVariables false
section rel
variable {p : Nat} [NeZero p]

theorem spn_cat {n m : Nat} {A : List (List Int)} {u u' v v' : Vec p} (h1 : ∀ j, j < n → u j = u' j) (h2 : ∀ j, j < m → v j = v' j) (h : Spn p (n + m) A (cat n u v)) : Spn p (n + m) A (cat n u' v') := by
  refine h.congr fun j hj => ?_
  unfold cat
  by_cases hn : j < n
  · rw [if_pos hn, if_pos hn, h1 j hn]
  · rw [if_neg hn, if_neg hn, h2 (j - n) (by omega)]
theorem spn_self {n m : Nat} {A : List (List Int)} {v : Vec p} : Spn p (n + m) A (cat n v fun j => v (n + j)) ↔ Spn p (n + m) A v := by
  have e : ∀ j, j < n + m → v j = cat n v (fun j => v (n + j)) j := cat_split (fun _ _ => rfl) fun _ _ => rfl
  exact ⟨fun h => h.congr e, fun h => h.congr fun j hj => (e j hj).symm⟩

/-! ### converses -/
def convRow (l : Nat) (a : List Int) : List Int := a.drop l ++ a.take l
def convL (p : Int) (l r : Nat) (A : List (List Int)) : List (List Int) := reducedL p (r + l) (A.map (convRow l))
omit [NeZero p] in
theorem convRow_ok {l r : Nat} {a : List Int} (h : VecOk p (l + r) a) : VecOk p (r + l) (convRow l a) := app_vok (drop_vok h) (take_vok h (by omega))
theorem vec_conv {l r j : Nat} {a : List Int} (h : VecOk p (l + r) a) : (j < r → vec p (convRow l a) j = vec p a (l + j)) ∧ (j < l → vec p (convRow l a) (r + j) = vec p a j) := by
  have hl := (drop_vok h).1
  refine ⟨fun hj => ?_, fun hj => ?_⟩
  · unfold convRow
    rw [vec_appL (by rw [hl]; exact hj), vec_drop]
  · have := vec_appR (p := p) (a.drop l) (a.take l) j
    rw [hl] at this
    unfold convRow
    rw [this, vec_take hj]
theorem conv_span {l r : Nat} {A : List (List Int)} (hf : fldN p = true) (hA : RowsOk p (l + r) A) (v : Vec p) : Spn p (r + l) (convL p l r A) v ↔ Spn p (l + r) A (cat l (fun j => v (r + j)) v) := by
  have hok := map_ok (f := convRow l) hA fun x hx => convRow_ok hx
  unfold convL
  rw [reducedL_span hf hok]
  have row : ∀ i, i < A.length → VecOk p (l + r) (A.getD i []) := fun i hi => hA _ (getD_mem hi)
  have f1 : ∀ x : Vec p, ∀ j, j < r → comb (A.map (convRow l)).length x (mx p (A.map (convRow l))) j = comb A.length x (mx p A) (l + j) := by
    intro x j hj
    rw [List.length_map]
    exact S_congr fun i hi => by rw [mx_map hi, (vec_conv (row i hi)).1 hj]; rfl
  have f2 : ∀ x : Vec p, ∀ j, j < l → comb (A.map (convRow l)).length x (mx p (A.map (convRow l))) (r + j) = comb A.length x (mx p A) j := by
    intro x j hj
    rw [List.length_map]
    exact S_congr fun i hi => by rw [mx_map hi, (vec_conv (row i hi)).2 hj]; rfl
  constructor
  · rintro ⟨x, hx⟩
    refine ⟨x, fun j hj => ?_⟩
    by_cases hjl : j < l
    · rw [cat_l hjl, hx _ (by omega), f2 x j hjl]
    · obtain ⟨t, rfl⟩ : ∃ t, j = l + t := ⟨j - l, by omega⟩
      rw [cat_r, hx t (by omega), f1 x t (by omega)]
  · rintro ⟨x, hx⟩
    refine ⟨x, fun j hj => ?_⟩
    by_cases hjr : j < r
    · rw [f1 x j hjr, ← hx _ (by omega), cat_r]
    · obtain ⟨t, rfl⟩ : ∃ t, j = r + t := ⟨j - r, by omega⟩
      rw [f2 x t (by omega), ← hx t (by omega), cat_l (by omega)]
theorem conv_red {l r : Nat} {A : List (List Int)} (hf : fldN p = true) (hA : RowsOk p (l + r) A) : IsRed p (r + l) (convL p l r A) := reducedL_red hf (map_ok hA fun x hx => convRow_ok hx)
/-- The converse of a composition is the composition of the converses. -/
theorem conv_comp {l m r : Nat} {A C : List (List Int)} (hf : fldN p = true) (hA : RowsOk p (l + m) A) (hC : RowsOk p (m + r) C) : compL p r m l (convL p m r C) (convL p l m A) = convL p l r (compL p l m r A C) := by
  have h1 := (conv_red hf hC).1
  have h2 := (conv_red hf hA).1
  have h3 := (compL_red hf hA hC).1
  refine red_unique hf (compL_red hf h1 h2) (conv_red hf h3) fun v => ?_
  rw [compL_span hf h1 h2, conv_span hf h3, compL_span hf hA hC]
  unfold Comp
  constructor
  · rintro ⟨y, a, c⟩
    rw [conv_span hf hC] at a
    rw [conv_span hf hA] at c
    refine ⟨y, spn_cat (fun j hj => ?_) (fun j hj => ?_) c, spn_cat (fun j hj => ?_) (fun j hj => ?_) a⟩
    · rw [cat_r, cat_l hj]
    · rw [cat_l hj]
    · rw [cat_r]
    · rw [cat_l hj, cat_r]
  · rintro ⟨y, a, c⟩
    refine ⟨y, ?_, ?_⟩
    · rw [conv_span hf hC]
      refine spn_cat (fun j hj => ?_) (fun j hj => ?_) c
      · rw [cat_r]
      · rw [cat_r, cat_l hj]
    · rw [conv_span hf hA]
      refine spn_cat (fun j hj => ?_) (fun j hj => ?_) a
      · rw [cat_l hj, cat_r]
      · rw [cat_l hj]

/-! ### identities -/
def idRow (n i : Nat) : List Int := unitL n i ++ unitL n i
def idRel (n : Nat) : List (List Int) := (List.range n).map (idRow n)
omit [NeZero p] in
theorem idRow_ok {n i : Nat} (hp : 1 < p) : VecOk p (n + n) (idRow n i) := app_vok (unitL_ok hp) (unitL_ok hp)
omit [NeZero p] in
theorem idRel_ok {n : Nat} (hp : 1 < p) : RowsOk p (n + n) (idRel n) := by
  intro row hr
  obtain ⟨i, _, rfl⟩ := List.mem_map.1 hr
  exact idRow_ok hp
theorem idRel_len (n : Nat) : (idRel n).length = n := by simp [idRel]
theorem mx_idRel {n i : Nat} (hi : i < n) : mx p (idRel n) i = vec p (idRow n i) := by
  rw [mx_at (by rw [idRel_len]; exact hi)]
  simp [idRel]
theorem vec_idRow {n i j : Nat} (hj : j < n) : vec p (idRow n i) j = (if i = j then 1 else 0) ∧ vec p (idRow n i) (n + j) = if i = j then 1 else 0 := by
  have hl : (unitL n i).length = n := by simp [unitL]
  refine ⟨?_, ?_⟩
  · unfold idRow
    rw [vec_appL (by rw [hl]; exact hj), vec_unitL hj]
  · have := vec_appR (p := p) (unitL n i) (unitL n i) j
    rw [hl] at this
    unfold idRow
    rw [this, vec_unitL hj]
theorem idRel_span {n : Nat} (v : Vec p) : Spn p (n + n) (idRel n) v ↔ ∀ j, j < n → v j = v (n + j) := by
  have f1 : ∀ x : Vec p, ∀ j, j < n → comb (idRel n).length x (mx p (idRel n)) j = x j := by
    intro x j hj
    rw [idRel_len]
    exact comb_delta hj x fun i hi => by rw [mx_idRel hi, (vec_idRow hj).1]
  have f2 : ∀ x : Vec p, ∀ j, j < n → comb (idRel n).length x (mx p (idRel n)) (n + j) = x j := by
    intro x j hj
    rw [idRel_len]
    have : comb n x (mx p (idRel n)) (n + j) = comb n x (fun i t => mx p (idRel n) i (n + t)) j := rfl
    rw [this]
    exact comb_delta hj x fun i hi => by rw [mx_idRel hi, (vec_idRow hj).2]
  constructor
  · rintro ⟨x, hx⟩ j hj
    rw [hx j (by omega), hx (n + j) (by omega), f1 x j hj, f2 x j hj]
  · intro h
    refine ⟨v, fun j hj => ?_⟩
    by_cases hjn : j < n
    · rw [f1 v j hjn]
    · obtain ⟨t, rfl⟩ : ∃ t, j = n + t := ⟨j - n, by omega⟩
      rw [f2 v t (by omega), h t (by omega)]
/-- Identities change nothing. -/
theorem id_comp {n r : Nat} {A : List (List Int)} (hf : fldN p = true) (hA : IsRed p (n + r) A) : compL p n n r (idRel n) A = A := by
  have hi := idRel_ok (p := p) (n := n) (lt_p hf)
  refine red_unique hf (compL_red hf hi hA.1) hA fun v => ?_
  rw [compL_span hf hi hA.1]
  unfold Comp
  constructor
  · rintro ⟨y, a, c⟩
    rw [idRel_span] at a
    rw [← spn_self]
    refine spn_cat (fun j hj => ?_) (fun j hj => rfl) c
    have := a j hj
    rw [cat_l hj, cat_r] at this
    exact this.symm
  · intro h
    refine ⟨v, ?_, spn_self.2 h⟩
    rw [idRel_span]
    intro j hj
    rw [cat_l hj, cat_r]
/-- Composition is associative. -/
theorem comp_assoc {a b c d : Nat} {A C E : List (List Int)} (hf : fldN p = true) (hA : RowsOk p (a + b) A) (hC : RowsOk p (b + c) C) (hE : RowsOk p (c + d) E) :
    compL p a c d (compL p a b c A C) E = compL p a b d A (compL p b c d C E) := by
  have h1 := (compL_red hf hA hC).1
  have h2 := (compL_red hf hC hE).1
  refine red_unique hf (compL_red hf h1 hE) (compL_red hf hA h2) fun v => ?_
  rw [compL_span hf h1 hE, compL_span hf hA h2]
  unfold Comp
  constructor
  · rintro ⟨z, x, e⟩
    rw [compL_span hf hA hC] at x
    obtain ⟨y, s, t⟩ := x
    refine ⟨y, spn_cat (fun j hj => ?_) (fun j hj => rfl) s, ?_⟩
    · rw [cat_l hj]
    · rw [compL_span hf hC hE]
      refine ⟨z, spn_cat (fun j hj => ?_) (fun j hj => ?_) t, spn_cat (fun j hj => rfl) (fun j hj => ?_) e⟩
      · rw [cat_l hj]
      · rw [cat_r]
      · rw [cat_r]
  · rintro ⟨y, s, x⟩
    rw [compL_span hf hC hE] at x
    obtain ⟨z, t, e⟩ := x
    refine ⟨z, ?_, spn_cat (fun j hj => rfl) (fun j hj => ?_) e⟩
    · rw [compL_span hf hA hC]
      refine ⟨y, spn_cat (fun j hj => ?_) (fun j hj => rfl) s, spn_cat (fun j hj => ?_) (fun j hj => ?_) t⟩
      · rw [cat_l hj]
      · rw [cat_l hj]
      · rw [cat_r]
    · rw [cat_r]

/-! ### orthogonals -/
def flipRow (p : Int) (l : Nat) (a : List Int) : List Int := a.take l ++ (a.drop l).map fun x => (-x) % p
def orthR (p : Int) (l r : Nat) (A : List (List Int)) : List (List Int) := orthL p (A.map (flipRow p l)) (l + r)
theorem flipRow_ok {l r : Nat} {a : List Int} (h : VecOk p (l + r) a) : VecOk p (l + r) (flipRow p l a) := by
  refine app_vok (take_vok h (by omega)) ⟨by rw [List.length_map]; exact (drop_vok h).1, fun z hz => ?_⟩
  obtain ⟨x, _, rfl⟩ := List.mem_map.1 hz
  have := pos_int p
  exact ⟨Int.emod_nonneg _ (by omega), Int.emod_lt_of_pos _ (by omega)⟩
theorem vec_flip {l r j : Nat} {a : List Int} (h : VecOk p (l + r) a) : (j < l → vec p (flipRow p l a) j = vec p a j) ∧ (j < r → vec p (flipRow p l a) (l + j) = - vec p a (l + j)) := by
  have hl := (take_vok h (k := l) (by omega)).1
  have hd := (drop_vok h).1
  refine ⟨fun hj => ?_, fun hj => ?_⟩
  · unfold flipRow
    rw [vec_appL (by rw [hl]; exact hj), vec_take hj]
  · have := vec_appR (p := p) (a.take l) ((a.drop l).map fun x => (-x) % (p : Int)) j
    rw [hl] at this
    unfold flipRow
    rw [this, vec_at (by rw [List.length_map, hd]; exact hj), List.getElem_map, toF_emod, toF_neg, ← vec_at, vec_drop]
/-- the product that belongs to relations -/
def form (l r : Nat) (v w : Vec p) : Fin p := S l (fun j => v j * w j) - S r (fun j => v (l + j) * w (l + j))
def PerpR (p l r : Nat) [NeZero p] (A : List (List Int)) (v : Vec p) : Prop := ∀ w, Spn p (l + r) A w → form l r v w = 0
theorem form_flip {l r : Nat} {a : List Int} (h : VecOk p (l + r) a) (v : Vec p) : S (l + r) (fun j => v j * vec p (flipRow p l a) j) = form l r v (vec p a) := by
  rw [S_append]
  unfold form
  have e1 : S l (fun j => v j * vec p (flipRow p l a) j) = S l (fun j => v j * vec p a j) := S_congr fun j hj => by rw [(vec_flip h).1 hj]
  have e2 : S r (fun j => v (l + j) * vec p (flipRow p l a) (l + j)) = - S r (fun j => v (l + j) * vec p a (l + j)) := by
    rw [show (-S r (fun j => v (l + j) * vec p a (l + j))) = (-1) * S r (fun j => v (l + j) * vec p a (l + j)) by grind, ← S_mul]
    exact S_congr fun j hj => by rw [(vec_flip h).2 hj]; grind
  rw [e1, e2]
  grind
theorem form_congr {l r : Nat} {v w w' : Vec p} (h : ∀ j, j < l + r → w j = w' j) : form l r v w = form l r v w' := by
  unfold form
  have e1 : S l (fun j => v j * w j) = S l (fun j => v j * w' j) := S_congr fun j hj => by rw [h j (by omega)]
  have e2 : S r (fun j => v (l + j) * w (l + j)) = S r (fun j => v (l + j) * w' (l + j)) := S_congr fun j hj => by rw [h (l + j) (by omega)]
  rw [e1, e2]
theorem form_comm {l r : Nat} (v w : Vec p) : form l r v w = form l r w v := by
  unfold form
  have e1 : S l (fun j => v j * w j) = S l (fun j => w j * v j) := S_congr fun j hj => by grind
  have e2 : S r (fun j => v (l + j) * w (l + j)) = S r (fun j => w (l + j) * v (l + j)) := S_congr fun j hj => by grind
  rw [e1, e2]
/-- the flipped vector -/
def flipV (l : Nat) (v : Vec p) : Vec p := fun j => if j < l then v j else - v j
theorem form_dot {l r : Nat} (v w : Vec p) : form l r v w = S (l + r) (fun j => w j * flipV l v j) := by
  rw [S_append]
  unfold form flipV
  have e1 : S l (fun j => w j * (if j < l then v j else - v j)) = S l (fun j => v j * w j) := S_congr fun j hj => by rw [if_pos hj]; grind
  have e2 : S r (fun j => w (l + j) * (if l + j < l then v (l + j) else - v (l + j))) = - S r (fun j => v (l + j) * w (l + j)) := by
    rw [show (-S r (fun j => v (l + j) * w (l + j))) = (-1) * S r (fun j => v (l + j) * w (l + j)) by grind, ← S_mul]
    exact S_congr fun j hj => by rw [if_neg (by omega)]; grind
  rw [e1, e2]
  grind
theorem orthR_span {l r : Nat} {A : List (List Int)} (hf : fldN p = true) (hA : RowsOk p (l + r) A) (v : Vec p) : Spn p (l + r) (orthR p l r A) v ↔ PerpR p l r A v := by
  have hok := map_ok (f := flipRow p l) hA fun x hx => flipRow_ok hx
  unfold orthR
  rw [orth_span hf hok]
  unfold Perp PerpR
  rw [List.length_map]
  have row : ∀ i, i < A.length → S (l + r) (fun j => v j * mx p (A.map (flipRow p l)) i j) = form l r v (mx p A i) := fun i hi => by
    rw [mx_map hi, form_flip (hA _ (getD_mem hi))]
    rfl
  constructor
  · intro h w hw
    rw [form_dot]
    exact In.dot hw fun i hi => by rw [← form_dot, ← row i hi]; exact h i hi
  · intro h i hi
    rw [row i hi]
    exact h _ (In.row hi)
theorem orthR_red {l r : Nat} {A : List (List Int)} (hf : fldN p = true) (hA : RowsOk p (l + r) A) : IsRed p (l + r) (orthR p l r A) := orth_red hf (map_ok hA fun x hx => flipRow_ok hx)
/-- What is orthogonal to all that is orthogonal to the rows is in their span. -/
theorem perp_perp {n : Nat} {A : List (List Int)} (hf : fldN p = true) (hA : RowsOk p n A) {v : Vec p} (h : ∀ w, Perp p n A w → S n (fun j => w j * v j) = 0) : Spn p n A v := by
  have hr := reducedL_red hf hA
  rw [← reducedL_span hf hA, sep_exists hf hr]
  intro w hw
  refine h (vec p w) ?_
  have h1 := (orth_span hf hr.1 (vec p w)).1 (by
    obtain ⟨i, hi, rfl⟩ := List.getElem_of_mem hw
    have := In.row (n := n) (A := mx p (orthL p (reducedL p n A) n)) hi
    rwa [mx_at hi] at this)
  exact perp_span (fun v hv => (reducedL_span hf hA v).2 hv) h1
theorem flip_flip {l : Nat} (v : Vec p) (j : Nat) : flipV l (flipV l v) j = v j := by
  unfold flipV
  by_cases h : j < l
  · simp [h]
  · simp only [h, if_false]; grind
theorem perpR_perpR {l r : Nat} {A : List (List Int)} (hf : fldN p = true) (hA : RowsOk p (l + r) A) {v : Vec p} (h : ∀ w, PerpR p l r A w → form l r v w = 0) : Spn p (l + r) A v := by
  refine perp_perp hf hA fun w hw => ?_
  have h1 : PerpR p l r A (flipV l w) := by
    intro u hu
    rw [form_dot]
    refine In.dot hu fun i hi => ?_
    rw [← hw i hi]
    exact S_congr fun j _ => by rw [flip_flip]; grind
  have h2 := h _ h1
  rw [form_comm, form_dot] at h2
  rw [← h2]
  exact S_congr fun j _ => by rw [flip_flip]; grind
/-- Twice orthogonal is the relation itself. -/
theorem orthR_orthR {l r : Nat} {A : List (List Int)} (hf : fldN p = true) (hA : IsRed p (l + r) A) : orthR p l r (orthR p l r A) = A := by
  have ho := orthR_red hf hA.1
  refine red_unique hf (orthR_red hf ho.1) hA fun v => ?_
  rw [orthR_span hf ho.1]
  constructor
  · intro h
    refine perpR_perpR hf hA.1 fun w hw => ?_
    exact h w ((orthR_span hf hA.1 w).2 hw)
  · intro h w hw
    rw [form_comm]
    exact (orthR_span hf hA.1 w).1 hw v h
/-- Inclusion is reversed. -/
theorem incl_rev {l r : Nat} {A C : List (List Int)} (hf : fldN p = true) (hA : RowsOk p (l + r) A) (hC : RowsOk p (l + r) C) :
    (∀ v, Spn p (l + r) C v → Spn p (l + r) A v) ↔ (∀ v, Spn p (l + r) (orthR p l r A) v → Spn p (l + r) (orthR p l r C) v) := by
  constructor
  · intro h v hv
    rw [orthR_span hf hC]
    rw [orthR_span hf hA] at hv
    exact fun w hw => hv w (h w hw)
  · intro h v hv
    refine perpR_perpR hf hA fun w hw => ?_
    have := h w ((orthR_span hf hA w).2 hw)
    rw [orthR_span hf hC] at this
    rw [form_comm]
    exact this v hv
end rel
end Go.Proofs.YtpeaeminjbjlnaaDoor

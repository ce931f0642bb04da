/-
  Total and single-valued relations and the matrix of a relation in the program, checked. Conditions: small sizes.
-/
import Derived.Test.YtpeaeminjbjlnaaDoorMf01
namespace Go.Proofs.YtpeaeminjbjlnaaDoor
open Go.RowKit
set_option linter.unusedVariables false

def fnRB (p l r : Int) (A : List (List Int)) : Bool := relB p l r A && fnB p l.toNat A
set_option maxRecDepth 100000 in
theorem isTotalRel_any (p l r : Int) (u : Value) (A : List (List Int)) (w : World) (ht : Tab w) (hu : MatC w u A) (ha : A.length ≤ 1000000) (haa : ∀ row ∈ A, row.length ≤ 1000000) :
    Calls Tryd.prog 83 #[.int .i64 p, rlV l r u] w fun e w' => e = .returned (.tuple #[.bool (relB p l r A && totB p l.toNat A), .bool (relB p l r A)]) ∧ w.grownBy w' none := by
  have H1 := fun W (hg : w.grownBy W none) => isRelation_any p l r u A W (ht.grown hg) (hu.v.carry hg) ha haa
  cases hb : relB p l r A
  · rw [hb] at H1
    have HA := Lib.hid H1
    obtain ⟨ua, uc, rfl⟩ := hu.shape
    unfold rlV at *
    generalize A.length = la at *
    have HS := Lib.hid ((Sep.start w).box #[.int .i64 l, .int .i64 r, .slice ua la uc] 65)
    have HG := Lib.hid (show w.grownBy _ none from HS.out.tl.hd)
    obtain ⟨y0, y1, y2, _, _, _⟩ := bx3 HS.out.hd
    clear hu haa H1 ht hb
    go_enter Tryd.func83, Tryd.ntmps83
    go_wp2_with (
      go_at_call 156
      with_reducible refine (HA.out _ HG.out).mono ?_
      rintro e w1 ⟨rfl, g1⟩
      have HG1 := Lib.hid (HG.out.trans g1)
      clear g1)
    refine bodyPost_ret_by (v := .tuple #[.bool false, .bool false]) ?_ rfl ⟨rfl, HG1.out⟩
    simp [results, go_sem, *]
  · rw [hb] at H1
    have HA := Lib.hid H1
    obtain ⟨q, iq, a, b, rfl, rfl, rfl, hf, hq, h1, h2, hA, hok⟩ := relB_parts hb
    simp only [Int.toNat_natCast, Bool.true_and]
    have HD := Lib.hid fun W (hg : w.grownBy W none) => isTotal_any q a b u A W hf hq (hu.carry hg) hok (by omega) h1
    obtain ⟨ua, uc, rfl⟩ := hu.shape
    unfold rlV at *
    generalize totB q a A = tb at *
    generalize A.length = la at *
    have HS := Lib.hid ((Sep.start w).box #[.int .i64 a, .int .i64 b, .slice ua la uc] 65)
    have HG := Lib.hid (show w.grownBy _ none from HS.out.tl.hd)
    obtain ⟨y0, y1, y2, _, _, _⟩ := bx3 HS.out.hd
    clear hu haa H1 ht hb hA hok hf
    go_enter Tryd.func83, Tryd.ntmps83
    go_wp2_with (first
      | (go_at_call 156
         with_reducible refine (HA.out _ HG.out).mono ?_
         rintro e w1 ⟨rfl, g1⟩
         have HS1 := Lib.hid (HS.out.grown g1)
         have HG1 := Lib.hid (HG.out.trans g1)
         obtain ⟨a0, a1, a2, _, _, _⟩ := bx3 HS1.out.hd
         clear g1)
      | (go_at_call 211
         with_reducible refine (HD.out _ HG1.out).mono ?_
         rintro e w2 ⟨rfl, g2⟩
         have HG2 := Lib.hid (HG1.out.trans g2)
         clear g2))
    refine bodyPost_ret_by (v := .tuple #[.bool tb, .bool true]) ?_ rfl ⟨rfl, HG2.out⟩
    simp [results, go_sem, *]
set_option maxRecDepth 100000 in
theorem isSingleRel_any (p l r : Int) (u : Value) (A : List (List Int)) (w : World) (ht : Tab w) (hu : MatC w u A) (ha : A.length ≤ 1000000) (haa : ∀ row ∈ A, row.length ≤ 1000000) :
    Calls Tryd.prog 84 #[.int .i64 p, rlV l r u] w fun e w' => e = .returned (.tuple #[.bool (relB p l r A && sglB l.toNat A), .bool (relB p l r A)]) ∧ w.grownBy w' none := by
  have H1 := fun W (hg : w.grownBy W none) => isRelation_any p l r u A W (ht.grown hg) (hu.v.carry hg) ha haa
  cases hb : relB p l r A
  · rw [hb] at H1
    have HA := Lib.hid H1
    obtain ⟨ua, uc, rfl⟩ := hu.shape
    unfold rlV at *
    generalize A.length = la at *
    have HS := Lib.hid ((Sep.start w).box #[.int .i64 l, .int .i64 r, .slice ua la uc] 65)
    have HG := Lib.hid (show w.grownBy _ none from HS.out.tl.hd)
    obtain ⟨y0, y1, y2, _, _, _⟩ := bx3 HS.out.hd
    clear hu haa H1 ht hb
    go_enter Tryd.func84, Tryd.ntmps84
    go_wp2_with (
      go_at_call 156
      with_reducible refine (HA.out _ HG.out).mono ?_
      rintro e w1 ⟨rfl, g1⟩
      have HG1 := Lib.hid (HG.out.trans g1)
      clear g1)
    refine bodyPost_ret_by (v := .tuple #[.bool false, .bool false]) ?_ rfl ⟨rfl, HG1.out⟩
    simp [results, go_sem, *]
  · rw [hb] at H1
    have HA := Lib.hid H1
    obtain ⟨q, iq, a, b, rfl, rfl, rfl, hf, hq, h1, h2, hA, hok⟩ := relB_parts hb
    simp only [Int.toNat_natCast, Bool.true_and]
    have HD := Lib.hid fun W (hg : w.grownBy W none) => isSingleValued_any a b u A W (hu.carry hg) (fun row hr => (hok row hr).1) (by omega) h1
    obtain ⟨ua, uc, rfl⟩ := hu.shape
    unfold rlV at *
    generalize sglB a A = tb at *
    generalize A.length = la at *
    have HS := Lib.hid ((Sep.start w).box #[.int .i64 a, .int .i64 b, .slice ua la uc] 65)
    have HG := Lib.hid (show w.grownBy _ none from HS.out.tl.hd)
    obtain ⟨y0, y1, y2, _, _, _⟩ := bx3 HS.out.hd
    clear hu haa H1 ht hb hA hok hf
    go_enter Tryd.func84, Tryd.ntmps84
    go_wp2_with (first
      | (go_at_call 156
         with_reducible refine (HA.out _ HG.out).mono ?_
         rintro e w1 ⟨rfl, g1⟩
         have HS1 := Lib.hid (HS.out.grown g1)
         have HG1 := Lib.hid (HG.out.trans g1)
         obtain ⟨a0, a1, a2, _, _, _⟩ := bx3 HS1.out.hd
         clear g1)
      | (go_at_call 212
         with_reducible refine (HD.out _ HG1.out).mono ?_
         rintro e w2 ⟨rfl, g2⟩
         have HG2 := Lib.hid (HG1.out.trans g2)
         clear g2))
    refine bodyPost_ret_by (v := .tuple #[.bool tb, .bool true]) ?_ rfl ⟨rfl, HG2.out⟩
    simp [results, go_sem, *]
set_option maxRecDepth 100000 in
theorem functionOfRel_no (p l r : Int) (u : Value) (A : List (List Int)) (w : World) (ht : Tab w) (hu : MatC w u A) (ha : A.length ≤ 1000000) (haa : ∀ row ∈ A, row.length ≤ 1000000) (hno : fnRB p l r A = false) :
    Calls Tryd.prog 85 #[.int .i64 p, rlV l r u] w fun e w' => e = .returned (.tuple #[mxV 0 nilS, .bool false]) ∧ w.grownBy w' none := by
  have H1 := fun W (hg : w.grownBy W none) => isRelation_any p l r u A W (ht.grown hg) (hu.v.carry hg) ha haa
  unfold fnRB at hno
  cases hb : relB p l r A
  · rw [hb] at H1
    have HA := Lib.hid H1
    obtain ⟨ua, uc, rfl⟩ := hu.shape
    unfold rlV mxV nilS at *
    generalize A.length = la at *
    have HS := Lib.hid (((Sep.start w).box #[.int .i64 l, .int .i64 r, .slice ua la uc] 65).box #[.int .i64 0, .slice none 0 0] 39)
    have HG := Lib.hid (show w.grownBy _ none from HS.out.tl.tl.hd)
    simp only [show ∀ (W : World) o, (W.alloc o).heap.size = W.heap.size + 1 from fun W o => by simp] at HS
    obtain ⟨y0, y1, y2, _, _, _⟩ := bx3 HS.out.s2.hd
    clear hu haa H1 ht hb hno
    go_enter Tryd.func85, Tryd.ntmps85
    go_wp2_with (
      go_at_call 156
      with_reducible refine (HA.out _ HG.out).mono ?_
      rintro e w1 ⟨rfl, g1⟩
      have HS1 := Lib.hid (HS.out.grown g1)
      obtain ⟨x0, x1, x2, x3⟩ := bx HS1.out.hd
      have HQ := Lib.hid ((HS1.out.setB 0 (.int .i64 0)).setB 1 (.slice none 0 0))
      clear g1)
    refine bodyPost_ret_by (v := .tuple #[.agg #[.int .i64 0, .slice none 0 0], .bool false]) ?_ rfl ⟨rfl, HQ.out.tl.tl.hd⟩
    simp [results, go_sem, *]
  · rw [hb] at H1 hno
    have HA := Lib.hid H1
    obtain ⟨q, iq, a, b, rfl, rfl, rfl, hf, hq, h1, h2, hA, hok⟩ := relB_parts hb
    simp only [Int.toNat_natCast, Bool.true_and] at hno
    have HD := Lib.hid fun W (hg : w.grownBy W none) => functionOf_no q a b u A W hf hq (hu.carry hg) hok (by omega) h1 hno
    obtain ⟨ua, uc, rfl⟩ := hu.shape
    unfold rlV mxV nilS at *
    generalize A.length = la at *
    have HS := Lib.hid (((Sep.start w).box #[.int .i64 a, .int .i64 b, .slice ua la uc] 65).box #[.int .i64 0, .slice none 0 0] 39)
    have HG := Lib.hid (show w.grownBy _ none from HS.out.tl.tl.hd)
    simp only [show ∀ (W : World) o, (W.alloc o).heap.size = W.heap.size + 1 from fun W o => by simp] at HS
    obtain ⟨y0, y1, y2, _, _, _⟩ := bx3 HS.out.s2.hd
    clear hu haa H1 ht hb hno hA hok hf
    go_enter Tryd.func85, Tryd.ntmps85
    go_wp2_with (first
      | (go_at_call 156
         with_reducible refine (HA.out _ HG.out).mono ?_
         rintro e w1 ⟨rfl, g1⟩
         have HS1 := Lib.hid (HS.out.grown g1)
         have HG1 := Lib.hid (HG.out.trans g1)
         obtain ⟨a0, a1, a2, _, _, _⟩ := bx3 HS1.out.s2.hd
         clear g1)
      | (go_at_call 213
         with_reducible refine (HD.out _ HG1.out).mono ?_
         rintro e w2 ⟨rfl, g2⟩
         have HS2 := Lib.hid (HS1.out.grown g2)
         obtain ⟨x0, x1, x2, x3⟩ := bx HS2.out.hd
         have HQ := Lib.hid ((HS2.out.setB 0 (.int .i64 0)).setB 1 (.slice none 0 0))
         clear g2))
    refine bodyPost_ret_by (v := .tuple #[.agg #[.int .i64 0, .slice none 0 0], .bool false]) ?_ rfl ⟨rfl, HQ.out.tl.tl.hd⟩
    simp [results, go_sem, *]
set_option maxRecDepth 100000 in
theorem functionOfRel_yes (p l r : Int) (u : Value) (A : List (List Int)) (w : World) (ht : Tab w) (hu : MatC w u A) (hb : fnRB p l r A = true) :
    Calls Tryd.prog 85 #[.int .i64 p, rlV l r u] w fun e w' => ∃ o vs, e = .returned (.tuple #[mxV r o, .bool true]) ∧ OwnM w.heap.size w' o vs (A.map fun x => x.drop l.toNat) ∧ w.grownBy w' none := by
  unfold fnRB at hb
  rw [Bool.and_eq_true] at hb
  obtain ⟨hb, hfn⟩ := hb
  obtain ⟨q, iq, a, b, rfl, rfl, rfl, hf, hq, h1, h2, hA, hok⟩ := relB_parts hb
  have H1 := fun W (hg : w.grownBy W none) => isRelation_any q a b u A W (ht.grown hg) (hu.v.carry hg) (by omega) (fun row hr => by rw [(hok row hr).1]; omega)
  rw [hb] at H1
  have HA := Lib.hid H1
  simp only [Int.toNat_natCast] at hfn ⊢
  have HD := Lib.hid fun W (hg : w.grownBy W none) => functionOf_yes q a b u A W hf hq (hu.carry hg) hok (by omega) h1 hfn
  obtain ⟨ua, uc, rfl⟩ := hu.shape
  unfold rlV mxV at *
  generalize (A.map fun x => x.drop a) = CV at *
  generalize A.length = la at *
  have HS := Lib.hid (((Sep.start w).box #[.int .i64 a, .int .i64 b, .slice ua la uc] 65).box #[.int .i64 0, .slice none 0 0] 39)
  have HG := Lib.hid (show w.grownBy _ none from HS.out.tl.tl.hd)
  simp only [show ∀ (W : World) o, (W.alloc o).heap.size = W.heap.size + 1 from fun W o => by simp] at HS
  obtain ⟨y0, y1, y2, _, _, _⟩ := bx3 HS.out.s2.hd
  clear hu H1 ht hb hfn hA hok hf
  go_enter Tryd.func85, Tryd.ntmps85
  go_wp2_with (first
    | (go_at_call 156
       with_reducible refine (HA.out _ HG.out).mono ?_
       rintro e w1 ⟨rfl, g1⟩
       have HS1 := Lib.hid (HS.out.grown g1)
       have HG1 := Lib.hid (HG.out.trans g1)
       obtain ⟨a0, a1, a2, _, _, _⟩ := bx3 HS1.out.s2.hd
       clear g1)
    | (go_at_call 213
       go_loud (with_reducible refine (HD.out _ HG1.out).mono ?_)
       rintro e w2 ⟨o, vs, rfl, hp, g2⟩
       obtain ⟨ra, rc, hoe, _, _⟩ := own_form hp
       subst hoe
       have HP := Lib.hid hp
       have hsz := lt_of_blk HS1.out.hd
       have HS2 := Lib.hid (HS1.out.grown g2)
       obtain ⟨x0, x1, x2, x3⟩ := bx HS2.out.hd
       have HQ := Lib.hid ((HS2.out.setB 0 (.int .i64 b)).setB 1 (.slice ra CV.length rc))
       clear hp g2))
  have HMM := Lib.hid (HP.out.only (twoS (w := w2) (w.heap.size + 1) (.int .i64 b) (.slice ra CV.length rc)) (fun k' hf' hk' => by have : k' = w.heap.size + 1 := hk'; have := (HP.out.lt hf').1; omega))
  generalize CV.length = rl at *
  refine bodyPost_ret_by (v := .tuple #[.agg #[.int .i64 b, .slice ra rl rc], .bool true]) ?_ rfl ⟨_, _, rfl, HMM.out.base (by omega), HQ.out.tl.tl.hd⟩
  simp [results, go_sem, *]
end Go.Proofs.YtpeaeminjbjlnaaDoor

/-
  Total relations in the reference; the matrix of a relation there. Conditions: small sizes.
-/
namespace Go.Proofs.YtpeaeminjbjlnaaDoor
open Go.RowKit
set_option linter.unusedVariables false

set_option maxRecDepth 100000 in
set_option maxHeartbeats 1000000 in
theorem rlTotal_any (q : Nat) [NeZero q] (l r : Nat) (u : Value) (A : List (List Int)) (w : World) (hf : fldN q = true) (hq : q ≤ 97) (hu : MatC w u A) (hA : RowsOk q (l + r) A) (ha : A.length ≤ l + r) (hlr : l + r ≤ 24) :
    Calls Tryd.prog 215 #[.int .i64 q, rlV l r u] w fun e w' => e = .returned (.bool (totB q l A)) ∧ w.grownBy w' none := by
  have HC := Lib.hid fun W (hg : w.grownBy W none) => rlPart_any q l r u A W hf hq (hu.carry hg) hA ha hlr
  obtain ⟨ua, uc, rfl⟩ := hu.shape
  unfold rlV mxV at *
  unfold totB
  generalize domL q l A = PL at *
  generalize A.length = la at *
  have HS := Lib.hid ((Sep.start w).box #[.int .i64 l, .int .i64 r, .slice ua la uc] 65)
  have HD := Lib.hid HS.out.dr
  have HGD := Lib.hid (show w.grownBy _ none from HD.out.tl.hd)
  have XF := Lib.hid fun W (h : Sep W [BxA w.heap.size #[.int .i64 l, .int .i64 r, .slice ua la uc] 65, KeepA w]) =>
    And.intro (bx3 h.hd).1 (And.intro (bx3 h.hd).2.1 (bx3 h.hd).2.2.1)
  have X0 := Lib.hid (XF.out _ HD.out)
  have hfd : ∀ (x y : Value) (W : World), (Instr.field 74 (.agg #[x, y]) 1).run Tryd.prog W = .ok y W := fun _ _ _ => by kernel_rfl
  clear hu hA hf
  generalize hpl : PL.length = pn at *
  by_cases hn : pn = l
  · have hb : (pn == l) = true := by rw [beq_iff_eq]; exact hn
    have HB := Lib.hid hb
    subst hn
    go_enter Tryd.func215, Tryd.ntmps215
    go_wp2_with fail
    go_region_held3 (fun w' => w'.cell? ⟨w.heap.size, 0, none⟩ = some (.int .i64 pn) ∧ w'.cell? ⟨w.heap.size, 1, none⟩ = some (.int .i64 r) ∧ w'.cell? ⟨w.heap.size, 2, none⟩ = some (.slice ua la uc))
      (first | with_reducible exact X0.out | with_reducible exact X2.out)
      (first
        | (go_at_call 282
           go_loud (refine (HC.out _ HGD.out).mono ?_)
           rintro e w2 ⟨o, rfl, ⟨vs, hp⟩, g2⟩
           obtain ⟨ra, rc, hoe, _, _⟩ := own_form hp
           subst hoe
           rw [hpl] at *
           have HD2 := Lib.hid (HD.out.grown g2)
           have X2 := Lib.hid (XF.out _ HD2.out)
           clear hp g2))
    all_goals
      go_wp2
      go_ret
      exact ⟨by rw [HB.out]; rfl, HD2.out.tl.hd⟩
  · have hb : (pn == l) = false := by rw [beq_eq_false_iff_ne]; exact hn
    have HB := Lib.hid hb
    have hne : ((pn : Int) == (l : Int)) = false := by rw [beq_eq_false_iff_ne]; omega
    go_enter Tryd.func215, Tryd.ntmps215
    go_wp2_with fail
    go_region_held3 (fun w' => w'.cell? ⟨w.heap.size, 0, none⟩ = some (.int .i64 l) ∧ w'.cell? ⟨w.heap.size, 1, none⟩ = some (.int .i64 r) ∧ w'.cell? ⟨w.heap.size, 2, none⟩ = some (.slice ua la uc))
      (first | with_reducible exact X0.out | with_reducible exact X2.out)
      (first
        | (go_at_call 282
           go_loud (refine (HC.out _ HGD.out).mono ?_)
           rintro e w2 ⟨o, rfl, ⟨vs, hp⟩, g2⟩
           obtain ⟨ra, rc, hoe, _, _⟩ := own_form hp
           subst hoe
           rw [hpl] at *
           have HD2 := Lib.hid (HD.out.grown g2)
           have X2 := Lib.hid (XF.out _ HD2.out)
           clear hp g2))
    all_goals
      go_wp2
      go_ret
      exact ⟨by rw [HB.out]; rfl, HD2.out.tl.hd⟩

set_option maxRecDepth 100000 in
set_option maxHeartbeats 2000000 in
theorem sFunctionOf_no (p l r : Int) (u : Value) (A : List (List Int)) (w : World) (hu : MatC w u A) (ha : A.length ≤ 1000000) (haa : ∀ row ∈ A, row.length ≤ 1000000) (hp0 : -1000 ≤ p) (hp1 : p ≤ 1000) (hno : fnRB p l r A = false) :
    Calls Tryd.prog 87 #[.int .i64 p, rlV l r u] w fun e w' => e = .returned (.tuple #[mxV 0 nilS, .bool false]) ∧ w.grownBy w' none := by
  have H1 := fun W (hg : w.grownBy W none) => rlGood_any p l r u A W (hu.v.carry hg) ha haa hp0 hp1
  unfold fnRB at hno
  cases hb : relB p l r A
  · rw [hb] at H1
    have HA := Lib.hid H1
    obtain ⟨ua, uc, rfl⟩ := hu.shape
    unfold rlV mxV nilS at *
    generalize A.length = la at *
    have HS := Lib.hid (((Sep.start w).box #[.int .i64 l, .int .i64 r, .slice ua la uc] 65).box #[.int .i64 0, .slice none 0 0] 39)
    have HG := Lib.hid (show w.grownBy _ none from HS.out.tl.tl.hd)
    simp only [show ∀ (W : World) o, (W.alloc o).heap.size = W.heap.size + 1 from fun W o => by simp] at HS
    obtain ⟨y0, y1, y2, _, _, _⟩ := bx3 HS.out.s2.hd
    clear hu haa H1 hb hno
    go_enter Tryd.func87, Tryd.ntmps87
    go_wp2_with (
      go_at_call 159
      with_reducible refine (HA.out _ HG.out).mono ?_
      rintro e w1 ⟨rfl, g1⟩
      have HS1 := Lib.hid (HS.out.grown g1)
      obtain ⟨x0, x1, x2, x3⟩ := bx HS1.out.hd
      have HQ := Lib.hid ((HS1.out.setB 0 (.int .i64 0)).setB 1 (.slice none 0 0))
      clear g1)
    refine bodyPost_ret_by (v := .tuple #[.agg #[.int .i64 0, .slice none 0 0], .bool false]) ?_ rfl ⟨rfl, HQ.out.tl.tl.hd⟩
    simp [results, go_sem, *]
  · rw [hb] at H1 hno
    have HA := Lib.hid H1
    obtain ⟨q, iq, a, b, rfl, rfl, rfl, hf, hq, h1, h2, hA, hok⟩ := relB_parts hb
    simp only [Int.toNat_natCast, Bool.true_and] at hno
    unfold fnB at hno
    have H2 := fun W (hg : w.grownBy W none) => rlTotal_any q a b u A W hf hq (hu.carry hg) hok h2 h1
    have H3 := fun W (hg : w.grownBy W none) => rlSingle_any a b u A W (hu.v.carry hg) (fun row hr => (hok row hr).1) (by omega) h1
    obtain ⟨ua, uc, rfl⟩ := hu.shape
    unfold rlV mxV nilS at *
    generalize A.length = la at *
    have HS := Lib.hid (((Sep.start w).box #[.int .i64 a, .int .i64 b, .slice ua la uc] 65).box #[.int .i64 0, .slice none 0 0] 39)
    have HG := Lib.hid (show w.grownBy _ none from HS.out.tl.tl.hd)
    simp only [show ∀ (W : World) o, (W.alloc o).heap.size = W.heap.size + 1 from fun W o => by simp] at HS
    obtain ⟨y0, y1, y2, _, _, _⟩ := bx3 HS.out.s2.hd
    clear hu haa H1 hb hA hok hf
    cases h1 : totB q a A <;> cases h2 : sglB a A
    all_goals
      rw [h1] at H2
      rw [h2] at H3
      first
        | (exfalso; rw [h1, h2] at hno; cases hno; done)
        | (have HB := Lib.hid H2; have HC := Lib.hid H3
           clear H2 H3 h1 h2 hno
           go_enter Tryd.func87, Tryd.ntmps87
           go_wp2_with (first
             | (go_at_call 159
                with_reducible refine (HA.out _ HG.out).mono ?_
                rintro e w1 ⟨rfl, g1⟩
                have HS1 := Lib.hid (HS.out.grown g1)
                have HG1 := Lib.hid (HG.out.trans g1)
                obtain ⟨a0, a1, a2, _, _, _⟩ := bx3 HS1.out.s2.hd
                clear g1)
             | (go_at_call 215
                with_reducible refine (HB.out _ HG1.out).mono ?_
                rintro e w2 ⟨rfl, g2⟩
                have HS2 := Lib.hid (HS1.out.grown g2)
                have HG2 := Lib.hid (HG1.out.trans g2)
                obtain ⟨b0, b1, b2, _, _, _⟩ := bx3 HS2.out.s2.hd
                obtain ⟨x0, x1, x2, x3⟩ := bx HS2.out.hd
                have HQ := Lib.hid ((HS2.out.setB 0 (.int .i64 0)).setB 1 (.slice none 0 0))
                clear g2)
             | (go_at_call 216
                with_reducible refine (HC.out _ HG2.out).mono ?_
                rintro e w3 ⟨rfl, g3⟩
                have HS3 := Lib.hid (HS2.out.grown g3)
                obtain ⟨z0, z1, z2, z3⟩ := bx HS3.out.hd
                have HQ := Lib.hid ((HS3.out.setB 0 (.int .i64 0)).setB 1 (.slice none 0 0))
                clear g3))
           refine bodyPost_ret_by (v := .tuple #[.agg #[.int .i64 0, .slice none 0 0], .bool false]) ?_ rfl ⟨rfl, HQ.out.tl.tl.hd⟩
           simp [results, go_sem, *])
set_option maxRecDepth 100000 in
set_option maxHeartbeats 2000000 in
theorem sFunctionOf_yes (p l r : Int) (u : Value) (A : List (List Int)) (w : World) (hu : MatC w u A) (hp0 : -1000 ≤ p) (hp1 : p ≤ 1000) (hb : fnRB p l r A = true) :
    Calls Tryd.prog 87 #[.int .i64 p, rlV l r u] w fun e w' => ∃ o vs, e = .returned (.tuple #[mxV r o, .bool true]) ∧ OwnM w.heap.size w' o vs (A.map fun x => x.drop l.toNat) ∧ w.grownBy w' none := by
  unfold fnRB at hb
  rw [Bool.and_eq_true] at hb
  obtain ⟨hb, hfn⟩ := hb
  obtain ⟨q, iq, a, b, rfl, rfl, rfl, hf, hq, h1, h2, hA, hok⟩ := relB_parts hb
  have H1 := fun W (hg : w.grownBy W none) => rlGood_any q a b u A W (hu.v.carry hg) (by omega) (fun row hr => by rw [(hok row hr).1]; omega) hp0 hp1
  rw [hb] at H1
  have HA := Lib.hid H1
  simp only [Int.toNat_natCast] at hfn ⊢
  unfold fnB at hfn
  rw [Bool.and_eq_true] at hfn
  have H2 := fun W (hg : w.grownBy W none) => rlTotal_any q a b u A W hf hq (hu.carry hg) hok h2 h1
  have H3 := fun W (hg : w.grownBy W none) => rlSingle_any a b u A W (hu.v.carry hg) (fun row hr => (hok row hr).1) (by omega) h1
  rw [hfn.1] at H2
  rw [hfn.2] at H3
  have HB := Lib.hid H2; have HC := Lib.hid H3
  have HU := Lib.hid hu; have HL := Lib.hid (show ∀ row ∈ A, row.length = a + b from fun row hr => (hok row hr).1)
  obtain ⟨ua, uc, rfl⟩ := hu.shape
  unfold rlV mxV at *
  generalize hla : A.length = la at *
  have HLA := Lib.hid hla
  have HS := Lib.hid (((Sep.start w).box #[.int .i64 a, .int .i64 b, .slice ua la uc] 65).box #[.int .i64 0, .slice none 0 0] 39)
  have HG := Lib.hid (show w.grownBy _ none from HS.out.tl.tl.hd)
  simp only [show ∀ (W : World) o, (W.alloc o).heap.size = W.heap.size + 1 from fun W o => by simp] at HS
  obtain ⟨y0, y1, y2, _, _, _⟩ := bx3 HS.out.s2.hd
  clear hu H1 H2 H3 hb hfn hA hok hf hla
  go_enter Tryd.func87, Tryd.ntmps87
  go_wp2_with (first
    | (go_at_call 159
       with_reducible refine (HA.out _ HG.out).mono ?_
       rintro e w1 ⟨rfl, g1⟩
       have HS1 := Lib.hid (HS.out.grown g1)
       have HG1 := Lib.hid (HG.out.trans g1)
       obtain ⟨a0, a1, a2, _, _, _⟩ := bx3 HS1.out.s2.hd
       clear g1)
    | (go_at_call 215
       with_reducible refine (HB.out _ HG1.out).mono ?_
       rintro e w2 ⟨rfl, g2⟩
       have HS2 := Lib.hid (HS1.out.grown g2)
       have HG2 := Lib.hid (HG1.out.trans g2)
       obtain ⟨b0, b1, b2, _, _, _⟩ := bx3 HS2.out.s2.hd
       clear g2)
    | (go_at_call 216
       with_reducible refine (HC.out _ HG2.out).mono ?_
       rintro e w3 ⟨rfl, g3⟩
       have HS3 := Lib.hid (((HS2.out.grown g3).box #[.int .i64 b, .slice none 0 0] 39).nilM)
       obtain ⟨d0, d1, d2, _, _, _⟩ := bx3 HS3.out.s4.hd
       have d5 := (bx3 (HS2.out.grown g3).s2.hd)
       obtain ⟨d6, d7, d8, _, _, _⟩ := d5
       clear g3))
  clear y0 y1 y2 a0 a1 a2 b0 b1 b2 d0 d1 d2 d6 d7 d8
  generalize w3.heap.size = ko at *
  go_loopw [31] (fun i wr => ∃ (k : Nat) (oa : Option Addr) (oc : Nat) (vs : List Value), k ≤ la ∧ i = .int .i64 k ∧ Sep wr [OM (.slice oa k oc) vs ((A.map fun x => x.drop a).take k), BxA ko #[.int .i64 b, .slice oa k oc] 39, BxA (w.heap.size + 1) #[.int .i64 0, .slice none 0 0] 39, BxA w.heap.size #[.int .i64 a, .int .i64 b, .slice ua la uc] 65, KeepA w]) (fun i _ => la - (intOf i).toNat)
  case atStart => exact ⟨0, none, 0, [], by omega, rfl, HS3.out⟩
  case round =>
    obtain ⟨k, oa, oc, vs, hk, rfl, hs⟩ := hrel
    have HSX := Lib.hid hs
    have hg : w.grownBy wr none := hs.tl.tl.tl.tl.hd
    clear hs
    by_cases hlt : k < la
    · have hkA : k < A.length := by rw [HLA.out]; exact hlt
      obtain ⟨bb, bo, bcap, bml, br, brc, he, hcell, hrow, hcp⟩ := HU.out.rowK hg hkA
      cases he
      have hrl := HL.out _ (getD_mem hkA)
      have HSN := Lib.hid (take_snocF (f := fun x => x.drop a) hkA)
      have HPL := Lib.hid (show ((A.map fun x => x.drop a).take k).length = k by rw [List.length_take, List.length_map, HLA.out]; omega)
      have HDL := Lib.hid (show ((A.getD k []).drop a).length = b by rw [List.length_drop, hrl]; omega)
      have HD := Lib.hid HSX.out.dr
      have hgd : w.grownBy wr.drew none := HD.out.tl.tl.tl.tl.hd
      have htl := fun (a' : Option Addr) (c' : Nat) (ha' : a < brc → a' = br.map fun x => x.add a) => (hrow.carry hgd).tail (l := a) (by omega) hcp ha' c'
      rw [hrl, show a + b - a = b by omega] at htl
      rw [hrl] at hcell hcp
      have HT := Lib.hid fun (a' : Option Addr) (c' : Nat) (ha' : a < brc → a' = br.map fun x => x.add a) => l1Own_any _ _ wr.drew (htl a' c' ha') (by rw [HDL.out]; omega)
      have g1 : (0 : Int) ≤ (a : Int) := by omega
      have g2 : (a : Int) ≤ ((a + b : Nat) : Int) := by omega
      have g3 : ((a + b : Nat) : Int) ≤ (brc : Int) := by omega
      have g4 : (a : Int) ≤ (a : Int) + (b : Int) := by omega
      obtain ⟨e0, e1, e2, e3⟩ := bx HD.out.s2.hd
      obtain ⟨f0, f1, f2, _, _, _⟩ := bx3 HD.out.s4.hd
      clear hrow hg hgd hrl hkA htl
      generalize (A.getD k []).drop a = row at *
      rcases Nat.eq_or_lt_of_le (show a ≤ brc by omega) with hcz | hcz
      all_goals
        first
          | (subst hcz
             have hb0 : b = 0 := by omega
             subst hb0)
          | (have hnz : ¬ brc = a := by omega)
        go_wp2_with fail
        go_region_law (first
          | (try go_simp
             go_at_call 217
             go_loud (refine (HT.out _ _ (by first | exact fun _ => rfl | exact fun h => absurd h (by omega))).mono ?_)
             rintro e w4 ⟨co, rfl, ho, g12⟩
             obtain ⟨ca, cc, rfl⟩ := own_shape ho
             rw [HDL.out] at ho ⊢
             have HS4 := Lib.hid (HD.out.newI g12 ho)
             obtain ⟨p0, p1, p2, p3⟩ := bx HS4.out.s3.hd
             have z4 := fun o => cell_alloc p1 o
             clear ho g12)
          | (go_loud (refine step_app_rowS rfl (.tmp 36) (.tmp 42) rfl rfl rfl HS4.out (by rw [HPL.out]; omega) ?_)
             intro g5 c5' w5 h5
             rw [HPL.out] at h5 ⊢
             obtain ⟨x0, x1, x2, x3⟩ := bx h5.s2.hd
             have HS6 := Lib.hid ((h5.s2.setB 1 (.slice (some ⟨g5, 0, none⟩) (k + 1) c5')).s2)
             clear h5))
        all_goals
          go_wp2
          go_roundw
          case rel =>
            first
              | exact ⟨k + 1, _, _, _, by omega, by go_num, by rw [HSN.out]; exact HS6.out⟩
              | ((repeat apply Exists.intro); exact ⟨⟨k + 1, _, _, _, by omega, by go_num, by rw [HSN.out]; exact HS6.out⟩, rfl⟩)
          case measure => simp [intOf]; omega
    · have hkn : k = la := by omega
      subst hkn
      have HALL := Lib.hid (show (A.map fun x => x.drop a).take k = A.map fun x => x.drop a from List.take_of_length_le (by rw [List.length_map, HLA.out]; exact Nat.le_refl _))
      obtain ⟨a0, a1, a2, a3⟩ := bx HSX.out.s2.hd
      obtain ⟨b0, b1, b2, b3⟩ := bx HSX.out.s3.hd
      have HQ := Lib.hid ((HSX.out.s3.setB 0 (.int .i64 b)).setB 1 (.slice oa k oc))
      clear hg
      go_wp2
      refine bodyPost_ret_by (v := .tuple #[.agg #[.int .i64 b, .slice oa k oc], .bool true]) ?_ rfl ?_
      · simp [results, go_sem, *]
      · have h := HQ.out.s2.drop2.drop2.drop2
        rw [HALL.out] at h
        exact ⟨_, vs, rfl, h.mat, h.s2.hd⟩
end Go.Proofs.YtpeaeminjbjlnaaDoor

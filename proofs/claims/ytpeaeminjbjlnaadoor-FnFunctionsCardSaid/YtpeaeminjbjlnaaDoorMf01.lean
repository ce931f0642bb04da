/-
  The relation of a matrix, total and single-valued relations in the reference. Conditions: small sizes.
-/
import Derived.Test.YtpeaeminjbjlnaaDoorMf00
import Derived.Test.YtpeaeminjbjlnaaDoorMv10
import Derived.Test.YtpeaeminjbjlnaaDoorMl02
import Derived.Test.YtpeaeminjbjlnaaDoorMv02
import Derived.Test.YtpeaeminjbjlnaaDoorMv08
namespace Go.Proofs.YtpeaeminjbjlnaaDoor
open Go.RowKit
set_option linter.unusedVariables false

theorem mat_bd {p cols : Int} {M : List (List Int)} (h : matB p cols M = true) : 0 ≤ cols ∧ cols ≤ 24 ∧ M.length ≤ 24 := by
  unfold matB at h
  simp only [Bool.and_eq_true, decide_eq_true_eq] at h
  obtain ⟨_, h1, h2, _⟩ := h
  exact ⟨h1.1, h1.2, h2⟩
set_option maxRecDepth 100000 in
set_option maxHeartbeats 1000000 in
theorem sMatrixRelation_no (p cols : Int) (u : Value) (M : List (List Int)) (w : World) (hu : MatV w u M) (hl : M.length ≤ 1000000) (hll : ∀ row ∈ M, row.length ≤ 1000000) (hp0 : -1000 ≤ p) (hp1 : p ≤ 1000) (hno : mrB p cols M = false) :
    Calls Tryd.prog 82 #[.int .i64 p, mxV cols u] w fun e w' => e = .returned (.tuple #[rlV 0 0 nilS, .bool false]) ∧ w.grownBy w' none := by
  have H1 := fun W (hg : w.grownBy W none) => mxGood_any p cols u M W (hu.carry hg) hl hll hp0 hp1
  obtain ⟨ua, uc, rfl⟩ := hu.shape
  have HBD := fun (h : matB p cols M = true) => mat_bd h
  unfold mxV at H1
  unfold rlV mxV nilS
  unfold mrB at hno
  generalize M.length = n at *
  have HS := Lib.hid (((Sep.start w).box #[.int .i64 cols, .slice ua n uc] 39).box #[.int .i64 0, .int .i64 0, .slice none 0 0] 65)
  have HG := Lib.hid (show w.grownBy _ none from HS.out.tl.tl.hd)
  simp only [show ∀ (W : World) o, (W.alloc o).heap.size = W.heap.size + 1 from fun W o => by simp] at HS
  obtain ⟨y0, y1, _, _⟩ := bx HS.out.s2.hd
  clear hu hll
  cases h1 : matB p cols M <;> by_cases h2 : 24 < (n : Int) + cols
  all_goals
    rw [h1] at H1
    try have hq := HBD h1
    try obtain ⟨q1, q2, q3⟩ := hq
    first
      | (exfalso; have h5 : fitsB n cols = true := fitsB_iff.2 (by omega); rw [h1, h5] at hno; cases hno; done)
      | (have HA := Lib.hid H1
         clear H1 h1 hno HBD
         try have hwr : IntKind.i64.wrap ((n : Int) + cols) = (n : Int) + cols := by rw [IntKind.wrap_i64]; omega
         go_enter Tryd.func82, Tryd.ntmps82
         go_wp2_with (first
           | (go_at_call 121
              with_reducible refine (HA.out _ HG.out).mono ?_
              rintro e w1 ⟨rfl, g1⟩
              have HS1 := Lib.hid (HS.out.grown g1)
              obtain ⟨x0, x1, x2, x3, x4, x5⟩ := bx3 HS1.out.hd
              obtain ⟨a0, a1, _, _⟩ := bx HS1.out.s2.hd
              have HQ := Lib.hid (((HS1.out.setB 0 (.int .i64 0)).setB 1 (.int .i64 0)).setB 2 (.slice none 0 0))
              clear g1))
         refine bodyPost_ret_by (v := .tuple #[.agg #[.int .i64 0, .int .i64 0, .slice none 0 0], .bool false]) ?_ rfl ?_
         · simp [results, go_sem, *]
         · exact ⟨rfl, HQ.out.tl.tl.hd⟩)
set_option maxRecDepth 100000 in
set_option maxHeartbeats 1000000 in
theorem sMatrixRelation_yes (p cols : Int) (u : Value) (M : List (List Int)) (w : World) (hu : MatV w u M) (hp0 : -1000 ≤ p) (hp1 : p ≤ 1000) (hb : mrB p cols M = true) :
    Calls Tryd.prog 82 #[.int .i64 p, mxV cols u] w fun e w' => ∃ o vs, e = .returned (.tuple #[rlV M.length cols o, .bool true]) ∧ OwnM w.heap.size w' o vs (matRel M) ∧ w.grownBy w' none := by
  obtain ⟨q, iq, c, rfl, rfl, hf, hq, hmc, hok⟩ := mrB_parts hb
  unfold mrB at hb
  simp only [Bool.and_eq_true] at hb
  have H1 := fun W (hg : w.grownBy W none) => mxGood_any q c u M W (hu.carry hg) (by omega) (fun row hr => by rw [(hok row hr).1]; omega) hp0 hp1
  rw [hb.1] at H1
  have HA := Lib.hid H1
  have HD := Lib.hid fun W (hg : w.grownBy W none) => rlMatrix_any c u M W (hu.carry hg) (fun row hr => (hok row hr).1) (by omega) (by omega)
  obtain ⟨ua, uc, rfl⟩ := hu.shape
  unfold rlV mxV at *
  generalize matRel M = PL at *
  generalize M.length = n at *
  have HS := Lib.hid (((Sep.start w).box #[.int .i64 c, .slice ua n uc] 39).box #[.int .i64 0, .int .i64 0, .slice none 0 0] 65)
  have HG := Lib.hid (show w.grownBy _ none from HS.out.tl.tl.hd)
  simp only [show ∀ (W : World) o, (W.alloc o).heap.size = W.heap.size + 1 from fun W o => by simp] at HS
  obtain ⟨y0, y1, _, _⟩ := bx HS.out.s2.hd
  have hle : (n : Int) + (c : Int) ≤ 24 := by omega
  have hwr : IntKind.i64.wrap ((n : Int) + (c : Int)) = (n : Int) + (c : Int) := by rw [IntKind.wrap_i64]; omega
  clear hu hok hb H1 hf
  go_enter Tryd.func82, Tryd.ntmps82
  go_wp2_with (first
    | (go_at_call 121
       with_reducible refine (HA.out _ HG.out).mono ?_
       rintro e w1 ⟨rfl, g1⟩
       have HS1 := Lib.hid (HS.out.grown g1)
       have HG1 := Lib.hid (HG.out.trans g1)
       obtain ⟨a0, a1, _, _⟩ := bx HS1.out.s2.hd
       clear g1)
    | (go_at_call 210
       go_loud (with_reducible refine (HD.out _ HG1.out).mono ?_)
       rintro e w4 ⟨o, vs, rfl, hp, g4⟩
       obtain ⟨ra, rc, hoe, _, _⟩ := own_form hp
       subst hoe
       have HP := Lib.hid hp
       have hsz := lt_of_blk HS1.out.hd
       have HS2 := Lib.hid (HS1.out.grown g4)
       obtain ⟨t0, t1, t2, t3, t4, t5⟩ := bx3 HS2.out.hd
       have HQ := Lib.hid (((HS2.out.setB 0 (.int .i64 n)).setB 1 (.int .i64 c)).setB 2 (.slice ra PL.length rc))
       clear hp g4))
  have HMM := Lib.hid (HP.out.only (three_set (w := w4) (w.heap.size + 1) (.int .i64 n) (.int .i64 c) (.slice ra PL.length rc)) (fun k' hf' hk' => by have : k' = w.heap.size + 1 := hk'; have := (HP.out.lt hf').1; omega))
  generalize PL.length = rl at *
  refine bodyPost_ret_by (v := .tuple #[.agg #[.int .i64 n, .int .i64 c, .slice ra rl rc], .bool true]) ?_ rfl ⟨_, _, rfl, HMM.out.base (by omega), HQ.out.tl.tl.hd⟩
  simp [results, go_sem, *]

theorem lead_take {l r : Nat} {a : List Int} (h : a.length = l + r) : zeroB (a.take l) = decide (l ≤ leadL a) := by
  unfold zeroB leadL
  rw [List.findIdx_take, List.length_take, h, show min l (l + r) = l by omega]
  by_cases hl : l ≤ a.findIdx fun x => x != 0
  · rw [Nat.min_eq_left hl, decide_eq_true hl]
    simp
  · rw [Nat.min_eq_right (by omega), decide_eq_false hl, beq_eq_false_iff_ne]
    omega

set_option maxRecDepth 100000 in
set_option maxHeartbeats 1000000 in
theorem rlSingle_any (l r : Nat) (u : Value) (A : List (List Int)) (w : World) (hu : MatV w u A) (hA : ∀ row ∈ A, row.length = l + r) (ha : A.length ≤ 24) (hlr : l + r ≤ 24) :
    Calls Tryd.prog 216 #[rlV l r u] w fun e w' => e = .returned (.bool (sglB l A)) ∧ w.grownBy w' none := by
  have HZ := Lib.hid fun W v zs (hv : IntsV W v zs) (hl : zs.length ≤ 1000000) => spLead_any v zs W hv hl
  have HU := Lib.hid hu; have HL := Lib.hid hA
  have HNO := Lib.hid fun k (hk : k < A.length) (h : zeroB ((A.getD k []).take l) = true) => sgl_no hk h
  have HYES := Lib.hid fun (h : ∀ t, t < A.length → zeroB ((A.getD t []).take l) = false) => sgl_yes h
  obtain ⟨ua, uc, rfl⟩ := hu.shape
  unfold rlV at *
  generalize hib : sglB l A = ib at *
  generalize hla : A.length = la at *
  have HLA := Lib.hid hla
  have HS := Lib.hid ((Sep.start w).box #[.int .i64 l, .int .i64 r, .slice ua la uc] 65)
  have HG := Lib.hid (show w.grownBy _ none from HS.out.tl.hd)
  obtain ⟨y0, y1, y2, _, _, _⟩ := bx3 HS.out.hd
  have HB := Lib.hid fun W (h : World.grownBy _ W none) => And.intro (bx3 (HS.out.grown h).hd).1 (And.intro (bx3 (HS.out.grown h).hd).2.1 (bx3 (HS.out.grown h).hd).2.2.1)
  clear hu hA hib hla
  go_enter Tryd.func216, Tryd.ntmps216
  go_wp2_with fail
  generalize (w.alloc (.cells #[.int .i64 l, .int .i64 r, .slice ua la uc] 65)) = w0 at *
  clear y0 y1 y2
  go_loopw [8] (fun i wr => ∃ k : Nat, k ≤ la ∧ i = .int .i64 k ∧ w0.grownBy wr none ∧ ∀ t, t < k → zeroB ((A.getD t []).take l) = false) (fun i _ => la - (intOf i).toNat)
  case atStart => exact ⟨0, by omega, rfl, grownBy_refl _ _, fun t ht => absurd ht (by omega)⟩
  case round =>
    obtain ⟨k, hk, rfl, hg, hall⟩ := hrel
    have HGR := Lib.hid hg; have HALL := Lib.hid hall
    obtain ⟨b0, b1, b2⟩ := HB.out wr hg
    clear hall
    by_cases hlt : k < la
    · have hkA : k < A.length := by rw [HLA.out]; exact hlt
      obtain ⟨bb, bo, bcap, bml, br, brc, he, hcell, hrow⟩ := HU.out.rowK (HG.out.trans hg) hkA
      cases he
      have hrl := HL.out _ (getD_mem hkA)
      have hgd : wr.grownBy wr.drew none := ⟨rfl, rfl, rfl, Nat.le_refl _, fun _ _ _ => rfl⟩
      have HR := Lib.hid (hrow.carry ((HG.out.trans hg).trans hgd))
      have HGD := Lib.hid (hg.trans hgd)
      have HLT := Lib.hid (lead_take hrl)
      have HNK := Lib.hid (HNO.out k hlt)
      have HRL := Lib.hid hrl
      obtain ⟨d0, d1, d2⟩ := HB.out _ (hg.trans hgd)
      clear hrow hg hkA hgd
      rw [hrl] at hcell
      have HSP := Lib.hid (HZ.out wr.drew _ _ HR.out (by rw [HRL.out]; omega))
      have HSP := (by have h := HSP.out; rw [HRL.out] at h; exact Lib.hid h)
      clear hrl
      generalize hrw : A.getD k [] = row at *
      have HRW := Lib.hid hrw
      clear hrw
      generalize hld : leadL row = ld at *
      by_cases hcase : l ≤ ld
      · have HIB := Lib.hid (HNK.out (by rw [HLT.out]; exact decide_eq_true hcase))
        have hci : (l : Int) ≤ (ld : Int) := by omega
        go_wp2_with fail
        go_region_law (first
          | (try go_simp
             go_at_call 276
             go_loud (refine HSP.out.mono ?_)
             rintro e w' ⟨rfl, rfl⟩))
        all_goals
          go_wp2
          go_ret
          exact ⟨by rw [HIB.out]; rfl, HG.out.trans HGD.out⟩
      · have HK := Lib.hid (show zeroB (row.take l) = false by rw [HLT.out]; exact decide_eq_false hcase)
        have hci : ¬ (l : Int) ≤ (ld : Int) := by omega
        go_wp2_with fail
        go_region_law (first
          | (try go_simp
             go_at_call 276
             go_loud (refine HSP.out.mono ?_)
             rintro e w' ⟨rfl, rfl⟩))
        all_goals
          go_wp2
          go_roundw
          case rel => exact ⟨k + 1, by omega, by go_num, HGD.out, fun t ht => by
            rcases Nat.lt_or_ge t k with h | h
            · exact HALL.out t h
            · rw [show t = k by omega, HRW.out]; exact HK.out⟩
          case measure => simp [intOf]; omega
    · have HIB := Lib.hid (HYES.out fun t ht => HALL.out t (by omega))
      clear hg
      go_wp2
      go_ret
      exact ⟨by rw [HIB.out]; rfl, HG.out.trans HGR.out⟩
end Go.Proofs.YtpeaeminjbjlnaaDoor

/-
  The matrix of a relation in the program; the checks. Conditions: small sizes.
-/
namespace Go.Proofs.YtpeaeminjbjlnaaDoor
open Go.RowKit
set_option linter.unusedVariables false

def fnB (q : Int) (l : Nat) (A : List (List Int)) : Bool := totB q l A && sglB l A

set_option maxRecDepth 100000 in
set_option maxHeartbeats 1000000 in
theorem functionOf_no (q : Nat) [NeZero q] (l r : Nat) (u : Value) (A : List (List Int)) (w : World) (hf : fldN q = true) (hq : q ≤ 97) (hu : MatC w u A) (hA : RowsOk q (l + r) A) (ha : A.length ≤ 24) (hlr : l + r ≤ 24) (hno : fnB q l A = false) :
    Calls Tryd.prog 213 #[.int .i64 q, rlV l r u] w fun e w' => e = .returned (.tuple #[mxV 0 nilS, .bool false]) ∧ w.grownBy w' none := by
  have H1 := fun W (hg : w.grownBy W none) => isTotal_any q l r u A W hf hq (hu.carry hg) hA ha hlr
  have H2 := fun W (hg : w.grownBy W none) => isSingleValued_any l r u A W (hu.carry hg) (fun row hr => (hA row hr).1) ha hlr
  obtain ⟨ua, uc, rfl⟩ := hu.shape
  unfold rlV mxV nilS at *
  unfold fnB at hno
  generalize A.length = la at *
  have HS := Lib.hid (((Sep.start w).box #[.int .i64 l, .int .i64 r, .slice ua la uc] 65).box #[.int .i64 0, .slice none 0 0] 39)
  have HG := Lib.hid (show w.grownBy _ none from HS.out.tl.tl.hd)
  simp only [show ∀ (W : World) o, (W.alloc o).heap.size = W.heap.size + 1 from fun W o => by simp] at HS
  obtain ⟨y0, y1, y2, _, _, _⟩ := bx3 HS.out.s2.hd
  clear hu hA hf
  cases h1 : totB q l A <;> cases h2 : sglB l A
  all_goals
    rw [h1] at H1
    rw [h2] at H2
    first
      | (exfalso; rw [h1, h2] at hno; cases hno; done)
      | (have HA := Lib.hid H1; have HB := Lib.hid H2
         clear H1 H2 h1 h2 hno
         go_enter Tryd.func213, Tryd.ntmps213
         go_wp2_with (first
           | (go_at_call 211
              with_reducible refine (HA.out _ HG.out).mono ?_
              rintro e w1 ⟨rfl, g1⟩
              have HS1 := Lib.hid (HS.out.grown g1)
              have HG1 := Lib.hid (HG.out.trans g1)
              obtain ⟨x0, x1, x2, x3⟩ := bx HS1.out.hd
              obtain ⟨a0, a1, a2, _, _, _⟩ := bx3 HS1.out.s2.hd
              have HQ := Lib.hid ((HS1.out.setB 0 (.int .i64 0)).setB 1 (.slice none 0 0))
              clear g1)
           | (go_at_call 212
              with_reducible refine (HB.out _ HG1.out).mono ?_
              rintro e w2 ⟨rfl, g2⟩
              have HS2 := Lib.hid (HS1.out.grown g2)
              obtain ⟨d0, d1, d2, d3⟩ := bx HS2.out.hd
              have HQ := Lib.hid ((HS2.out.setB 0 (.int .i64 0)).setB 1 (.slice none 0 0))
              clear g2))
         refine bodyPost_ret_by (v := .tuple #[.agg #[.int .i64 0, .slice none 0 0], .bool false]) ?_ rfl ?_
         · simp [results, go_sem, *]
         · exact ⟨rfl, HQ.out.tl.tl.hd⟩)
set_option maxRecDepth 100000 in
set_option maxHeartbeats 2000000 in
theorem functionOf_yes (q : Nat) [NeZero q] (l r : Nat) (u : Value) (A : List (List Int)) (w : World) (hf : fldN q = true) (hq : q ≤ 97) (hu : MatC w u A) (hA : RowsOk q (l + r) A) (ha : A.length ≤ 24) (hlr : l + r ≤ 24) (hb : fnB q l A = true) :
    Calls Tryd.prog 213 #[.int .i64 q, rlV l r u] w fun e w' => ∃ o vs, e = .returned (.tuple #[mxV r o, .bool true]) ∧ OwnM w.heap.size w' o vs (A.map fun x => x.drop l) ∧ w.grownBy w' none := by
  unfold fnB at hb
  rw [Bool.and_eq_true] at hb
  have H1 := fun W (hg : w.grownBy W none) => isTotal_any q l r u A W hf hq (hu.carry hg) hA ha hlr
  have H2 := fun W (hg : w.grownBy W none) => isSingleValued_any l r u A W (hu.carry hg) (fun row hr => (hA row hr).1) ha hlr
  rw [hb.1] at H1
  rw [hb.2] at H2
  have H3 := fun W (hg : w.grownBy W none) => eachSecond_any (rlV l r u) l r u A (fun x => x.drop l) W w hu hg (by omega) (fn_second w.heap.size l r u W A fun row hr => (hA row hr).1)
  have H4 := Lib.hid fun W o (h : MatV W o (A.map fun x => x.drop l)) => clones_any o _ W h (by rw [List.length_map]; omega) (fun row hr => by
    obtain ⟨a, ha', rfl⟩ := List.mem_map.1 hr
    rw [List.length_drop, (hA a ha').1]; omega)
  obtain ⟨ua, uc, rfl⟩ := hu.shape
  unfold rlV mxV at *
  have HA := Lib.hid H1; have HB := Lib.hid H2; have HC := Lib.hid H3
  generalize (A.map fun x => x.drop l) = CV at *
  generalize A.length = la at *
  have HS := Lib.hid (((Sep.start w).box #[.int .i64 l, .int .i64 r, .slice ua la uc] 65).box #[.int .i64 0, .slice none 0 0] 39)
  have HG := Lib.hid (show w.grownBy _ none from HS.out.tl.tl.hd)
  simp only [show ∀ (W : World) o, (W.alloc o).heap.size = W.heap.size + 1 from fun W o => by simp] at HS
  have XF := Lib.hid fun W (c6 : Array Value) (h : Sep W [BxA (w.heap.size + 1) c6 39, BxA w.heap.size #[.int .i64 l, .int .i64 r, .slice ua la uc] 65, KeepA w]) =>
    And.intro (bx3 h.s2.hd).1 (And.intro (bx3 h.s2.hd).2.1 (bx3 h.s2.hd).2.2.1)
  obtain ⟨y0, y1, y2⟩ := XF.out _ _ HS.out
  have hmf : ∀ (fn : Fn) (first cap : Array Value) (W : World), (Instr.makeFunc fn first cap).run Tryd.prog W = .ok (.func fn first cap) W := fun _ _ _ _ => rfl
  clear hu hA hf hb H1 H2 H3
  go_enter Tryd.func213, Tryd.ntmps213
  go_wp2_with (first
    | (go_at_call 211
       with_reducible refine (HA.out _ HG.out).mono ?_
       rintro e w1 ⟨rfl, g1⟩
       have HS1 := Lib.hid (HS.out.grown g1)
       have HG1 := Lib.hid (HG.out.trans g1)
       obtain ⟨a0, a1, a2⟩ := XF.out _ _ HS1.out
       clear g1)
    | (go_at_call 212
       with_reducible refine (HB.out _ HG1.out).mono ?_
       rintro e w2 ⟨rfl, g2⟩
       have HS2 := Lib.hid (HS1.out.grown g2)
       clear g2))
  have HD := Lib.hid HS2.out.dr
  have HGD := Lib.hid (show w.grownBy _ none from HD.out.tl.tl.hd)
  have X0 := Lib.hid (XF.out _ _ HD.out)
  go_region_held3 (fun w' => w'.cell? ⟨w.heap.size, 0, none⟩ = some (.int .i64 l) ∧ w'.cell? ⟨w.heap.size, 1, none⟩ = some (.int .i64 r) ∧ w'.cell? ⟨w.heap.size, 2, none⟩ = some (.slice ua la uc))
    (first | with_reducible exact X0.out | with_reducible exact X2.out | with_reducible exact X3.out | with_reducible exact X4.out)
    (first
      | (go_at_call 234
         go_loud (refine (HC.out _ HGD.out).mono ?_)
         rintro e w3 ⟨o, us, rfl, hs2, _⟩
         have HM2 := Lib.hid hs2.readS
         have HD2 := Lib.hid (HD.out.grown (show World.grownBy _ w3 none from hs2.s2.hd))
         have X2 := Lib.hid (XF.out _ _ HD2.out)
         clear hs2)
      | (go_at_call 118
         go_loud (refine (H4.out _ _ HM2.out).mono ?_)
         rintro e w4 ⟨o3, vs3, rfl, hp, g3⟩
         obtain ⟨ra, rc, hoe, _, _⟩ := own_form hp
         subst hoe
         have HP := Lib.hid hp
         have hsz := lt_of_blk HD2.out.hd
         have HD3 := Lib.hid (HD2.out.grown g3)
         have X3 := Lib.hid (XF.out _ _ HD3.out)
         obtain ⟨t0, t1, t2, t3⟩ := bx HD3.out.hd
         have HD4 := Lib.hid ((HD3.out.setB 0 (.int .i64 r)).setB 1 (.slice ra CV.length rc))
         have X4 := Lib.hid (XF.out _ _ HD4.out)
         clear hp g3))
  all_goals
    have HMM := Lib.hid (HP.out.only (twoS (w := w4) (w.heap.size + 1) (.int .i64 r) (.slice ra CV.length rc)) (fun k' hf' hk' => by have : k' = w.heap.size + 1 := hk'; have := (HP.out.lt hf').1; omega))
    obtain ⟨u0, u1, u2, u3⟩ := bx HD4.out.hd
    have HE := Lib.hid (show w.grownBy _ none from HD4.out.tl.tl.hd)
    generalize CV.length = rl at *
    generalize (w4.setCell ⟨w.heap.size + 1, 0, none⟩ (.int .i64 r)).setCell ⟨w.heap.size + 1, 1, none⟩ (.slice ra rl rc) = w5 at *
    go_wp2
    refine bodyPost_ret_by (v := .tuple #[.agg #[.int .i64 r, .slice ra rl rc], .bool true]) ?_ rfl ⟨_, _, rfl, HMM.out.base (by omega), HE.out⟩
    simp [results, go_sem, *]
end Go.Proofs.YtpeaeminjbjlnaaDoor

/-
  Total relations and the matrix of a relation in the reference. Conditions: small sizes.
-/
namespace Go.Proofs.YtpeaeminjbjlnaaDoor
open Go.RowKit
set_option linter.unusedVariables false

set_option maxRecDepth 100000 in
set_option maxHeartbeats 1000000 in
theorem rlPart_any (q : Nat) [NeZero q] (l r : Nat) (u : Value) (A : List (List Int)) (w : World) (hf : fldN q = true) (hq : q ≤ 97) (hu : MatC w u A) (hA : RowsOk q (l + r) A) (ha : A.length ≤ l + r) (hlr : l + r ≤ 24) :
    Calls Tryd.prog 282 #[.int .i64 q, rlV l r u, .int .i64 0, .int .i64 l] w fun e w' => ∃ o, e = .returned (mxV l o) ∧ (∃ vs, OwnM w.heap.size w' o vs (domL q l A)) ∧ w.grownBy w' none := by
  have hok := map_ok (f := fun x => x.take l) hA fun x hx => take_vok hx (by omega)
  have H2 := Lib.hid fun W o (h : MatV W o (A.map fun x => x.take l)) => spReduce_own q l o _ W hf (by omega) h hok (by rw [List.length_map]; omega) (by omega)
  rw [show reducedL q l (A.map fun x => x.take l) = domL q l A from rfl] at H2
  have HU := Lib.hid hu; have HL := Lib.hid hA
  obtain ⟨ua, uc, rfl⟩ := hu.shape
  unfold rlV mxV
  generalize domL q l A = PL at *
  generalize hla : A.length = la at *
  have HLA := Lib.hid hla
  have HS := Lib.hid ((((Sep.start w).box #[.int .i64 l, .int .i64 r, .slice ua la uc] 65).box #[.int .i64 0, .slice none 0 0] 74).nilSH)
  simp only [show ∀ (W : World) o, (W.alloc o).heap.size = W.heap.size + 1 from fun W o => by simp] at HS
  obtain ⟨y0, y1, y2, _, _, _⟩ := bx3 HS.out.s3.hd
  clear hu hA hla hok
  go_enter Tryd.func282, Tryd.ntmps282
  go_wp2_with fail
  clear y0 y1 y2
  go_loopw [9, 15] (fun out i wr => ∃ (k : Nat) (us : List Value), k ≤ la ∧ i = .int .i64 k ∧ Sep wr [SH out us ((A.map fun x => x.take l).take k), BxA (w.heap.size + 1) #[.int .i64 0, .slice none 0 0] 74, BxA w.heap.size #[.int .i64 l, .int .i64 r, .slice ua la uc] 65, KeepA w]) (fun _ i _ => la - (intOf i).toNat)
  case atStart => exact ⟨0, [], by omega, rfl, HS.out⟩
  case round =>
    obtain ⟨k, us, hk, rfl, hs⟩ := hrel
    have HSX := Lib.hid hs
    have hg : w.grownBy wr none := hs.s4.hd
    clear hs
    by_cases hlt : k < la
    · have hkA : k < A.length := by rw [HLA.out]; exact hlt
      obtain ⟨bb, bo, bcap, bml, br, brc, he, hcell, hrow, hcp⟩ := HU.out.rowK hg hkA
      cases he
      have hrl := (HL.out _ (getD_mem hkA)).1
      have HSN := Lib.hid (take_snocF (f := fun x => x.take l) hkA)
      have HPL := Lib.hid (show ((A.map fun x => x.take l).take k).length = k by rw [List.length_take, List.length_map, HLA.out]; omega)
      have HTL := Lib.hid (show ((A.getD k []).take l).length = l by rw [List.length_take, hrl]; omega)
      have HBL := Lib.hid (hrow.take (k := l) (by rw [hrl]; omega) brc)
      have HI := Lib.hid ((hrow.carry hg).take (k := l) (by rw [hrl]; omega) brc)
      rw [hrl] at hcell hcp
      have h1 : (0 : Int) ≤ (l : Int) := by omega
      have h2 : (l : Int) ≤ (brc : Int) := by omega
      have h3 : (0 : Int) < (brc : Int) := by omega
      have h4 : 0 < brc := by omega
      have HAP := Lib.hid fun k' (h : k' < w.heap.size) => (show ¬ Hits _ k' ∧ ∀ C ∈ [BxA (w.heap.size + 1) #[.int .i64 0, .slice none 0 0] 74, BxA w.heap.size #[.int .i64 l, .int .i64 r, .slice (some ⟨bb, bo, none⟩) la uc] 65, KeepA w], ¬ C.foot k' from
        ⟨fun hh => HSX.out.s4.apt.symm.1 k' hh h, fun C hC => by
          simp only [List.mem_cons, List.mem_nil_iff, or_false] at hC
          rcases hC with rfl | rfl | rfl
          · intro hf'; have : k' = w.heap.size + 1 := hf'; omega
          · intro hf'; have : k' = w.heap.size := hf'; omega
          · exact fun hf' => hf'⟩)
      clear hrow hg hrl hkA
      generalize A.getD k [] = row at *
      go_wp2_with (
        at_builtin
        go_loud (refine app_sh rfl _ _ rfl rfl rfl HSX.out HI.out (fun hne k' hk' => HAP.out k' (HBL.out.blk_lt hne hk')) (by rw [HPL.out]; omega) ?_)
        intro g3 c3 w3 h3'
        rw [HPL.out] at h3' ⊢
        have HS3 := Lib.hid h3'
        clear h3')
      go_roundw
      case rel => exact ⟨k + 1, _, by omega, by go_num, by rw [HSN.out]; exact HS3.out⟩
      case measure => simp [intOf]; omega
    · have hall : (A.map fun x => x.take l).take k = A.map fun x => x.take l := List.take_of_length_le (by rw [List.length_map, HLA.out]; omega)
      have hsx := HSX.out
      rw [hall] at hsx
      obtain ⟨xa, xc, hxe⟩ := hsx.readS.shape
      subst hxe
      have HRR := Lib.hid hsx.readS
      have HD := Lib.hid hsx.tl
      have hsz := lt_of_blk hsx.tl.hd
      clear hsx hall hg
      generalize (A.map fun x => x.take l).length = cl at *
      go_wp2_with (
        go_at_call 168
        go_loud (refine (H2.out _ _ HRR.out).mono ?_)
        rintro e w2 ⟨ra, rc, rfl, ⟨vs2, hp⟩, g2⟩
        have HP := Lib.hid hp
        have HS2 := Lib.hid (HD.out.grown g2)
        obtain ⟨x0, x1, x2, x3⟩ := bx HS2.out.hd
        have HQ := Lib.hid ((HS2.out.setB 0 (.int .i64 l)).setB 1 (.slice ra PL.length rc))
        clear hp g2)
      have HMM := Lib.hid (HP.out.only (twoS (w := w2) (w.heap.size + 1) (.int .i64 l) (.slice ra PL.length rc)) (fun k' hf' hk' => by have : k' = w.heap.size + 1 := hk'; have := (HP.out.lt hf').1; omega))
      generalize PL.length = rl at *
      refine bodyPost_ret_by (v := .agg #[.int .i64 l, .slice ra rl rc]) ?_ rfl ⟨_, rfl, ⟨_, HMM.out.base (by omega)⟩, HQ.out.tl.tl.hd⟩
      simp [results, go_sem, *]
end Go.Proofs.YtpeaeminjbjlnaaDoor

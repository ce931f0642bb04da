/-
  The relation of a matrix in the program, and both checks of it. Conditions: small sizes.
-/
import Derived.Test.YtpeaeminjbjlnaaDoorMr02
import Derived.Test.YtpeaeminjbjlnaaDoorMl05
import Derived.Test.YtpeaeminjbjlnaaDoorMv03
import Derived.Test.YtpeaeminjbjlnaaDoorMv05
import Derived.Test.YtpeaeminjbjlnaaDoorMl06
import Derived.Test.YtpeaeminjbjlnaaDoorMv06
import Derived.Test.YtpeaeminjbjlnaaDoorMv07
namespace Go.Proofs.YtpeaeminjbjlnaaDoor
open Go.RowKit
set_option linter.unusedVariables false

def mrB (p cols : Int) (M : List (List Int)) : Bool := matB p cols M && fitsB M.length cols
theorem mrB_parts {p cols : Int} {M : List (List Int)} (h : mrB p cols M = true) : ∃ (q : Nat) (_ : NeZero q) (c : Nat), p = q ∧ cols = c ∧ fldN q = true ∧ q ≤ 97 ∧ M.length + c ≤ 24 ∧ RowsOk q c M := by
  unfold mrB at h
  simp only [Bool.and_eq_true] at h
  obtain ⟨h1, h2⟩ := h
  rw [fitsB_iff] at h2
  have hfb : fldB p = true := by
    unfold matB at h1
    rw [Bool.and_eq_true] at h1
    exact h1.1
  obtain ⟨a1, a2⟩ := fldB_bd hfb
  obtain ⟨q, rfl⟩ := Int.eq_ofNat_of_zero_le (show 0 ≤ p by omega)
  haveI : NeZero q := ⟨by omega⟩
  obtain ⟨hf, hq, n, rfl, hn, hm, hok⟩ := matB_parts h1
  exact ⟨q, inferInstance, n, rfl, rfl, hf, by omega, by omega, hok⟩

set_option maxRecDepth 100000 in
set_option maxHeartbeats 1000000 in
theorem matrixRelation_no (p cols : Int) (u : Value) (M : List (List Int)) (w : World) (ht : Tab w) (hu : MatV w u M) (hl : M.length ≤ 1000000) (hll : ∀ row ∈ M, row.length ≤ 1000000) (hno : mrB p cols M = false) :
    Calls Tryd.prog 81 #[.int .i64 p, mxV cols u] w fun e w' => e = .returned (.tuple #[rlV 0 0 nilS, .bool false]) ∧ w.grownBy w' none := by
  have H1 := fun W (hg : w.grownBy W none) => isMatrix_any p cols u M W (ht.grown hg) (hu.carry hg) hl hll
  have H2 := fun W => fits_any M.length cols W
  obtain ⟨ua, uc, rfl⟩ := hu.shape
  unfold mxV at H1
  unfold rlV mxV nilS
  unfold mrB at hno
  generalize M.length = n at *
  have HS := Lib.hid (((Sep.start w).box #[.int .i64 cols, .slice ua n uc] 39).box #[.int .i64 0, .int .i64 0, .slice none 0 0] 65)
  have HG := Lib.hid (show w.grownBy _ none from HS.out.tl.tl.hd)
  simp only [show ∀ (W : World) o, (W.alloc o).heap.size = W.heap.size + 1 from fun W o => by simp] at HS
  obtain ⟨y0, y1, _, _⟩ := bx HS.out.s2.hd
  clear hu hll ht
  cases h1 : matB p cols M <;> cases h2 : fitsB n cols
  all_goals
    rw [h1] at H1
    rw [h2] at H2
    first
      | (exfalso; rw [h1, h2] at hno; cases hno; done)
      | (have HA := Lib.hid H1; have HB := Lib.hid H2
         clear H1 H2 h1 h2 hno
         go_enter Tryd.func81, Tryd.ntmps81
         go_wp2_with (first
           | (go_at_call 117
              with_reducible refine (HA.out _ HG.out).mono ?_
              rintro e w1 ⟨rfl, g1⟩
              have HS1 := Lib.hid (HS.out.grown g1)
              obtain ⟨x0, x1, x2, x3, x4, x5⟩ := bx3 HS1.out.hd
              obtain ⟨a0, a1, _, _⟩ := bx HS1.out.s2.hd
              have HQ := Lib.hid (((HS1.out.setB 0 (.int .i64 0)).setB 1 (.int .i64 0)).setB 2 (.slice none 0 0))
              clear g1)
           | (go_at_call 157
              with_reducible refine (HB.out _).mono ?_
              rintro e w3 ⟨rfl, rfl⟩))
         refine bodyPost_ret_by (v := .tuple #[.agg #[.int .i64 0, .int .i64 0, .slice none 0 0], .bool false]) ?_ rfl ?_
         · simp [results, go_sem, *]
         · exact ⟨rfl, HQ.out.tl.tl.hd⟩)
set_option maxRecDepth 100000 in
set_option maxHeartbeats 2000000 in
theorem matrixRelation_yes (p cols : Int) (u : Value) (M : List (List Int)) (w : World) (ht : Tab w) (hu : MatV w u M) (hb : mrB p cols M = true) :
    Calls Tryd.prog 81 #[.int .i64 p, mxV cols u] w fun e w' => ∃ o vs, e = .returned (.tuple #[rlV M.length cols o, .bool true]) ∧ OwnM w.heap.size w' o vs (matRel M) ∧ w.grownBy w' none := by
  obtain ⟨q, iq, c, rfl, rfl, hf, hq, hmc, hok⟩ := mrB_parts hb
  unfold mrB at hb
  simp only [Bool.and_eq_true] at hb
  have H1 := fun W (hg : w.grownBy W none) => isMatrix_any q c u M W (ht.grown hg) (hu.carry hg) (by omega) (fun row hr => by rw [(hok row hr).1]; omega)
  rw [hb.1] at H1
  have H2 := fun W => fits_any M.length c W
  rw [hb.2] at H2
  have HA := Lib.hid H1; have HB := Lib.hid H2
  obtain ⟨ua, uc, rfl⟩ := hu.shape
  have HU := Lib.hid hu; have HMR := Lib.hid hok
  have hml' := matRel_len M
  unfold rlV mxV at *
  generalize hml : M.length = n at *
  have HN := Lib.hid hml
  have HML := Lib.hid hml'
  have HS := Lib.hid (((Sep.start w).box #[.int .i64 c, .slice ua n uc] 39).box #[.int .i64 0, .int .i64 0, .slice none 0 0] 65)
  have HG := Lib.hid (show w.grownBy _ none from HS.out.tl.tl.hd)
  simp only [show ∀ (W : World) o, (W.alloc o).heap.size = W.heap.size + 1 from fun W o => by simp] at HS
  obtain ⟨y0, y1, _, _⟩ := bx HS.out.s2.hd
  clear hu hok hml ht hb H1 H2 hml' hf
  go_enter Tryd.func81, Tryd.ntmps81
  go_wp2_with (first
    | (go_at_call 117
       with_reducible refine (HA.out _ HG.out).mono ?_
       rintro e w1 ⟨rfl, g1⟩
       have HS1 := Lib.hid (HS.out.grown g1)
       obtain ⟨a0, a1, _, _⟩ := bx HS1.out.s2.hd
       clear g1)
    | (go_at_call 157
       with_reducible refine (HB.out _).mono ?_
       rintro e w3 ⟨rfl, rfl⟩
       have HS2 := Lib.hid ((HS1.out.box #[.int .i64 n, .int .i64 c, .slice none 0 0] 65).nilM)
       obtain ⟨b0, b1, _, _⟩ := bx HS2.out.s4.hd))
  clear y0 y1 a0 a1 b0 b1
  generalize hko : w1.heap.size = ko at *
  clear hko
  go_loopw [32] (fun i wr => ∃ (k : Nat) (oa : Option Addr) (oc : Nat) (vs : List Value), k ≤ n ∧ i = .int .i64 k ∧ Sep wr [OM (.slice oa k oc) vs ((matRel M).take k), BxA ko #[.int .i64 n, .int .i64 c, .slice oa k oc] 65, BxA (w.heap.size + 1) #[.int .i64 0, .int .i64 0, .slice none 0 0] 65, BxA w.heap.size #[.int .i64 c, .slice ua n uc] 39, KeepA w]) (fun i _ => n - (intOf i).toNat)
  case atStart => exact ⟨0, none, 0, [], by omega, rfl, HS2.out⟩
  case round =>
    obtain ⟨k, oa, oc, vs, hk, rfl, hs⟩ := hrel
    have HSX := Lib.hid hs
    have hg : w.grownBy wr none := hs.s5.hd
    clear hs
    by_cases hlt : k < n
    · have hkM : k < M.length := by rw [HN.out]; exact hlt
      obtain ⟨bb, bo, bcap, bml, br, brc, he, hcell, hrow⟩ := HU.out.rowK hg hkM
      cases he
      have hro := (HMR.out _ (getD_mem hkM)).1
      rw [hro] at hcell hrow
      have hsn := matRel_snoc hkM
      rw [HN.out] at hsn
      have HSN := Lib.hid hsn
      have HPL := Lib.hid (show ((matRel M).take k).length = k by rw [List.length_take, HML.out]; omega)
      have HUL := Lib.hid (show (unitL n k).length = n by simp [unitL])
      have HFL := Lib.hid (show [unitL n k, M.getD k []].flatten = matRow n M k by simp [matRow])
      have HRL := Lib.hid (show (matRow n M k).length = n + c by unfold matRow; rw [List.length_append, hro]; simp [unitL])
      have HROW := Lib.hid hrow
      have HD := Lib.hid HSX.out.dr
      obtain ⟨b0, b1, _, _⟩ := bx HD.out.s4.hd
      obtain ⟨d0, d1, d2, d3, d4, d5⟩ := bx3 HD.out.s2.hd
      clear hrow hro hsn hg hkM
      generalize matRow n M k = mr at *
      generalize M.getD k [] = row at *
      go_wp2_with fail
      go_region_law (first
        | (try go_simp
           go_at_call 209
           go_loud (with_reducible refine (unit_any n k wr.drew (by omega) hlt).mono ?_)
           rintro e w2 ⟨u2, rfl, hu2, g2⟩
           obtain ⟨ua2, uc2, rfl⟩ := own_shape hu2
           rw [HUL.out] at hu2 ⊢
           have HS3 := Lib.hid (HD.out.newI g2 hu2)
           obtain ⟨c0, c1, c2, c3, c4, c5⟩ := bx3 HS3.out.s3.hd
           have z2 := fun o => cell_alloc c2 o
           have R2 := Lib.hid (OwnInts.read (show OwnInts 0 w2 _ _ from HS3.out.hd))
           have RR := Lib.hid (HROW.out.carry (show w.grownBy w2 none from HS3.out.tl.tl.tl.tl.tl.hd))
           clear hu2 g2)
        | (try go_simp
           go_at_call 208
           with_reducible refine (joined_any _ [unitL n k, row] _ (pair_mat R2.out RR.out) (by simp) (by rw [HFL.out, HRL.out]; omega)).mono ?_
           rintro e w4 ⟨jo, rfl, hj, g4⟩
           rw [HFL.out] at hj
           obtain ⟨ja, jc, rfl⟩ := own_shape hj
           rw [HRL.out] at hj ⊢
           have HS4 := Lib.hid (((HS3.out.al _).newI g4 hj).drop2)
           obtain ⟨e0, e1, e2, e3, e4, e5⟩ := bx3 HS4.out.s3.hd
           have z4 := fun o => cell_alloc e2 o
           clear hj g4)
        | (go_loud (refine step_app_rowS rfl (.tmp 38) (.tmp 47) rfl rfl rfl HS4.out (by rw [HPL.out]; omega) ?_)
           intro g5 c5' w5 h5
           rw [HPL.out] at h5 ⊢
           obtain ⟨x0, x1, x2, x3, x4, x5⟩ := bx3 h5.s2.hd
           have HS6 := Lib.hid ((h5.s2.setB3 (.slice (some ⟨g5, 0, none⟩) (k + 1) c5')).s2)
           clear h5))
      all_goals
        go_wp2
        go_roundw
        case rel => exact ⟨k + 1, _, _, _, by omega, by go_num, by rw [HSN.out]; exact HS6.out⟩
        case measure => simp [intOf]; omega
    · have hkn : k = n := by omega
      subst hkn
      have HALL := Lib.hid (show (matRel M).take k = matRel M from List.take_of_length_le (by rw [HML.out]; exact Nat.le_refl _))
      obtain ⟨a0, a1, a2, a3, a4, a5⟩ := bx3 HSX.out.s2.hd
      obtain ⟨b0, b1, b2, b3, b4, b5⟩ := bx3 HSX.out.s3.hd
      have HQ := Lib.hid (((HSX.out.s3.setB 0 (.int .i64 k)).setB 1 (.int .i64 c)).setB 2 (.slice oa k oc))
      clear hg
      go_wp2
      refine bodyPost_ret_by (v := .tuple #[.agg #[.int .i64 k, .int .i64 c, .slice oa k oc], .bool true]) ?_ rfl ?_
      · simp [results, go_sem, *]
      · have h := HQ.out.s2.drop2.drop2.drop2
        rw [HALL.out] at h
        exact ⟨_, vs, rfl, h.mat, h.s2.hd⟩
end Go.Proofs.YtpeaeminjbjlnaaDoor

/-
  Total and single-valued relations in the program. Conditions: small sizes.
-/
namespace Go.Proofs.YtpeaeminjbjlnaaDoor
open Go.RowKit
set_option linter.unusedVariables false

def domL (q : Int) (l : Nat) (A : List (List Int)) : List (List Int) := reducedL q l (A.map fun x => x.take l)
def totB (q : Int) (l : Nat) (A : List (List Int)) : Bool := (domL q l A).length == l
def sglB (l : Nat) (A : List (List Int)) : Bool := A.all fun a => !zeroB (a.take l)
theorem sgl_no {l k : Nat} {A : List (List Int)} (hk : k < A.length) (h : zeroB ((A.getD k []).take l) = true) : sglB l A = false := by
  unfold sglB
  rw [List.all_eq_false]
  exact ⟨_, getD_mem hk, by rw [h]; simp⟩
theorem sgl_yes {l : Nat} {A : List (List Int)} (h : ∀ t, t < A.length → zeroB ((A.getD t []).take l) = false) : sglB l A = true := by
  unfold sglB
  rw [List.all_eq_true]
  intro c hc
  obtain ⟨i, hi, rfl⟩ := List.getElem_of_mem hc
  have := h i hi
  rw [getD_at hi] at this
  rw [this]
  rfl
theorem twoS {w : World} (b : Nat) (x y : Value) : Only (fun k => k = b) w ((w.setCell ⟨b, 0, none⟩ x).setCell ⟨b, 1, none⟩ y) := (set_only w ⟨b, 0, none⟩ x).trans (set_only _ ⟨b, 1, none⟩ y)

set_option maxRecDepth 100000 in
set_option maxHeartbeats 1000000 in
theorem domain_any (q : Nat) [NeZero q] (l r : Nat) (u : Value) (A : List (List Int)) (w : World) (hf : fldN q = true) (hq : q ≤ 97) (hu : MatC w u A) (hA : RowsOk q (l + r) A) (ha : A.length ≤ 24) (hlr : l + r ≤ 24) :
    Calls Tryd.prog 281 #[.int .i64 q, rlV l r u] w fun e w' => ∃ o, e = .returned (mxV l o) ∧ Pre w.heap.size w' o (domL q l A) ∧ w.grownBy w' none := by
  have hok := map_ok (f := fun x => x.take l) hA fun x hx => take_vok hx (by omega)
  have H1 := fun W (hg : w.grownBy W none) => eachFirst_any (rlV l r u) l r u A (fun x => x.take l) W w hu hg (by omega) (fn_first w.heap.size l r u W A fun row hr => (hA row hr).1)
  have H2 := Lib.hid fun W o (h : MatV W o (A.map fun x => x.take l)) => span_any q l o _ W hf (by omega) h hok (by rw [List.length_map]; omega) (by omega)
  rw [show reducedL q l (A.map fun x => x.take l) = domL q l A from rfl] at H2
  obtain ⟨ua, uc, rfl⟩ := hu.shape
  unfold rlV mxV at *
  have H1 := Lib.hid H1
  generalize domL q l A = PL at *
  generalize (A.map fun x => x.take l) = CV at *
  generalize A.length = la at *
  have HS := Lib.hid (((Sep.start w).box #[.int .i64 l, .int .i64 r, .slice ua la uc] 65).box #[.int .i64 0, .slice none 0 0] 74)
  simp only [show ∀ (W : World) o, (W.alloc o).heap.size = W.heap.size + 1 from fun W o => by simp] at HS
  have hmf : ∀ (fn : Fn) (first cap : Array Value) (W : World), (Instr.makeFunc fn first cap).run Tryd.prog W = .ok (.func fn first cap) W := fun _ _ _ _ => rfl
  have HD := Lib.hid HS.out.dr
  have HGD := Lib.hid (show w.grownBy _ none from HD.out.tl.tl.hd)
  have XF := Lib.hid fun W (c6 : Array Value) (h : Sep W [BxA (w.heap.size + 1) c6 74, BxA w.heap.size #[.int .i64 l, .int .i64 r, .slice ua la uc] 65, KeepA w]) =>
    And.intro (bx3 h.s2.hd).1 (And.intro (bx3 h.s2.hd).2.1 (bx3 h.s2.hd).2.2.1)
  have X0 := Lib.hid (XF.out _ _ HD.out)
  clear hu hA hf hok
  go_enter Tryd.func281, Tryd.ntmps281
  go_wp2_with fail
  go_region_held3 (fun w' => w'.cell? ⟨w.heap.size, 0, none⟩ = some (.int .i64 l) ∧ w'.cell? ⟨w.heap.size, 1, none⟩ = some (.int .i64 r) ∧ w'.cell? ⟨w.heap.size, 2, none⟩ = some (.slice ua la uc))
    (first | with_reducible exact X0.out | with_reducible exact X2.out | with_reducible exact X3.out | with_reducible exact X4.out)
    (first
      | (go_at_call 234
         go_loud (refine (H1.out _ HGD.out).mono ?_)
         rintro e w2 ⟨o, us, rfl, hs2, _⟩
         have HM2 := Lib.hid hs2.readS
         have HD2 := Lib.hid (HD.out.grown (show World.grownBy _ w2 none from hs2.s2.hd))
         have X2 := Lib.hid (XF.out _ _ HD2.out)
         clear hs2)
      | (go_at_call 166
         go_loud (refine (H2.out _ _ HM2.out).mono ?_)
         rintro e w3 ⟨o3, rfl, hp, g3⟩
         obtain ⟨ra, rc, rfl⟩ := hp.shape
         have HP := Lib.hid hp
         have hsz := lt_of_blk HD2.out.hd
         have HD3 := Lib.hid (HD2.out.grown g3)
         have X3 := Lib.hid (XF.out _ _ HD3.out)
         obtain ⟨t0, t1, t2, t3⟩ := bx HD3.out.hd
         have HD4 := Lib.hid ((HD3.out.setB 0 (.int .i64 l)).setB 1 (.slice ra PL.length rc))
         have X4 := Lib.hid (XF.out _ _ HD4.out)
         clear hp g3))
  all_goals
    have HMM := Lib.hid (HP.out.only (twoS (w := w3) (w.heap.size + 1) (.int .i64 l) (.slice ra PL.length rc)) (fun k' hk' => by have : k' = w.heap.size + 1 := hk'; omega))
    obtain ⟨u0, u1, u2, u3⟩ := bx HD4.out.hd
    have HE := Lib.hid (show w.grownBy _ none from HD4.out.tl.tl.hd)
    generalize PL.length = rl at *
    generalize (w3.setCell ⟨w.heap.size + 1, 0, none⟩ (.int .i64 l)).setCell ⟨w.heap.size + 1, 1, none⟩ (.slice ra rl rc) = w4 at *
    go_wp2
    refine bodyPost_ret_by (v := .agg #[.int .i64 l, .slice ra rl rc]) ?_ rfl ⟨_, rfl, HMM.out.base (by omega), HE.out⟩
    simp [results, go_sem, *]

set_option maxRecDepth 100000 in
set_option maxHeartbeats 1000000 in
theorem isTotal_any (q : Nat) [NeZero q] (l r : Nat) (u : Value) (A : List (List Int)) (w : World) (hf : fldN q = true) (hq : q ≤ 97) (hu : MatC w u A) (hA : RowsOk q (l + r) A) (ha : A.length ≤ 24) (hlr : l + r ≤ 24) :
    Calls Tryd.prog 211 #[.int .i64 q, rlV l r u] w fun e w' => e = .returned (.bool (totB q l A)) ∧ w.grownBy w' none := by
  have HC := Lib.hid fun W (hg : w.grownBy W none) => domain_any q l r u A W hf hq (hu.carry hg) hA ha hlr
  obtain ⟨ua, uc, rfl⟩ := hu.shape
  unfold rlV mxV at *
  unfold totB
  generalize domL q l A = PL at *
  generalize A.length = la at *
  have HS := Lib.hid ((Sep.start w).box #[.int .i64 l, .int .i64 r, .slice ua la uc] 65)
  have HD := Lib.hid HS.out.dr
  have HGD := Lib.hid (show w.grownBy _ none from HD.out.tl.hd)
  have XF := Lib.hid fun W (h : Sep W [BxA w.heap.size #[.int .i64 l, .int .i64 r, .slice ua la uc] 65, KeepA w]) =>
    And.intro (bx3 h.hd).1 (And.intro (bx3 h.hd).2.1 (bx3 h.hd).2.2.1)
  have X0 := Lib.hid (XF.out _ HD.out)
  have hfd : ∀ (x y : Value) (W : World), (Instr.field 74 (.agg #[x, y]) 1).run Tryd.prog W = .ok y W := fun _ _ _ => by kernel_rfl
  clear hu hA hf
  generalize hpl : PL.length = pn at *
  by_cases hn : pn = l
  · have hb : (pn == l) = true := by rw [beq_iff_eq]; exact hn
    have HB := Lib.hid hb
    subst hn
    go_enter Tryd.func211, Tryd.ntmps211
    go_wp2_with fail
    go_region_held3 (fun w' => w'.cell? ⟨w.heap.size, 0, none⟩ = some (.int .i64 pn) ∧ w'.cell? ⟨w.heap.size, 1, none⟩ = some (.int .i64 r) ∧ w'.cell? ⟨w.heap.size, 2, none⟩ = some (.slice ua la uc))
      (first | with_reducible exact X0.out | with_reducible exact X2.out)
      (first
        | (go_at_call 281
           go_loud (refine (HC.out _ HGD.out).mono ?_)
           rintro e w2 ⟨o, rfl, hp, g2⟩
           obtain ⟨ra, rc, rfl⟩ := hp.shape
           rw [hpl] at *
           have HD2 := Lib.hid (HD.out.grown g2)
           have X2 := Lib.hid (XF.out _ HD2.out)
           clear hp g2))
    all_goals
      go_wp2
      go_ret
      exact ⟨by rw [HB.out]; rfl, HD2.out.tl.hd⟩
  · have hb : (pn == l) = false := by rw [beq_eq_false_iff_ne]; exact hn
    have HB := Lib.hid hb
    have hne : ((pn : Int) == (l : Int)) = false := by rw [beq_eq_false_iff_ne]; omega
    go_enter Tryd.func211, Tryd.ntmps211
    go_wp2_with fail
    go_region_held3 (fun w' => w'.cell? ⟨w.heap.size, 0, none⟩ = some (.int .i64 l) ∧ w'.cell? ⟨w.heap.size, 1, none⟩ = some (.int .i64 r) ∧ w'.cell? ⟨w.heap.size, 2, none⟩ = some (.slice ua la uc))
      (first | with_reducible exact X0.out | with_reducible exact X2.out)
      (first
        | (go_at_call 281
           go_loud (refine (HC.out _ HGD.out).mono ?_)
           rintro e w2 ⟨o, rfl, hp, g2⟩
           obtain ⟨ra, rc, rfl⟩ := hp.shape
           rw [hpl] at *
           have HD2 := Lib.hid (HD.out.grown g2)
           have X2 := Lib.hid (XF.out _ HD2.out)
           clear hp g2))
    all_goals
      go_wp2
      go_ret
      exact ⟨by rw [HB.out]; rfl, HD2.out.tl.hd⟩

set_option maxRecDepth 100000 in
set_option maxHeartbeats 1000000 in
theorem isSingleValued_any (l r : Nat) (u : Value) (A : List (List Int)) (w : World) (hu : MatC w u A) (hA : ∀ row ∈ A, row.length = l + r) (ha : A.length ≤ 24) (hlr : l + r ≤ 24) :
    Calls Tryd.prog 212 #[rlV l r u] w fun e w' => e = .returned (.bool (sglB l A)) ∧ w.grownBy w' none := by
  have HF := Lib.hid fun W b a c (hc : l + r ≤ c) => first_any l r b a (l + r) c W (by omega) hc
  have HZ := Lib.hid fun W v zs (hv : IntsV W v zs) (hl : zs.length ≤ 1000000) => isZero_any v zs W hv hl
  have HU := Lib.hid hu; have HL := Lib.hid hA
  have HNO := Lib.hid fun k (hk : k < A.length) (h : zeroB ((A.getD k []).take l) = true) => sgl_no hk h
  have HYES := Lib.hid fun (h : ∀ t, t < A.length → zeroB ((A.getD t []).take l) = false) => sgl_yes h
  obtain ⟨ua, uc, rfl⟩ := hu.shape
  unfold rlV at *
  generalize hib : sglB l A = ib at *
  generalize hla : A.length = la at *
  have HLA := Lib.hid hla
  have HS := Lib.hid ((Sep.start w).box #[.int .i64 l, .int .i64 r, .slice ua la uc] 65)
  have HG := Lib.hid (show w.grownBy _ none from HS.out.tl.hd)
  obtain ⟨y0, y1, y2, _, _, _⟩ := bx3 HS.out.hd
  have HB := Lib.hid fun W (h : World.grownBy _ W none) => And.intro (bx3 (HS.out.grown h).hd).1 (And.intro (bx3 (HS.out.grown h).hd).2.1 (bx3 (HS.out.grown h).hd).2.2.1)
  clear hu hA hib hla
  go_enter Tryd.func212, Tryd.ntmps212
  go_wp2_with fail
  generalize (w.alloc (.cells #[.int .i64 l, .int .i64 r, .slice ua la uc] 65)) = w0 at *
  clear y0 y1 y2
  go_loopw [8] (fun i wr => ∃ k : Nat, k ≤ la ∧ i = .int .i64 k ∧ w0.grownBy wr none ∧ ∀ t, t < k → zeroB ((A.getD t []).take l) = false) (fun i _ => la - (intOf i).toNat)
  case atStart => exact ⟨0, by omega, rfl, grownBy_refl _ _, fun t ht => absurd ht (by omega)⟩
  case round =>
    obtain ⟨k, hk, rfl, hg, hall⟩ := hrel
    have HGR := Lib.hid hg; have HALL := Lib.hid hall
    obtain ⟨b0, b1, b2⟩ := HB.out wr hg
    clear hall
    by_cases hlt : k < la
    · have hkA : k < A.length := by rw [HLA.out]; exact hlt
      obtain ⟨bb, bo, bcap, bml, br, brc, he, hcell, hrow, hcp⟩ := HU.out.rowK (HG.out.trans hg) hkA
      cases he
      have hrl := HL.out _ (getD_mem hkA)
      rw [hrl] at hcell hcp
      have HR := Lib.hid fun W (h : wr.grownBy W none) => (show IntsV W (.slice br l brc) ((A.getD k []).take l) from by
        have h1 := ((hrow.carry ((HG.out.trans hg).trans h)).take (k := l) (by rw [hrl]; omega) brc)
        exact h1)
      have HNK := Lib.hid (HNO.out k hlt)
      have HTL := Lib.hid (show ((A.getD k []).take l).length ≤ 1000000 by rw [List.length_take, hrl]; omega)
      have HCP := Lib.hid hcp
      clear hrow hg hrl hcp hkA
      cases hhk : zeroB ((A.getD k []).take l)
      · have HK := Lib.hid hhk
        clear hhk
        go_wp2_with (first
          | (go_at_call 269
             go_loud (refine (HF.out _ _ _ _ HCP.out).mono ?_)
             rintro e w1 ⟨rfl, g⟩
             have G1 := Lib.hid (HGR.out.trans g)
             have E1 := Lib.hid g
             clear g)
          | (go_at_call 228
             go_loud (refine (HZ.out _ _ _ (HR.out _ E1.out) HTL.out).mono ?_)
             rintro e w' ⟨rfl, rfl⟩
             rw [HK.out]))
        go_roundw
        case rel => exact ⟨k + 1, by omega, by go_num, G1.out, fun t ht => by
          rcases Nat.lt_or_ge t k with h | h
          · exact HALL.out t h
          · rw [show t = k by omega]; exact HK.out⟩
        case measure => simp [intOf]; omega
      · have HK := Lib.hid hhk
        have HIB := Lib.hid (HNK.out hhk)
        clear hhk
        go_wp2_with (first
          | (go_at_call 269
             go_loud (refine (HF.out _ _ _ _ HCP.out).mono ?_)
             rintro e w1 ⟨rfl, g⟩
             have G1 := Lib.hid (HGR.out.trans g)
             have E1 := Lib.hid g
             clear g)
          | (go_at_call 228
             go_loud (refine (HZ.out _ _ _ (HR.out _ E1.out) HTL.out).mono ?_)
             rintro e w' ⟨rfl, rfl⟩
             rw [HK.out]))
        go_ret
        exact ⟨by rw [HIB.out]; rfl, HG.out.trans G1.out⟩
    · have HIB := Lib.hid (HYES.out fun t ht => HALL.out t (by omega))
      clear hg
      go_wp2
      go_ret
      exact ⟨by rw [HIB.out]; rfl, HG.out.trans HGR.out⟩
end Go.Proofs.YtpeaeminjbjlnaaDoor

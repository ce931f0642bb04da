/-
  Compositions in the reference. Conditions: the relations are valid and fit.
-/
import Derived.Test.YtpeaeminjbjlnaaDoorMl06
import Derived.Test.YtpeaeminjbjlnaaDoorMl07
import Derived.Test.YtpeaeminjbjlnaaDoorMv12
import Derived.Test.YtpeaeminjbjlnaaDoorMv11
namespace Go.Proofs.YtpeaeminjbjlnaaDoor
open Go.RowKit
set_option linter.unusedVariables false

def colA (l : Nat) (A : List (List Int)) (t : Nat) : List Int := A.map fun a => a.getD (l + t) 0
def colC (q : Int) (C : List (List Int)) (t : Nat) : List Int := C.map fun c => (q - c.getD t 0) % q
theorem sMid_at {q : Int} {l m : Nat} {A C : List (List Int)} {t : Nat} (h : t < m) : (sMid q l m A C).getD t [] = colA l A t ++ colC q C t := by
  unfold sMid
  rw [List.getD_eq_getElem?_getD, List.getElem?_map, List.getElem?_range h]
  rfl
theorem colA_at {l t k : Nat} {A : List (List Int)} (h : k < A.length) : (colA l A t).getD k 0 = (A.getD k []).getD (l + t) 0 := by
  unfold colA
  rw [List.getD_eq_getElem?_getD, List.getElem?_map, List.getElem?_eq_getElem h, List.getD_eq_getElem?_getD (l := A), List.getElem?_eq_getElem h]
  rfl
theorem colC_at {q : Int} {t k : Nat} {C : List (List Int)} (h : k < C.length) : (colC q C t).getD k 0 = (q - (C.getD k []).getD t 0) % q := by
  unfold colC
  rw [List.getD_eq_getElem?_getD, List.getElem?_map, List.getElem?_eq_getElem h, List.getD_eq_getElem?_getD (l := C), List.getElem?_eq_getElem h]
  rfl
theorem set_at {R : List (List Int)} {j : Nat} {x : List Int} (h : j < R.length) : (R.set j x).getD j [] = x := by
  rw [List.getD_eq_getElem?_getD, List.getElem?_set_self h]; rfl
theorem gdrew {a b : World} (h : a.grownBy b none) : a.grownBy b.drew none := ⟨h.os, h.tape, h.output, h.size, h.block⟩
theorem grown_some {a b : World} (h : a.grownBy b none) (k : Nat) : a.grownBy b (some k) := ⟨h.os, h.tape, h.output, h.size, fun j hj _ => h.block j hj (by simp)⟩
theorem set_same {R : List (List Int)} {j : Nat} (h : j < R.length) : R.set j (R.getD j []) = R := by
  rw [List.getD_eq_getElem?_getD, List.getElem?_eq_getElem h, Option.getD_some, List.set_getElem_self]

set_option maxRecDepth 100000 in
set_option maxHeartbeats 8000000 in
theorem rlCompose_any (q : Nat) [NeZero q] (l m r : Nat) (u v : Value) (A C : List (List Int)) (w : World) (hf : fldN q = true) (hq : q ≤ 97) (hu : MatV w u A) (hv : MatV w v C) (hA : RowsOk q (l + m) A) (hC : RowsOk q (m + r) C) (ha : A.length ≤ 24) (hc : C.length ≤ 24) (hlm : l + m ≤ 24) (hmr : m + r ≤ 24) (hlr : l + r ≤ 24) :
    Calls Tryd.prog 160 #[.int .i64 q, rlV l m u, rlV m r v] w fun e w' => ∃ o, e = .returned (rlV l r o) ∧ (∃ vs, OwnM w.heap.size w' o vs (compL q l m r A C)) ∧ w.grownBy w' none := by
  have hp := lt_p hf
  have hmo := sMid_ok hA hC
  have hsl := sMid_len (q : Int) l m A C
  have H4 := Lib.hid fun W o (h : MatV W o (sMid q l m A C)) => spNull_any q (A.length + C.length) o (sMid q l m A C) W hf (by omega) h hmo (by omega) (by omega)
  have hkr := (orth_red hf hmo).1
  have hkn := (orth_red hf hmo).len_le
  have HKV := Lib.hid (show ∀ i, i < (orthL q (sMid q l m A C) (A.length + C.length)).length → VecOk q (A.length + C.length) ((orthL q (sMid q l m A C) (A.length + C.length)).getD i []) from fun i hi => hkr _ (getD_mem hi))
  have hpo : RowsOk q (l + r) ((orthL q (sMid q l m A C) (A.length + C.length)).map (sCompRow q l m r A C)) := by
    intro row hr
    obtain ⟨c, _, rfl⟩ := List.mem_map.1 hr
    exact sCompRow_ok hp hA hC c
  have H5 := Lib.hid fun W o (h : MatV W o ((orthL q (sMid q l m A C) (A.length + C.length)).map (sCompRow q l m r A C))) => rlOf_any q l r o _ W hf (by omega) h hpo (by rw [List.length_map]; omega) (by omega)
  rw [show reducedL q (l + r) ((orthL q (sMid q l m A C) (A.length + C.length)).map (sCompRow q l m r A C)) = compL q l m r A C from sComp_eq hf hA hC] at H5
  have HCR := Lib.hid (show ∀ x, sCompRow q l m r A C x = (combTo q (x.take A.length) A (l + m) A.length).take l ++ (combTo q (x.drop A.length) C (m + r) C.length).drop m from fun x => rfl)
  have HXL := Lib.hid (show ∀ x, (combTo q x A (l + m) A.length).length = l + m from fun x => (combTo_ok (x := x) hp hA A.length (Nat.le_refl _)).1)
  have HZL := Lib.hid (show ∀ x, (combTo q x C (m + r) C.length).length = m + r from fun x => (combTo_ok (x := x) hp hC C.length (Nat.le_refl _)).1)
  have HC1 := Lib.hid fun (x : List Int) (xv : Value) (W : World) (hg : w.grownBy W none) (hx : IntsV W xv x) (hok : VecOk q A.length x) => spSum_any q (l + m) u xv A x W hp (by omega) (hu.carry hg) hx hA hok.1 hok.2 (by omega) (by omega)
  have HC2 := Lib.hid fun (x : List Int) (xv : Value) (W : World) (hg : w.grownBy W none) (hx : IntsV W xv x) (hok : VecOk q C.length x) => spSum_any q (m + r) v xv C x W hp (by omega) (hv.carry hg) hx hC hok.1 hok.2 (by omega) (by omega)
  have HMA := Lib.hid fun t (h : t < m) => sMid_at (q := (q : Int)) (l := l) (A := A) (C := C) h
  have HU := Lib.hid hu; have HV := Lib.hid hv; have HAO := Lib.hid hA; have HCO := Lib.hid hC
  obtain ⟨i0, hi, hz0, hz1, hz2⟩ := info_parts info_ints
  have HI := Lib.hid hi; have HZ0 := Lib.hid hz0; have HZ1 := Lib.hid hz1; have HZ2 := Lib.hid hz2
  obtain ⟨ua, uc, rfl⟩ := hu.shape
  obtain ⟨va, vc, rfl⟩ := hv.shape
  have hkn2 : (orthL q (sMid q l m A C) (A.length + C.length)).length ≤ 100 := by omega
  unfold rlV at *
  generalize compL q l m r A C = PL at *
  generalize orthL q (sMid q l m A C) (A.length + C.length) = K at *
  generalize sMid q l m A C = SM at *
  generalize sCompRow q l m r A C = CR at *
  generalize hal : A.length = la at *
  generalize hcl : C.length = lc at *
  have HAL := Lib.hid hal; have HCL := Lib.hid hcl; have HSL := Lib.hid hsl
  have HS := Lib.hid ((((Sep.start w).box #[.int .i64 l, .int .i64 m, .slice ua la uc] 65).box #[.int .i64 m, .int .i64 r, .slice va lc vc] 65).box #[.int .i64 0, .int .i64 0, .slice none 0 0] 65)
  have HG := Lib.hid (show w.grownBy _ none from HS.out.tl.tl.tl.hd)
  simp only [show ∀ (W : World) o, (W.alloc o).heap.size = W.heap.size + 1 from fun W o => by simp] at HS
  have hbz : w.heap.size + 1 + 1 < (((w.alloc (.cells #[.int .i64 l, .int .i64 m, .slice ua la uc] 65)).alloc (.cells #[.int .i64 m, .int .i64 r, .slice va lc vc] 65)).alloc (.cells #[.int .i64 0, .int .i64 0, .slice none 0 0] 65)).heap.size := by simp
  clear hu hv hA hC hf hmo hkr hkn hpo hal hcl hsl hi hz0 hz1 hz2
  have h4 := H4.out; have hc1 := HC1.out; have hc2 := HC2.out
  rw [show (((la + lc : Nat)) : Int) = (la : Int) + (lc : Int) by omega] at h4
  rw [show (((l + m : Nat)) : Int) = (l : Int) + (m : Int) by omega] at hc1
  rw [show (((m + r : Nat)) : Int) = (m : Int) + (r : Int) by omega] at hc2
  have H4 := Lib.hid h4; have HC1 := Lib.hid hc1; have HC2 := Lib.hid hc2
  clear h4 hc1 hc2
  have hg0 : (((w.alloc (.cells #[.int .i64 l, .int .i64 m, .slice ua la uc] 65)).alloc (.cells #[.int .i64 m, .int .i64 r, .slice va lc vc] 65)).alloc (.cells #[.int .i64 0, .int .i64 0, .slice none 0 0] 65)).heap.size = w.heap.size + 1 + 1 + 1 := by simp
  go_enter Tryd.func160, Tryd.ntmps160
  obtain ⟨y0, y1, y2, _, _, _⟩ := bx3 HS.out.s3.hd
  go_wp2_with (
    at_make
    refine wpList_make_full _ rfl _ _ 37 rfl _ 24 i0 (.slice none 0 0) 1 Tryd.underlying37 HI.out HZ0.out HZ1.out _ _ _ _ m rfl rfl rfl rfl (by rw [HZ2.out]; omega) (by unfold maxLen; omega) (Nat.le_refl _) ?_
    intro w1 hown' hgr'
    have H1 := Lib.hid hown'; have H2 := Lib.hid hgr'
    clear hown' hgr')
  generalize (((w.alloc (.cells #[.int .i64 l, .int .i64 m, .slice ua la uc] 65)).alloc (.cells #[.int .i64 m, .int .i64 r, .slice va lc vc] 65)).alloc (.cells #[.int .i64 0, .int .i64 0, .slice none 0 0] 65)) = w0 at *
  have hz : (madeCells (Value.slice none 0 0).cells (m * 1)).toList = List.replicate m nilS := by rw [Nat.mul_one]; exact toList_madeCells_one _ _
  have ho := H1.out
  rw [hz] at ho
  have HS1 := Lib.hid ((Sep.start w0).newM H2.out (nils_own ho))
  have HBX := Lib.hid fun W (h : w0.grownBy W none) => And.intro (bx3 (HS.out.grown h).s3.hd) (bx3 (HS.out.grown h).s2.hd)
  rw [hg0] at HS1
  rw [hg0] at hbz
  clear hz ho H1 H2 HI HZ0 HZ1 HZ2 y0 y1 y2
  have HG0 := Lib.hid hg0
  clear hg0
  generalize w.heap.size + 1 + 1 + 1 = g at *
  go_loopw [25] (fun i wr => ∃ (j : Nat) (vs : List Value) (R : List (List Int)), j ≤ m ∧ i = .int .i64 j ∧ R.length = m ∧ (∀ t, t < j → R.getD t [] = SM.getD t []) ∧ (∀ t, j ≤ t → R.getD t [] = []) ∧ Sep wr [OM (.slice (some ⟨g, 0, none⟩) m m) vs R, KeepA w0]) (fun i _ => m - (intOf i).toNat)
  case atStart => exact ⟨0, _, _, by omega, rfl, by simp, fun _ h => absurd h (by omega), fun t _ => getD_repl', HS1.out⟩
  case round =>
    obtain ⟨j, vs, R, hj, rfl, hrl, hr1, hr2, hs⟩ := hrel
    have HRL := Lib.hid hrl; have HR1 := Lib.hid hr1; have HR2 := Lib.hid hr2; have HSX := Lib.hid hs
    clear hrl hr1 hr2 hs
    by_cases hjm : j < m
    · have hjr : j < R.length := by rw [HRL.out]; exact hjm
      have hst : Sep wr [OM (.slice (some ⟨g, 0, none⟩) m m) vs (R.set j ((colA l A j).take 0)), KeepA w0] := by
        have := set_same hjr
        rw [HR2.out j (Nat.le_refl _)] at this
        rw [List.take_zero, this]
        exact HSX.out
      have HST := Lib.hid hst
      obtain ⟨⟨_, _, d2, _⟩, _⟩ := HBX.out _ hst.s2.hd
      clear hst hjr
      go_wp2_with fail
      go_loopw [31] (fun i wx => ∃ (k : Nat) (vs' : List Value), k ≤ la ∧ i = .int .i64 k ∧ Sep wx [OM (.slice (some ⟨g, 0, none⟩) m m) vs' (R.set j ((colA l A j).take k)), KeepA w0]) (fun i _ => la - (intOf i).toNat)
      case atStart => exact ⟨0, vs, by omega, rfl, HST.out⟩
      case round =>
        obtain ⟨k, vs', hk, rfl, hs⟩ := hrel
        have HSY := Lib.hid hs
        have hg := hs.s2.hd
        clear hs d2
        by_cases hka : k < la
        · have hkA : k < A.length := by rw [HAL.out]; exact hka
          obtain ⟨bb, bo, bcap, bml, br, brc, he, hcell, hrow⟩ := HU.out.rowK (HG.out.trans hg) hkA
          cases he
          have hro := HAO.out _ (getD_mem hkA)
          have hat := colA_at (l := l) (t := j) hkA
          have hjr : j < (R.set j ((colA l A j).take k)).length := by rw [List.length_set, HRL.out]; exact hjm
          have hca : (colA l A j).length = la := by unfold colA; rw [List.length_map, HAL.out]
          have HSN := Lib.hid (take_snocD 0 (show k < (colA l A j).length by rw [hca]; exact hka))
          have hsa := set_at (x := (colA l A j).take k) (show j < R.length by rw [HRL.out]; exact hjm)
          have HSA := Lib.hid hsa
          have HTL := Lib.hid (show ((colA l A j).take k).length = k by rw [List.length_take, hca]; omega)
          have hlj : l + j < (A.getD k []).length := by rw [hro.1]; omega
          obtain ⟨d, rfl, hsp, hdb, hc2⟩ := (hrow.carry (HG.out.trans hg)).at hlj
          obtain ⟨db, dof, _⟩ := d
          simp only at hsp hc2
          subst hsp
          rw [← getD_lt hlj, ← hat] at hc2
          rw [hro.1] at hcell
          have hoc := HSY.out.hd.cell (by rw [List.length_set, HRL.out]) hjr
          obtain ⟨ra, rc, hre⟩ := own_shape (HSY.out.hd.row j)
          rw [HSA.out, HTL.out] at hre
          rw [hre] at hoc
          have HRE := Lib.hid hre
          have hz1 := fun o => cell_alloc hoc o
          have HSD := Lib.hid HSY.out.dr
          obtain ⟨⟨e0, e1, e2, _⟩, _⟩ := HBX.out _ hg
          have i1 : (0 : Int) ≤ (j : Int) := by omega
          have i2 : (j : Int) < (m : Int) := by omega
          have i3 : (0 : Int) ≤ (l : Int) + (j : Int) := by omega
          have i4 : (l : Int) + (j : Int) < ((l + m : Nat) : Int) := by omega
          have i5 : (l : Int) + (j : Int) < (l : Int) + (m : Int) := by omega
          have i6 : ((l : Int) + (j : Int)).toNat = l + j := by omega
          have i7 : IntKind.i64.wrap ((l : Int) + (j : Int)) = (l : Int) + (j : Int) := by rw [IntKind.wrap_i64]; omega
          clear hrow hro hat hlj hdb hre hg hsa hca
          generalize (colA l A j).getD k 0 = xk at *
          go_wp2_with fail
          go_region_law (first
            | (go_loud (refine step_app_elem rfl (.tmp 40) (.tmp 48) rfl rfl rfl HSD.out (by rw [List.length_set, HRL.out]) hjr HRE.out (by rw [HSA.out, HTL.out]; omega) ?_)
               intro g' cap' w' c1 c2 h3 _
               rw [HSA.out, HTL.out] at h3 ⊢
               have HS3 := Lib.hid h3
               clear h3))
          all_goals
            go_wp2
            go_roundw
            case rel => exact ⟨k + 1, _, by omega, by go_num, by rw [HSN.out]; have h := HS3.out; rw [List.set_set] at h; exact h⟩
            case measure => simp [intOf]; omega
        · have hall : (colA l A j).take k = colA l A j := List.take_of_length_le (by unfold colA; rw [List.length_map, HAL.out]; omega)
          have hst := HSY.out
          rw [hall] at hst
          have HST := Lib.hid (show Sep wr [OM (.slice (some ⟨g, 0, none⟩) m m) vs' (R.set j (colA l A j ++ (colC q C j).take 0)), KeepA w0] by rw [List.take_zero, List.append_nil]; exact hst)
          obtain ⟨_, _, _, d5, _⟩ := HBX.out _ hg
          clear hall hst hg
          go_wp2_with fail
          go_loopw [55] (fun i wx => ∃ (k : Nat) (vs' : List Value), k ≤ lc ∧ i = .int .i64 k ∧ Sep wx [OM (.slice (some ⟨g, 0, none⟩) m m) vs' (R.set j (colA l A j ++ (colC q C j).take k)), KeepA w0]) (fun i _ => lc - (intOf i).toNat)
          case atStart => exact ⟨0, vs', by omega, rfl, HST.out⟩
          case round =>
            obtain ⟨k, vs', hk, rfl, hs⟩ := hrel
            have HSY := Lib.hid hs
            have hg := hs.s2.hd
            clear hs d5
            by_cases hka : k < lc
            · have hkA : k < C.length := by rw [HCL.out]; exact hka
              obtain ⟨bb, bo, bcap, bml, br, brc, he, hcell, hrow⟩ := HV.out.rowK (HG.out.trans hg) hkA
              cases he
              have hro := HCO.out _ (getD_mem hkA)
              have hat := colC_at (q := (q : Int)) (t := j) hkA
              have hjr : j < (R.set j (colA l A j ++ (colC q C j).take k)).length := by rw [List.length_set, HRL.out]; exact hjm
              have hca : (colC (q : Int) C j).length = lc := by unfold colC; rw [List.length_map, HCL.out]
              have hcb : (colA l A j).length = la := by unfold colA; rw [List.length_map, HAL.out]
              have HSN := Lib.hid (take_snocD 0 (show k < (colC (q : Int) C j).length by rw [hca]; exact hka))
              have hsa := set_at (x := colA l A j ++ (colC q C j).take k) (show j < R.length by rw [HRL.out]; exact hjm)
              have HSA := Lib.hid hsa
              have HTL := Lib.hid (show (colA l A j ++ (colC (q : Int) C j).take k).length = la + k by rw [List.length_append, List.length_take, hca, hcb]; omega)
              have hlj : j < (C.getD k []).length := by rw [hro.1]; omega
              obtain ⟨d, rfl, hsp, hdb, hc2⟩ := (hrow.carry (HG.out.trans hg)).at hlj
              obtain ⟨db, dof, _⟩ := d
              simp only at hsp hc2
              subst hsp
              have hbd := hro.2 _ (List.getElem_mem hlj)
              rw [← getD_lt hlj] at hc2 hbd
              rw [hro.1] at hcell
              have hoc := HSY.out.hd.cell (by rw [List.length_set, HRL.out]) hjr
              obtain ⟨ra, rc, hre⟩ := own_shape (HSY.out.hd.row j)
              rw [HSA.out, HTL.out] at hre
              rw [hre] at hoc
              have HRE := Lib.hid hre
              have hz1 := fun o => cell_alloc hoc o
              have HSD := Lib.hid HSY.out.dr
              have HAT := Lib.hid hat
              have i1 : (0 : Int) ≤ (j : Int) := by omega
              have i2 : (j : Int) < (m : Int) := by omega
              have i3 : (j : Int) < ((m + r : Nat) : Int) := by omega
              have i4 : (j : Int) < (m : Int) + (r : Int) := by omega
              clear hrow hro hat hlj hdb hre hg hsa hca hcb
              generalize (C.getD k []).getD j 0 = xk at *
              have hN := fun W => fdNegE_any q xk W (by omega) (by omega) hbd.1 (by omega)
              generalize ((q : Int) - xk) % (q : Int) = nv at *
              have HN := Lib.hid hN
              clear hN
              go_wp2_with fail
              go_region_law (first
                | (try go_simp
                   go_at_call 237
                   go_loud (with_reducible refine (HN.out _).mono ?_)
                   rintro e w' ⟨rfl, rfl⟩)
                | (go_loud (refine step_app_elem rfl (.tmp 64) (.tmp 71) rfl rfl rfl HSD.out (by rw [List.length_set, HRL.out]) hjr HRE.out (by rw [HSA.out, HTL.out]; omega) ?_)
                   intro g' cap' w' c1 c2 h3 _
                   rw [HSA.out, HTL.out] at h3 ⊢
                   have HS3 := Lib.hid h3
                   clear h3))
              all_goals
                go_wp2
                go_roundw
                case rel => exact ⟨k + 1, _, by omega, by go_num, by rw [HSN.out, HAT.out, ← List.append_assoc]; have h := HS3.out; rw [List.set_set] at h; exact h⟩
                case measure => simp [intOf]; omega
            · have hall : (colC (q : Int) C j).take k = colC q C j := List.take_of_length_le (by unfold colC; rw [List.length_map, HCL.out]; omega)
              have hst := HSY.out
              rw [hall] at hst
              have HST := Lib.hid hst
              clear hall hst hg
              go_wp2
              go_roundw
              case rel =>
                refine ⟨j + 1, _, _, by omega, by go_num, by rw [List.length_set]; exact HRL.out, fun t ht => ?_, fun t ht => ?_, HST.out⟩
                · rw [getD_setL (by rw [HRL.out]; exact hjm)]
                  split
                  · next h => rw [h, HMA.out j hjm]
                  · exact HR1.out t (by omega)
                · rw [getD_setL (by rw [HRL.out]; exact hjm), if_neg (by omega)]
                  exact HR2.out t (by omega)
              case measure => simp [intOf]; omega
    · have hfin : R = SM := by
        refine List.ext_getElem (by rw [HRL.out, HSL.out]) fun t h1 h2 => ?_
        have := HR1.out t (by have := HRL.out; omega)
        rwa [List.getD_eq_getElem?_getD, List.getElem?_eq_getElem h1, List.getD_eq_getElem?_getD, List.getElem?_eq_getElem h2, Option.getD_some, Option.getD_some] at this
      subst hfin
      have HRD := Lib.hid HSX.out.hd.read
      have G03 := Lib.hid (show w0.grownBy wr none from HSX.out.s2.hd)
      obtain ⟨⟨_, _, d2, _⟩, _, _, d5, _⟩ := HBX.out _ G03.out
      have j1 : IntKind.i64.wrap ((la : Int) + (lc : Int)) = (la : Int) + (lc : Int) := by rw [IntKind.wrap_i64]; omega
      clear HSX
      go_wp2_with (
        go_at_call 177
        go_loud (refine (H4.out _ _ HRD.out).mono ?_)
        rintro e w5 ⟨ka, kc, rfl, hp5, g5⟩
        have HP := Lib.hid hp5
        have G05 := Lib.hid (G03.out.trans g5)
        have hB := Nat.lt_of_lt_of_le hbz (by rw [← HG0.out]; exact G03.out.size)
        clear hp5 g5)
      clear d2 d5 j1
      generalize hKl : K.length = lk at *
      have HKL := Lib.hid hKl
      clear hKl
      go_loopw [14, 87] (fun out i wx => ∃ (t : Nat) (vs : List Value), t ≤ lk ∧ i = .int .i64 t ∧ Sep wx [OM out vs ((K.map CR).take t), KeepA w5]) (fun _ i _ => lk - (intOf i).toNat)
      case atStart => exact ⟨0, [], by omega, rfl, (Sep.start w5).nilM⟩
      case round =>
        obtain ⟨t, vs, htk, rfl, hs⟩ := hrel
        have HSX := Lib.hid hs
        have hg := hs.s2.hd
        clear hs
        by_cases hlt : t < lk
        · obtain ⟨kb, kcap, kml, rr, rcp, he, hcell, hrow, hcp, hr0, hblk⟩ := HP.out.rowX (grown_some hg w.heap.size) (Nat.lt_trans (Nat.lt_trans (Nat.lt_succ_self _) (Nat.lt_succ_self _)) hB) (show t < K.length by rw [HKL.out]; exact hlt)
          cases he
          have hkv := HKV.out t hlt
          have hkk : t < K.length := by rw [HKL.out]; exact hlt
          have HSN := Lib.hid (take_snocF (f := CR) hkk)
          have HPL := Lib.hid (show ((K.map CR).take t).length = t by rw [List.length_take, List.length_map, HKL.out]; omega)
          have hgd := gdrew hg
          have hrv : IntsV wr.drew (.slice rr (la + lc) rcp) (K.getD t []) := by
            have h1 := hrow.carry hgd
            rwa [hkv.1] at h1
          rw [hkv.1] at hcell hcp
          have hx0 := HG.out.trans (G05.out.trans hgd)
          have HC := Lib.hid (HC1.out ((K.getD t []).take la) (.slice rr la rcp) wr.drew hx0 (hrv.take (by rw [hkv.1]; omega) rcp) (take_vok hkv (by omega)))
          have htl : ∀ W, wr.drew.grownBy W none → ∀ (a' : Option Addr) (c' : Nat), (la < rcp → a' = rr.map fun x => x.add la) → IntsV W (.slice a' lc c') ((K.getD t []).drop la) := fun W h a' c' ha' => by
            have h1 := (hrv.carry h).tail (by omega) hcp ha' c'
            rwa [show la + lc - la = lc by omega] at h1
          have HZ2 := Lib.hid fun W (h : wr.drew.grownBy W none) (a' : Option Addr) (c' : Nat) (ha' : la < rcp → a' = rr.map fun x => x.add la) => HC2.out ((K.getD t []).drop la) (.slice a' lc c') W (hx0.trans h) (htl W h a' c' ha') (drop_vok hkv)
          clear htl
          have HCRE := Lib.hid (HCR.out (K.getD t []))
          have HSD := Lib.hid (HSX.out.grown (gdrew (grownBy_refl wr none)))
          have hl1 : ((la : Nat) : Int) ≤ ((rcp : Nat) : Int) := by omega
          have hl2 : la ≤ rcp := by omega
          have hl3 : (0 : Int) ≤ ((la : Nat) : Int) := by omega
          have hl5 : ((la : Nat) : Int) ≤ ((la : Nat) : Int) + ((lc : Nat) : Int) := by omega
          have hl6 : IntKind.i64.wrap ((l : Int) + (m : Int)) = (l : Int) + (m : Int) := by rw [IntKind.wrap_i64]; omega
          have hl7 : IntKind.i64.wrap ((m : Int) + (r : Int)) = (m : Int) + (r : Int) := by rw [IntKind.wrap_i64]; omega
          have HXF := Lib.hid fun W (h : w5.grownBy W none) => HBX.out W (G05.out.trans h)
          obtain ⟨⟨d0, d1, d2, _⟩, e0, e1, e2, _⟩ := HXF.out _ hgd
          have HGX := Lib.hid hgd
          obtain ⟨oa0, oc0, hoe, _, _⟩ := own_form HSD.out.hd
          subst hoe
          have hsd := HSD.out
          rw [HPL.out] at hsd ⊢
          have HSD := Lib.hid hsd
          clear hsd hrow hblk hrv hkk hx0 hg hgd
          have HXR := Lib.hid (HXL.out ((K.getD t []).take la)); have HZR := Lib.hid (HZL.out ((K.getD t []).drop la))
          generalize K.getD t [] = ck at *
          generalize combTo q (ck.take la) A (l + m) la = xr at *
          generalize combTo q (ck.drop la) C (m + r) lc = zr at *
          rcases Nat.eq_or_lt_of_le hl2 with hcase | hcase
          all_goals
            first
              | (subst hcase
                 have h0 : lc = 0 := by omega
                 subst h0)
              | (have hne : ¬ rcp = la := by omega)
            go_wp2_with fail
            go_region_held3 (fun w' => w'.cell? ⟨w.heap.size, 0, none⟩ = some (.int .i64 l) ∧ w'.cell? ⟨w.heap.size, 2, none⟩ = some (.slice ua la uc)) (first | with_reducible exact ⟨d0, d2⟩ | with_reducible exact ⟨f0, f2⟩)
              (first
              | (go_at_call 271
                 go_loud (with_reducible refine HC.out.mono ?_)
                 rintro e w9 ⟨xo, rfl, ho, g9⟩
                 obtain ⟨xa, xc, rfl, hxc⟩ := own_cap ho
                 rw [HXR.out] at ho hxc ⊢
                 have HS9 := Lib.hid (HSD.out.newI g9 ho)
                 have HX9 := Lib.hid (HGX.out.trans g9)
                 have HD9 := Lib.hid g9
                 obtain ⟨⟨f0, f1, f2, _⟩, f3, f4, f5, _⟩ := HXF.out _ (HGX.out.trans g9)
                 clear ho g9))
            all_goals
              have hgd9 : w9.grownBy w9.drew none := gdrew (grownBy_refl w9 none)
              obtain ⟨⟨j0, j1, j2, _⟩, j3, j4, j5, _⟩ := HXF.out _ (HX9.out.trans hgd9)
              have HZ3 := Lib.hid (HZ2.out w9.drew (HD9.out.trans hgd9))
              have HS9 := Lib.hid (HS9.out.grown hgd9)
              have HX9 := Lib.hid (HX9.out.trans hgd9)
              clear hgd9
              go_wp2_with fail
              first
                | (go_region_held3 (fun w' => w'.cell? ⟨w.heap.size, 2, none⟩ = some (.slice ua la uc) ∧ w'.cell? ⟨w.heap.size + 1, 1, none⟩ = some (.int .i64 r) ∧ w'.cell? ⟨w.heap.size + 1, 2, none⟩ = some (.slice va lc vc)) (first | with_reducible exact ⟨j2, j4, j5⟩ | with_reducible exact ⟨i2, i4, i5⟩)
                  (first
                  | (go_at_call 271
                     go_loud (refine (HZ3.out _ _ ?_).mono ?_)
                     · first | exact fun _ => rfl | exact fun h => absurd h (by omega)
                     rintro e w10 ⟨zo, rfl, ho, g10⟩
                     obtain ⟨za, zc, rfl, hzc⟩ := own_cap ho
                     rw [HZR.out] at ho hzc ⊢
                     have HS10 := Lib.hid (HS9.out.newI g10 ho)
                     have HX10 := Lib.hid (HX9.out.trans g10)
                     obtain ⟨⟨i0, i1, i2, _⟩, i3, i4, i5, _⟩ := HXF.out _ (HX9.out.trans g10)
                     clear ho g10)))
                | (go_region_held3 (fun w' => w'.cell? ⟨w.heap.size, 2, none⟩ = some (.slice ua la uc) ∧ w'.cell? ⟨w.heap.size + 1, 1, none⟩ = some (.int .i64 r) ∧ w'.cell? ⟨w.heap.size + 1, 2, none⟩ = some (.slice va 0 vc)) (first | with_reducible exact ⟨j2, j4, j5⟩ | with_reducible exact ⟨i2, i4, i5⟩)
                  (first
                  | (go_at_call 271
                     go_loud (refine (HZ3.out _ _ ?_).mono ?_)
                     · first | exact fun _ => rfl | exact fun h => absurd h (by omega)
                     rintro e w10 ⟨zo, rfl, ho, g10⟩
                     obtain ⟨za, zc, rfl, hzc⟩ := own_cap ho
                     rw [HZR.out] at ho hzc ⊢
                     have HS10 := Lib.hid (HS9.out.newI g10 ho)
                     have HX10 := Lib.hid (HX9.out.trans g10)
                     obtain ⟨⟨i0, i1, i2, _⟩, i3, i4, i5, _⟩ := HXF.out _ (HX9.out.trans g10)
                     clear ho g10)))
              have k1 : ((m : Nat) : Int) ≤ ((m : Nat) : Int) + ((r : Nat) : Int) := by omega
              have k2 : ((l : Nat) : Int) ≤ ((xc : Nat) : Int) := by omega
              have k3 : (0 : Int) ≤ ((l : Nat) : Int) := by omega
              have k4 : (0 : Int) ≤ ((m : Nat) : Int) := by omega
              have k5 : ((m : Nat) : Int) + ((r : Nat) : Int) ≤ ((zc : Nat) : Int) := by omega
              have HSE := Lib.hid (HS10.out.grown (gdrew (grownBy_refl w10 none)))
              obtain ⟨⟨n0, n1, n2, _⟩, n3, n4, n5, _⟩ := HXF.out _ (gdrew HX10.out)
              have HXX := Lib.hid (gdrew HX10.out)
              have RX := Lib.hid ((OwnInts.read (show OwnInts 0 w10.drew _ _ from HSE.out.s2.hd)).take (k := l) (by rw [HXR.out]; omega) xc)
              have HTX := Lib.hid (show (xr.take l).length = l by rw [List.length_take, HXR.out]; omega)
              have HTZ := Lib.hid (show (zr.drop m).length = r by rw [List.length_drop, HZR.out]; omega)
              have HOW := Lib.hid (l1Own_any _ (xr.take l) w10.drew RX.out (by rw [HTX.out]; omega))
              rcases Nat.eq_or_lt_of_le (show m ≤ zc by omega) with hcz | hcz
              all_goals
                first
                  | (subst hcz
                     have h1 : r = 0 := by omega
                     subst h1)
                  | (have hnz : ¬ zc = m := by omega)
                go_wp2_with fail
                go_region_law (first
                  | (try go_simp
                     go_at_call 217
                     go_loud (refine HOW.out.mono ?_)
                     rintro e w12 ⟨co, rfl, ho, g12⟩
                     obtain ⟨ca, cc, rfl, hcc⟩ := own_cap ho
                     rw [HTX.out] at ho hcc ⊢
                     have HS12 := Lib.hid (HSE.out.newI g12 ho)
                     obtain ⟨⟨p0, p1, p2, _⟩, p3, p4, p5, _⟩ := HXF.out _ (HXX.out.trans g12)
                     have RZ := Lib.hid fun (a' : Option Addr) (c' : Nat) (ha' : m < _ → a' = za.map fun x => x.add m) => by
                       have h1 := (OwnInts.read (show OwnInts 0 w12 _ _ from HS12.out.s2.hd)).tail (l := m) (a' := a') (by omega) hzc ha' c'
                       rw [Nat.add_sub_cancel_left] at h1
                       exact h1
                     clear ho g12)
                  | (go_loud (refine step_app_intsS rfl (.tmp 122) (.tmp 125) rfl rfl rfl HS12.out (RZ.out _ _ (by first | exact fun _ => rfl | exact fun h => absurd h (by omega))) (by rw [HTX.out, HTZ.out]; omega) ?_)
                     intro a13 c13 w13 h13 _
                     rw [HTX.out, HTZ.out] at h13 ⊢
                     have HS13 := Lib.hid h13.drop2.drop2
                     clear h13)
                  | (go_loud (refine step_app_rowS rfl (.tmp 117) (.tmp 127) rfl rfl rfl HS13.out (by rw [HPL.out]; omega) ?_)
                     intro g14 c14 w14 h14
                     rw [HPL.out] at h14 ⊢
                     have HS14 := Lib.hid h14
                     clear h14))
                all_goals
                  go_wp2_with fail
                  go_roundw
                  case rel =>
                    first
                      | exact ⟨t + 1, _, by omega, by go_num, by rw [HSN.out, HCRE.out]; have h := HS14.out; simpa using h⟩
                      | ((repeat apply Exists.intro); exact ⟨⟨t + 1, _, by omega, by go_num, by rw [HSN.out, HCRE.out]; have h := HS14.out; simpa using h⟩, rfl⟩)
                  case measure => simp [intOf]; omega
        · have hall : (K.map CR).take t = K.map CR := List.take_of_length_le (by rw [List.length_map, HKL.out]; omega)
          have hrd : MatV wr u14 (K.map CR) := by
            have := HSX.out.hd.read
            rwa [hall] at this
          obtain ⟨xa, xc, rfl⟩ := hrd.shape
          have HRD5 := Lib.hid hrd
          have hgr := G05.out.trans hg
          have HGR := Lib.hid hgr
          obtain ⟨⟨j0, j1, j2, _⟩, j3, j4, j5, _⟩ := HBX.out _ hgr
          clear hall hrd hgr hg
          generalize (K.map CR).length = pl at *
          go_wp2_with (
            go_at_call 238
            go_loud (
              refine (H5.out _ _ HRD5.out).mono ?_
              rintro e w9 ⟨o4, rfl, ⟨vs9, hp9⟩, g9⟩
              obtain ⟨ra, rc, rfl, _, _⟩ := own_form hp9
              obtain ⟨t0, t1, t2, t3, t4, t5⟩ := bx3 (HS.out.grown (HGR.out.trans g9)).hd
              have HPP := Lib.hid hp9
              have G9 := Lib.hid (HG.out.trans (HGR.out.trans g9))
              have hszr := Nat.lt_of_lt_of_le hbz (by rw [← HG0.out]; exact HGR.out.size)
              clear hp9 g9))
          have HMM := Lib.hid (HPP.out.only (three_set (w := w9) (w.heap.size + 1 + 1) (.int .i64 l) (.int .i64 r) (.slice ra PL.length rc)) (fun k' hf' hk' => by have : k' = w.heap.size + 1 + 1 := hk'; have := (HPP.out.lt hf').1; omega))
          have HE := Lib.hid (box3_end G9.out (show w.heap.size ≤ w.heap.size + 1 + 1 by omega) (.int .i64 l) (.int .i64 r) (.slice ra PL.length rc))
          generalize PL.length = rl at *
          refine bodyPost_ret_by (v := .agg #[.int .i64 l, .int .i64 r, .slice ra rl rc]) ?_ rfl ⟨_, rfl, ⟨_, HMM.out.base (by omega)⟩, HE.out⟩
          simp [results, go_sem, *]
end Go.Proofs.YtpeaeminjbjlnaaDoor

/-
  The parts of a term, in the reference. Conditions: lengths are small; no library.
-/
import Derived.Test.YtjagjhchnpmngaaGreatDoorYx07
namespace Go.Proofs.YtjagjhchnpmngaaGreatDoor
open Go.RowKit
set_option linter.unusedVariables false
set_option linter.unusedSimpArgs false
set_option maxRecDepth 100000

theorem own_someT {B : Nat} {w : World} {a : Option Addr} {n c : Nat} {zs : List Int} (h : OwnInts B w (.slice a n c) zs) (hz : 0 < zs.length) : ∃ b, a = some ⟨b, 0, none⟩ := by
  rcases h.2 with ⟨_, h0⟩ | ⟨g, cap, cur, he, _⟩
  · omega
  · injection he with e1 _ _
    exact ⟨g, e1⟩
theorem own_atT {w : World} {g n cap B j : Nat} {zs : List Int} (h : OwnInts B w (.slice (some ⟨g, 0, none⟩) n cap) zs) (hn : n = zs.length) (hj : j < n) : w.cell? ⟨g, j, none⟩ = some (.int .i64 (zs.getD j 0)) := by
  rw [h.cell hn (j := j) (by omega), List.getD_eq_getElem?_getD, List.getElem?_eq_getElem (by omega)]; rfl
theorem bs3 {w : World} {k : Nat} {x y z : Value} {t : TypeId} (h : w.heap[k]? = some (.cells #[x, y, z] t (0, 0))) : w.cell? ⟨k, 0, none⟩ = some x ∧ w.cell? ⟨k, 1, none⟩ = some y ∧ w.cell? ⟨k, 2, none⟩ = some z ∧ w.frozen? ⟨k, 0, none⟩ = false ∧ w.frozen? ⟨k, 1, none⟩ = false ∧ w.frozen? ⟨k, 2, none⟩ = false :=
  ⟨cell_of_row w k 0 _ _ _ h, cell_of_row w k 1 _ _ _ h, cell_of_row w k 2 _ _ _ h, frozen_of_row w k 0 _ _ h, frozen_of_row w k 1 _ _ h, frozen_of_row w k 2 _ _ h⟩
theorem bs1 {w : World} {k : Nat} {x : Value} {t : TypeId} (h : w.heap[k]? = some (.cells #[x] t (0, 0))) : w.cell? ⟨k, 0, none⟩ = some x := cell_of_row w k 0 _ _ _ h
/-- The tree that ends at node j. -/
def topA (ns : List Nd) (j : Nat) : Tr := match prun ns (j + 1) with
  | some (t :: _) => t
  | _ => .leaf nd0
def scF (ns : List Nd) (i : Nat) : List Int := (List.range i).map fun j : Nat => ((j + 1 - (topA ns j).size : Nat) : Int)
def scI (ns : List Nd) (i : Nat) : List Int := (List.range i).map fun j : Nat => (topA ns j).ty.1
def scO (ns : List Nd) (i : Nat) : List Int := (List.range i).map fun j : Nat => (topA ns j).ty.2
theorem scF_len (ns : List Nd) (i : Nat) : (scF ns i).length = i := by simp [scF]
theorem scI_len (ns : List Nd) (i : Nat) : (scI ns i).length = i := by simp [scI]
theorem scO_len (ns : List Nd) (i : Nat) : (scO ns i).length = i := by simp [scO]
theorem rng_at {f : Nat → Int} {i j : Nat} (h : j < i) : ((List.range i).map f).getD j 0 = f j := by
  rw [List.getD_eq_getElem?_getD, List.getElem?_map, List.getElem?_range h]; rfl
theorem scF_at {ns : List Nd} {i j : Nat} (h : j < i) : (scF ns i).getD j 0 = ((j + 1 - (topA ns j).size : Nat) : Int) := rng_at h
theorem scI_at {ns : List Nd} {i j : Nat} (h : j < i) : (scI ns i).getD j 0 = (topA ns j).ty.1 := rng_at h
theorem scO_at {ns : List Nd} {i j : Nat} (h : j < i) : (scO ns i).getD j 0 = (topA ns j).ty.2 := rng_at h
theorem topA_eq {ns : List Nd} {i : Nat} {T : Tr} {R : List Tr} (h : prun ns (i + 1) = some (T :: R)) : topA ns i = T := by unfold topA; rw [h]
theorem scF_succ {ns : List Nd} {i : Nat} {T : Tr} {R : List Tr} (h : prun ns (i + 1) = some (T :: R)) : scF ns (i + 1) = scF ns i ++ [((i + 1 - T.size : Nat) : Int)] := by
  unfold scF; rw [List.range_succ, List.map_append, List.map_singleton, topA_eq h]
theorem scI_succ {ns : List Nd} {i : Nat} {T : Tr} {R : List Tr} (h : prun ns (i + 1) = some (T :: R)) : scI ns (i + 1) = scI ns i ++ [T.ty.1] := by
  unfold scI; rw [List.range_succ, List.map_append, List.map_singleton, topA_eq h]
theorem scO_succ {ns : List Nd} {i : Nat} {T : Tr} {R : List Tr} (h : prun ns (i + 1) = some (T :: R)) : scO ns (i + 1) = scO ns i ++ [T.ty.2] := by
  unfold scO; rw [List.range_succ, List.map_append, List.map_singleton, topA_eq h]
theorem prun_nil {ns : List Nd} {j : Nat} (h : prun ns j = some []) : j = 0 := by
  cases j with
  | zero => rfl
  | succ j =>
    obtain ⟨P, hP⟩ := prun_back h (Nat.le_succ j)
    rw [prun_succ hP] at h
    rcases pstep_cases h with ⟨_, _, e⟩ | ⟨A, B, R, _, _, _, e⟩ | ⟨A, B, R, _, _, _, e⟩ <;> cases e
theorem prun_cons {ns : List Nd} {i : Nat} {S : List Tr} (h : prun ns i = some S) (hi : 0 < i) : ∃ T R, S = T :: R := by
  cases S with
  | nil => have := prun_nil h; omega
  | cons T R => exact ⟨T, R, rfl⟩
theorem op_tops {ns : List Nd} {i : Nat} {A B : Tr} {R : List Tr} (h : prun ns i = some (B :: A :: R)) (hl : i ≤ ns.length) : ∃ a1 i1, a1 + 1 + B.size = i ∧ i1 + 1 = i ∧ topA ns i1 = B ∧ topA ns a1 = A ∧ A.size ≤ a1 + 1 := by
  obtain ⟨h1, h2⟩ := (prun_inv i _ hl h).back B (A :: R) rfl
  have hB := B.size_pos
  have h0 : i - B.size ≠ 0 := fun e => by rw [e] at h2; cases h2
  obtain ⟨a1, ha⟩ : ∃ a1, a1 + 1 = i - B.size := ⟨i - B.size - 1, by omega⟩
  rw [← ha] at h2
  obtain ⟨h3, _⟩ := (prun_inv (a1 + 1) _ (by omega) h2).back A R rfl
  exact ⟨a1, i - 1, by omega, by omega, topA_eq (R := A :: R) (by rw [show i - 1 + 1 = i by omega]; exact h), topA_eq h2, h3⟩
theorem op_few {ns : List Nd} {i : Nat} {S : List Tr} (h : prun ns i = some S) (hl : i ≤ ns.length) (hi : 2 ≤ i) (hs : S.length < 2) : ∃ i1, i1 + 1 = i ∧ (scF ns i).getD i1 0 = 0 := by
  obtain ⟨T, R, rfl⟩ := prun_cons h (by omega)
  have hR : R = [] := List.eq_nil_of_length_eq_zero (by simp only [List.length_cons] at hs; omega)
  subst hR
  obtain ⟨h1, h2⟩ := (prun_inv i _ hl h).back T [] rfl
  have h3 := prun_nil h2
  refine ⟨i - 1, by omega, ?_⟩
  rw [scF_at (by omega), topA_eq (R := []) (by rw [show i - 1 + 1 = i by omega]; exact h)]
  omega
theorem lf_kind {n : Nd} (h : lfB n = true) : ¬ (n.k = 15 ∨ n.k = 16) ∧ n.k ≠ 17 := by
  unfold lfB lfV at h
  rw [Bool.and_eq_true] at h
  have h2 := h.2
  by_cases h1 : n.k = 1
  · omega
  · by_cases h3 : n.k = 2
    · omega
    · rw [if_neg h1, if_neg h3, Bool.and_eq_true, inB_iff] at h2
      omega
/-- What the call hands back that scans. -/
def ScanR (b : Bool) (ns : List Nd) (w : World) (e : Ending) (w' : World) : Prop :=
  ∃ fa fn fc ia inn ic oa on oc, e = .returned (.tuple #[.agg #[.slice fa fn fc, .slice ia inn ic, .slice oa on oc], .bool b]) ∧ (b = true → Sep w' [OI (.slice fa fn fc) (scF ns ns.length), OI (.slice ia inn ic) (scI ns ns.length), OI (.slice oa on oc) (scO ns ns.length), KeepA w]) ∧ w.grownBy w' none
theorem tm_from {ns : List Nd} {T : Tr} {R : List Tr} (h1 : 1 ≤ ns.length) (h2 : ns.length ≤ 400) (h : prun ns ns.length = some (T :: R)) : ((((ns.length - T.size : Nat) : Int)) == 0) = tmB ns := by
  obtain ⟨b1, b2⟩ := (prun_inv _ _ (Nat.le_refl _) h).back T R rfl
  have e : tmB ns = decide (R = []) := by
    unfold tmB
    rw [decide_eq_true ⟨h1, h2⟩, h, Bool.true_and]
    cases R <;> simp
  rw [e]
  cases R with
  | nil =>
    have := prun_nil b2
    rw [this]; rfl
  | cons A R =>
    have h3 : ns.length - T.size ≠ 0 := fun e => by rw [e] at b2; cases b2
    simp
    omega
set_option maxHeartbeats 16000000 in
theorem scan_any (nv : Value) (ns : List Nd) (w : World) (hn : RdR nodeE w nv ns) (hl : ns.length ≤ 2000000) :
    Calls Tryz.prog 59 #[.slice none 0 0, .agg #[nv]] w (ScanR (tmB ns) ns w) := by
  have HN := Lib.hid hn
  obtain ⟨na, nc, rfl⟩ := hn.shape
  obtain ⟨n, hnl⟩ : ∃ n, ns.length = n := ⟨_, rfl⟩
  have HNL := Lib.hid hnl
  rw [hnl] at hl ⊢
  obtain ⟨b, hb⟩ : ∃ b, tmB ns = b := ⟨_, rfl⟩
  rw [hb]
  have HB := Lib.hid hb
  clear hn hb hnl
  have HWI := Lib.hid fun W => l1In_any (n : Int) 1 400 W
  have HLW := Lib.hid fun (k v : Int) (s : ByteArray) W => leafS_any ⟨k, v, s⟩ W
  simp only at HLW
  have HAW := Lib.hid fun (k v : Int) (s : ByteArray) W (h : lfB ⟨k, v, s⟩ = true) => ari_any ⟨k, v, s⟩ W h
  simp only at HAW
  have HAN := Lib.hid fun (v : Int) (s : ByteArray) W => ari_other 17 v 1 1 s W (by decide) kind_name
  have HFN := Lib.hid fun (s : ByteArray) W => find_nil s W
  have hs0 := (((Sep.start w).boxAt w.heap.size rfl #[.slice na n nc] 37).boxAt (w.heap.size + 1) (by simp) #[.slice none 0 0, .slice none 0 0, .slice none 0 0] 63).boxAt (w.heap.size + 2) (by simp) #[.slice none 0 0, .slice none 0 0, .slice none 0 0] 63
  have HS0 := Lib.hid hs0
  have x0 := bs1 hs0.tl.tl.hd
  obtain ⟨c0, c1, c2, _⟩ := bs3 hs0.hd
  clear hs0
  by_cases hr : 1 ≤ (n : Int) ∧ (n : Int) ≤ 400
  · rw [decide_eq_true hr] at HWI
    have hr1 : 1 ≤ n := by omega
    have hr2 : n ≤ 400 := by omega
    clear hr c0 c1 c2
    have HS1 := Lib.hid (show Sep _ [OI (.slice none 0 0) (scF ns 0), OI (.slice none 0 0) (scI ns 0), OI (.slice none 0 0) (scO ns 0), BxA (w.heap.size + 2) #[.slice none 0 0, .slice none 0 0, .slice none 0 0] 63, BxA (w.heap.size + 1) #[.slice none 0 0, .slice none 0 0, .slice none 0 0] 63, BxA w.heap.size #[.slice na n nc] 37, KeepA w] from HS0.out.nilI.nilI.nilI)
    go_enter Tryz.func59, Tryz.ntmps59
    go_upto_region 5 with (go_at_call 34; with_reducible refine (HWI.out _).mono ?_; rintro e w3 ⟨rfl, rfl⟩)
    clear x0
    go_loopw [7, 8, 9, 10, 11, 12, 13, 14, 15, 25] (fun _ _ _ _ _ _ _ _ _ s25 wr => ∃ (i : Nat) (S : List Tr) (fv iv ov : Value), i ≤ n ∧ s25 = .int .i64 i ∧ prun ns i = some S ∧ Sep wr [OI (fv) (scF ns i), OI (iv) (scI ns i), OI (ov) (scO ns i), BxA (w.heap.size + 2) #[fv, iv, ov] 63, BxA (w.heap.size + 1) #[.slice none 0 0, .slice none 0 0, .slice none 0 0] 63, BxA w.heap.size #[.slice na n nc] 37, KeepA w]) (fun _ _ _ _ _ _ _ _ _ s25 _ => n - (intOf s25).toNat)
    case atStart => exact ⟨0, [], _, _, _, by omega, rfl, rfl, HS1.out⟩
    case round =>
      obtain ⟨i, S, fv, iv, ov, hi, rfl, hpr, hs⟩ := hrel
      obtain ⟨fa, fc, rfl⟩ := own_shape (show OwnInts 0 wr fv (scF ns i) from hs.hd)
      obtain ⟨ia, ic, rfl⟩ := own_shape (show OwnInts 0 wr iv (scI ns i) from hs.tl.hd)
      obtain ⟨oa, oc, rfl⟩ := own_shape (show OwnInts 0 wr ov (scO ns i) from hs.tl.tl.hd)
      rw [scF_len, scI_len, scO_len] at hs
      have HSQ := Lib.hid hs; have HPR := Lib.hid hpr
      clear hs hpr HS1
      by_cases hlt : i < n
      · have hke : i < ns.length := by rw [HNL.out]; exact hlt
        have hji : (i : Int) < (n : Int) := by omega
        have HKE := Lib.hid hke
        obtain ⟨nb, no, rfl, _, q0, q1, q2⟩ := (HN.out.carry HSQ.out.tl.tl.tl.tl.tl.tl.hd).node rfl rfl hke
        obtain ⟨y, hy⟩ : ∃ y, ns.getD i nd0 = y := ⟨_, rfl⟩
        have HY := Lib.hid hy
        rw [hy] at q0 q1 q2
        clear hy hke
        obtain ⟨k, v, s⟩ := y
        simp only at q0 q1 q2
        have HS2 := Lib.hid (HSQ.out.boxAt wr.heap.size rfl #[.int .i64 k, .int .i64 v, .string s] 66)
        obtain ⟨z0, z1, z2⟩ := bw3 HS2.out.hd
        have HL := Lib.hid fun W => HLW.out k v s W
        clear HLW
        cases hb : lfB ⟨k, v, s⟩
        · rw [hb] at HL
          clear HAW
          by_cases h17 : k = 17
          · obtain rfl : b = false := by rw [← HB.out]; exact tmB_no HKE.out HPR.out (by rw [HY.out, pstep_leaf (by show ¬ (k = 15 ∨ k = 16); omega), if_neg (by rw [hb]; simp)])
            subst h17
            clear hb
            have HA := Lib.hid fun W => HAN.out v s W
            have HF := Lib.hid fun W => HFN.out s W
            clear HAN HFN
            go_wp2_with (first
              | (go_at_call 82
                 with_reducible refine (HL.out _).mono ?_
                 rintro e w3 ⟨rfl, hg⟩
                 have HS3 := Lib.hid (HS2.out.grown hg)
                 clear hg z0 z1 z2 q0 q1 q2
                 obtain ⟨z0, z1, z2⟩ := bw3 HS3.out.hd)
              | (go_at_call 83
                 with_reducible refine (HA.out _).mono ?_
                 rintro e w4 ⟨rfl, hg⟩
                 have HS4 := Lib.hid (HS3.out.grown hg)
                 clear hg z0 z1 z2
                 obtain ⟨z0, z1, z2⟩ := bw3 HS4.out.hd)
              | (go_at_call 84
                 with_reducible refine (HF.out _).mono ?_
                 rintro e w5 ⟨rfl, hg⟩
                 have HS5 := Lib.hid (HS4.out.grown hg)
                 clear hg z0 z1 z2
                 obtain ⟨z0, z1, z2⟩ := bw3 HS5.out.hd
                 obtain ⟨c0, c1, c2, _⟩ := bs3 HS5.out.tl.tl.tl.tl.hd
                 have hz0 := Sep.blk (A := [_, _, _, _, _]) (B := [_]) HS5.out
                 obtain ⟨y0, y1, y2, f0, f1, f2⟩ := bs3 hz0.hd
                 have HSZ := Lib.hid (((hz0.setB 0 (.slice fa i fc)).setB 1 (.slice ia i ic)).setB 2 (.slice oa i oc))
                 obtain ⟨u0, u1, u2, _⟩ := bs3 HSZ.out.hd
                 have HKF := Lib.hid (show w.grownBy _ none from Sep.all HSZ.out (KeepA w) (by simp))
                 clear hz0))
            refine bodyPost_ret_by (v := .tuple #[.agg #[.slice fa i fc, .slice ia i ic, .slice oa i oc], .bool false]) ?_ rfl ⟨_, _, _, _, _, _, _, _, _, rfl, (fun h => by cases h), HKF.out⟩
            simp [results, go_sem, *]
          · have hk17 : (k == 17) = false := by simpa using h17
            clear HAN HFN
            by_cases hop : k = 15 ∨ k = 16
            · clear hb h17
              go_upto_region 17 with (
                go_at_call 82
                with_reducible refine (HL.out _).mono ?_
                rintro e w3 ⟨rfl, hg⟩
                have HS3 := Lib.hid (HS2.out.grown hg)
                clear hg z0 z1 z2 q0 q1 q2
                obtain ⟨z0, z1, z2⟩ := bw3 HS3.out.hd)
              by_cases hs : s = noS
              · subst hs
                by_cases hv : v = 0
                · subst hv
                  by_cases hi2 : (i : Int) < 2
                  · obtain rfl : b = false := by rw [← HB.out]; exact tmB_no HKE.out HPR.out (by rw [HY.out]; exact pstep_no hop (Or.inr (Or.inr (by have := prun_cnt i S HPR.out; show S.length < 2; omega))))
                    obtain ⟨c0, c1, c2, _⟩ := bs3 HS3.out.tl.tl.tl.tl.hd
                    have hz0 := Sep.blk (A := [_, _, _, _, _]) (B := [_]) HS3.out
                    obtain ⟨y0, y1, y2, f0, f1, f2⟩ := bs3 hz0.hd
                    have HSZ := Lib.hid (((hz0.setB 0 (.slice fa i fc)).setB 1 (.slice ia i ic)).setB 2 (.slice oa i oc))
                    obtain ⟨u0, u1, u2, _⟩ := bs3 HSZ.out.hd
                    have HKF := Lib.hid (show w.grownBy _ none from Sep.all HSZ.out (KeepA w) (by simp))
                    clear hz0
                    rcases hop with rfl | rfl
                    · go_wp2_with fail
                      refine bodyPost_ret_by (v := .tuple #[.agg #[.slice fa i fc, .slice ia i ic, .slice oa i oc], .bool false]) ?_ rfl ⟨_, _, _, _, _, _, _, _, _, rfl, (fun h => by cases h), HKF.out⟩
                      simp [results, go_sem, *]
                    · go_wp2_with fail
                      refine bodyPost_ret_by (v := .tuple #[.agg #[.slice fa i fc, .slice ia i ic, .slice oa i oc], .bool false]) ?_ rfl ⟨_, _, _, _, _, _, _, _, _, rfl, (fun h => by cases h), HKF.out⟩
                      simp [results, go_sem, *]
                  · obtain ⟨fg, hfg⟩ := own_someT (show OwnInts 0 _ (.slice fa i fc) (scF ns i) from HSQ.out.hd) (by rw [scF_len]; omega)
                    obtain ⟨ig, hig⟩ := own_someT (show OwnInts 0 _ (.slice ia i ic) (scI ns i) from HSQ.out.tl.hd) (by rw [scI_len]; omega)
                    obtain ⟨og, hog⟩ := own_someT (show OwnInts 0 _ (.slice oa i oc) (scO ns i) from HSQ.out.tl.tl.hd) (by rw [scO_len]; omega)
                    subst hfg hig hog
                    by_cases hl2 : S.length < 2
                    · obtain ⟨i1, hi1, hf0⟩ := op_few HPR.out (by rw [HNL.out]; exact hi) (by omega) hl2
                      obtain rfl : b = false := by rw [← HB.out]; exact tmB_no HKE.out HPR.out (by rw [HY.out]; exact pstep_no hop (Or.inr (Or.inr hl2)))
                      have hwi : IntKind.i64.wrap ((i : Int) - 1) = (i1 : Int) := by rw [wrap_id (by omega) (by omega)]; omega
                      have hbi : (i1 : Int) < (i : Int) := by omega
                      have e0 := own_atT (show OwnInts 0 _ (.slice (some ⟨fg, 0, none⟩) i fc) (scF ns i) from HS3.out.tl.hd) (scF_len ns i).symm (j := i1) (by omega)
                      rw [hf0] at e0
                      clear hf0 hi1
                      obtain ⟨c0, c1, c2, _⟩ := bs3 HS3.out.tl.tl.tl.tl.hd
                      have hz0 := Sep.blk (A := [_, _, _, _, _]) (B := [_]) HS3.out
                      obtain ⟨y0, y1, y2, f0, f1, f2⟩ := bs3 hz0.hd
                      have HSZ := Lib.hid (((hz0.setB 0 (.slice (some ⟨fg, 0, none⟩) i fc)).setB 1 (.slice (some ⟨ig, 0, none⟩) i ic)).setB 2 (.slice (some ⟨og, 0, none⟩) i oc))
                      obtain ⟨u0, u1, u2, _⟩ := bs3 HSZ.out.hd
                      have HKF := Lib.hid (show w.grownBy _ none from Sep.all HSZ.out (KeepA w) (by simp))
                      clear hz0
                      rcases hop with rfl | rfl
                      · go_wp2_with fail
                        refine bodyPost_ret_by (v := .tuple #[.agg #[.slice (some ⟨fg, 0, none⟩) i fc, .slice (some ⟨ig, 0, none⟩) i ic, .slice (some ⟨og, 0, none⟩) i oc], .bool false]) ?_ rfl ⟨_, _, _, _, _, _, _, _, _, rfl, (fun h => by cases h), HKF.out⟩
                        simp [results, go_sem, *]
                      · go_wp2_with fail
                        refine bodyPost_ret_by (v := .tuple #[.agg #[.slice (some ⟨fg, 0, none⟩) i fc, .slice (some ⟨ig, 0, none⟩) i ic, .slice (some ⟨og, 0, none⟩) i oc], .bool false]) ?_ rfl ⟨_, _, _, _, _, _, _, _, _, rfl, (fun h => by cases h), HKF.out⟩
                        simp [results, go_sem, *]
                    · obtain ⟨A, B, R, rfl⟩ := two_le hl2
                      obtain ⟨a1, i1, ha1, hi1, htb, hta, hsa⟩ := op_tops HPR.out (by rw [HNL.out]; exact hi)
                      have hinv := prun_inv i _ (by rw [HNL.out]; exact hi) HPR.out
                      have hqa := Tr.ty_small (hinv.ok A (by simp))
                      have hqb := Tr.ty_small (hinv.ok B (by simp))
                      have hBp := B.size_pos
                      have hAp := A.size_pos
                      obtain ⟨f1, hf1⟩ : ∃ f, a1 + 1 = f := ⟨_, rfl⟩
                      obtain ⟨fa2, hfa2⟩ : ∃ f, a1 + 1 - A.size = f := ⟨_, rfl⟩
                      have hwi : IntKind.i64.wrap ((i : Int) - 1) = (i1 : Int) := by rw [wrap_id (by omega) (by omega)]; omega
                      have hbi : (i1 : Int) < (i : Int) := by omega
                      have hwf : IntKind.i64.wrap ((f1 : Int) - 1) = (a1 : Int) := by rw [wrap_id (by omega) (by omega)]; omega
                      have hba : (a1 : Int) < (i : Int) := by omega
                      have hf1p : ¬ (f1 : Int) < 1 := by omega
                      have HSZ2 := Lib.hid (show i + 1 - (A.size + B.size + 1) = fa2 from by omega)
                      have HFv := Lib.hid (show (scF ns i).getD i1 0 = (f1 : Int) from by rw [scF_at (by omega), htb]; omega)
                      have HFa := Lib.hid (show (scF ns i).getD a1 0 = (fa2 : Int) from by rw [scF_at (by omega), hta, hfa2])
                      have HIb := Lib.hid (show (scI ns i).getD i1 0 = B.ty.1 from by rw [scI_at (by omega), htb])
                      have HIa := Lib.hid (show (scI ns i).getD a1 0 = A.ty.1 from by rw [scI_at (by omega), hta])
                      have HOb := Lib.hid (show (scO ns i).getD i1 0 = B.ty.2 from by rw [scO_at (by omega), htb])
                      have HOa := Lib.hid (show (scO ns i).getD a1 0 = A.ty.2 from by rw [scO_at (by omega), hta])
                      obtain ⟨⟨p1, p2⟩, hA⟩ : ∃ q, A.ty = q := ⟨_, rfl⟩
                      obtain ⟨⟨r1, r2⟩, hB⟩ : ∃ q, B.ty = q := ⟨_, rfl⟩
                      rw [hA] at hqa HIa HOa
                      rw [hB] at hqb HIb HOb
                      simp only at hqa hqb HIa HOa HIb HOb
                      have HA2 := Lib.hid hA; have HB2 := Lib.hid hB
                      have hi1n : i1 < i := by omega
                      have ha1n : a1 < i := by omega
                      have e0 := own_atT (show OwnInts 0 _ (.slice (some ⟨fg, 0, none⟩) i fc) (scF ns i) from HS3.out.tl.hd) (scF_len ns i).symm (j := i1) hi1n
                      rw [HFv.out] at e0
                      obtain ⟨c0, c1, c2, _⟩ := bs3 HS3.out.tl.tl.tl.tl.hd
                      have HI1n := Lib.hid hi1n; have HA1n := Lib.hid ha1n
                      clear hinv htb hta hsa hBp hAp ha1 hi1 hfa2 hf1 hA hB hi1n ha1n
                      have HBM := Lib.hid fun (W1 : World) (x : Asrt) (l : List Asrt) (h : Sep W1 (x :: OI (.slice (some ⟨fg, 0, none⟩) i fc) (scF ns i) :: OI (.slice (some ⟨ig, 0, none⟩) i ic) (scI ns i) :: OI (.slice (some ⟨og, 0, none⟩) i oc) (scO ns i) :: BxA (w.heap.size + 2) #[.slice (some ⟨fg, 0, none⟩) i fc, .slice (some ⟨ig, 0, none⟩) i ic, .slice (some ⟨og, 0, none⟩) i oc] 63 :: l)) => show ((W1.cell? ⟨w.heap.size + 2, 0, none⟩ = some (.slice (some ⟨fg, 0, none⟩) i fc) ∧ W1.cell? ⟨w.heap.size + 2, 1, none⟩ = some (.slice (some ⟨ig, 0, none⟩) i ic) ∧ W1.cell? ⟨w.heap.size + 2, 2, none⟩ = some (.slice (some ⟨og, 0, none⟩) i oc)) ∧ W1.cell? ⟨fg, a1, none⟩ = some (.int .i64 fa2) ∧ W1.cell? ⟨ig, a1, none⟩ = some (.int .i64 p1) ∧ W1.cell? ⟨ig, i1, none⟩ = some (.int .i64 r1)) ∧ W1.cell? ⟨og, a1, none⟩ = some (.int .i64 p2) ∧ W1.cell? ⟨og, i1, none⟩ = some (.int .i64 r2) from by
                        obtain ⟨m0, m1, m2, _⟩ := bs3 h.tl.tl.tl.tl.hd
                        have n1 := own_atT (show OwnInts 0 _ _ (scF ns i) from h.tl.hd) (scF_len ns i).symm HA1n.out
                        have n2 := own_atT (show OwnInts 0 _ _ (scI ns i) from h.tl.tl.hd) (scI_len ns i).symm HA1n.out
                        have n3 := own_atT (show OwnInts 0 _ _ (scI ns i) from h.tl.tl.hd) (scI_len ns i).symm HI1n.out
                        have n4 := own_atT (show OwnInts 0 _ _ (scO ns i) from h.tl.tl.tl.hd) (scO_len ns i).symm HA1n.out
                        have n5 := own_atT (show OwnInts 0 _ _ (scO ns i) from h.tl.tl.tl.hd) (scO_len ns i).symm HI1n.out
                        rw [HFa.out] at n1
                        rw [HIa.out] at n2
                        rw [HIb.out] at n3
                        rw [HOa.out] at n4
                        rw [HOb.out] at n5
                        exact ⟨⟨⟨m0, m1, m2⟩, n1, n2, n3⟩, n4, n5⟩
                      rcases hop with rfl | rfl
                      · have HPJ := Lib.hid (show prun ns (i + 1) = if p2 = r1 then some (.seq A B :: R) else none from by
                          rw [prun_succ HPR.out, HY.out, pstep_seq rfl rfl rfl, HA2.out, HB2.out])
                        have e1 : IntKind.i64.wrap (p1 + r1) = p1 + r1 := wrap_id (by omega) (by omega)
                        have e2 : IntKind.i64.wrap (p2 + r2) = p2 + r2 := wrap_id (by omega) (by omega)
                        go_upto_region 21 with fail
                        clear c0 c1 c2 z0 z1 z2
                        have HS4 := Lib.hid HS3.out.dr
                        refine AnyL.start (fun W1 => ((W1.cell? ⟨w.heap.size + 2, 0, none⟩ = some (.slice (some ⟨fg, 0, none⟩) i fc) ∧ W1.cell? ⟨w.heap.size + 2, 1, none⟩ = some (.slice (some ⟨ig, 0, none⟩) i ic) ∧ W1.cell? ⟨w.heap.size + 2, 2, none⟩ = some (.slice (some ⟨og, 0, none⟩) i oc)) ∧ W1.cell? ⟨fg, a1, none⟩ = some (.int .i64 fa2) ∧ W1.cell? ⟨ig, a1, none⟩ = some (.int .i64 p1) ∧ W1.cell? ⟨ig, i1, none⟩ = some (.int .i64 r1)) ∧ W1.cell? ⟨og, a1, none⟩ = some (.int .i64 p2) ∧ W1.cell? ⟨og, i1, none⟩ = some (.int .i64 r2)) (fun _ => True) 99 (by kernel_rfl) ?_
                        generalize w3.drew = w4 at *
                        refine AnyL.take (i := 0) (v := ?vx1) (by rfl) (by kernel_rfl) (by kernel_rfl) (by kernel_rfl) rfl (by exact fun _ _ _ h => h) (by rfl) ?hyx1 (by exact ⟨HBM.out _ _ _ HS4.out, fun _ => trivial⟩) ?restx1
                        case hyx1 => intro W hSW; (try dsimp only at hSW); first | (go_simp; done) | (go_simp; with_reducible rfl)
                        try simp only [Act.put, List.setIfInBounds_toArray, List.set_cons_zero, List.set_cons_succ]
                        refine AnyL.take (i := 1) (v := ?vx2) (by rfl) (by kernel_rfl) (by kernel_rfl) (by kernel_rfl) rfl (by exact fun _ _ _ h => h) (by rfl) ?hyx2 (by exact ⟨HBM.out _ _ _ HS4.out, fun _ => trivial⟩) ?restx2
                        case hyx2 => intro W hSW; (try dsimp only at hSW); first | (go_simp; done) | (go_simp; with_reducible rfl)
                        try simp only [Act.put, List.setIfInBounds_toArray, List.set_cons_zero, List.set_cons_succ]
                        refine AnyL.take (i := 2) (v := ?vx3) (by rfl) (by kernel_rfl) (by kernel_rfl) (by kernel_rfl) rfl (by exact fun _ _ _ h => h) (by rfl) ?hyx3 (by exact ⟨HBM.out _ _ _ HS4.out, fun _ => trivial⟩) ?restx3
                        case hyx3 => intro W hSW; (try dsimp only at hSW); first | (go_simp; done) | (go_simp; with_reducible rfl)
                        try simp only [Act.put, List.setIfInBounds_toArray, List.set_cons_zero, List.set_cons_succ]
                        refine AnyL.take (i := 3) (v := ?vx4) (by rfl) (by kernel_rfl) (by kernel_rfl) (by kernel_rfl) rfl (by exact fun _ _ _ h => h) (by rfl) ?hyx4 (by exact ⟨HBM.out _ _ _ HS4.out, fun _ => trivial⟩) ?restx4
                        case hyx4 => intro W hSW; (try dsimp only at hSW); first | (go_simp; done) | (go_simp; with_reducible rfl)
                        try simp only [Act.put, List.setIfInBounds_toArray, List.set_cons_zero, List.set_cons_succ]
                        refine AnyL.take (i := 4) (v := ?vx5) (by rfl) (by kernel_rfl) (by kernel_rfl) (by kernel_rfl) rfl (by exact fun _ _ _ h => h) (by rfl) ?hyx5 (by exact ⟨HBM.out _ _ _ HS4.out, fun _ => trivial⟩) ?restx5
                        case hyx5 => intro W hSW; (try dsimp only at hSW); first | (go_simp; done) | (go_simp; with_reducible rfl)
                        try simp only [Act.put, List.setIfInBounds_toArray, List.set_cons_zero, List.set_cons_succ]
                        refine AnyL.take (i := 5) (v := ?vx6) (by rfl) (by kernel_rfl) (by kernel_rfl) (by kernel_rfl) rfl (by exact fun _ _ _ h => h) (by rfl) ?hyx6 (by exact ⟨HBM.out _ _ _ HS4.out, fun _ => trivial⟩) ?restx6
                        case hyx6 => intro W hSW; (try dsimp only at hSW); first | (go_simp; done) | (go_simp; with_reducible rfl)
                        try simp only [Act.put, List.setIfInBounds_toArray, List.set_cons_zero, List.set_cons_succ]
                        refine AnyL.take (i := 6) (v := ?vx7) (by rfl) (by kernel_rfl) (by kernel_rfl) (by kernel_rfl) rfl (by exact fun _ _ _ h => h) (by rfl) ?hyx7 (by exact ⟨HBM.out _ _ _ HS4.out, fun _ => trivial⟩) ?restx7
                        case hyx7 => intro W hSW; (try dsimp only at hSW); first | (go_simp; done) | (go_simp; with_reducible rfl)
                        try simp only [Act.put, List.setIfInBounds_toArray, List.set_cons_zero, List.set_cons_succ]
                        refine AnyL.take (i := 7) (v := ?vx8) (by rfl) (by kernel_rfl) (by kernel_rfl) (by kernel_rfl) rfl (by exact fun _ _ _ h => h) (by rfl) ?hyx8 (by exact ⟨HBM.out _ _ _ HS4.out, fun _ => trivial⟩) ?restx8
                        case hyx8 => intro W hSW; (try dsimp only at hSW); first | (go_simp; done) | (go_simp; with_reducible rfl)
                        try simp only [Act.put, List.setIfInBounds_toArray, List.set_cons_zero, List.set_cons_succ]
                        refine AnyL.take (i := 8) (v := ?vx9) (by rfl) (by kernel_rfl) (by kernel_rfl) (by kernel_rfl) rfl (by exact fun _ _ _ h => h) (by rfl) ?hyx9 (by exact ⟨HBM.out _ _ _ HS4.out, fun _ => trivial⟩) ?restx9
                        case hyx9 => intro W hSW; (try dsimp only at hSW); first | (go_simp; done) | (go_simp; with_reducible rfl)
                        try simp only [Act.put, List.setIfInBounds_toArray, List.set_cons_zero, List.set_cons_succ]
                        refine AnyL.take (i := 9) (v := ?vx10) (by rfl) (by kernel_rfl) (by kernel_rfl) (by kernel_rfl) rfl (by exact fun _ _ _ h => h) (by rfl) ?hyx10 (by exact ⟨HBM.out _ _ _ HS4.out, fun _ => trivial⟩) ?restx10
                        case hyx10 => intro W hSW; (try dsimp only at hSW); first | (go_simp; done) | (go_simp; with_reducible rfl)
                        try simp only [Act.put, List.setIfInBounds_toArray, List.set_cons_zero, List.set_cons_succ]
                        refine AnyL.take (i := 10) (v := ?vx11) (by rfl) (by kernel_rfl) (by kernel_rfl) (by kernel_rfl) rfl (by exact fun _ _ _ h => h) (by rfl) ?hyx11 (by exact ⟨HBM.out _ _ _ HS4.out, fun _ => trivial⟩) ?restx11
                        case hyx11 => intro W hSW; (try dsimp only at hSW); first | (go_simp; done) | (go_simp; with_reducible rfl)
                        try simp only [Act.put, List.setIfInBounds_toArray, List.set_cons_zero, List.set_cons_succ]
                        refine AnyL.take (i := 11) (v := ?vx12) (by rfl) (by kernel_rfl) (by kernel_rfl) (by kernel_rfl) rfl (by exact fun _ _ _ h => h) (by rfl) ?hyx12 (by exact ⟨HBM.out _ _ _ HS4.out, fun _ => trivial⟩) ?restx12
                        case hyx12 => intro W hSW; (try dsimp only at hSW); first | (go_simp; done) | (go_simp; with_reducible rfl)
                        try simp only [Act.put, List.setIfInBounds_toArray, List.set_cons_zero, List.set_cons_succ]
                        refine AnyL.take (i := 12) (v := ?vx13) (by rfl) (by kernel_rfl) (by kernel_rfl) (by kernel_rfl) rfl (by exact fun _ _ _ h => h) (by rfl) ?hyx13 (by exact ⟨HBM.out _ _ _ HS4.out, fun _ => trivial⟩) ?restx13
                        case hyx13 => intro W hSW; (try dsimp only at hSW); first | (go_simp; done) | (go_simp; with_reducible rfl)
                        try simp only [Act.put, List.setIfInBounds_toArray, List.set_cons_zero, List.set_cons_succ]
                        refine AnyL.take (i := 13) (v := ?vx14) (by rfl) (by kernel_rfl) (by kernel_rfl) (by kernel_rfl) rfl (by exact fun _ _ _ h => h) (by rfl) ?hyx14 (by exact ⟨HBM.out _ _ _ HS4.out, fun _ => trivial⟩) ?restx14
                        case hyx14 => intro W hSW; (try dsimp only at hSW); first | (go_simp; done) | (go_simp; with_reducible rfl)
                        try simp only [Act.put, List.setIfInBounds_toArray, List.set_cons_zero, List.set_cons_succ]
                        refine AnyL.take (i := 14) (v := ?vx15) (by rfl) (by kernel_rfl) (by kernel_rfl) (by kernel_rfl) rfl (by exact fun _ _ _ h => h) (by rfl) ?hyx15 (by exact ⟨HBM.out _ _ _ HS4.out, fun _ => trivial⟩) ?restx15
                        case hyx15 => intro W hSW; (try dsimp only at hSW); first | (go_simp; done) | (go_simp; with_reducible rfl)
                        try simp only [Act.put, List.setIfInBounds_toArray, List.set_cons_zero, List.set_cons_succ]
                        refine AnyL.take (i := 15) (v := ?vx16) (by rfl) (by kernel_rfl) (by kernel_rfl) (by kernel_rfl) rfl (by exact fun _ _ _ h => h) (by rfl) ?hyx16 (by exact ⟨HBM.out _ _ _ HS4.out, fun _ => trivial⟩) ?restx16
                        case hyx16 => intro W hSW; (try dsimp only at hSW); first | (go_simp; done) | (go_simp; with_reducible rfl)
                        try simp only [Act.put, List.setIfInBounds_toArray, List.set_cons_zero, List.set_cons_succ]
                        refine AnyL.take (i := 16) (v := ?vx17) (by rfl) (by kernel_rfl) (by kernel_rfl) (by kernel_rfl) rfl (by exact fun _ _ _ h => h) (by rfl) ?hyx17 (by exact ⟨HBM.out _ _ _ HS4.out, fun _ => trivial⟩) ?restx17
                        case hyx17 => intro W hSW; (try dsimp only at hSW); first | (go_simp; done) | (go_simp; with_reducible rfl)
                        try simp only [Act.put, List.setIfInBounds_toArray, List.set_cons_zero, List.set_cons_succ]
                        refine AnyL.take (i := 17) (v := ?vx18) (by rfl) (by kernel_rfl) (by kernel_rfl) (by kernel_rfl) rfl (by exact fun _ _ _ h => h) (by rfl) ?hyx18 (by exact ⟨HBM.out _ _ _ HS4.out, fun _ => trivial⟩) ?restx18
                        case hyx18 => intro W hSW; (try dsimp only at hSW); first | (go_simp; done) | (go_simp; with_reducible rfl)
                        try simp only [Act.put, List.setIfInBounds_toArray, List.set_cons_zero, List.set_cons_succ]
                        refine AnyL.take (i := 18) (v := ?vx19) (by rfl) (by kernel_rfl) (by kernel_rfl) (by kernel_rfl) rfl (by exact fun _ _ _ h => h) (by rfl) ?hyx19 (by exact ⟨HBM.out _ _ _ HS4.out, fun _ => trivial⟩) ?restx19
                        case hyx19 => intro W hSW; (try dsimp only at hSW); first | (go_simp; done) | (go_simp; with_reducible rfl)
                        try simp only [Act.put, List.setIfInBounds_toArray, List.set_cons_zero, List.set_cons_succ]
                        refine AnyL.take (i := 19) (v := ?vx20) (by rfl) (by kernel_rfl) (by kernel_rfl) (by kernel_rfl) rfl (by exact fun _ _ _ h => h) (by rfl) ?hyx20 (by exact ⟨HBM.out _ _ _ HS4.out, fun _ => trivial⟩) ?restx20
                        case hyx20 => intro W hSW; (try dsimp only at hSW); first | (go_simp; done) | (go_simp; with_reducible rfl)
                        try simp only [Act.put, List.setIfInBounds_toArray, List.set_cons_zero, List.set_cons_succ]
                        refine AnyL.take (i := 20) (v := ?vx21) (by rfl) (by kernel_rfl) (by kernel_rfl) (by kernel_rfl) rfl (by exact fun _ _ _ h => h) (by rfl) ?hyx21 (by exact ⟨HBM.out _ _ _ HS4.out, fun _ => trivial⟩) ?restx21
                        case hyx21 => intro W hSW; (try dsimp only at hSW); first | (go_simp; done) | (go_simp; with_reducible rfl)
                        try simp only [Act.put, List.setIfInBounds_toArray, List.set_cons_zero, List.set_cons_succ]
                        refine AnyL.take (i := 21) (v := ?vx22) (by rfl) (by kernel_rfl) (by kernel_rfl) (by kernel_rfl) rfl (by exact fun _ _ _ h => h) (by rfl) ?hyx22 (by exact ⟨HBM.out _ _ _ HS4.out, fun _ => trivial⟩) ?restx22
                        case hyx22 => intro W hSW; (try dsimp only at hSW); first | (go_simp; done) | (go_simp; with_reducible rfl)
                        try simp only [Act.put, List.setIfInBounds_toArray, List.set_cons_zero, List.set_cons_succ]
                        refine AnyL.take (i := 22) (v := ?vx23) (by rfl) (by kernel_rfl) (by kernel_rfl) (by kernel_rfl) rfl (by exact fun _ _ _ h => h) (by rfl) ?hyx23 (by exact ⟨HBM.out _ _ _ HS4.out, fun _ => trivial⟩) ?restx23
                        case hyx23 => intro W hSW; (try dsimp only at hSW); first | (go_simp; done) | (go_simp; with_reducible rfl)
                        try simp only [Act.put, List.setIfInBounds_toArray, List.set_cons_zero, List.set_cons_succ]
                        refine AnyL.take (i := 23) (v := ?vx24) (by rfl) (by kernel_rfl) (by kernel_rfl) (by kernel_rfl) rfl (by exact fun _ _ _ h => h) (by rfl) ?hyx24 (by exact ⟨HBM.out _ _ _ HS4.out, fun _ => trivial⟩) ?restx24
                        case hyx24 => intro W hSW; (try dsimp only at hSW); first | (go_simp; done) | (go_simp; with_reducible rfl)
                        try simp only [Act.put, List.setIfInBounds_toArray, List.set_cons_zero, List.set_cons_succ]
                        refine AnyL.done (by kernel_rfl) ?_ _
                        obtain ⟨z0, z1, z2⟩ := bw3 HS4.out.hd
                        obtain ⟨c0, c1, c2, _⟩ := bs3 HS4.out.tl.tl.tl.tl.hd
                        go_upto_region 23 with fail
                        clear c0 c1 c2 z0 z1 z2
                        have HS5q := Lib.hid HS4.out.dr
                        refine AnyL.start (fun W1 => ((W1.cell? ⟨w.heap.size + 2, 0, none⟩ = some (.slice (some ⟨fg, 0, none⟩) i fc) ∧ W1.cell? ⟨w.heap.size + 2, 1, none⟩ = some (.slice (some ⟨ig, 0, none⟩) i ic) ∧ W1.cell? ⟨w.heap.size + 2, 2, none⟩ = some (.slice (some ⟨og, 0, none⟩) i oc)) ∧ W1.cell? ⟨fg, a1, none⟩ = some (.int .i64 fa2) ∧ W1.cell? ⟨ig, a1, none⟩ = some (.int .i64 p1) ∧ W1.cell? ⟨ig, i1, none⟩ = some (.int .i64 r1)) ∧ W1.cell? ⟨og, a1, none⟩ = some (.int .i64 p2) ∧ W1.cell? ⟨og, i1, none⟩ = some (.int .i64 r2)) (fun _ => True) 99 (by kernel_rfl) ?_
                        generalize w4.drew = w5q at *
                        refine AnyL.take (i := 0) (v := ?vx25) (by rfl) (by kernel_rfl) (by kernel_rfl) (by kernel_rfl) rfl (by exact fun _ _ _ h => h) (by rfl) ?hyx25 (by exact ⟨HBM.out _ _ _ HS5q.out, fun _ => trivial⟩) ?restx25
                        case hyx25 => intro W hSW; (try dsimp only at hSW); first | (go_simp; done) | (go_simp; with_reducible rfl)
                        try simp only [Act.put, List.setIfInBounds_toArray, List.set_cons_zero, List.set_cons_succ]
                        refine AnyL.take (i := 1) (v := ?vx26) (by rfl) (by kernel_rfl) (by kernel_rfl) (by kernel_rfl) rfl (by exact fun _ _ _ h => h) (by rfl) ?hyx26 (by exact ⟨HBM.out _ _ _ HS5q.out, fun _ => trivial⟩) ?restx26
                        case hyx26 => intro W hSW; (try dsimp only at hSW); first | (go_simp; done) | (go_simp; with_reducible rfl)
                        try simp only [Act.put, List.setIfInBounds_toArray, List.set_cons_zero, List.set_cons_succ]
                        refine AnyL.take (i := 2) (v := ?vx27) (by rfl) (by kernel_rfl) (by kernel_rfl) (by kernel_rfl) rfl (by exact fun _ _ _ h => h) (by rfl) ?hyx27 (by exact ⟨HBM.out _ _ _ HS5q.out, fun _ => trivial⟩) ?restx27
                        case hyx27 => intro W hSW; (try dsimp only at hSW); first | (go_simp; done) | (go_simp; with_reducible rfl)
                        try simp only [Act.put, List.setIfInBounds_toArray, List.set_cons_zero, List.set_cons_succ]
                        refine AnyL.take (i := 3) (v := ?vx28) (by rfl) (by kernel_rfl) (by kernel_rfl) (by kernel_rfl) rfl (by exact fun _ _ _ h => h) (by rfl) ?hyx28 (by exact ⟨HBM.out _ _ _ HS5q.out, fun _ => trivial⟩) ?restx28
                        case hyx28 => intro W hSW; (try dsimp only at hSW); first | (go_simp; done) | (go_simp; with_reducible rfl)
                        try simp only [Act.put, List.setIfInBounds_toArray, List.set_cons_zero, List.set_cons_succ]
                        refine AnyL.take (i := 4) (v := ?vx29) (by rfl) (by kernel_rfl) (by kernel_rfl) (by kernel_rfl) rfl (by exact fun _ _ _ h => h) (by rfl) ?hyx29 (by exact ⟨HBM.out _ _ _ HS5q.out, fun _ => trivial⟩) ?restx29
                        case hyx29 => intro W hSW; (try dsimp only at hSW); first | (go_simp; done) | (go_simp; with_reducible rfl)
                        try simp only [Act.put, List.setIfInBounds_toArray, List.set_cons_zero, List.set_cons_succ]
                        refine AnyL.take (i := 5) (v := ?vx30) (by rfl) (by kernel_rfl) (by kernel_rfl) (by kernel_rfl) rfl (by exact fun _ _ _ h => h) (by rfl) ?hyx30 (by exact ⟨HBM.out _ _ _ HS5q.out, fun _ => trivial⟩) ?restx30
                        case hyx30 => intro W hSW; (try dsimp only at hSW); first | (go_simp; done) | (go_simp; with_reducible rfl)
                        try simp only [Act.put, List.setIfInBounds_toArray, List.set_cons_zero, List.set_cons_succ]
                        refine AnyL.take (i := 6) (v := ?vx31) (by rfl) (by kernel_rfl) (by kernel_rfl) (by kernel_rfl) rfl (by exact fun _ _ _ h => h) (by rfl) ?hyx31 (by exact ⟨HBM.out _ _ _ HS5q.out, fun _ => trivial⟩) ?restx31
                        case hyx31 => intro W hSW; (try dsimp only at hSW); first | (go_simp; done) | (go_simp; with_reducible rfl)
                        try simp only [Act.put, List.setIfInBounds_toArray, List.set_cons_zero, List.set_cons_succ]
                        refine AnyL.take (i := 7) (v := ?vx32) (by rfl) (by kernel_rfl) (by kernel_rfl) (by kernel_rfl) rfl (by exact fun _ _ _ h => h) (by rfl) ?hyx32 (by exact ⟨HBM.out _ _ _ HS5q.out, fun _ => trivial⟩) ?restx32
                        case hyx32 => intro W hSW; (try dsimp only at hSW); first | (go_simp; done) | (go_simp; with_reducible rfl)
                        try simp only [Act.put, List.setIfInBounds_toArray, List.set_cons_zero, List.set_cons_succ]
                        refine AnyL.take (i := 8) (v := ?vx33) (by rfl) (by kernel_rfl) (by kernel_rfl) (by kernel_rfl) rfl (by exact fun _ _ _ h => h) (by rfl) ?hyx33 (by exact ⟨HBM.out _ _ _ HS5q.out, fun _ => trivial⟩) ?restx33
                        case hyx33 => intro W hSW; (try dsimp only at hSW); first | (go_simp; done) | (go_simp; with_reducible rfl)
                        try simp only [Act.put, List.setIfInBounds_toArray, List.set_cons_zero, List.set_cons_succ]
                        refine AnyL.take (i := 9) (v := ?vx34) (by rfl) (by kernel_rfl) (by kernel_rfl) (by kernel_rfl) rfl (by exact fun _ _ _ h => h) (by rfl) ?hyx34 (by exact ⟨HBM.out _ _ _ HS5q.out, fun _ => trivial⟩) ?restx34
                        case hyx34 => intro W hSW; (try dsimp only at hSW); first | (go_simp; done) | (go_simp; with_reducible rfl)
                        try simp only [Act.put, List.setIfInBounds_toArray, List.set_cons_zero, List.set_cons_succ]
                        refine AnyL.take (i := 10) (v := ?vx35) (by rfl) (by kernel_rfl) (by kernel_rfl) (by kernel_rfl) rfl (by exact fun _ _ _ h => h) (by rfl) ?hyx35 (by exact ⟨HBM.out _ _ _ HS5q.out, fun _ => trivial⟩) ?restx35
                        case hyx35 => intro W hSW; (try dsimp only at hSW); first | (go_simp; done) | (go_simp; with_reducible rfl)
                        try simp only [Act.put, List.setIfInBounds_toArray, List.set_cons_zero, List.set_cons_succ]
                        refine AnyL.done (by kernel_rfl) ?_ _
                        obtain ⟨z0, z1, z2⟩ := bw3 HS5q.out.hd
                        obtain ⟨c0, c1, c2, _⟩ := bs3 HS5q.out.tl.tl.tl.tl.hd
                        by_cases hc : p2 = r1
                        · have hd1 : (p2 != r1) = false := by simpa using hc
                          have hg1 : ¬ p1 > 12 := by omega
                          have hg2 : ¬ r2 > 12 := by omega
                          go_upto_region 25 with fail
                          clear c0 c1 c2 z0 z1 z2
                          have HS6q := Lib.hid HS5q.out.dr
                          refine AnyL.start (fun W1 => ((W1.cell? ⟨w.heap.size + 2, 0, none⟩ = some (.slice (some ⟨fg, 0, none⟩) i fc) ∧ W1.cell? ⟨w.heap.size + 2, 1, none⟩ = some (.slice (some ⟨ig, 0, none⟩) i ic) ∧ W1.cell? ⟨w.heap.size + 2, 2, none⟩ = some (.slice (some ⟨og, 0, none⟩) i oc)) ∧ W1.cell? ⟨fg, a1, none⟩ = some (.int .i64 fa2) ∧ W1.cell? ⟨ig, a1, none⟩ = some (.int .i64 p1) ∧ W1.cell? ⟨ig, i1, none⟩ = some (.int .i64 r1)) ∧ W1.cell? ⟨og, a1, none⟩ = some (.int .i64 p2) ∧ W1.cell? ⟨og, i1, none⟩ = some (.int .i64 r2)) (fun _ => True) 99 (by kernel_rfl) ?_
                          generalize w5q.drew = w6q at *
                          refine AnyL.take (i := 0) (v := ?vx36) (by rfl) (by kernel_rfl) (by kernel_rfl) (by kernel_rfl) rfl (by exact fun _ _ _ h => h) (by rfl) ?hyx36 (by exact ⟨HBM.out _ _ _ HS6q.out, fun _ => trivial⟩) ?restx36
                          case hyx36 => intro W hSW; (try dsimp only at hSW); first | (go_simp; done) | (go_simp; with_reducible rfl)
                          try simp only [Act.put, List.setIfInBounds_toArray, List.set_cons_zero, List.set_cons_succ]
                          refine AnyL.take (i := 1) (v := ?vx37) (by rfl) (by kernel_rfl) (by kernel_rfl) (by kernel_rfl) rfl (by exact fun _ _ _ h => h) (by rfl) ?hyx37 (by exact ⟨HBM.out _ _ _ HS6q.out, fun _ => trivial⟩) ?restx37
                          case hyx37 => intro W hSW; (try dsimp only at hSW); first | (go_simp; done) | (go_simp; with_reducible rfl)
                          try simp only [Act.put, List.setIfInBounds_toArray, List.set_cons_zero, List.set_cons_succ]
                          refine AnyL.take (i := 2) (v := ?vx38) (by rfl) (by kernel_rfl) (by kernel_rfl) (by kernel_rfl) rfl (by exact fun _ _ _ h => h) (by rfl) ?hyx38 (by exact ⟨HBM.out _ _ _ HS6q.out, fun _ => trivial⟩) ?restx38
                          case hyx38 => intro W hSW; (try dsimp only at hSW); first | (go_simp; done) | (go_simp; with_reducible rfl)
                          try simp only [Act.put, List.setIfInBounds_toArray, List.set_cons_zero, List.set_cons_succ]
                          refine AnyL.take (i := 3) (v := ?vx39) (by rfl) (by kernel_rfl) (by kernel_rfl) (by kernel_rfl) rfl (by exact fun _ _ _ h => h) (by rfl) ?hyx39 (by exact ⟨HBM.out _ _ _ HS6q.out, fun _ => trivial⟩) ?restx39
                          case hyx39 => intro W hSW; (try dsimp only at hSW); first | (go_simp; done) | (go_simp; with_reducible rfl)
                          try simp only [Act.put, List.setIfInBounds_toArray, List.set_cons_zero, List.set_cons_succ]
                          refine AnyL.take (i := 4) (v := ?vx40) (by rfl) (by kernel_rfl) (by kernel_rfl) (by kernel_rfl) rfl (by exact fun _ _ _ h => h) (by rfl) ?hyx40 (by exact ⟨HBM.out _ _ _ HS6q.out, fun _ => trivial⟩) ?restx40
                          case hyx40 => intro W hSW; (try dsimp only at hSW); first | (go_simp; done) | (go_simp; with_reducible rfl)
                          try simp only [Act.put, List.setIfInBounds_toArray, List.set_cons_zero, List.set_cons_succ]
                          refine AnyL.take (i := 5) (v := ?vx41) (by rfl) (by kernel_rfl) (by kernel_rfl) (by kernel_rfl) rfl (by exact fun _ _ _ h => h) (by rfl) ?hyx41 (by exact ⟨HBM.out _ _ _ HS6q.out, fun _ => trivial⟩) ?restx41
                          case hyx41 => intro W hSW; (try dsimp only at hSW); first | (go_simp; done) | (go_simp; with_reducible rfl)
                          try simp only [Act.put, List.setIfInBounds_toArray, List.set_cons_zero, List.set_cons_succ]
                          refine AnyL.take (i := 6) (v := ?vx42) (by rfl) (by kernel_rfl) (by kernel_rfl) (by kernel_rfl) rfl (by exact fun _ _ _ h => h) (by rfl) ?hyx42 (by exact ⟨HBM.out _ _ _ HS6q.out, fun _ => trivial⟩) ?restx42
                          case hyx42 => intro W hSW; (try dsimp only at hSW); first | (go_simp; done) | (go_simp; with_reducible rfl)
                          try simp only [Act.put, List.setIfInBounds_toArray, List.set_cons_zero, List.set_cons_succ]
                          refine AnyL.take (i := 7) (v := ?vx43) (by rfl) (by kernel_rfl) (by kernel_rfl) (by kernel_rfl) rfl (by exact fun _ _ _ h => h) (by rfl) ?hyx43 (by exact ⟨HBM.out _ _ _ HS6q.out, fun _ => trivial⟩) ?restx43
                          case hyx43 => intro W hSW; (try dsimp only at hSW); first | (go_simp; done) | (go_simp; with_reducible rfl)
                          try simp only [Act.put, List.setIfInBounds_toArray, List.set_cons_zero, List.set_cons_succ]
                          refine AnyL.take (i := 8) (v := ?vx44) (by rfl) (by kernel_rfl) (by kernel_rfl) (by kernel_rfl) rfl (by exact fun _ _ _ h => h) (by rfl) ?hyx44 (by exact ⟨HBM.out _ _ _ HS6q.out, fun _ => trivial⟩) ?restx44
                          case hyx44 => intro W hSW; (try dsimp only at hSW); first | (go_simp; done) | (go_simp; with_reducible rfl)
                          try simp only [Act.put, List.setIfInBounds_toArray, List.set_cons_zero, List.set_cons_succ]
                          refine AnyL.take (i := 9) (v := ?vx45) (by rfl) (by kernel_rfl) (by kernel_rfl) (by kernel_rfl) rfl (by exact fun _ _ _ h => h) (by rfl) ?hyx45 (by exact ⟨HBM.out _ _ _ HS6q.out, fun _ => trivial⟩) ?restx45
                          case hyx45 => intro W hSW; (try dsimp only at hSW); first | (go_simp; done) | (go_simp; with_reducible rfl)
                          try simp only [Act.put, List.setIfInBounds_toArray, List.set_cons_zero, List.set_cons_succ]
                          refine AnyL.take (i := 10) (v := ?vx46) (by rfl) (by kernel_rfl) (by kernel_rfl) (by kernel_rfl) rfl (by exact fun _ _ _ h => h) (by rfl) ?hyx46 (by exact ⟨HBM.out _ _ _ HS6q.out, fun _ => trivial⟩) ?restx46
                          case hyx46 => intro W hSW; (try dsimp only at hSW); first | (go_simp; done) | (go_simp; with_reducible rfl)
                          try simp only [Act.put, List.setIfInBounds_toArray, List.set_cons_zero, List.set_cons_succ]
                          refine AnyL.take (i := 11) (v := ?vx47) (by rfl) (by kernel_rfl) (by kernel_rfl) (by kernel_rfl) rfl (by exact fun _ _ _ h => h) (by rfl) ?hyx47 (by exact ⟨HBM.out _ _ _ HS6q.out, fun _ => trivial⟩) ?restx47
                          case hyx47 => intro W hSW; (try dsimp only at hSW); first | (go_simp; done) | (go_simp; with_reducible rfl)
                          try simp only [Act.put, List.setIfInBounds_toArray, List.set_cons_zero, List.set_cons_succ]
                          refine AnyL.done (by kernel_rfl) ?_ _
                          obtain ⟨z0, z1, z2⟩ := bw3 HS6q.out.hd
                          obtain ⟨c0, c1, c2, _⟩ := bs3 HS6q.out.tl.tl.tl.tl.hd
                          have HPS := Lib.hid (show prun ns (i + 1) = some (.seq A B :: R) from by have h := HPJ.out; rw [if_pos hc] at h; exact h)
                          have HF1 := Lib.hid (show scF ns i ++ [(fa2 : Int)] = scF ns (i + 1) from by rw [scF_succ HPS.out]; simp only [Tr.size, HSZ2.out])
                          have HI1 := Lib.hid (show scI ns i ++ [p1] = scI ns (i + 1) from by rw [scI_succ HPS.out]; simp only [Tr.ty, HA2.out, HB2.out])
                          have HO1 := Lib.hid (show scO ns i ++ [r2] = scO ns (i + 1) from by rw [scO_succ HPS.out]; simp only [Tr.ty, HA2.out, HB2.out])
                          go_upto_region 28 with fail
                          clear c0 c1 c2 z0 z1 z2
                          have HSE := Lib.hid HS6q.out.dr
                          have X9 := Lib.hid (bs3 HSE.out.tl.tl.tl.tl.hd).1
                          have Y9 := Lib.hid (HBM.out _ _ _ HSE.out).1.2.1
                          refine AnyL.start (fun _ => True) (fun W1 => W1.cell? ⟨w.heap.size + 2, 0, none⟩ = some (.slice (some ⟨fg, 0, none⟩) i fc)) 10 (by kernel_rfl) ?_
                          generalize w6q.drew = w8 at *
                          refine AnyL.take (i := 0) (v := ?vx48) (by rfl) (by kernel_rfl) (by kernel_rfl) (by kernel_rfl) rfl (by exact fun _ _ _ h => h) (by rfl) ?hyx48 (by exact ⟨trivial, fun _ => X9.out⟩) ?restx48
                          case hyx48 => intro W hSW; (try dsimp only at hSW); first | (go_simp; done) | (go_simp; with_reducible rfl)
                          try simp only [Act.put, List.setIfInBounds_toArray, List.set_cons_zero, List.set_cons_succ]
                          refine AnyL.takeA (i := 1) (v := ?vx49) (by rfl) (by kernel_rfl) (by kernel_rfl) (by kernel_rfl) rfl (by rfl) (by kernel_rfl) (by kernel_rfl) (by exact fun _ _ _ h => h) (by rfl) ?hyx49 (by exact ⟨trivial, fun _ => X9.out⟩) ?restx49
                          case hyx49 => intro W hSW; (try dsimp only at hSW); first | (go_simp; done) | (go_simp; with_reducible rfl)
                          try simp only [Act.put, List.setIfInBounds_toArray, List.set_cons_zero, List.set_cons_succ]
                          refine AnyL.take (i := 2) (v := ?vx50) (by rfl) (by kernel_rfl) (by kernel_rfl) (by kernel_rfl) rfl (by exact fun _ _ _ h => h) (by rfl) ?hyx50 (by exact ⟨trivial, fun _ => X9.out⟩) ?restx50
                          case hyx50 => intro W hSW; (try dsimp only at hSW); first | (go_simp; done) | (go_simp; with_reducible rfl)
                          try simp only [Act.put, List.setIfInBounds_toArray, List.set_cons_zero, List.set_cons_succ]
                          refine AnyL.takeA (i := 3) (v := ?vx51) (by rfl) (by kernel_rfl) (by kernel_rfl) (by kernel_rfl) rfl (by rfl) (by kernel_rfl) (by kernel_rfl) (by exact fun _ _ _ h => h) (by rfl) ?hyx51 (by exact ⟨trivial, fun _ => X9.out⟩) ?restx51
                          case hyx51 => intro W hSW; (try dsimp only at hSW); first | (go_simp; done) | (go_simp; with_reducible rfl)
                          try simp only [Act.put, List.setIfInBounds_toArray, List.set_cons_zero, List.set_cons_succ]
                          refine AnyL.take (i := 4) (v := ?vx52) (by rfl) (by kernel_rfl) (by kernel_rfl) (by kernel_rfl) rfl (by exact fun _ _ _ h => h) (by rfl) ?hyx52 (by exact ⟨trivial, fun _ => X9.out⟩) ?restx52
                          case hyx52 => intro W hSW; (try dsimp only at hSW); first | (go_simp; done) | (go_simp; with_reducible rfl)
                          try simp only [Act.put, List.setIfInBounds_toArray, List.set_cons_zero, List.set_cons_succ]
                          refine AnyL.take (i := 5) (v := ?vx53) (by rfl) (by kernel_rfl) (by kernel_rfl) (by kernel_rfl) rfl (by exact fun _ _ _ h => h) (by rfl) ?hyx53 (by exact ⟨trivial, fun _ => X9.out⟩) ?restx53
                          case hyx53 => intro W hSW; (try dsimp only at hSW); first | (go_simp; done) | (go_simp; with_reducible rfl)
                          try simp only [Act.put, List.setIfInBounds_toArray, List.set_cons_zero, List.set_cons_succ]
                          have y9 := Y9.out
                          refine AnyL.step (i := 6) (by kernel_rfl) (by rfl) (fun K hK => ?_)
                          go_simp
                          refine hK.out _ _ (by exact trivial) (by exact fun _ => X9.out) ?_
                          clear hK K
                          try simp only [Act.put, List.setIfInBounds_toArray, List.set_cons_zero, List.set_cons_succ]
                          clear y9
                          have X10 := Lib.hid fun ob => (bs3 (HSE.out.al ob).tl.tl.tl.tl.hd).1
                          refine AnyL.step (i := 7) (by kernel_rfl) (by rfl) (fun K hK => ?_)
                          go_simp
                          refine hK.out _ _ (by exact trivial) (by exact fun _ => X10.out _) ?_
                          clear hK K
                          try simp only [Act.put, List.setIfInBounds_toArray, List.set_cons_zero, List.set_cons_succ]
                          have hq := Sep.blk (A := [_]) (B := [_]) HSE.out
                          have HQA := Lib.hid hq
                          have HLF := Lib.hid (show (scF ns i).length ≤ 1000000000 from by rw [scF_len]; omega)
                          clear hq
                          refine AnyL.step (i := 8) (by kernel_rfl) (by rfl) (fun K hK => ?_)
                          refine step_app_intS rfl (.tmp 180) (.tmp 186) rfl rfl rfl HQA.out HLF.out ?_
                          intro g8 c8 w9 h8
                          rw [scF_len, HF1.out] at h8
                          try rw [scF_len]
                          have hx := Sep.blk (A := [_, _, _, _]) (B := [_]) (Sep.blk (A := [_]) (B := [_]) h8)
                          have HSX := Lib.hid hx
                          have X11 := Lib.hid (bs3 hx.hd).1
                          clear hx h8
                          refine hK.out _ _ (by exact trivial) (by exact fun _ => X11.out) ?_
                          clear hK K
                          try simp only [Act.put, List.setIfInBounds_toArray, List.set_cons_zero, List.set_cons_succ]
                          refine AnyL.take (i := 9) (v := ?vx54) (by rfl) (by kernel_rfl) (by kernel_rfl) (by kernel_rfl) rfl (by exact fun _ _ _ h => h) (by rfl) ?hyx54 (by exact ⟨trivial, fun _ => X11.out⟩) ?restx54
                          case hyx54 => intro W hSW; (try dsimp only at hSW); first | (go_simp; done) | (go_simp; with_reducible rfl)
                          try simp only [Act.put, List.setIfInBounds_toArray, List.set_cons_zero, List.set_cons_succ]
                          obtain ⟨d0, d1, d2, f0, f1, f2⟩ := bs3 HSX.out.hd
                          have HS5 := Lib.hid (Sep.blk (A := [_]) (B := [_, _, _, _]) (HSX.out.setB 0 (.slice (some ⟨g8, 0, none⟩) (i + 1) c8)))
                          refine AnyL.step (i := 10) (by kernel_rfl) (by rfl) (fun K hK => ?_)
                          go_simp
                          refine hK.out _ (w9.setCell ⟨w.heap.size + 2, 0, none⟩ (.slice (some ⟨g8, 0, none⟩) (i + 1) c8)) (by exact trivial) (by exact fun h => noTF (by kernel_rfl) h) ?_
                          clear hK K
                          try simp only [Act.put, List.setIfInBounds_toArray, List.set_cons_zero, List.set_cons_succ]
                          refine AnyL.done (by kernel_rfl) ?_ _
                          generalize w9.setCell ⟨w.heap.size + 2, 0, none⟩ (.slice (some ⟨g8, 0, none⟩) (i + 1) c8) = v9 at *
                          clear d0 d1 d2 f0 f1 f2
                          obtain ⟨z0, z1, z2⟩ := bw3 HS5.out.hd
                          obtain ⟨c0, c1, c2, _⟩ := bs3 HS5.out.tl.tl.tl.tl.hd
                          have hq := Sep.blk (A := [_, _]) (B := [_]) HS5.out
                          have HQby := Lib.hid hq
                          clear hq
                          go_upto_region 30 with (
                            at_builtin
                            go_loud (
                            refine app_intS rfl (.tmp 190) (.tmp 192) rfl rfl rfl HQby.out (by rw [scI_len]; omega) ?_
                            intro gby cby wby hby
                            rw [scI_len, HI1.out] at hby
                            try rw [scI_len]
                            have hx := Sep.blk (A := [_, _, _, _]) (B := [_]) (Sep.blk (A := [_]) (B := [_, _]) hby)
                            obtain ⟨d0, d1, d2, f0, f1, f2⟩ := bs3 hx.hd
                            have HS6 := Lib.hid (Sep.blk (A := [_]) (B := [_, _, _, _]) (hx.setB 1 (.slice (some ⟨gby, 0, none⟩) (i + 1) cby)))
                            clear hby hx z0 z1 z2 c0 c1 c2))
                          generalize wby.setCell ⟨w.heap.size + 2, 1, none⟩ (.slice (some ⟨gby, 0, none⟩) (i + 1) cby) = vby at *
                          clear d0 d1 d2 f0 f1 f2
                          obtain ⟨z0, z1, z2⟩ := bw3 HS6.out.hd
                          obtain ⟨c0, c1, c2, _⟩ := bs3 HS6.out.tl.tl.tl.tl.hd
                          have hq := Sep.blk (A := [_, _, _]) (B := [_]) HS6.out
                          have HQcy := Lib.hid hq
                          clear hq
                          go_wp2_with (
                            at_builtin
                            go_loud (
                            refine app_intS rfl (.tmp 196) (.tmp 198) rfl rfl rfl HQcy.out (by rw [scO_len]; omega) ?_
                            intro gcy ccy wcy hcy
                            rw [scO_len, HO1.out] at hcy
                            try rw [scO_len]
                            have hx := Sep.blk (A := [_, _, _, _]) (B := [_]) (Sep.blk (A := [_]) (B := [_, _, _]) hcy)
                            obtain ⟨d0, d1, d2, f0, f1, f2⟩ := bs3 hx.hd
                            have HS7 := Lib.hid (Sep.blk (A := [_]) (B := [_, _, _, _]) (hx.setB 2 (.slice (some ⟨gcy, 0, none⟩) (i + 1) ccy)))
                            clear hcy hx z0 z1 z2 c0 c1 c2))
                          go_roundw
                          case rel => exact ⟨i + 1, _, _, _, _, by omega, by go_num, HPS.out, HS7.out.tl⟩
                          case measure => simp [intOf]; omega
                        · have hd1 : (p2 != r1) = true := by simpa using hc
                          obtain rfl : b = false := by rw [← HB.out]; exact tmB_no HKE.out HPR.out (by have h := HPJ.out; rw [if_neg (hc), prun_succ HPR.out] at h; exact h)
                          clear c0 c1 c2
                          obtain ⟨c0, c1, c2, _⟩ := bs3 HS5q.out.tl.tl.tl.tl.hd
                          have hz0 := Sep.blk (A := [_, _, _, _, _]) (B := [_]) HS5q.out
                          obtain ⟨y0, y1, y2, f0, f1, f2⟩ := bs3 hz0.hd
                          have HSZ := Lib.hid (((hz0.setB 0 (.slice (some ⟨fg, 0, none⟩) i fc)).setB 1 (.slice (some ⟨ig, 0, none⟩) i ic)).setB 2 (.slice (some ⟨og, 0, none⟩) i oc))
                          obtain ⟨u0, u1, u2, _⟩ := bs3 HSZ.out.hd
                          have HKF := Lib.hid (show w.grownBy _ none from Sep.all HSZ.out (KeepA w) (by simp))
                          clear hz0
                          go_wp2_with fail
                          refine bodyPost_ret_by (v := .tuple #[.agg #[.slice (some ⟨fg, 0, none⟩) i fc, .slice (some ⟨ig, 0, none⟩) i ic, .slice (some ⟨og, 0, none⟩) i oc], .bool false]) ?_ rfl ⟨_, _, _, _, _, _, _, _, _, rfl, (fun h => by cases h), HKF.out⟩
                          simp [results, go_sem, *]
                      · have HPJ := Lib.hid (show prun ns (i + 1) = if p1 + r1 ≤ 12 ∧ p2 + r2 ≤ 12 then some (.par A B :: R) else none from by
                          rw [prun_succ HPR.out, HY.out, pstep_par rfl rfl rfl, HA2.out, HB2.out])
                        have e1 : IntKind.i64.wrap (p1 + r1) = p1 + r1 := wrap_id (by omega) (by omega)
                        have e2 : IntKind.i64.wrap (p2 + r2) = p2 + r2 := wrap_id (by omega) (by omega)
                        go_upto_region 21 with fail
                        clear c0 c1 c2 z0 z1 z2
                        have HS4 := Lib.hid HS3.out.dr
                        refine AnyL.start (fun W1 => ((W1.cell? ⟨w.heap.size + 2, 0, none⟩ = some (.slice (some ⟨fg, 0, none⟩) i fc) ∧ W1.cell? ⟨w.heap.size + 2, 1, none⟩ = some (.slice (some ⟨ig, 0, none⟩) i ic) ∧ W1.cell? ⟨w.heap.size + 2, 2, none⟩ = some (.slice (some ⟨og, 0, none⟩) i oc)) ∧ W1.cell? ⟨fg, a1, none⟩ = some (.int .i64 fa2) ∧ W1.cell? ⟨ig, a1, none⟩ = some (.int .i64 p1) ∧ W1.cell? ⟨ig, i1, none⟩ = some (.int .i64 r1)) ∧ W1.cell? ⟨og, a1, none⟩ = some (.int .i64 p2) ∧ W1.cell? ⟨og, i1, none⟩ = some (.int .i64 r2)) (fun _ => True) 99 (by kernel_rfl) ?_
                        generalize w3.drew = w4 at *
                        refine AnyL.take (i := 0) (v := ?vx55) (by rfl) (by kernel_rfl) (by kernel_rfl) (by kernel_rfl) rfl (by exact fun _ _ _ h => h) (by rfl) ?hyx55 (by exact ⟨HBM.out _ _ _ HS4.out, fun _ => trivial⟩) ?restx55
                        case hyx55 => intro W hSW; (try dsimp only at hSW); first | (go_simp; done) | (go_simp; with_reducible rfl)
                        try simp only [Act.put, List.setIfInBounds_toArray, List.set_cons_zero, List.set_cons_succ]
                        refine AnyL.take (i := 1) (v := ?vx56) (by rfl) (by kernel_rfl) (by kernel_rfl) (by kernel_rfl) rfl (by exact fun _ _ _ h => h) (by rfl) ?hyx56 (by exact ⟨HBM.out _ _ _ HS4.out, fun _ => trivial⟩) ?restx56
                        case hyx56 => intro W hSW; (try dsimp only at hSW); first | (go_simp; done) | (go_simp; with_reducible rfl)
                        try simp only [Act.put, List.setIfInBounds_toArray, List.set_cons_zero, List.set_cons_succ]
                        refine AnyL.take (i := 2) (v := ?vx57) (by rfl) (by kernel_rfl) (by kernel_rfl) (by kernel_rfl) rfl (by exact fun _ _ _ h => h) (by rfl) ?hyx57 (by exact ⟨HBM.out _ _ _ HS4.out, fun _ => trivial⟩) ?restx57
                        case hyx57 => intro W hSW; (try dsimp only at hSW); first | (go_simp; done) | (go_simp; with_reducible rfl)
                        try simp only [Act.put, List.setIfInBounds_toArray, List.set_cons_zero, List.set_cons_succ]
                        refine AnyL.take (i := 3) (v := ?vx58) (by rfl) (by kernel_rfl) (by kernel_rfl) (by kernel_rfl) rfl (by exact fun _ _ _ h => h) (by rfl) ?hyx58 (by exact ⟨HBM.out _ _ _ HS4.out, fun _ => trivial⟩) ?restx58
                        case hyx58 => intro W hSW; (try dsimp only at hSW); first | (go_simp; done) | (go_simp; with_reducible rfl)
                        try simp only [Act.put, List.setIfInBounds_toArray, List.set_cons_zero, List.set_cons_succ]
                        refine AnyL.take (i := 4) (v := ?vx59) (by rfl) (by kernel_rfl) (by kernel_rfl) (by kernel_rfl) rfl (by exact fun _ _ _ h => h) (by rfl) ?hyx59 (by exact ⟨HBM.out _ _ _ HS4.out, fun _ => trivial⟩) ?restx59
                        case hyx59 => intro W hSW; (try dsimp only at hSW); first | (go_simp; done) | (go_simp; with_reducible rfl)
                        try simp only [Act.put, List.setIfInBounds_toArray, List.set_cons_zero, List.set_cons_succ]
                        refine AnyL.take (i := 5) (v := ?vx60) (by rfl) (by kernel_rfl) (by kernel_rfl) (by kernel_rfl) rfl (by exact fun _ _ _ h => h) (by rfl) ?hyx60 (by exact ⟨HBM.out _ _ _ HS4.out, fun _ => trivial⟩) ?restx60
                        case hyx60 => intro W hSW; (try dsimp only at hSW); first | (go_simp; done) | (go_simp; with_reducible rfl)
                        try simp only [Act.put, List.setIfInBounds_toArray, List.set_cons_zero, List.set_cons_succ]
                        refine AnyL.take (i := 6) (v := ?vx61) (by rfl) (by kernel_rfl) (by kernel_rfl) (by kernel_rfl) rfl (by exact fun _ _ _ h => h) (by rfl) ?hyx61 (by exact ⟨HBM.out _ _ _ HS4.out, fun _ => trivial⟩) ?restx61
                        case hyx61 => intro W hSW; (try dsimp only at hSW); first | (go_simp; done) | (go_simp; with_reducible rfl)
                        try simp only [Act.put, List.setIfInBounds_toArray, List.set_cons_zero, List.set_cons_succ]
                        refine AnyL.take (i := 7) (v := ?vx62) (by rfl) (by kernel_rfl) (by kernel_rfl) (by kernel_rfl) rfl (by exact fun _ _ _ h => h) (by rfl) ?hyx62 (by exact ⟨HBM.out _ _ _ HS4.out, fun _ => trivial⟩) ?restx62
                        case hyx62 => intro W hSW; (try dsimp only at hSW); first | (go_simp; done) | (go_simp; with_reducible rfl)
                        try simp only [Act.put, List.setIfInBounds_toArray, List.set_cons_zero, List.set_cons_succ]
                        refine AnyL.take (i := 8) (v := ?vx63) (by rfl) (by kernel_rfl) (by kernel_rfl) (by kernel_rfl) rfl (by exact fun _ _ _ h => h) (by rfl) ?hyx63 (by exact ⟨HBM.out _ _ _ HS4.out, fun _ => trivial⟩) ?restx63
                        case hyx63 => intro W hSW; (try dsimp only at hSW); first | (go_simp; done) | (go_simp; with_reducible rfl)
                        try simp only [Act.put, List.setIfInBounds_toArray, List.set_cons_zero, List.set_cons_succ]
                        refine AnyL.take (i := 9) (v := ?vx64) (by rfl) (by kernel_rfl) (by kernel_rfl) (by kernel_rfl) rfl (by exact fun _ _ _ h => h) (by rfl) ?hyx64 (by exact ⟨HBM.out _ _ _ HS4.out, fun _ => trivial⟩) ?restx64
                        case hyx64 => intro W hSW; (try dsimp only at hSW); first | (go_simp; done) | (go_simp; with_reducible rfl)
                        try simp only [Act.put, List.setIfInBounds_toArray, List.set_cons_zero, List.set_cons_succ]
                        refine AnyL.take (i := 10) (v := ?vx65) (by rfl) (by kernel_rfl) (by kernel_rfl) (by kernel_rfl) rfl (by exact fun _ _ _ h => h) (by rfl) ?hyx65 (by exact ⟨HBM.out _ _ _ HS4.out, fun _ => trivial⟩) ?restx65
                        case hyx65 => intro W hSW; (try dsimp only at hSW); first | (go_simp; done) | (go_simp; with_reducible rfl)
                        try simp only [Act.put, List.setIfInBounds_toArray, List.set_cons_zero, List.set_cons_succ]
                        refine AnyL.take (i := 11) (v := ?vx66) (by rfl) (by kernel_rfl) (by kernel_rfl) (by kernel_rfl) rfl (by exact fun _ _ _ h => h) (by rfl) ?hyx66 (by exact ⟨HBM.out _ _ _ HS4.out, fun _ => trivial⟩) ?restx66
                        case hyx66 => intro W hSW; (try dsimp only at hSW); first | (go_simp; done) | (go_simp; with_reducible rfl)
                        try simp only [Act.put, List.setIfInBounds_toArray, List.set_cons_zero, List.set_cons_succ]
                        refine AnyL.take (i := 12) (v := ?vx67) (by rfl) (by kernel_rfl) (by kernel_rfl) (by kernel_rfl) rfl (by exact fun _ _ _ h => h) (by rfl) ?hyx67 (by exact ⟨HBM.out _ _ _ HS4.out, fun _ => trivial⟩) ?restx67
                        case hyx67 => intro W hSW; (try dsimp only at hSW); first | (go_simp; done) | (go_simp; with_reducible rfl)
                        try simp only [Act.put, List.setIfInBounds_toArray, List.set_cons_zero, List.set_cons_succ]
                        refine AnyL.take (i := 13) (v := ?vx68) (by rfl) (by kernel_rfl) (by kernel_rfl) (by kernel_rfl) rfl (by exact fun _ _ _ h => h) (by rfl) ?hyx68 (by exact ⟨HBM.out _ _ _ HS4.out, fun _ => trivial⟩) ?restx68
                        case hyx68 => intro W hSW; (try dsimp only at hSW); first | (go_simp; done) | (go_simp; with_reducible rfl)
                        try simp only [Act.put, List.setIfInBounds_toArray, List.set_cons_zero, List.set_cons_succ]
                        refine AnyL.take (i := 14) (v := ?vx69) (by rfl) (by kernel_rfl) (by kernel_rfl) (by kernel_rfl) rfl (by exact fun _ _ _ h => h) (by rfl) ?hyx69 (by exact ⟨HBM.out _ _ _ HS4.out, fun _ => trivial⟩) ?restx69
                        case hyx69 => intro W hSW; (try dsimp only at hSW); first | (go_simp; done) | (go_simp; with_reducible rfl)
                        try simp only [Act.put, List.setIfInBounds_toArray, List.set_cons_zero, List.set_cons_succ]
                        refine AnyL.take (i := 15) (v := ?vx70) (by rfl) (by kernel_rfl) (by kernel_rfl) (by kernel_rfl) rfl (by exact fun _ _ _ h => h) (by rfl) ?hyx70 (by exact ⟨HBM.out _ _ _ HS4.out, fun _ => trivial⟩) ?restx70
                        case hyx70 => intro W hSW; (try dsimp only at hSW); first | (go_simp; done) | (go_simp; with_reducible rfl)
                        try simp only [Act.put, List.setIfInBounds_toArray, List.set_cons_zero, List.set_cons_succ]
                        refine AnyL.take (i := 16) (v := ?vx71) (by rfl) (by kernel_rfl) (by kernel_rfl) (by kernel_rfl) rfl (by exact fun _ _ _ h => h) (by rfl) ?hyx71 (by exact ⟨HBM.out _ _ _ HS4.out, fun _ => trivial⟩) ?restx71
                        case hyx71 => intro W hSW; (try dsimp only at hSW); first | (go_simp; done) | (go_simp; with_reducible rfl)
                        try simp only [Act.put, List.setIfInBounds_toArray, List.set_cons_zero, List.set_cons_succ]
                        refine AnyL.take (i := 17) (v := ?vx72) (by rfl) (by kernel_rfl) (by kernel_rfl) (by kernel_rfl) rfl (by exact fun _ _ _ h => h) (by rfl) ?hyx72 (by exact ⟨HBM.out _ _ _ HS4.out, fun _ => trivial⟩) ?restx72
                        case hyx72 => intro W hSW; (try dsimp only at hSW); first | (go_simp; done) | (go_simp; with_reducible rfl)
                        try simp only [Act.put, List.setIfInBounds_toArray, List.set_cons_zero, List.set_cons_succ]
                        refine AnyL.take (i := 18) (v := ?vx73) (by rfl) (by kernel_rfl) (by kernel_rfl) (by kernel_rfl) rfl (by exact fun _ _ _ h => h) (by rfl) ?hyx73 (by exact ⟨HBM.out _ _ _ HS4.out, fun _ => trivial⟩) ?restx73
                        case hyx73 => intro W hSW; (try dsimp only at hSW); first | (go_simp; done) | (go_simp; with_reducible rfl)
                        try simp only [Act.put, List.setIfInBounds_toArray, List.set_cons_zero, List.set_cons_succ]
                        refine AnyL.take (i := 19) (v := ?vx74) (by rfl) (by kernel_rfl) (by kernel_rfl) (by kernel_rfl) rfl (by exact fun _ _ _ h => h) (by rfl) ?hyx74 (by exact ⟨HBM.out _ _ _ HS4.out, fun _ => trivial⟩) ?restx74
                        case hyx74 => intro W hSW; (try dsimp only at hSW); first | (go_simp; done) | (go_simp; with_reducible rfl)
                        try simp only [Act.put, List.setIfInBounds_toArray, List.set_cons_zero, List.set_cons_succ]
                        refine AnyL.take (i := 20) (v := ?vx75) (by rfl) (by kernel_rfl) (by kernel_rfl) (by kernel_rfl) rfl (by exact fun _ _ _ h => h) (by rfl) ?hyx75 (by exact ⟨HBM.out _ _ _ HS4.out, fun _ => trivial⟩) ?restx75
                        case hyx75 => intro W hSW; (try dsimp only at hSW); first | (go_simp; done) | (go_simp; with_reducible rfl)
                        try simp only [Act.put, List.setIfInBounds_toArray, List.set_cons_zero, List.set_cons_succ]
                        refine AnyL.take (i := 21) (v := ?vx76) (by rfl) (by kernel_rfl) (by kernel_rfl) (by kernel_rfl) rfl (by exact fun _ _ _ h => h) (by rfl) ?hyx76 (by exact ⟨HBM.out _ _ _ HS4.out, fun _ => trivial⟩) ?restx76
                        case hyx76 => intro W hSW; (try dsimp only at hSW); first | (go_simp; done) | (go_simp; with_reducible rfl)
                        try simp only [Act.put, List.setIfInBounds_toArray, List.set_cons_zero, List.set_cons_succ]
                        refine AnyL.take (i := 22) (v := ?vx77) (by rfl) (by kernel_rfl) (by kernel_rfl) (by kernel_rfl) rfl (by exact fun _ _ _ h => h) (by rfl) ?hyx77 (by exact ⟨HBM.out _ _ _ HS4.out, fun _ => trivial⟩) ?restx77
                        case hyx77 => intro W hSW; (try dsimp only at hSW); first | (go_simp; done) | (go_simp; with_reducible rfl)
                        try simp only [Act.put, List.setIfInBounds_toArray, List.set_cons_zero, List.set_cons_succ]
                        refine AnyL.take (i := 23) (v := ?vx78) (by rfl) (by kernel_rfl) (by kernel_rfl) (by kernel_rfl) rfl (by exact fun _ _ _ h => h) (by rfl) ?hyx78 (by exact ⟨HBM.out _ _ _ HS4.out, fun _ => trivial⟩) ?restx78
                        case hyx78 => intro W hSW; (try dsimp only at hSW); first | (go_simp; done) | (go_simp; with_reducible rfl)
                        try simp only [Act.put, List.setIfInBounds_toArray, List.set_cons_zero, List.set_cons_succ]
                        refine AnyL.done (by kernel_rfl) ?_ _
                        obtain ⟨z0, z1, z2⟩ := bw3 HS4.out.hd
                        obtain ⟨c0, c1, c2, _⟩ := bs3 HS4.out.tl.tl.tl.tl.hd
                        by_cases hc1 : p1 + r1 > 12
                        · obtain rfl : b = false := by rw [← HB.out]; exact tmB_no HKE.out HPR.out (by have h := HPJ.out; rw [if_neg (fun h => by omega), prun_succ HPR.out] at h; exact h)
                          clear c0 c1 c2
                          obtain ⟨c0, c1, c2, _⟩ := bs3 HS4.out.tl.tl.tl.tl.hd
                          have hz0 := Sep.blk (A := [_, _, _, _, _]) (B := [_]) HS4.out
                          obtain ⟨y0, y1, y2, f0, f1, f2⟩ := bs3 hz0.hd
                          have HSZ := Lib.hid (((hz0.setB 0 (.slice (some ⟨fg, 0, none⟩) i fc)).setB 1 (.slice (some ⟨ig, 0, none⟩) i ic)).setB 2 (.slice (some ⟨og, 0, none⟩) i oc))
                          obtain ⟨u0, u1, u2, _⟩ := bs3 HSZ.out.hd
                          have HKF := Lib.hid (show w.grownBy _ none from Sep.all HSZ.out (KeepA w) (by simp))
                          clear hz0
                          go_wp2_with fail
                          refine bodyPost_ret_by (v := .tuple #[.agg #[.slice (some ⟨fg, 0, none⟩) i fc, .slice (some ⟨ig, 0, none⟩) i ic, .slice (some ⟨og, 0, none⟩) i oc], .bool false]) ?_ rfl ⟨_, _, _, _, _, _, _, _, _, rfl, (fun h => by cases h), HKF.out⟩
                          simp [results, go_sem, *]
                        · by_cases hc2 : p2 + r2 > 12
                          · obtain rfl : b = false := by rw [← HB.out]; exact tmB_no HKE.out HPR.out (by have h := HPJ.out; rw [if_neg (fun h => by omega), prun_succ HPR.out] at h; exact h)
                            clear c0 c1 c2
                            obtain ⟨c0, c1, c2, _⟩ := bs3 HS4.out.tl.tl.tl.tl.hd
                            have hz0 := Sep.blk (A := [_, _, _, _, _]) (B := [_]) HS4.out
                            obtain ⟨y0, y1, y2, f0, f1, f2⟩ := bs3 hz0.hd
                            have HSZ := Lib.hid (((hz0.setB 0 (.slice (some ⟨fg, 0, none⟩) i fc)).setB 1 (.slice (some ⟨ig, 0, none⟩) i ic)).setB 2 (.slice (some ⟨og, 0, none⟩) i oc))
                            obtain ⟨u0, u1, u2, _⟩ := bs3 HSZ.out.hd
                            have HKF := Lib.hid (show w.grownBy _ none from Sep.all HSZ.out (KeepA w) (by simp))
                            clear hz0
                            go_wp2_with fail
                            refine bodyPost_ret_by (v := .tuple #[.agg #[.slice (some ⟨fg, 0, none⟩) i fc, .slice (some ⟨ig, 0, none⟩) i ic, .slice (some ⟨og, 0, none⟩) i oc], .bool false]) ?_ rfl ⟨_, _, _, _, _, _, _, _, _, rfl, (fun h => by cases h), HKF.out⟩
                            simp [results, go_sem, *]
                          · have hc : p1 + r1 ≤ 12 ∧ p2 + r2 ≤ 12 := by omega
                            have HPS := Lib.hid (show prun ns (i + 1) = some (.par A B :: R) from by have h := HPJ.out; rw [if_pos hc] at h; exact h)
                            have HF1 := Lib.hid (show scF ns i ++ [(fa2 : Int)] = scF ns (i + 1) from by rw [scF_succ HPS.out]; simp only [Tr.size, HSZ2.out])
                            have HI1 := Lib.hid (show scI ns i ++ [(p1 + r1)] = scI ns (i + 1) from by rw [scI_succ HPS.out]; simp only [Tr.ty, HA2.out, HB2.out])
                            have HO1 := Lib.hid (show scO ns i ++ [(p2 + r2)] = scO ns (i + 1) from by rw [scO_succ HPS.out]; simp only [Tr.ty, HA2.out, HB2.out])
                            go_upto_region 28 with fail
                            clear c0 c1 c2 z0 z1 z2
                            have HSE := Lib.hid HS4.out.dr
                            have X9 := Lib.hid (bs3 HSE.out.tl.tl.tl.tl.hd).1
                            have Y9 := Lib.hid (HBM.out _ _ _ HSE.out).1.2.1
                            refine AnyL.start (fun _ => True) (fun W1 => W1.cell? ⟨w.heap.size + 2, 0, none⟩ = some (.slice (some ⟨fg, 0, none⟩) i fc)) 10 (by kernel_rfl) ?_
                            generalize w4.drew = w8 at *
                            refine AnyL.take (i := 0) (v := ?vx79) (by rfl) (by kernel_rfl) (by kernel_rfl) (by kernel_rfl) rfl (by exact fun _ _ _ h => h) (by rfl) ?hyx79 (by exact ⟨trivial, fun _ => X9.out⟩) ?restx79
                            case hyx79 => intro W hSW; (try dsimp only at hSW); first | (go_simp; done) | (go_simp; with_reducible rfl)
                            try simp only [Act.put, List.setIfInBounds_toArray, List.set_cons_zero, List.set_cons_succ]
                            refine AnyL.takeA (i := 1) (v := ?vx80) (by rfl) (by kernel_rfl) (by kernel_rfl) (by kernel_rfl) rfl (by rfl) (by kernel_rfl) (by kernel_rfl) (by exact fun _ _ _ h => h) (by rfl) ?hyx80 (by exact ⟨trivial, fun _ => X9.out⟩) ?restx80
                            case hyx80 => intro W hSW; (try dsimp only at hSW); first | (go_simp; done) | (go_simp; with_reducible rfl)
                            try simp only [Act.put, List.setIfInBounds_toArray, List.set_cons_zero, List.set_cons_succ]
                            refine AnyL.take (i := 2) (v := ?vx81) (by rfl) (by kernel_rfl) (by kernel_rfl) (by kernel_rfl) rfl (by exact fun _ _ _ h => h) (by rfl) ?hyx81 (by exact ⟨trivial, fun _ => X9.out⟩) ?restx81
                            case hyx81 => intro W hSW; (try dsimp only at hSW); first | (go_simp; done) | (go_simp; with_reducible rfl)
                            try simp only [Act.put, List.setIfInBounds_toArray, List.set_cons_zero, List.set_cons_succ]
                            refine AnyL.takeA (i := 3) (v := ?vx82) (by rfl) (by kernel_rfl) (by kernel_rfl) (by kernel_rfl) rfl (by rfl) (by kernel_rfl) (by kernel_rfl) (by exact fun _ _ _ h => h) (by rfl) ?hyx82 (by exact ⟨trivial, fun _ => X9.out⟩) ?restx82
                            case hyx82 => intro W hSW; (try dsimp only at hSW); first | (go_simp; done) | (go_simp; with_reducible rfl)
                            try simp only [Act.put, List.setIfInBounds_toArray, List.set_cons_zero, List.set_cons_succ]
                            refine AnyL.take (i := 4) (v := ?vx83) (by rfl) (by kernel_rfl) (by kernel_rfl) (by kernel_rfl) rfl (by exact fun _ _ _ h => h) (by rfl) ?hyx83 (by exact ⟨trivial, fun _ => X9.out⟩) ?restx83
                            case hyx83 => intro W hSW; (try dsimp only at hSW); first | (go_simp; done) | (go_simp; with_reducible rfl)
                            try simp only [Act.put, List.setIfInBounds_toArray, List.set_cons_zero, List.set_cons_succ]
                            refine AnyL.take (i := 5) (v := ?vx84) (by rfl) (by kernel_rfl) (by kernel_rfl) (by kernel_rfl) rfl (by exact fun _ _ _ h => h) (by rfl) ?hyx84 (by exact ⟨trivial, fun _ => X9.out⟩) ?restx84
                            case hyx84 => intro W hSW; (try dsimp only at hSW); first | (go_simp; done) | (go_simp; with_reducible rfl)
                            try simp only [Act.put, List.setIfInBounds_toArray, List.set_cons_zero, List.set_cons_succ]
                            have y9 := Y9.out
                            refine AnyL.step (i := 6) (by kernel_rfl) (by rfl) (fun K hK => ?_)
                            go_simp
                            refine hK.out _ _ (by exact trivial) (by exact fun _ => X9.out) ?_
                            clear hK K
                            try simp only [Act.put, List.setIfInBounds_toArray, List.set_cons_zero, List.set_cons_succ]
                            clear y9
                            have X10 := Lib.hid fun ob => (bs3 (HSE.out.al ob).tl.tl.tl.tl.hd).1
                            refine AnyL.step (i := 7) (by kernel_rfl) (by rfl) (fun K hK => ?_)
                            go_simp
                            refine hK.out _ _ (by exact trivial) (by exact fun _ => X10.out _) ?_
                            clear hK K
                            try simp only [Act.put, List.setIfInBounds_toArray, List.set_cons_zero, List.set_cons_succ]
                            have hq := Sep.blk (A := [_]) (B := [_]) HSE.out
                            have HQA := Lib.hid hq
                            have HLF := Lib.hid (show (scF ns i).length ≤ 1000000000 from by rw [scF_len]; omega)
                            clear hq
                            refine AnyL.step (i := 8) (by kernel_rfl) (by rfl) (fun K hK => ?_)
                            refine step_app_intS rfl (.tmp 180) (.tmp 186) rfl rfl rfl HQA.out HLF.out ?_
                            intro g8 c8 w9 h8
                            rw [scF_len, HF1.out] at h8
                            try rw [scF_len]
                            have hx := Sep.blk (A := [_, _, _, _]) (B := [_]) (Sep.blk (A := [_]) (B := [_]) h8)
                            have HSX := Lib.hid hx
                            have X11 := Lib.hid (bs3 hx.hd).1
                            clear hx h8
                            refine hK.out _ _ (by exact trivial) (by exact fun _ => X11.out) ?_
                            clear hK K
                            try simp only [Act.put, List.setIfInBounds_toArray, List.set_cons_zero, List.set_cons_succ]
                            refine AnyL.take (i := 9) (v := ?vx85) (by rfl) (by kernel_rfl) (by kernel_rfl) (by kernel_rfl) rfl (by exact fun _ _ _ h => h) (by rfl) ?hyx85 (by exact ⟨trivial, fun _ => X11.out⟩) ?restx85
                            case hyx85 => intro W hSW; (try dsimp only at hSW); first | (go_simp; done) | (go_simp; with_reducible rfl)
                            try simp only [Act.put, List.setIfInBounds_toArray, List.set_cons_zero, List.set_cons_succ]
                            obtain ⟨d0, d1, d2, f0, f1, f2⟩ := bs3 HSX.out.hd
                            have HS5 := Lib.hid (Sep.blk (A := [_]) (B := [_, _, _, _]) (HSX.out.setB 0 (.slice (some ⟨g8, 0, none⟩) (i + 1) c8)))
                            refine AnyL.step (i := 10) (by kernel_rfl) (by rfl) (fun K hK => ?_)
                            go_simp
                            refine hK.out _ (w9.setCell ⟨w.heap.size + 2, 0, none⟩ (.slice (some ⟨g8, 0, none⟩) (i + 1) c8)) (by exact trivial) (by exact fun h => noTF (by kernel_rfl) h) ?_
                            clear hK K
                            try simp only [Act.put, List.setIfInBounds_toArray, List.set_cons_zero, List.set_cons_succ]
                            refine AnyL.done (by kernel_rfl) ?_ _
                            generalize w9.setCell ⟨w.heap.size + 2, 0, none⟩ (.slice (some ⟨g8, 0, none⟩) (i + 1) c8) = v9 at *
                            clear d0 d1 d2 f0 f1 f2
                            obtain ⟨z0, z1, z2⟩ := bw3 HS5.out.hd
                            obtain ⟨c0, c1, c2, _⟩ := bs3 HS5.out.tl.tl.tl.tl.hd
                            have hq := Sep.blk (A := [_, _]) (B := [_]) HS5.out
                            have HQby := Lib.hid hq
                            clear hq
                            go_upto_region 30 with (
                              at_builtin
                              go_loud (
                              refine app_intS rfl (.tmp 190) (.tmp 192) rfl rfl rfl HQby.out (by rw [scI_len]; omega) ?_
                              intro gby cby wby hby
                              rw [scI_len, HI1.out] at hby
                              try rw [scI_len]
                              have hx := Sep.blk (A := [_, _, _, _]) (B := [_]) (Sep.blk (A := [_]) (B := [_, _]) hby)
                              obtain ⟨d0, d1, d2, f0, f1, f2⟩ := bs3 hx.hd
                              have HS6 := Lib.hid (Sep.blk (A := [_]) (B := [_, _, _, _]) (hx.setB 1 (.slice (some ⟨gby, 0, none⟩) (i + 1) cby)))
                              clear hby hx z0 z1 z2 c0 c1 c2))
                            generalize wby.setCell ⟨w.heap.size + 2, 1, none⟩ (.slice (some ⟨gby, 0, none⟩) (i + 1) cby) = vby at *
                            clear d0 d1 d2 f0 f1 f2
                            obtain ⟨z0, z1, z2⟩ := bw3 HS6.out.hd
                            obtain ⟨c0, c1, c2, _⟩ := bs3 HS6.out.tl.tl.tl.tl.hd
                            have hq := Sep.blk (A := [_, _, _]) (B := [_]) HS6.out
                            have HQcy := Lib.hid hq
                            clear hq
                            go_wp2_with (
                              at_builtin
                              go_loud (
                              refine app_intS rfl (.tmp 196) (.tmp 198) rfl rfl rfl HQcy.out (by rw [scO_len]; omega) ?_
                              intro gcy ccy wcy hcy
                              rw [scO_len, HO1.out] at hcy
                              try rw [scO_len]
                              have hx := Sep.blk (A := [_, _, _, _]) (B := [_]) (Sep.blk (A := [_]) (B := [_, _, _]) hcy)
                              obtain ⟨d0, d1, d2, f0, f1, f2⟩ := bs3 hx.hd
                              have HS7 := Lib.hid (Sep.blk (A := [_]) (B := [_, _, _, _]) (hx.setB 2 (.slice (some ⟨gcy, 0, none⟩) (i + 1) ccy)))
                              clear hcy hx z0 z1 z2 c0 c1 c2))
                            go_roundw
                            case rel => exact ⟨i + 1, _, _, _, _, by omega, by go_num, HPS.out, HS7.out.tl⟩
                            case measure => simp [intOf]; omega
                · have hv1 : (v != 0) = true := by simpa using hv
                  obtain rfl : b = false := by rw [← HB.out]; exact tmB_no HKE.out HPR.out (by rw [HY.out]; exact pstep_no hop (Or.inl hv))
                  clear hv
                  obtain ⟨c0, c1, c2, _⟩ := bs3 HS3.out.tl.tl.tl.tl.hd
                  have hz0 := Sep.blk (A := [_, _, _, _, _]) (B := [_]) HS3.out
                  obtain ⟨y0, y1, y2, f0, f1, f2⟩ := bs3 hz0.hd
                  have HSZ := Lib.hid (((hz0.setB 0 (.slice fa i fc)).setB 1 (.slice ia i ic)).setB 2 (.slice oa i oc))
                  obtain ⟨u0, u1, u2, _⟩ := bs3 HSZ.out.hd
                  have HKF := Lib.hid (show w.grownBy _ none from Sep.all HSZ.out (KeepA w) (by simp))
                  clear hz0
                  rcases hop with rfl | rfl
                  · go_wp2_with fail
                    refine bodyPost_ret_by (v := .tuple #[.agg #[.slice fa i fc, .slice ia i ic, .slice oa i oc], .bool false]) ?_ rfl ⟨_, _, _, _, _, _, _, _, _, rfl, (fun h => by cases h), HKF.out⟩
                    simp [results, go_sem, *]
                  · go_wp2_with fail
                    refine bodyPost_ret_by (v := .tuple #[.agg #[.slice fa i fc, .slice ia i ic, .slice oa i oc], .bool false]) ?_ rfl ⟨_, _, _, _, _, _, _, _, _, rfl, (fun h => by cases h), HKF.out⟩
                    simp [results, go_sem, *]
              · have hs1 := ba_ne hs
                obtain rfl : b = false := by rw [← HB.out]; exact tmB_no HKE.out HPR.out (by rw [HY.out]; exact pstep_no hop (Or.inr (Or.inl hs)))
                clear hs
                obtain ⟨c0, c1, c2, _⟩ := bs3 HS3.out.tl.tl.tl.tl.hd
                have hz0 := Sep.blk (A := [_, _, _, _, _]) (B := [_]) HS3.out
                obtain ⟨y0, y1, y2, f0, f1, f2⟩ := bs3 hz0.hd
                have HSZ := Lib.hid (((hz0.setB 0 (.slice fa i fc)).setB 1 (.slice ia i ic)).setB 2 (.slice oa i oc))
                obtain ⟨u0, u1, u2, _⟩ := bs3 HSZ.out.hd
                have HKF := Lib.hid (show w.grownBy _ none from Sep.all HSZ.out (KeepA w) (by simp))
                clear hz0
                rcases hop with rfl | rfl
                · go_wp2_with fail
                  refine bodyPost_ret_by (v := .tuple #[.agg #[.slice fa i fc, .slice ia i ic, .slice oa i oc], .bool false]) ?_ rfl ⟨_, _, _, _, _, _, _, _, _, rfl, (fun h => by cases h), HKF.out⟩
                  simp [results, go_sem, *]
                · go_wp2_with fail
                  refine bodyPost_ret_by (v := .tuple #[.agg #[.slice fa i fc, .slice ia i ic, .slice oa i oc], .bool false]) ?_ rfl ⟨_, _, _, _, _, _, _, _, _, rfl, (fun h => by cases h), HKF.out⟩
                  simp [results, go_sem, *]
            · obtain rfl : b = false := by rw [← HB.out]; exact tmB_no HKE.out HPR.out (by rw [HY.out, pstep_leaf hop, if_neg (by rw [hb]; simp)])
              have h15 : (k != 15) = true := by simp; omega
              have h16 : (k != 16) = true := by simp; omega
              clear hb hop h17
              go_wp2_with (
                go_at_call 82
                with_reducible refine (HL.out _).mono ?_
                rintro e w3 ⟨rfl, hg⟩
                have HS3 := Lib.hid (HS2.out.grown hg)
                clear hg z0 z1 z2 q0 q1 q2
                obtain ⟨z0, z1, z2⟩ := bw3 HS3.out.hd
                obtain ⟨c0, c1, c2, _⟩ := bs3 HS3.out.tl.tl.tl.tl.hd
                have hz0 := Sep.blk (A := [_, _, _, _, _]) (B := [_]) HS3.out
                obtain ⟨y0, y1, y2, f0, f1, f2⟩ := bs3 hz0.hd
                have HSZ := Lib.hid (((hz0.setB 0 (.slice fa i fc)).setB 1 (.slice ia i ic)).setB 2 (.slice oa i oc))
                obtain ⟨u0, u1, u2, _⟩ := bs3 HSZ.out.hd
                have HKF := Lib.hid (show w.grownBy _ none from Sep.all HSZ.out (KeepA w) (by simp))
                clear hz0)
              refine bodyPost_ret_by (v := .tuple #[.agg #[.slice fa i fc, .slice ia i ic, .slice oa i oc], .bool false]) ?_ rfl ⟨_, _, _, _, _, _, _, _, _, rfl, (fun h => by cases h), HKF.out⟩
              simp [results, go_sem, *]
        · rw [hb] at HL
          have HA := Lib.hid fun W => HAW.out k v s W hb
          obtain ⟨hop, hn17⟩ := lf_kind hb
          simp only at hop hn17
          have HPS := Lib.hid (show prun ns (i + 1) = some (.leaf ⟨k, v, s⟩ :: S) from by
            rw [prun_succ HPR.out, HY.out, pstep_leaf hop, if_pos hb])
          have hk17 : (k == 17) = false := by simpa using hn17
          clear hop hn17
          have HF1 := Lib.hid (show scF ns i ++ [(i : Int)] = scF ns (i + 1) from by rw [scF_succ HPS.out]; simp [Tr.size])
          obtain ⟨p1, hp1⟩ : ∃ x, (lfTy ⟨k, v, s⟩).1 = x := ⟨_, rfl⟩
          obtain ⟨p2, hp2⟩ : ∃ x, (lfTy ⟨k, v, s⟩).2 = x := ⟨_, rfl⟩
          rw [hp1, hp2] at HA
          have HI1 := Lib.hid (show scI ns i ++ [p1] = scI ns (i + 1) from by rw [scI_succ HPS.out, ← hp1]; rfl)
          have HO1 := Lib.hid (show scO ns i ++ [p2] = scO ns (i + 1) from by rw [scO_succ HPS.out, ← hp2]; rfl)
          clear HAW HAN HFN hb hp1 hp2
          go_upto_region 14 with (first
            | (go_at_call 82
               with_reducible refine (HL.out _).mono ?_
               rintro e w3 ⟨rfl, hg⟩
               have HS3 := Lib.hid (HS2.out.grown hg)
               clear hg z0 z1 z2 q0 q1 q2
               obtain ⟨z0, z1, z2⟩ := bw3 HS3.out.hd)
            | (go_at_call 83
               with_reducible refine (HA.out _).mono ?_
               rintro e w4 ⟨rfl, hg⟩
               have HS4 := Lib.hid (HS3.out.grown hg)
               clear hg z0 z1 z2
               obtain ⟨z0, z1, z2⟩ := bw3 HS4.out.hd
               obtain ⟨c0, c1, c2, _⟩ := bs3 HS4.out.tl.tl.tl.tl.hd))
          have hq := Sep.blk (A := [_]) (B := [_]) HS4.out
          have HQax := Lib.hid hq
          clear hq
          go_upto_region 15 with (
            at_builtin
            go_loud (
            refine app_intS rfl (.tmp 68) (.tmp 70) rfl rfl rfl HQax.out (by rw [scF_len]; omega) ?_
            intro gax cax wax hax
            rw [scF_len, HF1.out] at hax
            try rw [scF_len]
            have hx := Sep.blk (A := [_, _, _, _]) (B := [_]) (Sep.blk (A := [_]) (B := [_]) hax)
            obtain ⟨d0, d1, d2, f0, f1, f2⟩ := bs3 hx.hd
            have HS5 := Lib.hid (Sep.blk (A := [_]) (B := [_, _, _, _]) (hx.setB 0 (.slice (some ⟨gax, 0, none⟩) (i + 1) cax)))
            clear hax hx z0 z1 z2 c0 c1 c2))
          generalize wax.setCell ⟨w.heap.size + 2, 0, none⟩ (.slice (some ⟨gax, 0, none⟩) (i + 1) cax) = vax at *
          clear d0 d1 d2 f0 f1 f2
          obtain ⟨z0, z1, z2⟩ := bw3 HS5.out.hd
          obtain ⟨c0, c1, c2, _⟩ := bs3 HS5.out.tl.tl.tl.tl.hd
          have hq := Sep.blk (A := [_, _]) (B := [_]) HS5.out
          have HQbx := Lib.hid hq
          clear hq
          go_upto_region 16 with (
            at_builtin
            go_loud (
            refine app_intS rfl (.tmp 74) (.tmp 76) rfl rfl rfl HQbx.out (by rw [scI_len]; omega) ?_
            intro gbx cbx wbx hbx
            rw [scI_len, HI1.out] at hbx
            try rw [scI_len]
            have hx := Sep.blk (A := [_, _, _, _]) (B := [_]) (Sep.blk (A := [_]) (B := [_, _]) hbx)
            obtain ⟨d0, d1, d2, f0, f1, f2⟩ := bs3 hx.hd
            have HS6 := Lib.hid (Sep.blk (A := [_]) (B := [_, _, _, _]) (hx.setB 1 (.slice (some ⟨gbx, 0, none⟩) (i + 1) cbx)))
            clear hbx hx z0 z1 z2 c0 c1 c2))
          generalize wbx.setCell ⟨w.heap.size + 2, 1, none⟩ (.slice (some ⟨gbx, 0, none⟩) (i + 1) cbx) = vbx at *
          clear d0 d1 d2 f0 f1 f2
          obtain ⟨z0, z1, z2⟩ := bw3 HS6.out.hd
          obtain ⟨c0, c1, c2, _⟩ := bs3 HS6.out.tl.tl.tl.tl.hd
          have hq := Sep.blk (A := [_, _, _]) (B := [_]) HS6.out
          have HQcx := Lib.hid hq
          clear hq
          go_wp2_with (
            at_builtin
            go_loud (
            refine app_intS rfl (.tmp 80) (.tmp 82) rfl rfl rfl HQcx.out (by rw [scO_len]; omega) ?_
            intro gcx ccx wcx hcx
            rw [scO_len, HO1.out] at hcx
            try rw [scO_len]
            have hx := Sep.blk (A := [_, _, _, _]) (B := [_]) (Sep.blk (A := [_]) (B := [_, _, _]) hcx)
            obtain ⟨d0, d1, d2, f0, f1, f2⟩ := bs3 hx.hd
            have HS7 := Lib.hid (Sep.blk (A := [_]) (B := [_, _, _, _]) (hx.setB 2 (.slice (some ⟨gcx, 0, none⟩) (i + 1) ccx)))
            clear hcx hx z0 z1 z2 c0 c1 c2))
          go_roundw
          case rel => exact ⟨i + 1, _, _, _, _, by omega, by go_num, HPS.out, HS7.out.tl⟩
          case measure => simp [intOf]; omega
      · have hin : n = i := by omega
        subst hin
        have hkk : ¬ (n : Int) < (n : Int) := by omega
        obtain ⟨T, R, rfl⟩ := prun_cons HPR.out (by omega)
        have hfm := tm_from (by rw [HNL.out]; exact hr1) (by rw [HNL.out]; exact hr2) (by rw [HNL.out]; exact HPR.out)
        rw [HB.out, HNL.out] at hfm
        obtain ⟨n1, hn1⟩ : ∃ x, x + 1 = n := ⟨n - 1, by omega⟩
        have HFv := Lib.hid (show (scF ns n).getD n1 0 = ((n - T.size : Nat) : Int) from by rw [scF_at (by omega), topA_eq (R := R) (by rw [hn1]; exact HPR.out), hn1])
        obtain ⟨x, hx⟩ : ∃ x, n - T.size = x := ⟨_, rfl⟩
        rw [hx] at hfm HFv
        clear hx
        have hwi : IntKind.i64.wrap ((n : Int) - 1) = (n1 : Int) := by rw [wrap_id (by omega) (by omega)]; omega
        have hbi : (n1 : Int) < (n : Int) := by omega
        have HN1 := Lib.hid (show n1 < n from by omega)
        obtain ⟨fg, hfg⟩ := own_someT (show OwnInts 0 _ (.slice fa n fc) (scF ns n) from HSQ.out.hd) (by rw [scF_len]; omega)
        subst hfg
        clear hn1
        have x0 := bs1 HSQ.out.tl.tl.tl.tl.tl.hd
        go_upto_region 32 with fail
        clear x0
        have HSD := Lib.hid HSQ.out.dr
        have HBM := Lib.hid fun (W1 : World) (L : List Asrt) (h : Sep W1 L) (h1 : OI (.slice (some ⟨fg, 0, none⟩) n fc) (scF ns n) ∈ L) (h2 : BxA (w.heap.size + 2) #[.slice (some ⟨fg, 0, none⟩) n fc, .slice ia n ic, .slice oa n oc] 63 ∈ L) (h3 : BxA w.heap.size #[.slice na n nc] 37 ∈ L) => show ((W1.cell? ⟨w.heap.size + 2, 0, none⟩ = some (.slice (some ⟨fg, 0, none⟩) n fc) ∧ W1.cell? ⟨w.heap.size + 2, 1, none⟩ = some (.slice ia n ic) ∧ W1.cell? ⟨w.heap.size + 2, 2, none⟩ = some (.slice oa n oc)) ∧ W1.cell? ⟨w.heap.size, 0, none⟩ = some (.slice na n nc) ∧ W1.cell? ⟨fg, n1, none⟩ = some (.int .i64 (x : Int))) from by
          obtain ⟨m0, m1, m2, _⟩ := bs3 (show W1.heap[w.heap.size + 2]? = some (.cells #[.slice (some ⟨fg, 0, none⟩) n fc, .slice ia n ic, .slice oa n oc] 63 (0, 0)) from Sep.all h _ h2)
          have n0 := bs1 (show W1.heap[w.heap.size]? = some (.cells #[.slice na n nc] 37 (0, 0)) from Sep.all h _ h3)
          have n1_ := own_atT (show OwnInts 0 W1 _ (scF ns n) from Sep.all h _ h1) (scF_len ns n).symm HN1.out
          rw [HFv.out] at n1_
          exact ⟨⟨m0, m1, m2⟩, n0, n1_⟩
        have X0 := Lib.hid (HBM.out _ _ HSD.out (by simp) (by simp) (by simp))
        refine AnyL.start (fun W1 => ((W1.cell? ⟨w.heap.size + 2, 0, none⟩ = some (.slice (some ⟨fg, 0, none⟩) n fc) ∧ W1.cell? ⟨w.heap.size + 2, 1, none⟩ = some (.slice ia n ic) ∧ W1.cell? ⟨w.heap.size + 2, 2, none⟩ = some (.slice oa n oc)) ∧ W1.cell? ⟨w.heap.size, 0, none⟩ = some (.slice na n nc) ∧ W1.cell? ⟨fg, n1, none⟩ = some (.int .i64 (x : Int)))) (fun _ => True) 99 (by kernel_rfl) ?_
        generalize wr.drew = w8 at *
        refine AnyL.take (i := 0) (v := ?vx86) (by rfl) (by kernel_rfl) (by kernel_rfl) (by kernel_rfl) rfl (by exact fun _ _ _ h => h) (by rfl) ?hyx86 (by exact ⟨X0.out, fun _ => trivial⟩) ?restx86
        case hyx86 => intro W hSW; (try dsimp only at hSW); first | (go_simp; done) | (go_simp; with_reducible rfl)
        try simp only [Act.put, List.setIfInBounds_toArray, List.set_cons_zero, List.set_cons_succ]
        refine AnyL.take (i := 1) (v := ?vx87) (by rfl) (by kernel_rfl) (by kernel_rfl) (by kernel_rfl) rfl (by exact fun _ _ _ h => h) (by rfl) ?hyx87 (by exact ⟨X0.out, fun _ => trivial⟩) ?restx87
        case hyx87 => intro W hSW; (try dsimp only at hSW); first | (go_simp; done) | (go_simp; with_reducible rfl)
        try simp only [Act.put, List.setIfInBounds_toArray, List.set_cons_zero, List.set_cons_succ]
        refine AnyL.take (i := 2) (v := ?vx88) (by rfl) (by kernel_rfl) (by kernel_rfl) (by kernel_rfl) rfl (by exact fun _ _ _ h => h) (by rfl) ?hyx88 (by exact ⟨X0.out, fun _ => trivial⟩) ?restx88
        case hyx88 => intro W hSW; (try dsimp only at hSW); first | (go_simp; done) | (go_simp; with_reducible rfl)
        try simp only [Act.put, List.setIfInBounds_toArray, List.set_cons_zero, List.set_cons_succ]
        refine AnyL.take (i := 3) (v := ?vx89) (by rfl) (by kernel_rfl) (by kernel_rfl) (by kernel_rfl) rfl (by exact fun _ _ _ h => h) (by rfl) ?hyx89 (by exact ⟨X0.out, fun _ => trivial⟩) ?restx89
        case hyx89 => intro W hSW; (try dsimp only at hSW); first | (go_simp; done) | (go_simp; with_reducible rfl)
        try simp only [Act.put, List.setIfInBounds_toArray, List.set_cons_zero, List.set_cons_succ]
        refine AnyL.take (i := 4) (v := ?vx90) (by rfl) (by kernel_rfl) (by kernel_rfl) (by kernel_rfl) rfl (by exact fun _ _ _ h => h) (by rfl) ?hyx90 (by exact ⟨X0.out, fun _ => trivial⟩) ?restx90
        case hyx90 => intro W hSW; (try dsimp only at hSW); first | (go_simp; done) | (go_simp; with_reducible rfl)
        try simp only [Act.put, List.setIfInBounds_toArray, List.set_cons_zero, List.set_cons_succ]
        refine AnyL.take (i := 5) (v := ?vx91) (by rfl) (by kernel_rfl) (by kernel_rfl) (by kernel_rfl) rfl (by exact fun _ _ _ h => h) (by rfl) ?hyx91 (by exact ⟨X0.out, fun _ => trivial⟩) ?restx91
        case hyx91 => intro W hSW; (try dsimp only at hSW); first | (go_simp; done) | (go_simp; with_reducible rfl)
        try simp only [Act.put, List.setIfInBounds_toArray, List.set_cons_zero, List.set_cons_succ]
        refine AnyL.take (i := 6) (v := ?vx92) (by rfl) (by kernel_rfl) (by kernel_rfl) (by kernel_rfl) rfl (by exact fun _ _ _ h => h) (by rfl) ?hyx92 (by exact ⟨X0.out, fun _ => trivial⟩) ?restx92
        case hyx92 => intro W hSW; (try dsimp only at hSW); first | (go_simp; done) | (go_simp; with_reducible rfl)
        try simp only [Act.put, List.setIfInBounds_toArray, List.set_cons_zero, List.set_cons_succ]
        refine AnyL.take (i := 7) (v := ?vx93) (by rfl) (by kernel_rfl) (by kernel_rfl) (by kernel_rfl) rfl (by exact fun _ _ _ h => h) (by rfl) ?hyx93 (by exact ⟨X0.out, fun _ => trivial⟩) ?restx93
        case hyx93 => intro W hSW; (try dsimp only at hSW); first | (go_simp; done) | (go_simp; with_reducible rfl)
        try simp only [Act.put, List.setIfInBounds_toArray, List.set_cons_zero, List.set_cons_succ]
        refine AnyL.take (i := 8) (v := ?vx94) (by rfl) (by kernel_rfl) (by kernel_rfl) (by kernel_rfl) rfl (by exact fun _ _ _ h => h) (by rfl) ?hyx94 (by exact ⟨X0.out, fun _ => trivial⟩) ?restx94
        case hyx94 => intro W hSW; (try dsimp only at hSW); first | (go_simp; done) | (go_simp; with_reducible rfl)
        try simp only [Act.put, List.setIfInBounds_toArray, List.set_cons_zero, List.set_cons_succ]
        refine AnyL.take (i := 9) (v := ?vx95) (by rfl) (by kernel_rfl) (by kernel_rfl) (by kernel_rfl) rfl (by exact fun _ _ _ h => h) (by rfl) ?hyx95 (by exact ⟨X0.out, fun _ => trivial⟩) ?restx95
        case hyx95 => intro W hSW; (try dsimp only at hSW); first | (go_simp; done) | (go_simp; with_reducible rfl)
        try simp only [Act.put, List.setIfInBounds_toArray, List.set_cons_zero, List.set_cons_succ]
        have hz0 := Sep.blk (A := [_, _, _, _]) (B := [_]) HSD.out
        obtain ⟨y0, y1, y2, f0, f1, f2⟩ := bs3 hz0.hd
        have HSZ := Lib.hid (((hz0.setB 0 (.slice (some ⟨fg, 0, none⟩) n fc)).setB 1 (.slice ia n ic)).setB 2 (.slice oa n oc))
        clear hz0
        refine AnyL.step (i := 10) (by kernel_rfl) (by rfl) (fun K hK => ?_)
        go_simp
        refine hK.out _ (((w8.setCell ⟨w.heap.size + 1, 0, none⟩ (.slice (some ⟨fg, 0, none⟩) n fc)).setCell ⟨w.heap.size + 1, 1, none⟩ (.slice ia n ic)).setCell ⟨w.heap.size + 1, 2, none⟩ (.slice oa n oc)) (by exact HBM.out _ _ HSZ.out (by simp) (by simp) (by simp)) (by exact fun _ => trivial) ?_
        clear hK K
        try simp only [Act.put, List.setIfInBounds_toArray, List.set_cons_zero, List.set_cons_succ]
        refine AnyL.take (i := 11) (v := ?vx96) (by rfl) (by kernel_rfl) (by kernel_rfl) (by kernel_rfl) rfl (by exact fun _ _ _ h => h) (by rfl) ?hyx96 (by exact ⟨HBM.out _ _ HSZ.out (by simp) (by simp) (by simp), fun _ => trivial⟩) ?restx96
        case hyx96 => intro W hSW; (try dsimp only at hSW); first | (go_simp; done) | (go_simp; with_reducible rfl)
        try simp only [Act.put, List.setIfInBounds_toArray, List.set_cons_zero, List.set_cons_succ]
        refine AnyL.done (by kernel_rfl) ?_ _
        generalize (((w8.setCell ⟨w.heap.size + 1, 0, none⟩ (.slice (some ⟨fg, 0, none⟩) n fc)).setCell ⟨w.heap.size + 1, 1, none⟩ (.slice ia n ic)).setCell ⟨w.heap.size + 1, 2, none⟩ (.slice oa n oc)) = w9 at *
        clear y0 y1 y2 f0 f1 f2
        obtain ⟨u0, u1, u2, _⟩ := bs3 HSZ.out.hd
        have HKF := Lib.hid (show w.grownBy _ none from Sep.all HSZ.out (KeepA w) (by simp))
        have HR := Lib.hid (show Sep w9 [OI (.slice (some ⟨fg, 0, none⟩) n fc) (scF ns ns.length), OI (.slice ia n ic) (scI ns ns.length), OI (.slice oa n oc) (scO ns ns.length), KeepA w] from by
          rw [HNL.out]
          exact Sep.cutA (X := [_, _, _]) (A := [_, _]) HSZ.out.tl)
        go_wp2_with fail
        refine bodyPost_ret_by (v := .tuple #[.agg #[.slice (some ⟨fg, 0, none⟩) n fc, .slice ia n ic, .slice oa n oc], .bool b]) ?_ rfl ⟨_, _, _, _, _, _, _, _, _, rfl, (fun _ => HR.out), HKF.out⟩
        simp [results, go_sem, *]
  · obtain rfl : b = false := by rw [← HB.out]; exact tmB_len (fun h => hr (by rw [HNL.out] at h; omega))
    rw [decide_eq_false hr] at HWI
    clear c0 c1 c2
    obtain ⟨c0, c1, c2, _⟩ := bs3 HS0.out.hd
    obtain ⟨y0, y1, y2, f0, f1, f2⟩ := bs3 HS0.out.tl.hd
    have HKF := Lib.hid (show w.grownBy _ none from HS0.out.tl.tl.tl.hd)
    go_enter Tryz.func59, Tryz.ntmps59
    go_wp2_with (go_at_call 34; with_reducible refine (HWI.out _).mono ?_; rintro e w3 ⟨rfl, rfl⟩)
    refine bodyPost_ret_by (v := .tuple #[.agg #[.slice none 0 0, .slice none 0 0, .slice none 0 0], .bool false]) ?_ rfl ⟨_, _, _, _, _, _, _, _, _, rfl, (fun h => by cases h), HKF.out⟩
    simp [results, go_sem, *]
end Go.Proofs.YtjagjhchnpmngaaGreatDoor

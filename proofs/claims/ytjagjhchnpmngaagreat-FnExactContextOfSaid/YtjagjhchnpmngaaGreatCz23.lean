/-
 The parts of a term, in the reference. Conditions: lengths are small; no library.
-/
import Derived.Test.YtjagjhchnpmngaaGreatCz06
import Derived.Test.YtjagjhchnpmngaaGreatCz05
import Derived.Test.YtjagjhchnpmngaaGreatCz04
import Derived.Test.YtjagjhchnpmngaaGreatCz03
import Derived.Test.YtjagjhchnpmngaaGreatCz02
import Derived.Test.YtjagjhchnpmngaaGreatCz01
import Derived.Test.YtjagjhchnpmngaaGreatCz00
import Derived.Test.YtjagjhchnpmngaaGreatCz22
set_option linter.unusedVariables false
set_option linter.unusedSimpArgs false
set_option maxRecDepth 100000
namespace Go.Proofs.YtjagjhchnpmngaaGreat
open Go.RowKit
theorem own_someT {B : Nat} {w : World} {a : Option Addr} {n c : Nat} {zs : List Int} (h : OwnInts B w (.slice a n c) zs) (hz : 0 < zs.length) : ∃ b, a = some ⟨b, 0, none⟩ := by
 rcases h.2 with ⟨_, h0⟩ | ⟨g, cap, cur, he, _⟩
 ·omega
 ·injection he with e1 _ _
  exact ⟨g, e1⟩
theorem own_atT {w : World} {g n cap B j : Nat} {zs : List Int} (h : OwnInts B w (.slice (some ⟨g, 0, none⟩) n cap) zs) (hn : n = zs.length) (hj : j < n) : w.cell? ⟨g, j, none⟩ = some (.int .i64 (zs.getD j 0)) := by
 rw [h.cell hn (j := j) (by omega), List.getD_eq_getElem?_getD, List.getElem?_eq_getElem (by omega)]; rfl
theorem bs3 {w : World} {k : Nat} {x y z : Value} {t : TypeId} (h : w.heap[k]? = some (.cells #[x, y, z] t (0, 0))) : w.cell? ⟨k, 0, none⟩ = some x ∧ w.cell? ⟨k, 1, none⟩ = some y ∧ w.cell? ⟨k, 2, none⟩ = some z ∧ w.frozen? ⟨k, 0, none⟩ = false ∧ w.frozen? ⟨k, 1, none⟩ = false ∧ w.frozen? ⟨k, 2, none⟩ = false :=
 ⟨cell_of_row w k 0 _ _ _ h, cell_of_row w k 1 _ _ _ h, cell_of_row w k 2 _ _ _ h, frozen_of_row w k 0 _ _ h, frozen_of_row w k 1 _ _ h, frozen_of_row w k 2 _ _ h⟩
theorem bs1 {w : World} {k : Nat} {x : Value} {t : TypeId} (h : w.heap[k]? = some (.cells #[x] t (0, 0))) : w.cell? ⟨k, 0, none⟩ = some x := cell_of_row w k 0 _ _ _ h
def topA (ns : List Nd) (j : Nat) : Tr := match prun ns (j + 1) with
 | some (t :: _) => t
 | _ => .leaf nd0
def scF (ns : List Nd) (i : Nat) : List Int := (List.range i).map fun j : Nat => ((j + 1 - (topA ns j).size : Nat) : Int)
def scI (ns : List Nd) (i : Nat) : List Int := (List.range i).map fun j : Nat => (topA ns j).ty.1
def scO (ns : List Nd) (i : Nat) : List Int := (List.range i).map fun j : Nat => (topA ns j).ty.2
theorem scF_len (ns : List Nd) (i : Nat) : (scF ns i).length = i := by simp [scF]
theorem scI_len (ns : List Nd) (i : Nat) : (scI ns i).length = i := by simp [scI]
theorem scO_len (ns : List Nd) (i : Nat) : (scO ns i).length = i := by simp [scO]
theorem rng_at {f : Nat → Int} {i j : Nat} (h : j < i) : ((List.range i).map f).getD j 0 = f j := by
 rw [List.getD_eq_getElem?_getD, List.getElem?_map, List.getElem?_range h]; rfl
theorem scF_at {ns : List Nd} {i j : Nat} (h : j < i) : (scF ns i).getD j 0 = ((j + 1 - (topA ns j).size : Nat) : Int) := rng_at h
theorem scI_at {ns : List Nd} {i j : Nat} (h : j < i) : (scI ns i).getD j 0 = (topA ns j).ty.1 := rng_at h
theorem scO_at {ns : List Nd} {i j : Nat} (h : j < i) : (scO ns i).getD j 0 = (topA ns j).ty.2 := rng_at h
theorem topA_eq {ns : List Nd} {i : Nat} {T : Tr} {R : List Tr} (h : prun ns (i + 1) = some (T :: R)) : topA ns i = T := by unfold topA; rw [h]
theorem scF_succ {ns : List Nd} {i : Nat} {T : Tr} {R : List Tr} (h : prun ns (i + 1) = some (T :: R)) : scF ns (i + 1) = scF ns i ++ [((i + 1 - T.size : Nat) : Int)] := by
 unfold scF; rw [List.range_succ, List.map_append, List.map_singleton, topA_eq h]
theorem scI_succ {ns : List Nd} {i : Nat} {T : Tr} {R : List Tr} (h : prun ns (i + 1) = some (T :: R)) : scI ns (i + 1) = scI ns i ++ [T.ty.1] := by
 unfold scI; rw [List.range_succ, List.map_append, List.map_singleton, topA_eq h]
theorem scO_succ {ns : List Nd} {i : Nat} {T : Tr} {R : List Tr} (h : prun ns (i + 1) = some (T :: R)) : scO ns (i + 1) = scO ns i ++ [T.ty.2] := by
 unfold scO; rw [List.range_succ, List.map_append, List.map_singleton, topA_eq h]
theorem prun_nil {ns : List Nd} {j : Nat} (h : prun ns j = some []) : j = 0 := by
 cases j with
 | zero => rfl
 | succ j =>
  obtain ⟨P, hP⟩ := prun_back h (Nat.le_succ j)
  rw [prun_succ hP] at h
  rcases pstep_cases h with ⟨_, _, e⟩ | ⟨A, B, R, _, _, _, e⟩ | ⟨A, B, R, _, _, _, e⟩ <;> cases e
theorem prun_cons {ns : List Nd} {i : Nat} {S : List Tr} (h : prun ns i = some S) (hi : 0 < i) : ∃ T R, S = T :: R := by
 cases S with
 | nil => have := prun_nil h; omega
 | cons T R => exact ⟨T, R, rfl⟩
theorem op_tops {ns : List Nd} {i : Nat} {A B : Tr} {R : List Tr} (h : prun ns i = some (B :: A :: R)) (hl : i ≤ ns.length) : ∃ a1 i1, a1 + 1 + B.size = i ∧ i1 + 1 = i ∧ topA ns i1 = B ∧ topA ns a1 = A ∧ A.size ≤ a1 + 1 := by
 obtain ⟨h1, h2⟩ := (prun_inv i _ hl h).back B (A :: R) rfl
 have hB := B.size_pos
 have h0 : i - B.size ≠ 0 := fun e => by rw [e] at h2; cases h2
 obtain ⟨a1, ha⟩ : ∃ a1, a1 + 1 = i - B.size := ⟨i - B.size - 1, by omega⟩
 rw [← ha] at h2
 obtain ⟨h3, _⟩ := (prun_inv (a1 + 1) _ (by omega) h2).back A R rfl
 exact ⟨a1, i - 1, by omega, by omega, topA_eq (R := A :: R) (by rw [show i - 1 + 1 = i by omega]; exact h), topA_eq h2, h3⟩
theorem op_few {ns : List Nd} {i : Nat} {S : List Tr} (h : prun ns i = some S) (hl : i ≤ ns.length) (hi : 2 ≤ i) (hs : S.length < 2) : ∃ i1, i1 + 1 = i ∧ (scF ns i).getD i1 0 = 0 := by
 obtain ⟨T, R, rfl⟩ := prun_cons h (by omega)
 have hR : R = [] := List.eq_nil_of_length_eq_zero (by simp only [List.length_cons] at hs; omega)
 subst hR
 obtain ⟨h1, h2⟩ := (prun_inv i _ hl h).back T [] rfl
 have h3 := prun_nil h2
 refine ⟨i - 1, by omega, ?_⟩
 rw [scF_at (by omega), topA_eq (R := []) (by rw [show i - 1 + 1 = i by omega]; exact h)]
 omega
theorem lf_kind {n : Nd} (h : lfB n = true) : ¬ (n.k = 15 ∨ n.k = 16) ∧ n.k ≠ 17 := by
 unfold lfB lfV at h
 rw [Bool.and_eq_true] at h
 have h2 := h.2
 by_cases h1 : n.k = 1
 ·omega
 ·by_cases h3 : n.k = 2
  ·omega
  ·rw [if_neg h1, if_neg h3, Bool.and_eq_true, inB_iff] at h2
   omega
def ScanR (b : Bool) (ns : List Nd) (w : World) (e : Ending) (w' : World) : Prop :=
 ∃ fa fn fc ia inn ic oa on oc, e = .returned (.tuple #[.agg #[.slice fa fn fc, .slice ia inn ic, .slice oa on oc], .bool b]) ∧ (b = true → Sep w' [OI (.slice fa fn fc) (scF ns ns.length), OI (.slice ia inn ic) (scI ns ns.length), OI (.slice oa on oc) (scO ns ns.length), KeepA w]) ∧ w.grownBy w' none
theorem tm_from {ns : List Nd} {T : Tr} {R : List Tr} (h1 : 1 ≤ ns.length) (h2 : ns.length ≤ 400) (h : prun ns ns.length = some (T :: R)) : ((((ns.length - T.size : Nat) : Int)) == 0) = tmB ns := by
 obtain ⟨b1, b2⟩ := (prun_inv _ _ (Nat.le_refl _) h).back T R rfl
 have e : tmB ns = decide (R = []) := by
  unfold tmB
  rw [decide_eq_true ⟨h1, h2⟩, h, Bool.true_and]
  cases R <;> simp
 rw [e]
 cases R with
 | nil =>
  have := prun_nil b2
  rw [this]; rfl
 | cons A R =>
  have h3 : ns.length - T.size ≠ 0 := fun e => by rw [e] at b2; cases b2
  simp
  omega
set_option maxHeartbeats 16000000 in
theorem scan_any (nv : Value) (ns : List Nd) (w : World) (hn : RdR nodeE w nv ns) (hl : ns.length ≤ 2000000) :
 Calls Tryz.prog 145 #[.slice none 0 0, .agg #[nv]] w (ScanR (tmB ns) ns w) := by
 have HN := qd hn
 obtain ⟨na, nc, rfl⟩ := hn.shape
 obtain ⟨n, hnl⟩ : ∃ n, ns.length = n := ⟨_, rfl⟩
 have HNL := qd hnl
 rw [hnl] at hl ⊢
 obtain ⟨b, hb⟩ : ∃ b, tmB ns = b := ⟨_, rfl⟩
 rw [hb]
 have HB := qd hb
 clear hn hb hnl
 have HWI := qd fun W => l1In_any (n : Int) 1 400 W
 have HLW := qd fun (k v : Int) (s : ByteArray) W => leafS_any ⟨k, v, s⟩ W
 simp only at HLW
 have HAW := qd fun (k v : Int) (s : ByteArray) W (h : lfB ⟨k, v, s⟩ = true) => ari_any ⟨k, v, s⟩ W h
 simp only at HAW
 have HAN := qd fun (v : Int) (s : ByteArray) W => ari_other 17 v 1 1 s W (by decide) kind_name
 have HFN := qd fun (s : ByteArray) W => find_nil s W
 have hs0 := (((Sep.start w).boxAt w.heap.size rfl #[.slice na n nc] 44).boxAt (w.heap.size + 1) (by simp) #[.slice none 0 0, .slice none 0 0, .slice none 0 0] 162).boxAt (w.heap.size + 2) (by simp) #[.slice none 0 0, .slice none 0 0, .slice none 0 0] 162
 have HS0 := qd hs0
 have x0 := bs1 hs0.tl.tl.hd
 obtain ⟨c0, c1, c2, _⟩ := bs3 hs0.hd
 clear hs0
 by_cases hr : 1 ≤ (n : Int) ∧ (n : Int) ≤ 400
 ·rw [decide_eq_true hr] at HWI
  have hr1 : 1 ≤ n := by omega
  have hr2 : n ≤ 400 := by omega
  clear hr c0 c1 c2
  have HS1 := qd (show Sep _ [OI (.slice none 0 0) (scF ns 0), OI (.slice none 0 0) (scI ns 0), OI (.slice none 0 0) (scO ns 0), BxA (w.heap.size + 2) #[.slice none 0 0, .slice none 0 0, .slice none 0 0] 162, BxA (w.heap.size + 1) #[.slice none 0 0, .slice none 0 0, .slice none 0 0] 162, BxA w.heap.size #[.slice na n nc] 44, KeepA w] from HS0.out.nilI.nilI.nilI)
  go_enter Tryz.func145, Tryz.ntmps145
  go_upto_region 5 with (go_at_call 91; with_reducible refine (HWI.out _).mono ?_; rintro e w3 ⟨rfl, rfl⟩)
  clear x0
  go_loopw [7, 8, 9, 10, 11, 12, 13, 14, 15, 25] (fun _ _ _ _ _ _ _ _ _ s25 wr => ∃ (i : Nat) (S : List Tr) (fv iv ov : Value), i ≤ n ∧ s25 = .int .i64 i ∧ prun ns i = some S ∧ Sep wr [OI (fv) (scF ns i), OI (iv) (scI ns i), OI (ov) (scO ns i), BxA (w.heap.size + 2) #[fv, iv, ov] 162, BxA (w.heap.size + 1) #[.slice none 0 0, .slice none 0 0, .slice none 0 0] 162, BxA w.heap.size #[.slice na n nc] 44, KeepA w]) (fun _ _ _ _ _ _ _ _ _ s25 _ => n - (intOf s25).toNat)
  case atStart => exact ⟨0, [], _, _, _, by omega, rfl, rfl, HS1.out⟩
  case round =>
   obtain ⟨i, S, fv, iv, ov, hi, rfl, hpr, hs⟩ := hrel
   obtain ⟨fa, fc, rfl⟩ := own_shape (show OwnInts 0 wr fv (scF ns i) from hs.hd)
   obtain ⟨ia, ic, rfl⟩ := own_shape (show OwnInts 0 wr iv (scI ns i) from hs.tl.hd)
   obtain ⟨oa, oc, rfl⟩ := own_shape (show OwnInts 0 wr ov (scO ns i) from hs.tl.tl.hd)
   rw [scF_len, scI_len, scO_len] at hs
   have HSQ := qd hs; have HPR := qd hpr
   clear hs hpr HS1
   by_cases hlt : i < n
   ·have hke : i < ns.length := by rw [HNL.out]; exact hlt
    have hji : (i : Int) < (n : Int) := by omega
    have HKE := qd hke
    obtain ⟨nb, no, rfl, _, q0, q1, q2⟩ := (HN.out.carry HSQ.out.tl.tl.tl.tl.tl.tl.hd).node rfl rfl hke
    obtain ⟨y, hy⟩ : ∃ y, ns.getD i nd0 = y := ⟨_, rfl⟩
    have HY := qd hy
    rw [hy] at q0 q1 q2
    clear hy hke
    obtain ⟨k, v, s⟩ := y
    simp only at q0 q1 q2
    have HS2 := qd (HSQ.out.boxAt wr.heap.size rfl #[.int .i64 k, .int .i64 v, .string s] 145)
    obtain ⟨z0, z1, z2⟩ := bw3 HS2.out.hd
    have HL := qd fun W => HLW.out k v s W
    clear HLW
    cases hb : lfB ⟨k, v, s⟩
    ·rw [hb] at HL
     clear HAW
     by_cases h17 : k = 17
     ·obtain rfl : b = false := by rw [← HB.out]; exact tmB_no HKE.out HPR.out (by rw [HY.out, pstep_leaf (by show ¬ (k = 15 ∨ k = 16); omega), if_neg (by rw [hb]; simp)])
      subst h17
      clear hb
      have HA := qd fun W => HAN.out v s W
      have HF := qd fun W => HFN.out s W
      clear HAN HFN
      go_wp2_with (first
       |(go_at_call 119
         with_reducible refine (HL.out _).mono ?_
         rintro e w3 ⟨rfl, hg⟩
         have HS3 := qd (HS2.out.grown hg)
         clear hg z0 z1 z2 q0 q1 q2
         obtain ⟨z0, z1, z2⟩ := bw3 HS3.out.hd)
       |(go_at_call 153
         with_reducible refine (HA.out _).mono ?_
         rintro e w4 ⟨rfl, hg⟩
         have HS4 := qd (HS3.out.grown hg)
         clear hg z0 z1 z2
         obtain ⟨z0, z1, z2⟩ := bw3 HS4.out.hd)
       |(go_at_call 154
         with_reducible refine (HF.out _).mono ?_
         rintro e w5 ⟨rfl, hg⟩
         have HS5 := qd (HS4.out.grown hg)
         clear hg z0 z1 z2
         obtain ⟨z0, z1, z2⟩ := bw3 HS5.out.hd
         obtain ⟨c0, c1, c2, _⟩ := bs3 HS5.out.tl.tl.tl.tl.hd
         have hz0 := Sep.blk (A := [_, _, _, _, _]) (B := [_]) HS5.out
         obtain ⟨y0, y1, y2, f0, f1, f2⟩ := bs3 hz0.hd
         have HSZ := qd (((hz0.setB 0 (.slice fa i fc)).setB 1 (.slice ia i ic)).setB 2 (.slice oa i oc))
         obtain ⟨u0, u1, u2, _⟩ := bs3 HSZ.out.hd
         have HKF := qd (show w.grownBy _ none from Sep.all HSZ.out (KeepA w) (by simp))
         clear hz0))
      refine bodyPost_ret_by (v := .tuple #[.agg #[.slice fa i fc, .slice ia i ic, .slice oa i oc], .bool false]) ?_ rfl ⟨_, _, _, _, _, _, _, _, _, rfl, (fun h => by cases h), HKF.out⟩
      simp [results, go_sem, *]
     ·have hk17 : (k == 17) = false := by simpa using h17
      clear HAN HFN
      by_cases hop : k = 15 ∨ k = 16
      ·clear hb h17
       go_upto_region 17 with (
        go_at_call 119
        with_reducible refine (HL.out _).mono ?_
        rintro e w3 ⟨rfl, hg⟩
        have HS3 := qd (HS2.out.grown hg)
        clear hg z0 z1 z2 q0 q1 q2
        obtain ⟨z0, z1, z2⟩ := bw3 HS3.out.hd)
       by_cases hs : s = noS
       ·subst hs
        by_cases hv : v = 0
        ·subst hv
         by_cases hi2 : (i : Int) < 2
         ·obtain rfl : b = false := by rw [← HB.out]; exact tmB_no HKE.out HPR.out (by rw [HY.out]; exact pstep_no hop (Or.inr (Or.inr (by have := prun_cnt i S HPR.out; show S.length < 2; omega))))
          obtain ⟨c0, c1, c2, _⟩ := bs3 HS3.out.tl.tl.tl.tl.hd
          have hz0 := Sep.blk (A := [_, _, _, _, _]) (B := [_]) HS3.out
          obtain ⟨y0, y1, y2, f0, f1, f2⟩ := bs3 hz0.hd
          have HSZ := qd (((hz0.setB 0 (.slice fa i fc)).setB 1 (.slice ia i ic)).setB 2 (.slice oa i oc))
          obtain ⟨u0, u1, u2, _⟩ := bs3 HSZ.out.hd
          have HKF := qd (show w.grownBy _ none from Sep.all HSZ.out (KeepA w) (by simp))
          clear hz0
          rcases hop with rfl | rfl
          ·go_wp2_with fail
           refine bodyPost_ret_by (v := .tuple #[.agg #[.slice fa i fc, .slice ia i ic, .slice oa i oc], .bool false]) ?_ rfl ⟨_, _, _, _, _, _, _, _, _, rfl, (fun h => by cases h), HKF.out⟩
           simp [results, go_sem, *]
          ·go_wp2_with fail
           refine bodyPost_ret_by (v := .tuple #[.agg #[.slice fa i fc, .slice ia i ic, .slice oa i oc], .bool false]) ?_ rfl ⟨_, _, _, _, _, _, _, _, _, rfl, (fun h => by cases h), HKF.out⟩
           simp [results, go_sem, *]
         ·obtain ⟨fg, hfg⟩ := own_someT (show OwnInts 0 _ (.slice fa i fc) (scF ns i) from HSQ.out.hd) (by rw [scF_len]; omega)
          obtain ⟨ig, hig⟩ := own_someT (show OwnInts 0 _ (.slice ia i ic) (scI ns i) from HSQ.out.tl.hd) (by rw [scI_len]; omega)
          obtain ⟨og, hog⟩ := own_someT (show OwnInts 0 _ (.slice oa i oc) (scO ns i) from HSQ.out.tl.tl.hd) (by rw [scO_len]; omega)
          subst hfg hig hog
          by_cases hl2 : S.length < 2
          ·obtain ⟨i1, hi1, hf0⟩ := op_few HPR.out (by rw [HNL.out]; exact hi) (by omega) hl2
           obtain rfl : b = false := by rw [← HB.out]; exact tmB_no HKE.out HPR.out (by rw [HY.out]; exact pstep_no hop (Or.inr (Or.inr hl2)))
           have hwi : IntKind.i64.wrap ((i : Int) - 1) = (i1 : Int) := by rw [wrap_id (by omega) (by omega)]; omega
           have hbi : (i1 : Int) < (i : Int) := by omega
           have e0 := own_atT (show OwnInts 0 _ (.slice (some ⟨fg, 0, none⟩) i fc) (scF ns i) from HS3.out.tl.hd) (scF_len ns i).symm (j := i1) (by omega)
           rw [hf0] at e0
           clear hf0 hi1
           obtain ⟨c0, c1, c2, _⟩ := bs3 HS3.out.tl.tl.tl.tl.hd
           have hz0 := Sep.blk (A := [_, _, _, _, _]) (B := [_]) HS3.out
           obtain ⟨y0, y1, y2, f0, f1, f2⟩ := bs3 hz0.hd
           have HSZ := qd (((hz0.setB 0 (.slice (some ⟨fg, 0, none⟩) i fc)).setB 1 (.slice (some ⟨ig, 0, none⟩) i ic)).setB 2 (.slice (some ⟨og, 0, none⟩) i oc))
           obtain ⟨u0, u1, u2, _⟩ := bs3 HSZ.out.hd
           have HKF := qd (show w.grownBy _ none from Sep.all HSZ.out (KeepA w) (by simp))
           clear hz0
           rcases hop with rfl | rfl
           ·go_wp2_with fail
            refine bodyPost_ret_by (v := .tuple #[.agg #[.slice (some ⟨fg, 0, none⟩) i fc, .slice (some ⟨ig, 0, none⟩) i ic, .slice (some ⟨og, 0, none⟩) i oc], .bool false]) ?_ rfl ⟨_, _, _, _, _, _, _, _, _, rfl, (fun h => by cases h), HKF.out⟩
            simp [results, go_sem, *]
           ·go_wp2_with fail
            refine bodyPost_ret_by (v := .tuple #[.agg #[.slice (some ⟨fg, 0, none⟩) i fc, .slice (some ⟨ig, 0, none⟩) i ic, .slice (some ⟨og, 0, none⟩) i oc], .bool false]) ?_ rfl ⟨_, _, _, _, _, _, _, _, _, rfl, (fun h => by cases h), HKF.out⟩
            simp [results, go_sem, *]
          ·obtain ⟨A, B, R, rfl⟩ := two_le hl2
           obtain ⟨a1, i1, ha1, hi1, htb, hta, hsa⟩ := op_tops HPR.out (by rw [HNL.out]; exact hi)
           have hinv := prun_inv i _ (by rw [HNL.out]; exact hi) HPR.out
           have hqa := Tr.ty_small (hinv.ok A (by simp))
           have hqb := Tr.ty_small (hinv.ok B (by simp))
           have hBp := B.size_pos
           have hAp := A.size_pos
           obtain ⟨f1, hf1⟩ : ∃ f, a1 + 1 = f := ⟨_, rfl⟩
           obtain ⟨fa2, hfa2⟩ : ∃ f, a1 + 1 - A.size = f := ⟨_, rfl⟩
           have hwi : IntKind.i64.wrap ((i : Int) - 1) = (i1 : Int) := by rw [wrap_id (by omega) (by omega)]; omega
           have hbi : (i1 : Int) < (i : Int) := by omega
           have hwf : IntKind.i64.wrap ((f1 : Int) - 1) = (a1 : Int) := by rw [wrap_id (by omega) (by omega)]; omega
           have hba : (a1 : Int) < (i : Int) := by omega
           have hf1p : ¬ (f1 : Int) < 1 := by omega
           have HSZ2 := qd (show i + 1 - (A.size + B.size + 1) = fa2 from by omega)
           have HFv := qd (show (scF ns i).getD i1 0 = (f1 : Int) from by rw [scF_at (by omega), htb]; omega)
           have HFa := qd (show (scF ns i).getD a1 0 = (fa2 : Int) from by rw [scF_at (by omega), hta, hfa2])
           have HIb := qd (show (scI ns i).getD i1 0 = B.ty.1 from by rw [scI_at (by omega), htb])
           have HIa := qd (show (scI ns i).getD a1 0 = A.ty.1 from by rw [scI_at (by omega), hta])
           have HOb := qd (show (scO ns i).getD i1 0 = B.ty.2 from by rw [scO_at (by omega), htb])
           have HOa := qd (show (scO ns i).getD a1 0 = A.ty.2 from by rw [scO_at (by omega), hta])
           obtain ⟨⟨p1, p2⟩, hA⟩ : ∃ q, A.ty = q := ⟨_, rfl⟩
           obtain ⟨⟨r1, r2⟩, hB⟩ : ∃ q, B.ty = q := ⟨_, rfl⟩
           rw [hA] at hqa HIa HOa
           rw [hB] at hqb HIb HOb
           simp only at hqa hqb HIa HOa HIb HOb
           have HA2 := qd hA; have HB2 := qd hB
           have hi1n : i1 < i := by omega
           have ha1n : a1 < i := by omega
           have e0 := own_atT (show OwnInts 0 _ (.slice (some ⟨fg, 0, none⟩) i fc) (scF ns i) from HS3.out.tl.hd) (scF_len ns i).symm (j := i1) hi1n
           rw [HFv.out] at e0
           obtain ⟨c0, c1, c2, _⟩ := bs3 HS3.out.tl.tl.tl.tl.hd
           have HI1n := qd hi1n; have HA1n := qd ha1n
           clear hinv htb hta hsa hBp hAp ha1 hi1 hfa2 hf1 hA hB hi1n ha1n
           have HBM := qd fun (W1 : World) (x : Asrt) (l : List Asrt) (h : Sep W1 (x :: OI (.slice (some ⟨fg, 0, none⟩) i fc) (scF ns i) :: OI (.slice (some ⟨ig, 0, none⟩) i ic) (scI ns i) :: OI (.slice (some ⟨og, 0, none⟩) i oc) (scO ns i) :: BxA (w.heap.size + 2) #[.slice (some ⟨fg, 0, none⟩) i fc, .slice (some ⟨ig, 0, none⟩) i ic, .slice (some ⟨og, 0, none⟩) i oc] 162 :: l)) => show ((W1.cell? ⟨w.heap.size + 2, 0, none⟩ = some (.slice (some ⟨fg, 0, none⟩) i fc) ∧ W1.cell? ⟨w.heap.size + 2, 1, none⟩ = some (.slice (some ⟨ig, 0, none⟩) i ic) ∧ W1.cell? ⟨w.heap.size + 2, 2, none⟩ = some (.slice (some ⟨og, 0, none⟩) i oc)) ∧ W1.cell? ⟨fg, a1, none⟩ = some (.int .i64 fa2) ∧ W1.cell? ⟨ig, a1, none⟩ = some (.int .i64 p1) ∧ W1.cell? ⟨ig, i1, none⟩ = some (.int .i64 r1)) ∧ W1.cell? ⟨og, a1, none⟩ = some (.int .i64 p2) ∧ W1.cell? ⟨og, i1, none⟩ = some (.int .i64 r2) from by
            obtain ⟨m0, m1, m2, _⟩ := bs3 h.tl.tl.tl.tl.hd
            have n1 := own_atT (show OwnInts 0 _ _ (scF ns i) from h.tl.hd) (scF_len ns i).symm HA1n.out
            have n2 := own_atT (show OwnInts 0 _ _ (scI ns i) from h.tl.tl.hd) (scI_len ns i).symm HA1n.out
            have n3 := own_atT (show OwnInts 0 _ _ (scI ns i) from h.tl.tl.hd) (scI_len ns i).symm HI1n.out
            have n4 := own_atT (show OwnInts 0 _ _ (scO ns i) from h.tl.tl.tl.hd) (scO_len ns i).symm HA1n.out
            have n5 := own_atT (show OwnInts 0 _ _ (scO ns i) from h.tl.tl.tl.hd) (scO_len ns i).symm HI1n.out
            rw [HFa.out] at n1
            rw [HIa.out] at n2
            rw [HIb.out] at n3
            rw [HOa.out] at n4
            rw [HOb.out] at n5
            exact ⟨⟨⟨m0, m1, m2⟩, n1, n2, n3⟩, n4, n5⟩
           rcases hop with rfl | rfl
           ·have HPJ := qd (show prun ns (i + 1) = if p2 = r1 then some (.seq A B :: R) else none from by
             rw [prun_succ HPR.out, HY.out, pstep_seq rfl rfl rfl, HA2.out, HB2.out])
            have e1 : IntKind.i64.wrap (p1 + r1) = p1 + r1 := wrap_id (by omega) (by omega)
            have e2 : IntKind.i64.wrap (p2 + r2) = p2 + r2 := wrap_id (by omega) (by omega)
            go_upto_region 21 with fail
            clear c0 c1 c2 z0 z1 z2
            have HS4 := qd HS3.out.dr
            refine AnyL.start (fun W1 => ((W1.cell? ⟨w.heap.size + 2, 0, none⟩ = some (.slice (some ⟨fg, 0, none⟩) i fc) ∧ W1.cell? ⟨w.heap.size + 2, 1, none⟩ = some (.slice (some ⟨ig, 0, none⟩) i ic) ∧ W1.cell? ⟨w.heap.size + 2, 2, none⟩ = some (.slice (some ⟨og, 0, none⟩) i oc)) ∧ W1.cell? ⟨fg, a1, none⟩ = some (.int .i64 fa2) ∧ W1.cell? ⟨ig, a1, none⟩ = some (.int .i64 p1) ∧ W1.cell? ⟨ig, i1, none⟩ = some (.int .i64 r1)) ∧ W1.cell? ⟨og, a1, none⟩ = some (.int .i64 p2) ∧ W1.cell? ⟨og, i1, none⟩ = some (.int .i64 r2)) (fun _ => True) 99 (by kernel_rfl) ?_
            generalize w3.drew = w4 at *
            refine AnyL.tT 0 (by exact HBM.out _ _ _ HS4.out) ?_
            refine AnyL.tT 1 (by exact HBM.out _ _ _ HS4.out) ?_
            refine AnyL.tT 2 (by exact HBM.out _ _ _ HS4.out) ?_
            refine AnyL.tT 3 (by exact HBM.out _ _ _ HS4.out) ?_
            refine AnyL.tT 4 (by exact HBM.out _ _ _ HS4.out) ?_
            refine AnyL.tT 5 (by exact HBM.out _ _ _ HS4.out) ?_
            refine AnyL.tT 6 (by exact HBM.out _ _ _ HS4.out) ?_
            refine AnyL.tT 7 (by exact HBM.out _ _ _ HS4.out) ?_
            refine AnyL.tT 8 (by exact HBM.out _ _ _ HS4.out) ?_
            refine AnyL.tT 9 (by exact HBM.out _ _ _ HS4.out) ?_
            refine AnyL.tT 10 (by exact HBM.out _ _ _ HS4.out) ?_
            refine AnyL.tT 11 (by exact HBM.out _ _ _ HS4.out) ?_
            refine AnyL.tT 12 (by exact HBM.out _ _ _ HS4.out) ?_
            refine AnyL.tT 13 (by exact HBM.out _ _ _ HS4.out) ?_
            refine AnyL.tT 14 (by exact HBM.out _ _ _ HS4.out) ?_
            refine AnyL.tT 15 (by exact HBM.out _ _ _ HS4.out) ?_
            refine AnyL.tT 16 (by exact HBM.out _ _ _ HS4.out) ?_
            refine AnyL.tT 17 (by exact HBM.out _ _ _ HS4.out) ?_
            refine AnyL.tT 18 (by exact HBM.out _ _ _ HS4.out) ?_
            refine AnyL.tT 19 (by exact HBM.out _ _ _ HS4.out) ?_
            refine AnyL.tT 20 (by exact HBM.out _ _ _ HS4.out) ?_
            refine AnyL.tT 21 (by exact HBM.out _ _ _ HS4.out) ?_
            refine AnyL.tT 22 (by exact HBM.out _ _ _ HS4.out) ?_
            refine AnyL.tT 23 (by exact HBM.out _ _ _ HS4.out) ?_
            refine AnyL.done (by kernel_rfl) ?_ _
            obtain ⟨z0, z1, z2⟩ := bw3 HS4.out.hd
            obtain ⟨c0, c1, c2, _⟩ := bs3 HS4.out.tl.tl.tl.tl.hd
            go_upto_region 23 with fail
            clear c0 c1 c2 z0 z1 z2
            have HS5q := qd HS4.out.dr
            refine AnyL.start (fun W1 => ((W1.cell? ⟨w.heap.size + 2, 0, none⟩ = some (.slice (some ⟨fg, 0, none⟩) i fc) ∧ W1.cell? ⟨w.heap.size + 2, 1, none⟩ = some (.slice (some ⟨ig, 0, none⟩) i ic) ∧ W1.cell? ⟨w.heap.size + 2, 2, none⟩ = some (.slice (some ⟨og, 0, none⟩) i oc)) ∧ W1.cell? ⟨fg, a1, none⟩ = some (.int .i64 fa2) ∧ W1.cell? ⟨ig, a1, none⟩ = some (.int .i64 p1) ∧ W1.cell? ⟨ig, i1, none⟩ = some (.int .i64 r1)) ∧ W1.cell? ⟨og, a1, none⟩ = some (.int .i64 p2) ∧ W1.cell? ⟨og, i1, none⟩ = some (.int .i64 r2)) (fun _ => True) 99 (by kernel_rfl) ?_
            generalize w4.drew = w5q at *
            refine AnyL.tT 0 (by exact HBM.out _ _ _ HS5q.out) ?_
            refine AnyL.tT 1 (by exact HBM.out _ _ _ HS5q.out) ?_
            refine AnyL.tT 2 (by exact HBM.out _ _ _ HS5q.out) ?_
            refine AnyL.tT 3 (by exact HBM.out _ _ _ HS5q.out) ?_
            refine AnyL.tT 4 (by exact HBM.out _ _ _ HS5q.out) ?_
            refine AnyL.tT 5 (by exact HBM.out _ _ _ HS5q.out) ?_
            refine AnyL.tT 6 (by exact HBM.out _ _ _ HS5q.out) ?_
            refine AnyL.tT 7 (by exact HBM.out _ _ _ HS5q.out) ?_
            refine AnyL.tT 8 (by exact HBM.out _ _ _ HS5q.out) ?_
            refine AnyL.tT 9 (by exact HBM.out _ _ _ HS5q.out) ?_
            refine AnyL.tT 10 (by exact HBM.out _ _ _ HS5q.out) ?_
            refine AnyL.done (by kernel_rfl) ?_ _
            obtain ⟨z0, z1, z2⟩ := bw3 HS5q.out.hd
            obtain ⟨c0, c1, c2, _⟩ := bs3 HS5q.out.tl.tl.tl.tl.hd
            by_cases hc : p2 = r1
            ·have hd1 : (p2 != r1) = false := by simpa using hc
             have hg1 : ¬ p1 > 12 := by omega
             have hg2 : ¬ r2 > 12 := by omega
             go_upto_region 25 with fail
             clear c0 c1 c2 z0 z1 z2
             have HS6q := qd HS5q.out.dr
             refine AnyL.start (fun W1 => ((W1.cell? ⟨w.heap.size + 2, 0, none⟩ = some (.slice (some ⟨fg, 0, none⟩) i fc) ∧ W1.cell? ⟨w.heap.size + 2, 1, none⟩ = some (.slice (some ⟨ig, 0, none⟩) i ic) ∧ W1.cell? ⟨w.heap.size + 2, 2, none⟩ = some (.slice (some ⟨og, 0, none⟩) i oc)) ∧ W1.cell? ⟨fg, a1, none⟩ = some (.int .i64 fa2) ∧ W1.cell? ⟨ig, a1, none⟩ = some (.int .i64 p1) ∧ W1.cell? ⟨ig, i1, none⟩ = some (.int .i64 r1)) ∧ W1.cell? ⟨og, a1, none⟩ = some (.int .i64 p2) ∧ W1.cell? ⟨og, i1, none⟩ = some (.int .i64 r2)) (fun _ => True) 99 (by kernel_rfl) ?_
             generalize w5q.drew = w6q at *
             refine AnyL.tT 0 (by exact HBM.out _ _ _ HS6q.out) ?_
             refine AnyL.tT 1 (by exact HBM.out _ _ _ HS6q.out) ?_
             refine AnyL.tT 2 (by exact HBM.out _ _ _ HS6q.out) ?_
             refine AnyL.tT 3 (by exact HBM.out _ _ _ HS6q.out) ?_
             refine AnyL.tT 4 (by exact HBM.out _ _ _ HS6q.out) ?_
             refine AnyL.tT 5 (by exact HBM.out _ _ _ HS6q.out) ?_
             refine AnyL.tT 6 (by exact HBM.out _ _ _ HS6q.out) ?_
             refine AnyL.tT 7 (by exact HBM.out _ _ _ HS6q.out) ?_
             refine AnyL.tT 8 (by exact HBM.out _ _ _ HS6q.out) ?_
             refine AnyL.tT 9 (by exact HBM.out _ _ _ HS6q.out) ?_
             refine AnyL.tT 10 (by exact HBM.out _ _ _ HS6q.out) ?_
             refine AnyL.tT 11 (by exact HBM.out _ _ _ HS6q.out) ?_
             refine AnyL.done (by kernel_rfl) ?_ _
             obtain ⟨z0, z1, z2⟩ := bw3 HS6q.out.hd
             obtain ⟨c0, c1, c2, _⟩ := bs3 HS6q.out.tl.tl.tl.tl.hd
             have HPS := qd (show prun ns (i + 1) = some (.seq A B :: R) from by have h := HPJ.out; rw [if_pos hc] at h; exact h)
             have HF1 := qd (show scF ns i ++ [(fa2 : Int)] = scF ns (i + 1) from by rw [scF_succ HPS.out]; simp only [Tr.size, HSZ2.out])
             have HI1 := qd (show scI ns i ++ [p1] = scI ns (i + 1) from by rw [scI_succ HPS.out]; simp only [Tr.ty, HA2.out, HB2.out])
             have HO1 := qd (show scO ns i ++ [r2] = scO ns (i + 1) from by rw [scO_succ HPS.out]; simp only [Tr.ty, HA2.out, HB2.out])
             go_upto_region 28 with fail
             clear c0 c1 c2 z0 z1 z2
             have HSE := qd HS6q.out.dr
             have X9 := qd (bs3 HSE.out.tl.tl.tl.tl.hd).1
             have Y9 := qd (HBM.out _ _ _ HSE.out).1.2.1
             refine AnyL.start (fun _ => True) (fun W1 => W1.cell? ⟨w.heap.size + 2, 0, none⟩ = some (.slice (some ⟨fg, 0, none⟩) i fc)) 10 (by kernel_rfl) ?_
             generalize w6q.drew = w8 at *
             refine AnyL.tk 0 (by exact ⟨trivial, fun _ => X9.out⟩) ?_
             refine AnyL.tkA 1 (by exact ⟨trivial, fun _ => X9.out⟩) ?_
             refine AnyL.tk 2 (by exact ⟨trivial, fun _ => X9.out⟩) ?_
             refine AnyL.tkA 3 (by exact ⟨trivial, fun _ => X9.out⟩) ?_
             refine AnyL.tk 4 (by exact ⟨trivial, fun _ => X9.out⟩) ?_
             refine AnyL.tk 5 (by exact ⟨trivial, fun _ => X9.out⟩) ?_
             have y9 := Y9.out
             refine AnyL.step (i := 6) (by kernel_rfl) (by rfl) (fun K hK => ?_)
             go_simp
             refine shutNx hK _ (by exact trivial) (by exact fun _ => X9.out) ?_
             clear hK K
             clear y9
             have X10 := qd fun ob => (bs3 (HSE.out.al ob).tl.tl.tl.tl.hd).1
             refine AnyL.step (i := 7) (by kernel_rfl) (by rfl) (fun K hK => ?_)
             go_simp
             refine shutNx hK _ (by exact trivial) (by exact fun _ => X10.out _) ?_
             clear hK K
             have hq := Sep.blk (A := [_]) (B := [_]) HSE.out
             have HQA := qd hq
             have HLF := qd (show (scF ns i).length ≤ 1000000000 from by rw [scF_len]; omega)
             clear hq
             refine AnyL.step (i := 8) (by kernel_rfl) (by rfl) (fun K hK => ?_)
             refine step_app_intS rfl (.tmp 180) (.tmp 186) rfl rfl rfl HQA.out HLF.out ?_
             intro g8 c8 w9 h8
             rw [scF_len, HF1.out] at h8
             try rw [scF_len]
             have hx := Sep.blk (A := [_, _, _, _]) (B := [_]) (Sep.blk (A := [_]) (B := [_]) h8)
             have HSX := qd hx
             have X11 := qd (bs3 hx.hd).1
             clear hx h8
             refine shutNx hK _ (by exact trivial) (by exact fun _ => X11.out) ?_
             clear hK K
             refine AnyL.tk 9 (by exact ⟨trivial, fun _ => X11.out⟩) ?_
             obtain ⟨d0, d1, d2, f0, f1, f2⟩ := bs3 HSX.out.hd
             have HS5 := qd (Sep.blk (A := [_]) (B := [_, _, _, _]) (HSX.out.setB 0 (.slice (some ⟨g8, 0, none⟩) (i + 1) c8)))
             refine AnyL.step (i := 10) (by kernel_rfl) (by rfl) (fun K hK => ?_)
             go_simp
             refine shutNx hK (w9.setCell ⟨w.heap.size + 2, 0, none⟩ (.slice (some ⟨g8, 0, none⟩) (i + 1) c8)) (by exact trivial) (by exact fun h => noTF (by kernel_rfl) h) ?_
             clear hK K
             refine AnyL.done (by kernel_rfl) ?_ _
             generalize w9.setCell ⟨w.heap.size + 2, 0, none⟩ (.slice (some ⟨g8, 0, none⟩) (i + 1) c8) = v9 at *
             clear d0 d1 d2 f0 f1 f2
             obtain ⟨z0, z1, z2⟩ := bw3 HS5.out.hd
             obtain ⟨c0, c1, c2, _⟩ := bs3 HS5.out.tl.tl.tl.tl.hd
             have hq := Sep.blk (A := [_, _]) (B := [_]) HS5.out
             have HQby := qd hq
             clear hq
             go_upto_region 30 with (
              at_builtin
              go_loud (
              refine app_intS rfl (.tmp 190) (.tmp 192) rfl rfl rfl HQby.out (by rw [scI_len]; omega) ?_
              intro gby cby wby hby
              rw [scI_len, HI1.out] at hby
              try rw [scI_len]
              have hx := Sep.blk (A := [_, _, _, _]) (B := [_]) (Sep.blk (A := [_]) (B := [_, _]) hby)
              obtain ⟨d0, d1, d2, f0, f1, f2⟩ := bs3 hx.hd
              have HS6 := qd (Sep.blk (A := [_]) (B := [_, _, _, _]) (hx.setB 1 (.slice (some ⟨gby, 0, none⟩) (i + 1) cby)))
              clear hby hx z0 z1 z2 c0 c1 c2))
             generalize wby.setCell ⟨w.heap.size + 2, 1, none⟩ (.slice (some ⟨gby, 0, none⟩) (i + 1) cby) = vby at *
             clear d0 d1 d2 f0 f1 f2
             obtain ⟨z0, z1, z2⟩ := bw3 HS6.out.hd
             obtain ⟨c0, c1, c2, _⟩ := bs3 HS6.out.tl.tl.tl.tl.hd
             have hq := Sep.blk (A := [_, _, _]) (B := [_]) HS6.out
             have HQcy := qd hq
             clear hq
             go_wp2_with (
              at_builtin
              go_loud (
              refine app_intS rfl (.tmp 196) (.tmp 198) rfl rfl rfl HQcy.out (by rw [scO_len]; omega) ?_
              intro gcy ccy wcy hcy
              rw [scO_len, HO1.out] at hcy
              try rw [scO_len]
              have hx := Sep.blk (A := [_, _, _, _]) (B := [_]) (Sep.blk (A := [_]) (B := [_, _, _]) hcy)
              obtain ⟨d0, d1, d2, f0, f1, f2⟩ := bs3 hx.hd
              have HS7 := qd (Sep.blk (A := [_]) (B := [_, _, _, _]) (hx.setB 2 (.slice (some ⟨gcy, 0, none⟩) (i + 1) ccy)))
              clear hcy hx z0 z1 z2 c0 c1 c2))
             go_roundw
             case rel => exact ⟨i + 1, _, _, _, _, by omega, by go_num, HPS.out, HS7.out.tl⟩
             case measure => simp [intOf]; omega
            ·have hd1 : (p2 != r1) = true := by simpa using hc
             obtain rfl : b = false := by rw [← HB.out]; exact tmB_no HKE.out HPR.out (by have h := HPJ.out; rw [if_neg (hc), prun_succ HPR.out] at h; exact h)
             clear c0 c1 c2
             obtain ⟨c0, c1, c2, _⟩ := bs3 HS5q.out.tl.tl.tl.tl.hd
             have hz0 := Sep.blk (A := [_, _, _, _, _]) (B := [_]) HS5q.out
             obtain ⟨y0, y1, y2, f0, f1, f2⟩ := bs3 hz0.hd
             have HSZ := qd (((hz0.setB 0 (.slice (some ⟨fg, 0, none⟩) i fc)).setB 1 (.slice (some ⟨ig, 0, none⟩) i ic)).setB 2 (.slice (some ⟨og, 0, none⟩) i oc))
             obtain ⟨u0, u1, u2, _⟩ := bs3 HSZ.out.hd
             have HKF := qd (show w.grownBy _ none from Sep.all HSZ.out (KeepA w) (by simp))
             clear hz0
             go_wp2_with fail
             refine bodyPost_ret_by (v := .tuple #[.agg #[.slice (some ⟨fg, 0, none⟩) i fc, .slice (some ⟨ig, 0, none⟩) i ic, .slice (some ⟨og, 0, none⟩) i oc], .bool false]) ?_ rfl ⟨_, _, _, _, _, _, _, _, _, rfl, (fun h => by cases h), HKF.out⟩
             simp [results, go_sem, *]
           ·have HPJ := qd (show prun ns (i + 1) = if p1 + r1 ≤ 12 ∧ p2 + r2 ≤ 12 then some (.par A B :: R) else none from by
             rw [prun_succ HPR.out, HY.out, pstep_par rfl rfl rfl, HA2.out, HB2.out])
            have e1 : IntKind.i64.wrap (p1 + r1) = p1 + r1 := wrap_id (by omega) (by omega)
            have e2 : IntKind.i64.wrap (p2 + r2) = p2 + r2 := wrap_id (by omega) (by omega)
            go_upto_region 21 with fail
            clear c0 c1 c2 z0 z1 z2
            have HS4 := qd HS3.out.dr
            refine AnyL.start (fun W1 => ((W1.cell? ⟨w.heap.size + 2, 0, none⟩ = some (.slice (some ⟨fg, 0, none⟩) i fc) ∧ W1.cell? ⟨w.heap.size + 2, 1, none⟩ = some (.slice (some ⟨ig, 0, none⟩) i ic) ∧ W1.cell? ⟨w.heap.size + 2, 2, none⟩ = some (.slice (some ⟨og, 0, none⟩) i oc)) ∧ W1.cell? ⟨fg, a1, none⟩ = some (.int .i64 fa2) ∧ W1.cell? ⟨ig, a1, none⟩ = some (.int .i64 p1) ∧ W1.cell? ⟨ig, i1, none⟩ = some (.int .i64 r1)) ∧ W1.cell? ⟨og, a1, none⟩ = some (.int .i64 p2) ∧ W1.cell? ⟨og, i1, none⟩ = some (.int .i64 r2)) (fun _ => True) 99 (by kernel_rfl) ?_
            generalize w3.drew = w4 at *
            refine AnyL.tT 0 (by exact HBM.out _ _ _ HS4.out) ?_
            refine AnyL.tT 1 (by exact HBM.out _ _ _ HS4.out) ?_
            refine AnyL.tT 2 (by exact HBM.out _ _ _ HS4.out) ?_
            refine AnyL.tT 3 (by exact HBM.out _ _ _ HS4.out) ?_
            refine AnyL.tT 4 (by exact HBM.out _ _ _ HS4.out) ?_
            refine AnyL.tT 5 (by exact HBM.out _ _ _ HS4.out) ?_
            refine AnyL.tT 6 (by exact HBM.out _ _ _ HS4.out) ?_
            refine AnyL.tT 7 (by exact HBM.out _ _ _ HS4.out) ?_
            refine AnyL.tT 8 (by exact HBM.out _ _ _ HS4.out) ?_
            refine AnyL.tT 9 (by exact HBM.out _ _ _ HS4.out) ?_
            refine AnyL.tT 10 (by exact HBM.out _ _ _ HS4.out) ?_
            refine AnyL.tT 11 (by exact HBM.out _ _ _ HS4.out) ?_
            refine AnyL.tT 12 (by exact HBM.out _ _ _ HS4.out) ?_
            refine AnyL.tT 13 (by exact HBM.out _ _ _ HS4.out) ?_
            refine AnyL.tT 14 (by exact HBM.out _ _ _ HS4.out) ?_
            refine AnyL.tT 15 (by exact HBM.out _ _ _ HS4.out) ?_
            refine AnyL.tT 16 (by exact HBM.out _ _ _ HS4.out) ?_
            refine AnyL.tT 17 (by exact HBM.out _ _ _ HS4.out) ?_
            refine AnyL.tT 18 (by exact HBM.out _ _ _ HS4.out) ?_
            refine AnyL.tT 19 (by exact HBM.out _ _ _ HS4.out) ?_
            refine AnyL.tT 20 (by exact HBM.out _ _ _ HS4.out) ?_
            refine AnyL.tT 21 (by exact HBM.out _ _ _ HS4.out) ?_
            refine AnyL.tT 22 (by exact HBM.out _ _ _ HS4.out) ?_
            refine AnyL.tT 23 (by exact HBM.out _ _ _ HS4.out) ?_
            refine AnyL.done (by kernel_rfl) ?_ _
            obtain ⟨z0, z1, z2⟩ := bw3 HS4.out.hd
            obtain ⟨c0, c1, c2, _⟩ := bs3 HS4.out.tl.tl.tl.tl.hd
            by_cases hc1 : p1 + r1 > 12
            ·obtain rfl : b = false := by rw [← HB.out]; exact tmB_no HKE.out HPR.out (by have h := HPJ.out; rw [if_neg (fun h => by omega), prun_succ HPR.out] at h; exact h)
             clear c0 c1 c2
             obtain ⟨c0, c1, c2, _⟩ := bs3 HS4.out.tl.tl.tl.tl.hd
             have hz0 := Sep.blk (A := [_, _, _, _, _]) (B := [_]) HS4.out
             obtain ⟨y0, y1, y2, f0, f1, f2⟩ := bs3 hz0.hd
             have HSZ := qd (((hz0.setB 0 (.slice (some ⟨fg, 0, none⟩) i fc)).setB 1 (.slice (some ⟨ig, 0, none⟩) i ic)).setB 2 (.slice (some ⟨og, 0, none⟩) i oc))
             obtain ⟨u0, u1, u2, _⟩ := bs3 HSZ.out.hd
             have HKF := qd (show w.grownBy _ none from Sep.all HSZ.out (KeepA w) (by simp))
             clear hz0
             go_wp2_with fail
             refine bodyPost_ret_by (v := .tuple #[.agg #[.slice (some ⟨fg, 0, none⟩) i fc, .slice (some ⟨ig, 0, none⟩) i ic, .slice (some ⟨og, 0, none⟩) i oc], .bool false]) ?_ rfl ⟨_, _, _, _, _, _, _, _, _, rfl, (fun h => by cases h), HKF.out⟩
             simp [results, go_sem, *]
            ·by_cases hc2 : p2 + r2 > 12
             ·obtain rfl : b = false := by rw [← HB.out]; exact tmB_no HKE.out HPR.out (by have h := HPJ.out; rw [if_neg (fun h => by omega), prun_succ HPR.out] at h; exact h)
              clear c0 c1 c2
              obtain ⟨c0, c1, c2, _⟩ := bs3 HS4.out.tl.tl.tl.tl.hd
              have hz0 := Sep.blk (A := [_, _, _, _, _]) (B := [_]) HS4.out
              obtain ⟨y0, y1, y2, f0, f1, f2⟩ := bs3 hz0.hd
              have HSZ := qd (((hz0.setB 0 (.slice (some ⟨fg, 0, none⟩) i fc)).setB 1 (.slice (some ⟨ig, 0, none⟩) i ic)).setB 2 (.slice (some ⟨og, 0, none⟩) i oc))
              obtain ⟨u0, u1, u2, _⟩ := bs3 HSZ.out.hd
              have HKF := qd (show w.grownBy _ none from Sep.all HSZ.out (KeepA w) (by simp))
              clear hz0
              go_wp2_with fail
              refine bodyPost_ret_by (v := .tuple #[.agg #[.slice (some ⟨fg, 0, none⟩) i fc, .slice (some ⟨ig, 0, none⟩) i ic, .slice (some ⟨og, 0, none⟩) i oc], .bool false]) ?_ rfl ⟨_, _, _, _, _, _, _, _, _, rfl, (fun h => by cases h), HKF.out⟩
              simp [results, go_sem, *]
             ·have hc : p1 + r1 ≤ 12 ∧ p2 + r2 ≤ 12 := by omega
              have HPS := qd (show prun ns (i + 1) = some (.par A B :: R) from by have h := HPJ.out; rw [if_pos hc] at h; exact h)
              have HF1 := qd (show scF ns i ++ [(fa2 : Int)] = scF ns (i + 1) from by rw [scF_succ HPS.out]; simp only [Tr.size, HSZ2.out])
              have HI1 := qd (show scI ns i ++ [(p1 + r1)] = scI ns (i + 1) from by rw [scI_succ HPS.out]; simp only [Tr.ty, HA2.out, HB2.out])
              have HO1 := qd (show scO ns i ++ [(p2 + r2)] = scO ns (i + 1) from by rw [scO_succ HPS.out]; simp only [Tr.ty, HA2.out, HB2.out])
              go_upto_region 28 with fail
              clear c0 c1 c2 z0 z1 z2
              have HSE := qd HS4.out.dr
              have X9 := qd (bs3 HSE.out.tl.tl.tl.tl.hd).1
              have Y9 := qd (HBM.out _ _ _ HSE.out).1.2.1
              refine AnyL.start (fun _ => True) (fun W1 => W1.cell? ⟨w.heap.size + 2, 0, none⟩ = some (.slice (some ⟨fg, 0, none⟩) i fc)) 10 (by kernel_rfl) ?_
              generalize w4.drew = w8 at *
              refine AnyL.tk 0 (by exact ⟨trivial, fun _ => X9.out⟩) ?_
              refine AnyL.tkA 1 (by exact ⟨trivial, fun _ => X9.out⟩) ?_
              refine AnyL.tk 2 (by exact ⟨trivial, fun _ => X9.out⟩) ?_
              refine AnyL.tkA 3 (by exact ⟨trivial, fun _ => X9.out⟩) ?_
              refine AnyL.tk 4 (by exact ⟨trivial, fun _ => X9.out⟩) ?_
              refine AnyL.tk 5 (by exact ⟨trivial, fun _ => X9.out⟩) ?_
              have y9 := Y9.out
              refine AnyL.step (i := 6) (by kernel_rfl) (by rfl) (fun K hK => ?_)
              go_simp
              refine shutNx hK _ (by exact trivial) (by exact fun _ => X9.out) ?_
              clear hK K
              clear y9
              have X10 := qd fun ob => (bs3 (HSE.out.al ob).tl.tl.tl.tl.hd).1
              refine AnyL.step (i := 7) (by kernel_rfl) (by rfl) (fun K hK => ?_)
              go_simp
              refine shutNx hK _ (by exact trivial) (by exact fun _ => X10.out _) ?_
              clear hK K
              have hq := Sep.blk (A := [_]) (B := [_]) HSE.out
              have HQA := qd hq
              have HLF := qd (show (scF ns i).length ≤ 1000000000 from by rw [scF_len]; omega)
              clear hq
              refine AnyL.step (i := 8) (by kernel_rfl) (by rfl) (fun K hK => ?_)
              refine step_app_intS rfl (.tmp 180) (.tmp 186) rfl rfl rfl HQA.out HLF.out ?_
              intro g8 c8 w9 h8
              rw [scF_len, HF1.out] at h8
              try rw [scF_len]
              have hx := Sep.blk (A := [_, _, _, _]) (B := [_]) (Sep.blk (A := [_]) (B := [_]) h8)
              have HSX := qd hx
              have X11 := qd (bs3 hx.hd).1
              clear hx h8
              refine shutNx hK _ (by exact trivial) (by exact fun _ => X11.out) ?_
              clear hK K
              refine AnyL.tk 9 (by exact ⟨trivial, fun _ => X11.out⟩) ?_
              obtain ⟨d0, d1, d2, f0, f1, f2⟩ := bs3 HSX.out.hd
              have HS5 := qd (Sep.blk (A := [_]) (B := [_, _, _, _]) (HSX.out.setB 0 (.slice (some ⟨g8, 0, none⟩) (i + 1) c8)))
              refine AnyL.step (i := 10) (by kernel_rfl) (by rfl) (fun K hK => ?_)
              go_simp
              refine shutNx hK (w9.setCell ⟨w.heap.size + 2, 0, none⟩ (.slice (some ⟨g8, 0, none⟩) (i + 1) c8)) (by exact trivial) (by exact fun h => noTF (by kernel_rfl) h) ?_
              clear hK K
              refine AnyL.done (by kernel_rfl) ?_ _
              generalize w9.setCell ⟨w.heap.size + 2, 0, none⟩ (.slice (some ⟨g8, 0, none⟩) (i + 1) c8) = v9 at *
              clear d0 d1 d2 f0 f1 f2
              obtain ⟨z0, z1, z2⟩ := bw3 HS5.out.hd
              obtain ⟨c0, c1, c2, _⟩ := bs3 HS5.out.tl.tl.tl.tl.hd
              have hq := Sep.blk (A := [_, _]) (B := [_]) HS5.out
              have HQby := qd hq
              clear hq
              go_upto_region 30 with (
               at_builtin
               go_loud (
               refine app_intS rfl (.tmp 190) (.tmp 192) rfl rfl rfl HQby.out (by rw [scI_len]; omega) ?_
               intro gby cby wby hby
               rw [scI_len, HI1.out] at hby
               try rw [scI_len]
               have hx := Sep.blk (A := [_, _, _, _]) (B := [_]) (Sep.blk (A := [_]) (B := [_, _]) hby)
               obtain ⟨d0, d1, d2, f0, f1, f2⟩ := bs3 hx.hd
               have HS6 := qd (Sep.blk (A := [_]) (B := [_, _, _, _]) (hx.setB 1 (.slice (some ⟨gby, 0, none⟩) (i + 1) cby)))
               clear hby hx z0 z1 z2 c0 c1 c2))
              generalize wby.setCell ⟨w.heap.size + 2, 1, none⟩ (.slice (some ⟨gby, 0, none⟩) (i + 1) cby) = vby at *
              clear d0 d1 d2 f0 f1 f2
              obtain ⟨z0, z1, z2⟩ := bw3 HS6.out.hd
              obtain ⟨c0, c1, c2, _⟩ := bs3 HS6.out.tl.tl.tl.tl.hd
              have hq := Sep.blk (A := [_, _, _]) (B := [_]) HS6.out
              have HQcy := qd hq
              clear hq
              go_wp2_with (
               at_builtin
               go_loud (
               refine app_intS rfl (.tmp 196) (.tmp 198) rfl rfl rfl HQcy.out (by rw [scO_len]; omega) ?_
               intro gcy ccy wcy hcy
               rw [scO_len, HO1.out] at hcy
               try rw [scO_len]
               have hx := Sep.blk (A := [_, _, _, _]) (B := [_]) (Sep.blk (A := [_]) (B := [_, _, _]) hcy)
               obtain ⟨d0, d1, d2, f0, f1, f2⟩ := bs3 hx.hd
               have HS7 := qd (Sep.blk (A := [_]) (B := [_, _, _, _]) (hx.setB 2 (.slice (some ⟨gcy, 0, none⟩) (i + 1) ccy)))
               clear hcy hx z0 z1 z2 c0 c1 c2))
              go_roundw
              case rel => exact ⟨i + 1, _, _, _, _, by omega, by go_num, HPS.out, HS7.out.tl⟩
              case measure => simp [intOf]; omega
        ·have hv1 : (v != 0) = true := by simpa using hv
         obtain rfl : b = false := by rw [← HB.out]; exact tmB_no HKE.out HPR.out (by rw [HY.out]; exact pstep_no hop (Or.inl hv))
         clear hv
         obtain ⟨c0, c1, c2, _⟩ := bs3 HS3.out.tl.tl.tl.tl.hd
         have hz0 := Sep.blk (A := [_, _, _, _, _]) (B := [_]) HS3.out
         obtain ⟨y0, y1, y2, f0, f1, f2⟩ := bs3 hz0.hd
         have HSZ := qd (((hz0.setB 0 (.slice fa i fc)).setB 1 (.slice ia i ic)).setB 2 (.slice oa i oc))
         obtain ⟨u0, u1, u2, _⟩ := bs3 HSZ.out.hd
         have HKF := qd (show w.grownBy _ none from Sep.all HSZ.out (KeepA w) (by simp))
         clear hz0
         rcases hop with rfl | rfl
         ·go_wp2_with fail
          refine bodyPost_ret_by (v := .tuple #[.agg #[.slice fa i fc, .slice ia i ic, .slice oa i oc], .bool false]) ?_ rfl ⟨_, _, _, _, _, _, _, _, _, rfl, (fun h => by cases h), HKF.out⟩
          simp [results, go_sem, *]
         ·go_wp2_with fail
          refine bodyPost_ret_by (v := .tuple #[.agg #[.slice fa i fc, .slice ia i ic, .slice oa i oc], .bool false]) ?_ rfl ⟨_, _, _, _, _, _, _, _, _, rfl, (fun h => by cases h), HKF.out⟩
          simp [results, go_sem, *]
       ·have hs1 := ba_ne hs
        obtain rfl : b = false := by rw [← HB.out]; exact tmB_no HKE.out HPR.out (by rw [HY.out]; exact pstep_no hop (Or.inr (Or.inl hs)))
        clear hs
        obtain ⟨c0, c1, c2, _⟩ := bs3 HS3.out.tl.tl.tl.tl.hd
        have hz0 := Sep.blk (A := [_, _, _, _, _]) (B := [_]) HS3.out
        obtain ⟨y0, y1, y2, f0, f1, f2⟩ := bs3 hz0.hd
        have HSZ := qd (((hz0.setB 0 (.slice fa i fc)).setB 1 (.slice ia i ic)).setB 2 (.slice oa i oc))
        obtain ⟨u0, u1, u2, _⟩ := bs3 HSZ.out.hd
        have HKF := qd (show w.grownBy _ none from Sep.all HSZ.out (KeepA w) (by simp))
        clear hz0
        rcases hop with rfl | rfl
        ·go_wp2_with fail
         refine bodyPost_ret_by (v := .tuple #[.agg #[.slice fa i fc, .slice ia i ic, .slice oa i oc], .bool false]) ?_ rfl ⟨_, _, _, _, _, _, _, _, _, rfl, (fun h => by cases h), HKF.out⟩
         simp [results, go_sem, *]
        ·go_wp2_with fail
         refine bodyPost_ret_by (v := .tuple #[.agg #[.slice fa i fc, .slice ia i ic, .slice oa i oc], .bool false]) ?_ rfl ⟨_, _, _, _, _, _, _, _, _, rfl, (fun h => by cases h), HKF.out⟩
         simp [results, go_sem, *]
      ·obtain rfl : b = false := by rw [← HB.out]; exact tmB_no HKE.out HPR.out (by rw [HY.out, pstep_leaf hop, if_neg (by rw [hb]; simp)])
       have h15 : (k != 15) = true := by simp; omega
       have h16 : (k != 16) = true := by simp; omega
       clear hb hop h17
       go_wp2_with (
        go_at_call 119
        with_reducible refine (HL.out _).mono ?_
        rintro e w3 ⟨rfl, hg⟩
        have HS3 := qd (HS2.out.grown hg)
        clear hg z0 z1 z2 q0 q1 q2
        obtain ⟨z0, z1, z2⟩ := bw3 HS3.out.hd
        obtain ⟨c0, c1, c2, _⟩ := bs3 HS3.out.tl.tl.tl.tl.hd
        have hz0 := Sep.blk (A := [_, _, _, _, _]) (B := [_]) HS3.out
        obtain ⟨y0, y1, y2, f0, f1, f2⟩ := bs3 hz0.hd
        have HSZ := qd (((hz0.setB 0 (.slice fa i fc)).setB 1 (.slice ia i ic)).setB 2 (.slice oa i oc))
        obtain ⟨u0, u1, u2, _⟩ := bs3 HSZ.out.hd
        have HKF := qd (show w.grownBy _ none from Sep.all HSZ.out (KeepA w) (by simp))
        clear hz0)
       refine bodyPost_ret_by (v := .tuple #[.agg #[.slice fa i fc, .slice ia i ic, .slice oa i oc], .bool false]) ?_ rfl ⟨_, _, _, _, _, _, _, _, _, rfl, (fun h => by cases h), HKF.out⟩
       simp [results, go_sem, *]
    ·rw [hb] at HL
     have HA := qd fun W => HAW.out k v s W hb
     obtain ⟨hop, hn17⟩ := lf_kind hb
     simp only at hop hn17
     have HPS := qd (show prun ns (i + 1) = some (.leaf ⟨k, v, s⟩ :: S) from by
      rw [prun_succ HPR.out, HY.out, pstep_leaf hop, if_pos hb])
     have hk17 : (k == 17) = false := by simpa using hn17
     clear hop hn17
     have HF1 := qd (show scF ns i ++ [(i : Int)] = scF ns (i + 1) from by rw [scF_succ HPS.out]; simp [Tr.size])
     obtain ⟨p1, hp1⟩ : ∃ x, (lfTy ⟨k, v, s⟩).1 = x := ⟨_, rfl⟩
     obtain ⟨p2, hp2⟩ : ∃ x, (lfTy ⟨k, v, s⟩).2 = x := ⟨_, rfl⟩
     rw [hp1, hp2] at HA
     have HI1 := qd (show scI ns i ++ [p1] = scI ns (i + 1) from by rw [scI_succ HPS.out, ← hp1]; rfl)
     have HO1 := qd (show scO ns i ++ [p2] = scO ns (i + 1) from by rw [scO_succ HPS.out, ← hp2]; rfl)
     clear HAW HAN HFN hb hp1 hp2
     go_upto_region 14 with (first
      |(go_at_call 119
        with_reducible refine (HL.out _).mono ?_
        rintro e w3 ⟨rfl, hg⟩
        have HS3 := qd (HS2.out.grown hg)
        clear hg z0 z1 z2 q0 q1 q2
        obtain ⟨z0, z1, z2⟩ := bw3 HS3.out.hd)
      |(go_at_call 153
        with_reducible refine (HA.out _).mono ?_
        rintro e w4 ⟨rfl, hg⟩
        have HS4 := qd (HS3.out.grown hg)
        clear hg z0 z1 z2
        obtain ⟨z0, z1, z2⟩ := bw3 HS4.out.hd
        obtain ⟨c0, c1, c2, _⟩ := bs3 HS4.out.tl.tl.tl.tl.hd))
     have hq := Sep.blk (A := [_]) (B := [_]) HS4.out
     have HQax := qd hq
     clear hq
     go_upto_region 15 with (
      at_builtin
      go_loud (
      refine app_intS rfl (.tmp 68) (.tmp 70) rfl rfl rfl HQax.out (by rw [scF_len]; omega) ?_
      intro gax cax wax hax
      rw [scF_len, HF1.out] at hax
      try rw [scF_len]
      have hx := Sep.blk (A := [_, _, _, _]) (B := [_]) (Sep.blk (A := [_]) (B := [_]) hax)
      obtain ⟨d0, d1, d2, f0, f1, f2⟩ := bs3 hx.hd
      have HS5 := qd (Sep.blk (A := [_]) (B := [_, _, _, _]) (hx.setB 0 (.slice (some ⟨gax, 0, none⟩) (i + 1) cax)))
      clear hax hx z0 z1 z2 c0 c1 c2))
     generalize wax.setCell ⟨w.heap.size + 2, 0, none⟩ (.slice (some ⟨gax, 0, none⟩) (i + 1) cax) = vax at *
     clear d0 d1 d2 f0 f1 f2
     obtain ⟨z0, z1, z2⟩ := bw3 HS5.out.hd
     obtain ⟨c0, c1, c2, _⟩ := bs3 HS5.out.tl.tl.tl.tl.hd
     have hq := Sep.blk (A := [_, _]) (B := [_]) HS5.out
     have HQbx := qd hq
     clear hq
     go_upto_region 16 with (
      at_builtin
      go_loud (
      refine app_intS rfl (.tmp 74) (.tmp 76) rfl rfl rfl HQbx.out (by rw [scI_len]; omega) ?_
      intro gbx cbx wbx hbx
      rw [scI_len, HI1.out] at hbx
      try rw [scI_len]
      have hx := Sep.blk (A := [_, _, _, _]) (B := [_]) (Sep.blk (A := [_]) (B := [_, _]) hbx)
      obtain ⟨d0, d1, d2, f0, f1, f2⟩ := bs3 hx.hd
      have HS6 := qd (Sep.blk (A := [_]) (B := [_, _, _, _]) (hx.setB 1 (.slice (some ⟨gbx, 0, none⟩) (i + 1) cbx)))
      clear hbx hx z0 z1 z2 c0 c1 c2))
     generalize wbx.setCell ⟨w.heap.size + 2, 1, none⟩ (.slice (some ⟨gbx, 0, none⟩) (i + 1) cbx) = vbx at *
     clear d0 d1 d2 f0 f1 f2
     obtain ⟨z0, z1, z2⟩ := bw3 HS6.out.hd
     obtain ⟨c0, c1, c2, _⟩ := bs3 HS6.out.tl.tl.tl.tl.hd
     have hq := Sep.blk (A := [_, _, _]) (B := [_]) HS6.out
     have HQcx := qd hq
     clear hq
     go_wp2_with (
      at_builtin
      go_loud (
      refine app_intS rfl (.tmp 80) (.tmp 82) rfl rfl rfl HQcx.out (by rw [scO_len]; omega) ?_
      intro gcx ccx wcx hcx
      rw [scO_len, HO1.out] at hcx
      try rw [scO_len]
      have hx := Sep.blk (A := [_, _, _, _]) (B := [_]) (Sep.blk (A := [_]) (B := [_, _, _]) hcx)
      obtain ⟨d0, d1, d2, f0, f1, f2⟩ := bs3 hx.hd
      have HS7 := qd (Sep.blk (A := [_]) (B := [_, _, _, _]) (hx.setB 2 (.slice (some ⟨gcx, 0, none⟩) (i + 1) ccx)))
      clear hcx hx z0 z1 z2 c0 c1 c2))
     go_roundw
     case rel => exact ⟨i + 1, _, _, _, _, by omega, by go_num, HPS.out, HS7.out.tl⟩
     case measure => simp [intOf]; omega
   ·have hin : n = i := by omega
    subst hin
    have hkk : ¬ (n : Int) < (n : Int) := by omega
    obtain ⟨T, R, rfl⟩ := prun_cons HPR.out (by omega)
    have hfm := tm_from (by rw [HNL.out]; exact hr1) (by rw [HNL.out]; exact hr2) (by rw [HNL.out]; exact HPR.out)
    rw [HB.out, HNL.out] at hfm
    obtain ⟨n1, hn1⟩ : ∃ x, x + 1 = n := ⟨n - 1, by omega⟩
    have HFv := qd (show (scF ns n).getD n1 0 = ((n - T.size : Nat) : Int) from by rw [scF_at (by omega), topA_eq (R := R) (by rw [hn1]; exact HPR.out), hn1])
    obtain ⟨x, hx⟩ : ∃ x, n - T.size = x := ⟨_, rfl⟩
    rw [hx] at hfm HFv
    clear hx
    have hwi : IntKind.i64.wrap ((n : Int) - 1) = (n1 : Int) := by rw [wrap_id (by omega) (by omega)]; omega
    have hbi : (n1 : Int) < (n : Int) := by omega
    have HN1 := qd (show n1 < n from by omega)
    obtain ⟨fg, hfg⟩ := own_someT (show OwnInts 0 _ (.slice fa n fc) (scF ns n) from HSQ.out.hd) (by rw [scF_len]; omega)
    subst hfg
    clear hn1
    have x0 := bs1 HSQ.out.tl.tl.tl.tl.tl.hd
    go_upto_region 32 with fail
    clear x0
    have HSD := qd HSQ.out.dr
    have HBM := qd fun (W1 : World) (L : List Asrt) (h : Sep W1 L) (h1 : OI (.slice (some ⟨fg, 0, none⟩) n fc) (scF ns n) ∈ L) (h2 : BxA (w.heap.size + 2) #[.slice (some ⟨fg, 0, none⟩) n fc, .slice ia n ic, .slice oa n oc] 162 ∈ L) (h3 : BxA w.heap.size #[.slice na n nc] 44 ∈ L) => show ((W1.cell? ⟨w.heap.size + 2, 0, none⟩ = some (.slice (some ⟨fg, 0, none⟩) n fc) ∧ W1.cell? ⟨w.heap.size + 2, 1, none⟩ = some (.slice ia n ic) ∧ W1.cell? ⟨w.heap.size + 2, 2, none⟩ = some (.slice oa n oc)) ∧ W1.cell? ⟨w.heap.size, 0, none⟩ = some (.slice na n nc) ∧ W1.cell? ⟨fg, n1, none⟩ = some (.int .i64 (x : Int))) from by
     obtain ⟨m0, m1, m2, _⟩ := bs3 (show W1.heap[w.heap.size + 2]? = some (.cells #[.slice (some ⟨fg, 0, none⟩) n fc, .slice ia n ic, .slice oa n oc] 162 (0, 0)) from Sep.all h _ h2)
     have n0 := bs1 (show W1.heap[w.heap.size]? = some (.cells #[.slice na n nc] 44 (0, 0)) from Sep.all h _ h3)
     have n1_ := own_atT (show OwnInts 0 W1 _ (scF ns n) from Sep.all h _ h1) (scF_len ns n).symm HN1.out
     rw [HFv.out] at n1_
     exact ⟨⟨m0, m1, m2⟩, n0, n1_⟩
    have X0 := qd (HBM.out _ _ HSD.out (by simp) (by simp) (by simp))
    refine AnyL.start (fun W1 => ((W1.cell? ⟨w.heap.size + 2, 0, none⟩ = some (.slice (some ⟨fg, 0, none⟩) n fc) ∧ W1.cell? ⟨w.heap.size + 2, 1, none⟩ = some (.slice ia n ic) ∧ W1.cell? ⟨w.heap.size + 2, 2, none⟩ = some (.slice oa n oc)) ∧ W1.cell? ⟨w.heap.size, 0, none⟩ = some (.slice na n nc) ∧ W1.cell? ⟨fg, n1, none⟩ = some (.int .i64 (x : Int)))) (fun _ => True) 99 (by kernel_rfl) ?_
    generalize wr.drew = w8 at *
    refine AnyL.tT 0 (by exact X0.out) ?_
    refine AnyL.tT 1 (by exact X0.out) ?_
    refine AnyL.tT 2 (by exact X0.out) ?_
    refine AnyL.tT 3 (by exact X0.out) ?_
    refine AnyL.tT 4 (by exact X0.out) ?_
    refine AnyL.tT 5 (by exact X0.out) ?_
    refine AnyL.tT 6 (by exact X0.out) ?_
    refine AnyL.tT 7 (by exact X0.out) ?_
    refine AnyL.tT 8 (by exact X0.out) ?_
    refine AnyL.tT 9 (by exact X0.out) ?_
    have hz0 := Sep.blk (A := [_, _, _, _]) (B := [_]) HSD.out
    obtain ⟨y0, y1, y2, f0, f1, f2⟩ := bs3 hz0.hd
    have HSZ := qd (((hz0.setB 0 (.slice (some ⟨fg, 0, none⟩) n fc)).setB 1 (.slice ia n ic)).setB 2 (.slice oa n oc))
    clear hz0
    refine AnyL.step (i := 10) (by kernel_rfl) (by rfl) (fun K hK => ?_)
    go_simp
    refine shutNx hK (((w8.setCell ⟨w.heap.size + 1, 0, none⟩ (.slice (some ⟨fg, 0, none⟩) n fc)).setCell ⟨w.heap.size + 1, 1, none⟩ (.slice ia n ic)).setCell ⟨w.heap.size + 1, 2, none⟩ (.slice oa n oc)) (by exact HBM.out _ _ HSZ.out (by simp) (by simp) (by simp)) (by exact fun _ => trivial) ?_
    clear hK K
    refine AnyL.tT 11 (by exact HBM.out _ _ HSZ.out (by simp) (by simp) (by simp)) ?_
    refine AnyL.done (by kernel_rfl) ?_ _
    generalize (((w8.setCell ⟨w.heap.size + 1, 0, none⟩ (.slice (some ⟨fg, 0, none⟩) n fc)).setCell ⟨w.heap.size + 1, 1, none⟩ (.slice ia n ic)).setCell ⟨w.heap.size + 1, 2, none⟩ (.slice oa n oc)) = w9 at *
    clear y0 y1 y2 f0 f1 f2
    obtain ⟨u0, u1, u2, _⟩ := bs3 HSZ.out.hd
    have HKF := qd (show w.grownBy _ none from Sep.all HSZ.out (KeepA w) (by simp))
    have HR := qd (show Sep w9 [OI (.slice (some ⟨fg, 0, none⟩) n fc) (scF ns ns.length), OI (.slice ia n ic) (scI ns ns.length), OI (.slice oa n oc) (scO ns ns.length), KeepA w] from by
     rw [HNL.out]
     exact Sep.cutA (X := [_, _, _]) (A := [_, _]) HSZ.out.tl)
    go_wp2_with fail
    refine bodyPost_ret_by (v := .tuple #[.agg #[.slice (some ⟨fg, 0, none⟩) n fc, .slice ia n ic, .slice oa n oc], .bool b]) ?_ rfl ⟨_, _, _, _, _, _, _, _, _, rfl, (fun _ => HR.out), HKF.out⟩
    simp [results, go_sem, *]
 ·obtain rfl : b = false := by rw [← HB.out]; exact tmB_len (fun h => hr (by rw [HNL.out] at h; omega))
  rw [decide_eq_false hr] at HWI
  clear c0 c1 c2
  obtain ⟨c0, c1, c2, _⟩ := bs3 HS0.out.hd
  obtain ⟨y0, y1, y2, f0, f1, f2⟩ := bs3 HS0.out.tl.hd
  have HKF := qd (show w.grownBy _ none from HS0.out.tl.tl.tl.hd)
  go_enter Tryz.func145, Tryz.ntmps145
  go_wp2_with (go_at_call 91; with_reducible refine (HWI.out _).mono ?_; rintro e w3 ⟨rfl, rfl⟩)
  refine bodyPost_ret_by (v := .tuple #[.agg #[.slice none 0 0, .slice none 0 0, .slice none 0 0], .bool false]) ?_ rfl ⟨_, _, _, _, _, _, _, _, _, rfl, (fun h => by cases h), HKF.out⟩
  simp [results, go_sem, *]
end Go.Proofs.YtjagjhchnpmngaaGreat

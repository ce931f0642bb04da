/-
 Graphs marked and held. Conditions: lengths are small.
-/
import Derived.Test.YtjagjhchnpmngaaGreatCz04
import Derived.Test.YtjagjhchnpmngaaGreatCz02
import Derived.Test.YtjagjhchnpmngaaGreatCz00
import Derived.Test.YtjagjhchnpmngaaGreatCz05
import Derived.Test.YtjagjhchnpmngaaGreatCz01
import Derived.WalkKit
import Derived.ProofKit
import Derived.OpenShut
import Derived.ChangeOld
import Derived.OpenVars
import Derived.Deep.Slices
import Derived.Lib.SmallJoins
import Derived.Test.YtjagjhchnpmngaaGreatCz03
import Derived.Test.YtjagjhchnpmngaaGreatRows
import Derived.ShutString
import Derived.Below
import Derived.Deep.DeepHandedRow
import Derived.Lib.LaidTab
set_option linter.unusedVariables false
set_option linter.unusedSimpArgs false
set_option maxRecDepth 100000
namespace Go.Proofs.YtjagjhchnpmngaaGreat
open Go.RowKit
def mkE (k : Int) (e : Ed) : Ed := ⟨k, k + 1, cntI (k + 2) e.i.length, cntI (k + 2 + e.i.length) e.o.length⟩
def wE (e : Ed) : Nat := 2 + e.i.length + e.o.length
def wEs : List Ed → Nat
 | [] => 0
 | e :: es => wE e + wEs es
def mkX (k : Int) (x : XE) : XE := ⟨mkE k x.ed, x.iv, x.ov⟩
def mkXs (k : Int) : List XE → List XE
 | [] => []
 | x :: xs => mkX k x :: mkXs (k + wE x.ed) xs
def mkEs (k : Int) : List Ed → List Ed
 | [] => []
 | e :: es => mkE k e :: mkEs (k + wE e) es
theorem wEs_tot (es : List Ed) : wEs es = 2 * es.length + totEs es := by
 induction es with
 | nil => rfl
 | cons e es ih => simp only [wEs, wE, totEs, totE, List.length_cons, ih]; omega
theorem wEs_take (es : List Ed) (k : Nat) (hk : k < es.length) : wEs (es.take (k + 1)) = wEs (es.take k) + wE (es.getD k e0) := by
 induction es generalizing k with
 | nil => simp at hk
 | cons e es ih =>
  cases k with
  | zero => simp [wEs]
  | succ k =>
   have := ih k (by simpa using hk)
   simp only [List.take_succ_cons, wEs, List.getD_cons_succ]
   omega
theorem wEs_le (es : List Ed) (k : Nat) : wEs (es.take k) ≤ wEs es := by
 induction es generalizing k with
 | nil => simp
 | cons e es ih =>
  cases k with
  | zero => simp [wEs]
  | succ k =>
   have := ih k
   simp only [List.take_succ_cons, wEs]
   omega
theorem wEs_app (A B : List Ed) : wEs (A ++ B) = wEs A + wEs B := by
 induction A with
 | nil => simp [wEs]
 | cons a A ih => simp only [List.cons_append, wEs, ih]; omega
theorem mkXs_len (k : Int) (xs : List XE) : (mkXs k xs).length = xs.length := by
 induction xs generalizing k with
 | nil => rfl
 | cons x xs ih => simp only [mkXs, List.length_cons, ih]
theorem mkEs_len (k : Int) (es : List Ed) : (mkEs k es).length = es.length := by
 induction es generalizing k with
 | nil => rfl
 | cons x xs ih => simp only [mkEs, List.length_cons, ih]
theorem eds_mk (k : Int) (xs : List XE) : eds (mkXs k xs) = mkEs k (eds xs) := by
 induction xs generalizing k with
 | nil => rfl
 | cons x xs ih =>
  show (mkX k x).ed :: eds (mkXs (k + wE x.ed) xs) = _
  rw [ih]
  rfl
theorem mkXs_snoc (k : Int) (A : List XE) (x : XE) : mkXs k (A ++ [x]) = mkXs k A ++ [mkX (k + wEs (eds A)) x] := by
 induction A generalizing k with
 | nil => simp [mkXs, eds, wEs]
 | cons a A ih =>
  show mkX k a :: mkXs (k + wE a.ed) (A ++ [x]) = _
  rw [ih]
  show _ = mkX k a :: (mkXs (k + wE a.ed) A ++ [mkX (k + ((wE a.ed + wEs (eds A) : Nat) : Int)) x])
  rw [show k + ((wE a.ed + wEs (eds A) : Nat) : Int) = k + (wE a.ed : Int) + (wEs (eds A) : Int) by omega]
theorem mkEs_at (k : Int) (es : List Ed) (j : Nat) (hj : j < es.length) : (mkEs k es).getD j e0 = mkE (k + wEs (es.take j)) (es.getD j e0) := by
 induction es generalizing k j with
 | nil => simp at hj
 | cons e es ih =>
  cases j with
  | zero => simp [mkEs, wEs]
  | succ j =>
   show (mkEs (k + wE e) es).getD j e0 = _
   rw [ih (k + wE e) j (by simpa using hj)]
   simp only [List.take_succ_cons, wEs, List.getD_cons_succ]
   rw [show k + ((wE e + wEs (es.take j) : Nat) : Int) = k + (wE e : Int) + (wEs (es.take j) : Int) by omega]
theorem rowsE_cons (x : XE) (xs : List XE) : rowsE (x :: xs) = OI x.iv x.ed.i :: OI x.ov x.ed.o :: rowsE xs := by simp [rowsE]
set_option maxHeartbeats 4000000 in
theorem markEdgeS_any (a : Option Addr) (n c : Nat) (xs : List XE) (k : Int) (w : World) (l : List Asrt) (hs : Sep w (OE (.slice a n c) xs :: l)) (hn : n = xs.length) (hl : wEs (eds xs) ≤ 4000000) (hlt2 : totEs (eds xs) ≤ 2000000) (h0 : 0 ≤ k) (h1 : k ≤ 50000000) :
 Calls Tryz.prog 46 #[.slice a n c, .int .i64 k] w fun e w' => e = .returned (.int .i64 (k + wEs (eds xs))) ∧ Sep w' (OE (.slice a n c) (mkXs k xs) :: l) := by
 have HS := qd hs.outBag; have HL := qd hn.symm
 have hn2 : n ≤ 2000000 := by have := wEs_tot (eds xs); rw [eds_len] at this; omega
 clear hs hn
 go_enter Tryz.func46, Tryz.ntmps46
 go_wp2
 go_loopw [1, 5] (fun kv i wr => ∃ (j : Nat) (A R : List XE) (q : Int), j ≤ n ∧ i = .int .i64 j ∧ xs = A ++ R ∧ A.length = j ∧ kv = .int .i64 q ∧ q = k + wEs (eds A) ∧ Sep wr (OR edgeE (.slice a n c) (mkXs k A ++ R) :: Bag (rowsE (mkXs k A)) :: Bag (rowsE R) :: l)) (fun _ i _ => n - (intOf i).toNat)
 case atStart => exact ⟨0, [], xs, k, by omega, rfl, rfl, rfl, rfl, by simp [eds, wEs], by simpa [mkXs, rowsE] using HS.out.noBag.s2⟩
 case round =>
  obtain ⟨j, A, R, q, hj, rfl, hx, hA, rfl, hq, hs⟩ := hrel
  have HQ := qd hq
  have HSX := qd hs; have HX := qd hx; have HA := qd hA
  have hwl : wEs (eds A) + wEs (eds R) = wEs (eds xs) := by rw [hx]; unfold eds; rw [List.map_append, wEs_app]
  clear hs hx hA HS
  by_cases hlt : j < n
  ·have hRl : 0 < R.length := by
    have h1 := HL.out
    rw [HX.out, List.length_append, HA.out] at h1
    omega
   obtain ⟨x, R', rfl⟩ : ∃ x R', R = x :: R' := by
    cases R with
    | nil => simp at hRl
    | cons x R' => exact ⟨x, R', rfl⟩
   have hll : n = (mkXs k A ++ x :: R').length := by
    have h1 := HL.out
    rw [HX.out, List.length_append] at h1
    rw [List.length_append, mkXs_len]
    omega
   have hjl : j < (mkXs k A ++ x :: R').length := by rw [← hll]; exact hlt
   have hget : (mkXs k A ++ x :: R').getD j xe0 = x := by
    rw [List.getD_eq_getElem?_getD, List.getElem?_append_right (by rw [mkXs_len, HA.out]; exact Nat.le_refl _), mkXs_len, HA.out, Nat.sub_self]
    rfl
   obtain ⟨g, cap, he, _, _, _⟩ := OwnR.parts (show OwnR edgeE 0 wr (.slice a n c) (mkXs k A ++ x :: R') from HSX.out.hd) (by omega)
   rw [← hll] at he
   cases he
   have hgE : (mkXs k A ++ x :: R')[j] = x := by
    rw [List.getD_eq_getElem?_getD, List.getElem?_eq_getElem hjl] at hget
    exact hget
   have hq1 : q ≤ 54000000 := by omega
   have hq0 : 0 ≤ q := by omega
   obtain ⟨q1, e1⟩ : ∃ q1, q1 = q + 1 := ⟨_, rfl⟩
   obtain ⟨q2, e2⟩ : ∃ q2, q2 = q1 + 1 := ⟨_, rfl⟩
   have hw : wrap64 (q + 1) = q1 := (wrap64_id (by omega) (by omega)).trans e1.symm
   have hw1 : wrap64 (q1 + 1) = q2 := (wrap64_id (by omega) (by omega)).trans e2.symm
   obtain ⟨i1, d1, hiv⟩ : ∃ a c, x.iv = .slice a x.ed.i.length c := own_shape (show OwnInts 0 wr x.iv x.ed.i from (by have h := HSX.out.s3; rw [rowsE_cons] at h; exact h.outBag.hd))
   obtain ⟨i2, d2, hov⟩ : ∃ a c, x.ov = .slice a x.ed.o.length c := own_shape (show OwnInts 0 wr x.ov x.ed.o from (by have h := HSX.out.s3; rw [rowsE_cons] at h; exact h.outBag.s2.outBag.hd))
   have h1 := show Sep (wr.setCell ⟨g, j * 4, none⟩ (.int .i64 q)) _ from HSX.out.setR (E := edgeE) hll (i := j) (j := 0) (y := ⟨⟨q, x.ed.v, [], []⟩, x.iv, x.ov⟩) (u := .int .i64 q) hjl (by decide) (by rw [hgE]; rfl)
   have h2 := show Sep ((wr.setCell ⟨g, j * 4, none⟩ (.int .i64 q)).setCell ⟨g, j * 4 + 1, none⟩ (.int .i64 q1)) _ from h1.setR (E := edgeE) (by rw [List.length_set]; exact hll) (i := j) (j := 1) (y := mkX q x) (u := .int .i64 q1) (by rw [List.length_set]; exact hjl) (by decide) (by rw [List.getElem_set_self, e1]; rfl)
   rw [List.set_set, List.set_append_right _ _ (by rw [mkXs_len, HA.out]; exact Nat.le_refl _), mkXs_len, HA.out, Nat.sub_self, List.set_cons_zero] at h2
   obtain ⟨f0, f1, f2, f3⟩ := edge_free HSX.out.hd hll j
   obtain ⟨p0, p1, p2, p3⟩ := edge_cells HSX.out.hd hll hjl
   obtain ⟨r0, r1, r2, r3⟩ := edge_free h1.hd (by rw [List.length_set]; exact hll) j
   obtain ⟨t0, t1, t2, t3⟩ := edge_cells h1.hd (by rw [List.length_set]; exact hll) (i := j) (by rw [List.length_set]; exact hjl)
   have hll2 : n = (mkXs k A ++ mkX q x :: R').length := by rw [hll]; simp
   have hge2 : (mkXs k A ++ mkX q x :: R').getD j xe0 = mkX q x := by
    rw [List.getD_eq_getElem?_getD, List.getElem?_append_right (by rw [mkXs_len, HA.out]; exact Nat.le_refl _), mkXs_len, HA.out, Nat.sub_self]
    rfl
   obtain ⟨u0, u1, u2, u3⟩ := edge_cells h2.hd hll2 (i := j) (by rw [← hll2]; exact hlt)
   rw [hge2] at u0 u1 u2 u3
   have HC := qd fun W l' (h : Sep W (OR edgeE (.slice (some ⟨g, 0, none⟩) n c) (mkXs k A ++ mkX q x :: R') :: l')) => (edge_cells h.hd hll2 (i := j) (by rw [← hll2]; exact hlt)).2.2.2
   rw [hge2] at HC
   rw [rowsE_cons] at h2
   have h3 := h2.s3.outBag.s2.outBag.s3
   obtain ⟨⟨xk, xv, xi, xo⟩, xiv, xov⟩ := x
   simp only at hiv hov
   subst hiv hov
   have h3' : Sep _ (OI (.slice i1 xi.length d1) xi :: OI (.slice i2 xo.length d2) xo :: Bag (rowsE R') :: OR edgeE (.slice (some ⟨g, 0, none⟩) n c) (mkXs k A ++ mkX q ⟨⟨xk, xv, xi, xo⟩, .slice i1 xi.length d1, .slice i2 xo.length d2⟩ :: R') :: Bag (rowsE (mkXs k A)) :: l) := h3
   have HS3 := qd h3'
   have hwx : wEs (eds A) + (2 + xi.length + xo.length) ≤ wEs (eds xs) := by rw [← hwl]; simp only [eds, List.map_cons, wEs, wE]; omega
   have hxm : xi.length + xo.length ≤ totEs (eds xs) := tot_mem (e := ⟨xk, xv, xi, xo⟩) (by rw [HX.out]; simp [eds])
   obtain ⟨q3, e3⟩ : ∃ q3, q3 = q2 + (xi.length : Int) := ⟨_, rfl⟩
   obtain ⟨q4, e4⟩ : ∃ q4, q4 = q3 + (xo.length : Int) := ⟨_, rfl⟩
   have HM1 := qd fun W l (h : Sep W (OI (.slice i1 xi.length d1) xi :: l)) => markIntS_any i1 xi.length d1 xi q2 W l h rfl (by omega) (by omega) (by omega)
   have HM2 := qd fun W l (h : Sep W (OI (.slice i2 xo.length d2) xo :: l)) => markIntS_any i2 xo.length d2 xo q3 W l h rfl (by omega) (by omega) (by omega)
   rw [← e3] at HM1
   rw [← e4] at HM2
   have HQ4 := qd (show q4 = k + (wEs (eds (A ++ [⟨⟨xk, xv, xi, xo⟩, .slice i1 xi.length d1, .slice i2 xo.length d2⟩])) : Int) by
    rw [show eds (A ++ [(⟨⟨xk, xv, xi, xo⟩, .slice i1 xi.length d1, .slice i2 xo.length d2⟩ : XE)]) = eds A ++ [⟨xk, xv, xi, xo⟩] by simp [eds], wEs_app]
    simp only [wEs, wE]
    omega)
   have hmx : mkX q ⟨⟨xk, xv, xi, xo⟩, .slice i1 xi.length d1, .slice i2 xo.length d2⟩ = ⟨⟨q, q1, cntI q2 xi.length, cntI q3 xo.length⟩, .slice i1 xi.length d1, .slice i2 xo.length d2⟩ := by
    unfold mkX mkE
    simp only
    rw [show q + 2 + (xi.length : Int) = q3 by omega, show q + 2 = q2 by omega, show q + 1 = q1 by omega]
   have HEND := qd (show mkXs k (A ++ [⟨⟨xk, xv, xi, xo⟩, .slice i1 xi.length d1, .slice i2 xo.length d2⟩]) = mkXs k A ++ [⟨⟨q, q1, cntI q2 xi.length, cntI q3 xo.length⟩, .slice i1 xi.length d1, .slice i2 xo.length d2⟩] by rw [mkXs_snoc, ← hq, hmx])
   have HXN := qd (show xs = (A ++ [⟨⟨xk, xv, xi, xo⟩, .slice i1 xi.length d1, .slice i2 xo.length d2⟩]) ++ R' by rw [HX.out]; simp)
   rw [hmx] at HC HS3 u0 u1 u2 u3
   simp only at p0 p1 p2 p3 t0 t1 t2 t3 u0 u1 u2 u3 HC hget
   have HAL := qd (show (A ++ [(⟨⟨xk, xv, xi, xo⟩, .slice i1 xi.length d1, .slice i2 xo.length d2⟩ : XE)]).length = j + 1 by rw [List.length_append, HA.out]; rfl)
   rw [hget] at p0 p1 p2 p3
   simp only at p0 p1 p2 p3
   clear h1 h2 h3 h3' hll hll2 hjl hget hgE hge2 hmx e1 e2 e3 e4 hq hwx hwl hq0 hq1 hxm
   have HMA := qd (HM1.out _ _ HS3.out)
   have HMB := qd fun W l h => HM2.out W l h
   clear HS3 HM1 HM2 HSX
   generalize xi.length = m1 at *
   generalize xo.length = m2 at *
   go_wp2_with (first
    |(go_at_call 47
      with_reducible refine HMA.out.mono ?_
      rintro e w5 ⟨rfl, hs5⟩
      have v3 := HC.out _ _ (show Sep w5 (OR edgeE _ _ :: _) from hs5.s4)
      have HS5 := qd hs5.s2
      clear hs5)
    |(go_at_call 47
      with_reducible refine (HMB.out _ _ HS5.out).mono ?_
      rintro e w6 ⟨rfl, hs6⟩
      have hs7 := hs6.s5.s2.s3.s5.bagTwo
      have HS7 := qd hs7
      clear hs6 hs7))
   go_roundw
   case rel =>
    have h := HS7.out
    refine ⟨j + 1, _, R', q4, by omega, by go_num, HXN.out, HAL.out, rfl, HQ4.out, ?_⟩
    rw [HEND.out, rowsE_snoc, List.append_assoc]
    exact h
   case measure => simp [intOf]; omega
  ·have hjn : j = n := by omega
   subst hjn
   have hR : R = [] := by
    have h1 := HL.out
    rw [HX.out, List.length_append, HA.out] at h1
    exact List.length_eq_zero_iff.1 (by omega)
   subst hR
   have hxa : xs = A := by rw [HX.out, List.append_nil]
   have hs := HSX.out
   rw [List.append_nil] at hs
   have hs2 := (hs.under (fun h => h.drop2) (by simp +contextual)).intoBag
   rw [← hxa] at hs2 hq
   have HF := qd hs2
   have HQF := qd hq
   clear hs hs2 hq hxa hlt hwl HQ
   go_wp2
   go_ret
   exact ⟨by rw [HQF.out]; rfl, HF.out⟩
set_option maxHeartbeats 1000000 in
theorem markGraph_any (u0 u1 u2 : Value) (xs : List XE) (g : Gr) (k : Int) (w : World) (l : List Asrt) (hs : Sep w (OE u0 xs :: OI u1 g.i :: OI u2 g.o :: l)) (hx : eds xs = g.es) (hl : totG g ≤ 1048576) (h0 : 0 ≤ k) (h1 : k ≤ 1000000) :
 Calls Tryz.prog 17 #[grV g.n u0 u1 u2, .int .i64 k] w fun e w' => e = .returned (.int .i64 (k + wEs g.es + g.i.length + g.o.length)) ∧ Sep w' (OE u0 (mkXs k xs) :: OI u1 (cntI (k + wEs g.es) g.i.length) :: OI u2 (cntI (k + wEs g.es + g.i.length) g.o.length) :: l) := by
 have hw := wEs_tot g.es
 unfold totG at hl
 obtain ⟨a0, c0, rfl⟩ := OE.shape hs.hd
 obtain ⟨a1, c1, rfl⟩ := own_shape (show OwnInts 0 w u1 g.i from hs.tl.hd)
 obtain ⟨a2, c2, rfl⟩ := own_shape (show OwnInts 0 w u2 g.o from hs.tl.tl.hd)
 obtain ⟨q, hq⟩ : ∃ q, q = k + (wEs g.es : Int) := ⟨_, rfl⟩
 obtain ⟨q2, hq2⟩ : ∃ q2, q2 = q + (g.i.length : Int) := ⟨_, rfl⟩
 have HE := qd fun W l (h : Sep W (OE (.slice a0 xs.length c0) xs :: l)) => markEdgeS_any a0 xs.length c0 xs k W l h rfl (by rw [hx]; omega) (by rw [hx]; omega) h0 (by omega)
 have HI := qd fun W l (h : Sep W (OI (.slice a1 g.i.length c1) g.i :: l)) => markIntS_any a1 g.i.length c1 g.i q W l h rfl (by omega) (by omega) (by omega)
 have HO := qd fun W l (h : Sep W (OI (.slice a2 g.o.length c2) g.o :: l)) => markIntS_any a2 g.o.length c2 g.o q2 W l h rfl (by omega) (by omega) (by omega)
 rw [hx, ← hq] at HE
 rw [← hq2] at HI
 rw [← hq, ← hq2]
 unfold grV
 have hs0 := hs.box #[.int .i64 g.n, .slice a0 xs.length c0, .slice a1 g.i.length c1, .slice a2 g.o.length c2] 38
 have HS0 := qd hs0.s2
 clear hs hs0 hq hq2 hw hx hl
 generalize g.i.length = n1 at *
 generalize g.o.length = n2 at *
 generalize xs.length = n0 at *
 go_enter Tryz.func17, Tryz.ntmps17
 go_wp2_with (first
  |(go_at_call 46
    with_reducible refine (HE.out _ _ HS0.out).mono ?_
    rintro e w4 ⟨rfl, hs⟩
    obtain ⟨x0, x1, x2, x3, _⟩ := bq4 hs.tl.hd
    have HS1 := qd hs.s3
    clear hs)
  |(go_at_call 47
    with_reducible refine (HI.out _ _ HS1.out).mono ?_
    rintro e w6 ⟨rfl, hs⟩
    obtain ⟨x0, x1, x2, x3, _⟩ := bq4 hs.tl.tl.hd
    have HS2 := qd hs.s4
    clear hs)
  |(go_at_call 47
    with_reducible refine (HO.out _ _ HS2.out).mono ?_
    rintro e w7 ⟨rfl, hs⟩
    have HS3 := qd (show Sep w7 (OE _ _ :: OI _ _ :: OI _ _ :: l) from hs.s3.under (fun h => h.s2.under (fun h => h.under (fun h => h.tl) (by simp +contextual)) (by simp +contextual)) (by simp +contextual))
    clear hs))
 go_ret
 exact ⟨rfl, HS3.out⟩
set_option maxHeartbeats 2000000 in
theorem heldEdgeS_any (v : Value) (es : List Ed) (k : Int) (w : World) (hv : RdE edgeE w v (mkEs k es)) (hl : wEs es ≤ 4000000) (hlt2 : totEs es ≤ 2000000) (h0 : 0 ≤ k) (h1 : k ≤ 50000000) :
 Calls Tryz.prog 49 #[v, .int .i64 k] w fun e w' => e = .returned (.int .i64 (k + wEs es)) ∧ w.grownBy w' none := by
 have HV := qd hv
 obtain ⟨a, c, rfl⟩ := hv.shape
 rw [mkEs_len] at *
 clear hv
 generalize hn : es.length = n at *
 have HN := qd hn
 have hn2 : n ≤ 2000000 := by have := wEs_tot es; omega
 clear hn
 go_enter Tryz.func49, Tryz.ntmps49
 go_wp2
 go_loopw [1, 5] (fun kv i wr => ∃ (j : Nat) (q : Int), j ≤ n ∧ i = .int .i64 j ∧ kv = .int .i64 q ∧ q = k + wEs (es.take j) ∧ w.grownBy wr none) (fun _ i _ => n - (intOf i).toNat)
 case atStart => exact ⟨0, k, by omega, rfl, rfl, by simp [wEs], grownBy_refl _ _⟩
 case round =>
  obtain ⟨j, q, hj, rfl, rfl, hq, hg⟩ := hrel
  have HG := qd hg; have HQ := qd hq
  clear hg
  by_cases hlt : j < n
  ·have hje : j < es.length := by rw [HN.out]; exact hlt
   obtain ⟨b, o, iv, ov, rfl, _, p0, p1, p2, p3, hi, ho⟩ := (HV.out.carry HG.out).at rfl rfl (i := j) (by rw [mkEs_len]; exact hje)
   rw [mkEs_at k es j hje, ← hq] at p0 p1 hi ho
   have HT := qd (wEs_take es j hje)
   have hle := wEs_le es (j + 1)
   have hxm := tot_mem (show es.getD j e0 ∈ es by rw [List.getD_eq_getElem?_getD, List.getElem?_eq_getElem hje]; exact List.getElem_mem _)
   rw [HT.out] at hle
   unfold wE at hle HT
   unfold mkE at p0 p1 hi ho
   simp only at p0 p1 hi ho
   obtain ⟨q1, e1⟩ : ∃ q1, q1 = q + 1 := ⟨_, rfl⟩
   obtain ⟨q2, e2⟩ : ∃ q2, q2 = q1 + 1 := ⟨_, rfl⟩
   have hq0 : 0 ≤ q := by omega
   have hq54 : q ≤ 54000000 := by omega
   have hw : wrap64 (q + 1) = q1 := (wrap64_id (by omega) (by omega)).trans e1.symm
   have hw1 : wrap64 (q1 + 1) = q2 := (wrap64_id (by omega) (by omega)).trans e2.symm
   obtain ⟨q3, e3⟩ : ∃ q3, q3 = q2 + ((es.getD j e0).i.length : Int) := ⟨_, rfl⟩
   obtain ⟨q4, e4⟩ : ∃ q4, q4 = q3 + ((es.getD j e0).o.length : Int) := ⟨_, rfl⟩
   rw [show q + 1 = q1 by omega] at p1
   rw [show q + 2 = q2 by omega] at hi ho
   rw [← e3] at ho
   obtain ⟨i1, d1, rfl⟩ := hi.shape
   obtain ⟨i2, d2, rfl⟩ := ho.shape
   rw [cntI_len] at hi ho p2 p3
   have HA := qd (heldIntS_any i1 _ d1 q2 wr hi (by omega) (by omega) (by omega))
   have HB := qd (heldIntS_any i2 _ d2 q3 wr ho (by omega) (by omega) (by omega))
   rw [← e3] at HA
   rw [← e4] at HB
   have HQ4 := qd (show q4 = k + (wEs (es.take (j + 1)) : Int) by have := HT.out; omega)
   have hn1 : (q1 != q1) = false := by simp
   have hn0 : (q != q) = false := by simp
   have hq30 : ¬ q3 < 0 := by omega
   have hq40 : ¬ q4 < 0 := by omega
   clear hi ho HT hle hxm e1 e2 e3 e4 hq0 hq54 hje hq
   try simp only [cntI_len] at HA HB p2 p3
   generalize (es.getD j e0).i.length = m1 at *
   generalize (es.getD j e0).o.length = m2 at *
   go_wp2_with (first
    |(go_at_call 50; with_reducible refine HA.out.mono ?_; rintro e w5 ⟨rfl, rfl⟩)
    |(go_at_call 50; with_reducible refine HB.out.mono ?_; rintro e w6 ⟨rfl, rfl⟩))
   go_roundw
   case rel => exact ⟨j + 1, q4, by omega, by go_num, rfl, HQ4.out, HG.out⟩
   case measure => simp [intOf]; omega
  ·have hjn : j = n := by omega
   subst hjn
   rw [List.take_of_length_le (by rw [HN.out]; exact Nat.le_refl _)] at hq
   have HQF := qd hq
   clear hq HQ
   go_wp2
   go_ret
   exact ⟨by rw [HQF.out]; rfl, HG.out⟩
theorem heldGraph_any (u0 u1 u2 : Value) (g : Gr) (k : Int) (w : World) (h0 : RdE edgeE w u0 (mkEs k g.es)) (h1 : IntsV w u1 (cntI (k + wEs g.es) g.i.length)) (h2 : IntsV w u2 (cntI (k + wEs g.es + g.i.length) g.o.length)) (hl : totG g ≤ 1048576) (hk0 : 0 ≤ k) (hk1 : k ≤ 1000000) :
 Calls Tryz.prog 20 #[grV g.n u0 u1 u2, .int .i64 k] w fun e w' => e = .returned (.int .i64 (k + wEs g.es + g.i.length + g.o.length)) ∧ w.grownBy w' none := by
 have hw := wEs_tot g.es
 unfold totG at hl
 have HE := qd fun W (h : w.grownBy W none) => heldEdgeS_any u0 g.es k W (h0.carry h) (by omega) (by omega) hk0 (by omega)
 obtain ⟨q, hq⟩ : ∃ q, q = k + (wEs g.es : Int) := ⟨_, rfl⟩
 obtain ⟨q2, hq2⟩ : ∃ q2, q2 = q + (g.i.length : Int) := ⟨_, rfl⟩
 obtain ⟨q3, hq3⟩ : ∃ q3, q3 = q2 + (g.o.length : Int) := ⟨_, rfl⟩
 obtain ⟨a0, c0, rfl⟩ := h0.shape
 obtain ⟨a1, c1, rfl⟩ := h1.shape
 obtain ⟨a2, c2, rfl⟩ := h2.shape
 simp only [cntI_len, mkEs_len] at *
 rw [← hq] at h1 h2 HE ⊢
 rw [← hq2] at h2 ⊢
 rw [← hq3]
 have HI := qd fun W (h : w.grownBy W none) => heldIntS_any a1 g.i.length c1 q W (h1.carry h) (by omega) (by omega) (by omega)
 have HO := qd fun W (h : w.grownBy W none) => heldIntS_any a2 g.o.length c2 q2 W (h2.carry h) (by omega) (by omega) (by omega)
 rw [← hq2] at HI
 rw [← hq3] at HO
 have n1 : ¬ q < 0 := by omega
 have n2 : ¬ q2 < 0 := by omega
 have n3 : ¬ q3 < 0 := by omega
 unfold grV
 have hs0 := (Sep.start w).box #[.int .i64 g.n, .slice a0 g.es.length c0, .slice a1 g.i.length c1, .slice a2 g.o.length c2] 38
 have HS0 := qd hs0
 have HK0 := qd (show w.grownBy _ none from hs0.tl.hd)
 clear hs0 hq hq2 hq3 hw hl h0 h1 h2
 generalize g.i.length = m1 at *
 generalize g.o.length = m2 at *
 generalize g.es.length = m0 at *
 go_enter Tryz.func20, Tryz.ntmps20
 go_wp2_with (first
  |(go_at_call 49
    with_reducible refine (HE.out _ HK0.out).mono ?_
    rintro e w4 ⟨rfl, hg⟩
    have hs := HS0.out.grown hg
    obtain ⟨x0, x1, x2, x3, _⟩ := bq4 hs.hd
    have HK1 := qd (show w.grownBy w4 none from hs.tl.hd)
    clear hs hg)
  |(go_at_call 50; with_reducible refine (HI.out _ HK1.out).mono ?_; rintro e w5 ⟨rfl, rfl⟩)
  |(go_at_call 50; with_reducible refine (HO.out _ HK1.out).mono ?_; rintro e w6 ⟨rfl, rfl⟩))
 go_ret
 exact ⟨rfl, HK1.out⟩
end Go.Proofs.YtjagjhchnpmngaaGreat
namespace Go.Proofs.YtjagjhchnpmngaaGreat
open Go.ChangeShapes Go.WideShapes Go.ChangeAt Go.RowKit Go.Deep Go.Joins
section
variable {H : Type} {enc : TypeId × Value → H} {W : World} {sp : Nat → Bool} {held : Bool}
theorem add_off (b off k : Nat) : (⟨b, off, none⟩ : Addr).add k = ⟨b, off + k, none⟩ := by
 unfold Addr.add
 split
 ·rename_i h; subst h; rfl
 ·rfl
theorem ints_in {fuel : Nat} {cs : List Value} {x : DataW H × List MemPlace} (h : DataW.trod enc Tryz.prog W 0 sp held fuel 23 cs = some x) : ∃ v zs, cs = [v] ∧ IntsV W v zs ∧ zs.length ≤ 9223372036854775807 := by
 rcases open_ints Tryz.underlying23 Tryz.underlying3 (by kernel_rfl) h with ⟨hcs, _⟩ | ⟨x, l, c, zs, hcs, _, hl, hm, hz, _, hcell, hwz⟩
 ·exact ⟨_, [], hcs, IntsV.nil W, by decide⟩
 ·unfold maxLen at hm
  have hlz : l ≤ zs.length := by rw [hz]; split <;> omega
  refine ⟨_, zs.take l, hcs, ?_, by rw [List.length_take]; omega⟩
  have hlen : (zs.take l).length = l := by rw [List.length_take]; omega
  refine ⟨some x, c, by rw [hlen], fun hne => ?_⟩
  have h0 : 0 < l := by
   rcases Nat.eq_zero_or_pos l with h | h
   ·subst h; exact absurd rfl hne
   ·exact h
  obtain ⟨b, off, spot⟩ := x
  have hspot : spot = none := by
   have := World.cell?_spot (hcell 0 (by omega))
   simpa [Addr.add] using this
  subst hspot
  refine ⟨⟨b, off, none⟩, rfl, rfl, ?_, fun i hi => ?_⟩
  ·have h1 := hcell 0 (by omega)
   exact World.block_lt_of_cell? W _ h1
  ·have h1 := hcell i (by omega)
   rw [add_off] at h1
   rw [h1, List.getElem_take, List.getD_eq_getElem?_getD, List.getElem?_eq_getElem (by omega)]
   rfl
end
section
variable {H : Type} {enc : TypeId × Value → H} {W : World} {sp : Nat → Bool} {held : Bool}
theorem edges_in {fuel : Nat} {cs : List Value} {x : DataW H × List MemPlace} (h : DataW.trod enc Tryz.prog W 0 sp held fuel 22 cs = some x) : ∃ v es, cs = [v] ∧ RdE argEdE W v es ∧ es.length ≤ 9223372036854775807 ∧ ∀ e ∈ es, okEd e := by
 rcases open_slice Tryz.underlying22 h with ⟨hcs, _⟩ | ⟨a, len, cap, m, n, D, Pl, rfl, hb, hl, hm, hmm, rfl, hx⟩
 ·exact ⟨_, [], hcs, ⟨[], rfl, RdR.nil argEdE W, by simp⟩, by decide, by simp⟩
 ·unfold maxLen at hm
  have hlm : len ≤ m := by rw [hmm]; split <;> omega
  have hc4 : Tryz.prog.cellsOf 97 = 4 := by kernel_rfl
  have hc1 : Tryz.prog.cellsOf 3 = 1 := by kernel_rfl
  have hcl : Tryz.prog.cellsOf 23 = 1 := by kernel_rfl
  have each : ∀ i, i < len → ∃ g : XE, (∀ j, j < 4 → W.cell? ((a.add (i * 4)).add j) = (edgeC g)[j]?) ∧ IntsV W g.iv g.ed.i ∧ IntsV W g.ov g.ed.o ∧ okEd g.ed := by
   intro i hi
   obtain ⟨cs', h1, h2⟩ := hx i (by omega)
   rw [hc4] at h1
   obtain ⟨_, hlen, hcell⟩ := World.cells?_some h1
   obtain ⟨y0, y1, y2, y3, k, _, _, f0, f1, f2, f3⟩ := trod_struct4 Tryz.underlying97 h2
   simp only [hc1, hcl] at f0 f1 f2 f3
   obtain ⟨n0, e0, _⟩ := DataW.trod_int Tryz.underlying3 f0
   obtain ⟨n1, e1, _⟩ := DataW.trod_int Tryz.underlying3 f1
   obtain ⟨v2, z2, e2, r2, b2⟩ := ints_in f2
   obtain ⟨v3, z3, e3, r3, b3⟩ := ints_in f3
   match cs', hlen with
   | [c0, c1, c2, c3], _ =>
    simp at e0 e1 e2 e3
    subst e0 e1 e2 e3
    exact ⟨⟨⟨n0, n1, z2, z3⟩, c2, c3⟩, fun j hj => hcell j hj, r2, r3, b2, b3⟩
  have hch : ∃ G : Nat → XE, ∀ i, i < len → (∀ j, j < 4 → W.cell? ((a.add (i * 4)).add j) = (edgeC (G i))[j]?) ∧ IntsV W (G i).iv (G i).ed.i ∧ IntsV W (G i).ov (G i).ed.o ∧ okEd (G i).ed := by
   haveI : Inhabited XE := ⟨xe0⟩
   exact choose_lt each
  obtain ⟨G, hG⟩ := hch
  refine ⟨_, eds ((List.range len).map G), rfl, ⟨(List.range len).map G, rfl, ⟨some a, cap, by simp, fun hne => ?_⟩, fun x hx => ?_⟩, by simp [eds]; omega, fun e he => ?_⟩
  ·have h0 : 0 < len := by
    rcases Nat.eq_zero_or_pos len with h | h
    ·subst h; exact absurd rfl hne
    ·exact h
   obtain ⟨b, off, spot⟩ := a
   have hc00 : W.cell? ((⟨b, off, spot⟩ : Addr).add (0 * 4) |>.add 0) = some (.int .i64 (G 0).ed.k) := (hG 0 h0).1 0 (by omega)
   have hspot : spot = none := by
    have := World.cell?_spot hc00
    simpa [Addr.add] using this
   subst hspot
   refine ⟨⟨b, off, none⟩, rfl, rfl, ?_, fun i hi j hj => ?_⟩
   ·have h1 := World.block_lt_of_cell? W _ hc00
    simpa [Addr.add] using h1
   ·have hi' : i < len := by simpa using hi
    have h1 := (hG i hi').1 j hj
    rw [add_off, add_off] at h1
    show W.cell? ⟨b, off + i * 4 + j, none⟩ = _
    rw [h1]
    simp [argEdE]
  ·obtain ⟨i, hi, rfl⟩ := List.mem_map.1 hx
   have := hG i (List.mem_range.1 hi)
   exact ⟨this.2.1, this.2.2.1⟩
  ·obtain ⟨x, hx, rfl⟩ := List.mem_map.1 he
   obtain ⟨i, hi, rfl⟩ := List.mem_map.1 hx
   exact (hG i (List.mem_range.1 hi)).2.2.2
theorem graph_in {r : Reach} {b0 : Nat} {v : Value} {d : DataW H} {p : List MemPlace} (hv : Value.okWide Tryz.prog W r b0 25 v) (h : DataW.Trod enc Tryz.prog W 0 sp held 25 v d p) :
 ∃ ev iv ov g, v = grV g.n ev iv ov ∧ RdE argEdE W ev g.es ∧ IntsV W iv g.i ∧ IntsV W ov g.o ∧ okG g := by
 obtain ⟨v0, v1, v2, v3, y0, y1, y2, y3, k, rfl, _, _, h0, h1, h2, h3⟩ := open_agg4 Tryz.underlying25 (by kernel_rfl) (by kernel_rfl) hv h
 obtain ⟨n, e0, _⟩ := DataW.trod_int Tryz.underlying3 h0
 obtain ⟨ev, es, e1, he, l1, l1'⟩ := edges_in h1
 obtain ⟨iv, is, e2, hi, l2⟩ := ints_in h2
 obtain ⟨ov, os, e3, ho, l3⟩ := ints_in h3
 simp only [List.cons.injEq, and_true] at e0 e1 e2 e3
 subst e0 e1 e2 e3
 exact ⟨_, _, _, ⟨n, es, is, os⟩, rfl, he, hi, ho, l1, l1', l2, l3⟩
end
end Go.Proofs.YtjagjhchnpmngaaGreat
namespace Go.Proofs.YtjagjhchnpmngaaGreat
open Go.ChangeShapes Go.WideShapes Go.ChangeAt Go.RowKit
theorem own : ownKnob Tryz.prog.godebug = none := by kernel_rfl
theorem laidOut : laidOutB Tryz.prog = true := by kernel_rfl
theorem below_of_grown {w w' : World} (h : w.grownBy w' none) : Below w.heap.size w w' := ⟨h.os, h.tape, h.output, h.size, fun k hk => h.block k hk (by simp)⟩
end Go.Proofs.YtjagjhchnpmngaaGreat
namespace Go.Proofs.YtjagjhchnpmngaaGreat
open Go.RowKit
structure XG where
 n : Int
 ev : Value
 xs : List XE
 iv : Value
 is : List Int
 ov : Value
 os : List Int
def XG.gr (x : XG) : Gr := ⟨x.n, eds x.xs, x.is, x.os⟩
def graphC (x : XG) : List Value := [.int .i64 x.n, x.ev, x.iv, x.ov]
def graphE : Lay XG := ⟨38, 4, graphC, fun _ => rfl, by decide⟩
def xg0 : XG := ⟨0, nilS, [], nilS, [], nilS, []⟩
def grs (ys : List XG) : List Gr := ys.map XG.gr
def RdGs (E : Lay XG) (F : Lay XE) (w : World) (v : Value) (gs : List Gr) : Prop :=
 ∃ ys : List XG, grs ys = gs ∧ RdR E w v ys ∧ ∀ y ∈ ys, RdE F w y.ev y.gr.es ∧ IntsV w y.iv y.gr.i ∧ IntsV w y.ov y.gr.o
def rowsG (ys : List XG) : List Asrt := ys.flatMap fun y => [OE y.ev y.xs, OI y.iv y.is, OI y.ov y.os]
def OG (v : Value) (ys : List XG) : Asrt := Bag (OR graphE v ys :: rowsG ys)
theorem RdGs.carry {E : Lay XG} {F : Lay XE} {w w' : World} {v : Value} {gs : List Gr} (h : RdGs E F w v gs) (hg : w.grownBy w' none) : RdGs E F w' v gs := by
 obtain ⟨xs, h1, h2, h3⟩ := h
 exact ⟨xs, h1, h2.carry hg, fun x hx => ⟨(h3 x hx).1.carry hg, (h3 x hx).2.1.carry hg, (h3 x hx).2.2.carry hg⟩⟩
theorem grs_len (ys : List XG) : (grs ys).length = ys.length := by simp [grs]
theorem RdGs.shape {E : Lay XG} {F : Lay XE} {w : World} {v : Value} {gs : List Gr} (h : RdGs E F w v gs) : ∃ a c, v = .slice a gs.length c := by
 obtain ⟨xs, h1, h2, _⟩ := h
 obtain ⟨a, c, rfl, _⟩ := h2
 exact ⟨a, c, by rw [← h1, grs_len]⟩
theorem OG.read {w : World} {v : Value} {ys : List XG} (h : (OG v ys).holds w) : RdGs graphE edgeE w v (grs ys) := by
 have ha := Sep.all (show Sep w (OR graphE v ys :: rowsG ys) from h)
 have hm : ∀ y ∈ ys, ∀ A ∈ [OE y.ev y.xs, OI y.iv y.is, OI y.ov y.os], A.holds w := fun y hy A hA => ha A (List.mem_cons_of_mem _ (List.mem_flatMap.2 ⟨y, hy, hA⟩))
 refine ⟨ys, rfl, OwnR.read (show OwnR graphE 0 w v ys from ha (OR graphE v ys) (by simp)), fun y hy => ⟨?_, ?_, ?_⟩⟩
 ·exact OE.read (hm y hy (OE y.ev y.xs) (by simp))
 ·exact OwnInts.read (show OwnInts 0 w y.iv y.is from hm y hy (OI y.iv y.is) (by simp))
 ·exact OwnInts.read (show OwnInts 0 w y.ov y.os from hm y hy (OI y.ov y.os) (by simp))
theorem rowsG_snoc (ys : List XG) (y : XG) : rowsG (ys ++ [y]) = rowsG ys ++ [OE y.ev y.xs, OI y.iv y.is, OI y.ov y.os] := by
 unfold rowsG
 rw [List.flatMap_append]
 simp
theorem OG.shape {w : World} {v : Value} {ys : List XG} (h : (OG v ys).holds w) : ∃ a c, v = .slice a ys.length c := OwnR.shape (show OwnR graphE 0 w v ys from (show Sep w (OR graphE v ys :: rowsG ys) from h).hd)
def gr00 : Gr := ⟨0, [], [], []⟩
theorem grs_at {xs : List XG} {i : Nat} : (grs xs).getD i gr00 = (xs.getD i xg0).gr := by
 unfold grs
 rw [List.getD_eq_getElem?_getD, List.getElem?_map, List.getD_eq_getElem?_getD]
 cases xs[i]? <;> rfl
theorem RdGs.atK {E : Lay XG} {F : Lay XE} (h1 : E.sz = 4) (h2 : E.cs = graphC) {w : World} {a : Option Addr} {n c : Nat} {gs : List Gr} (h : RdGs E F w (.slice a n c) gs) {i : Nat} (hi : i < gs.length) :
 ∃ b o ev iv ov, a = some ⟨b, o, none⟩ ∧ ∀ W, w.grownBy W none → (W.cell? ⟨b, o + i * 4, none⟩ = some (.int .i64 (gs.getD i gr00).n) ∧ W.cell? ⟨b, o + i * 4 + 1, none⟩ = some ev ∧
  W.cell? ⟨b, o + i * 4 + 2, none⟩ = some iv ∧ W.cell? ⟨b, o + i * 4 + 3, none⟩ = some ov) ∧ RdE F W ev (gs.getD i gr00).es ∧ IntsV W iv (gs.getD i gr00).i ∧ IntsV W ov (gs.getD i gr00).o := by
 obtain ⟨xs, rfl, hr, hx⟩ := h
 have hil : i < xs.length := by simpa [grs] using hi
 obtain ⟨b, o, rfl, hb, hc⟩ := hr.at hil
 rw [grs_at, List.getD_eq_getElem?_getD, List.getElem?_eq_getElem hil]
 simp only [Option.getD_some]
 have hm := hx xs[i] (List.getElem_mem _)
 refine ⟨b, o, xs[i].ev, xs[i].iv, xs[i].ov, rfl, fun W hg => ⟨⟨?_, ?_, ?_, ?_⟩, hm.1.carry hg, hm.2.1.carry hg, hm.2.2.carry hg⟩⟩
 ·refine (World.cell?_of_block (a := ⟨b, o + i * 4, none⟩) (hg.block b hb (by simp))).trans ?_
  have := hc 0 (by omega)
  rw [h1, h2] at this
  exact this
 ·refine (World.cell?_of_block (a := ⟨b, o + i * 4 + 1, none⟩) (hg.block b hb (by simp))).trans ?_
  have := hc 1 (by omega)
  rw [h1, h2] at this
  exact this
 ·refine (World.cell?_of_block (a := ⟨b, o + i * 4 + 2, none⟩) (hg.block b hb (by simp))).trans ?_
  have := hc 2 (by omega)
  rw [h1, h2] at this
  exact this
 ·refine (World.cell?_of_block (a := ⟨b, o + i * 4 + 3, none⟩) (hg.block b hb (by simp))).trans ?_
  have := hc 3 (by omega)
  rw [h1, h2] at this
  exact this
structure Sm (g : Gr) : Prop where
 es : g.es.length ≤ 1048576
 i : g.i.length ≤ 1048576
 o : g.o.length ≤ 1048576
 ed : ∀ e ∈ g.es, e.i.length ≤ 1048576 ∧ e.o.length ≤ 1048576
theorem Sm.of {g : Gr} (h : totG g ≤ 1048576) : Sm g := by
 unfold totG at h
 refine ⟨by omega, by omega, by omega, fun e he => ?_⟩
 have := tot_mem he
 exact ⟨by omega, by omega⟩
theorem getD_mem {α : Type} {l : List α} {i : Nat} {d : α} (h : i < l.length) : l.getD i d ∈ l := by
 rw [List.getD_eq_getElem?_getD, List.getElem?_eq_getElem h]
 exact List.getElem_mem _
theorem info_graph : (Tryz.prog.info? graphE.ty).map (fun i => (i.zero, i.size, i.bytes)) = some (some (.agg #[.int .i64 0, .slice none 0 0, .slice none 0 0, .slice none 0 0]), graphE.sz, 80) := by kernel_rfl
theorem Sep.graft3 {w w' : World} {A C D : Asrt} {l : List Asrt} (h : Sep w l) (h' : Sep w' [A, C, D, KeepA w]) (hA : ∀ k, A.sees k → A.foot k) (hC : ∀ k, C.sees k → C.foot k) (hD : ∀ k, D.sees k → D.foot k) : Sep w' (A :: C :: D :: l) := by
 have hb : Sep w' [Bag [A, C, D], KeepA w] := Sep.bag (l := [A, C, D]) h'
 have h2 := h.graft1 hb (fun k hk => by
  obtain ⟨X, hX, hs⟩ := hk
  refine ⟨X, hX, ?_⟩
  simp only [List.mem_cons, List.not_mem_nil, or_false] at hX
  rcases hX with rfl | rfl | rfl
  ·exact hA k hs
  ·exact hC k hs
  ·exact hD k hs)
 exact Sep.unbag h2
theorem run_none_any {P : Program} (w : World) (base : Nat) (t ty e : TypeId) (i : TypeInfo) (size : Nat) (ht : P.underlying t = some (.slice e)) (hi : P.info? e = some i)
 (v : Value) (n : Nat) (xs : List Value) (hown : w.ownsRow base e size v n xs) (d : Option Addr) (c : Nat) : (Builtin.append_ #[t, t] ty #[v, .slice d 0 c]).run P w = .ok v w := by
 cases d with
 | none => exact run_nil_any w base t ty e i size ht hi v n xs hown c
 | some d =>
  rcases hown.2 with ⟨rfl, rfl⟩ | ⟨g, cap, cur, rfl, _, _, hnc, _⟩
  ·simp [Builtin.append_, run_underlying ht, sizeOf, typeInfo, hi, Builtin.lenOf, Builtin.firstCells, loadCells, go_sem]
  ·simp [Builtin.append_, run_underlying ht, sizeOf, typeInfo, hi, Builtin.lenOf, Builtin.firstCells, hnc, loadCells, storeCells, go_sem]
section
variable {α : Type} {E : Lay α} {ops : Array Oper} {rest : List Oper} {o : Oper} {a : Act} {Q : Exit → Act → World → Prop} {K : Act → World → Prop} {Ex : Prop} {w : World} {v u : Value} {xs ys : List α} {l : List Asrt} {t : TypeId} {z : Value} {bytes : Nat} {zs is : List Int}
theorem rdR_news {d : Addr} {n c : Nat} (h : RdR E w (.slice (some d) n c) ys) : ∀ j u, (ys.flatMap E.cs)[j]? = some u → w.cell? (d.add j) = some u := by
 intro j u hj
 obtain ⟨a', cap', he, h⟩ := h
 cases he
 have hjl : j < ys.length * E.sz := by
  rcases Nat.lt_or_ge j (ys.length * E.sz) with h | h
  ·exact h
  ·rw [List.getElem?_eq_none (by rw [flat_len]; exact h)] at hj; cases hj
 have hne : ys ≠ [] := by
  intro h0
  subst h0
  simp at hjl
 obtain ⟨d', hd, hs, hdb, hc⟩ := h hne
 cases hd
 obtain ⟨db, dof, ds⟩ := d
 simp only at hs
 subst hs
 have h1 : j / E.sz < ys.length := Nat.div_lt_of_lt_mul (by rw [Nat.mul_comm]; exact hjl)
 have h2 : j % E.sz < E.sz := Nat.mod_lt _ E.pos
 have h3 := hc (j / E.sz) h1 (j % E.sz) h2
 have h4 := flat_at E ys h1 h2
 rw [show j / E.sz * E.sz + j % E.sz = j by rw [Nat.mul_comm]; exact Nat.div_add_mod _ _] at h4
 rw [← h4, hj] at h3
 simp only at h3
 rw [Nat.add_assoc, show j / E.sz * E.sz + j % E.sz = j by rw [Nat.mul_comm]; exact Nat.div_add_mod _ _] at h3
 unfold Addr.add
 split
 ·next h0 => subst h0; simpa using h3
 ·exact h3
theorem wp_app_Rs (hinfo : (Tryz.prog.info? E.ty).map (fun i => (i.zero, i.size, i.bytes)) = some (some z, E.sz, bytes)) (hzs : z.cells.size = E.sz) (hby : bytes ≤ 10000) (ht : Tryz.prog.underlying t = some (.slice E.ty)) (hone : ∀ y ∈ ys, ∀ u ∈ E.cs y, u.oneCell' = true)
 (s x : Operand) (ho : o.op = .call { callee := .builtin .append, args := #[s, x], argTypes := #[t, t] })
 (hs : a.eval s = v) (hx : a.eval x = u) (H : Sep w (OR E v xs :: l)) (hu : RdR E w u ys) (hl : xs.length + ys.length ≤ 10000000)
 (h : ∀ v' w', Sep w' (OR E v' (xs ++ ys) :: l) → K (a.put o.dst v') w') : o.wp Tryz.prog a w K Q := by
 obtain ⟨i0, hi, hz0, hz1, hz2⟩ := info_parts hinfo
 obtain ⟨ua, uc, rfl⟩ := hu.shape
 by_cases hy : ys = []
 ·subst hy
  have hrun := run_none_any (P := Tryz.prog) w 0 t o.type E.ty i0 E.sz ht hi v xs.length _ H.hd ua uc
  unfold Oper.wp execOp
  simp only [ho, resolve, invoke, builtin, Sem.run_bind, Sem.run_pure, Result.andThen_ok, List.map_toArray, List.map_cons, List.map_nil, hs, hx, List.length_nil, hrun]
  exact h v w (by simpa using H)
 ·have hpos : 0 < ys.length := List.length_pos_iff.2 hy
  obtain ⟨d, rfl⟩ : ∃ d, ua = some d := by
   obtain ⟨a', c', he, h⟩ := hu
   obtain ⟨d, hd, _⟩ := h hy
   cases he
   exact ⟨d, hd⟩
  have hb : (xs.length + ys.length) * bytes ≤ 140737488355328 := Nat.le_trans (Nat.mul_le_mul hl hby) (by decide)
  refine wp_append_lies (P := Tryz.prog) _ s x t ho 0 E.ty i0 z E.sz bytes ht hi hz0 hz1 hz2 hzs E.pos v xs.length (xs.flatMap E.cs) hs H.hd
   d ys.length uc (ys.flatMap E.cs) hx (flat_len E ys) (rdR_news hu) (fun u hu => by obtain ⟨y, hy, hy'⟩ := List.mem_flatMap.1 hu; exact hone y hy u hy') hpos (by unfold maxLen; omega) hb (Nat.zero_le _) _ rfl ?_
  intro g cap w1 hown' hgrow hg _
  have ho' : OwnR E 0 w1 (.slice (some ⟨g, 0, none⟩) (xs.length + ys.length) cap) (xs ++ ys) := by
   unfold OwnR
   rw [List.length_append, List.flatMap_append]
   exact hown'
  refine h _ w1 (H.upd' (Only.of_grown (S := Hits v) hgrow fun k hk => hk) ho' fun k hk => ?_)
  have : g = k := by simpa [OR, Hits, Value.ownBlock] using hk
  subst this
  exact hg.imp id (fun h => Nat.le_of_eq h.symm)
theorem app_RsG (hinfo : (Tryz.prog.info? E.ty).map (fun i => (i.zero, i.size, i.bytes)) = some (some z, E.sz, bytes)) (hzs : z.cells.size = E.sz) (hby : bytes ≤ 10000) (ht : Tryz.prog.underlying t = some (.slice E.ty)) (hone : ∀ y ∈ ys, ∀ u ∈ E.cs y, u.oneCell' = true)
 (hgd : o.guard = none) (s x : Operand) (ho : o.op = .call { callee := .builtin .append, args := #[s, x], argTypes := #[t, t] })
 (hs : a.eval s = v) (hx : a.eval x = u) (H : Sep w (OR E v xs :: l)) (hu : RdR E w u ys) (hl : xs.length + ys.length ≤ 10000000)
 (h : ∀ v' w', Sep w' (OR E v' (xs ++ ys) :: l) → wpList Tryz.prog ops Q rest (a.put o.dst v') w') : wpList Tryz.prog ops Q (o :: rest) a w :=
 wpList_plain hgd fun _ hK => wp_app_Rs hinfo hzs hby ht hone s x ho hs hx H hu hl fun v' w' h1 => hK _ _ (h v' w' h1)
theorem IntsV.news {d : Addr} {n c : Nat} (h : IntsV w (.slice (some d) n c) is) : ∀ j u, (is.map (Value.int .i64))[j]? = some u → w.cell? (d.add j) = some u := by
 intro j u hj
 obtain ⟨a', cap', he, h⟩ := h
 cases he
 have hjl : j < is.length := by
  rcases Nat.lt_or_ge j is.length with h | h
  ·exact h
  ·rw [List.getElem?_eq_none (by simpa using h)] at hj; cases hj
 obtain ⟨d', hd, hs, hdb, hc⟩ := h (by intro h0; subst h0; simp at hjl)
 cases hd
 have h3 := hc j hjl
 simp [hjl] at hj
 subst hj
 obtain ⟨db, dof, ds⟩ := d
 simp only at hs
 subst hs
 unfold Addr.add
 split
 ·next h0 => subst h0; simpa using h3
 ·exact h3
theorem wp_app_intsS (s x : Operand) (ho : o.op = .call { callee := .builtin .append, args := #[s, x], argTypes := #[23, 23] })
 (hs : a.eval s = v) (hx : a.eval x = u) (H : Sep w (OI v zs :: l)) (hu : IntsV w u is) (hl : zs.length + is.length ≤ 1000000000)
 (h : ∀ v' w', Sep w' (OI v' (zs ++ is) :: l) → K (a.put o.dst v') w') : o.wp Tryz.prog a w K Q := by
 obtain ⟨i0, hi, hz0, hz1, hz2⟩ := info_parts info_int
 obtain ⟨ua, uc, rfl⟩ := hu.shape
 by_cases hy : is = []
 ·subst hy
  have hrun := run_none_any (P := Tryz.prog) w 0 23 o.type 3 i0 1 Tryz.underlying23 hi v zs.length _ H.hd ua uc
  unfold Oper.wp execOp
  simp only [ho, resolve, invoke, builtin, Sem.run_bind, Sem.run_pure, Result.andThen_ok, List.map_toArray, List.map_cons, List.map_nil, hs, hx, List.length_nil, hrun]
  exact h v w (by simpa using H)
 ·have hpos : 0 < is.length := List.length_pos_iff.2 hy
  obtain ⟨d, rfl⟩ : ∃ d, ua = some d := by
   obtain ⟨a', c', he, h⟩ := hu
   obtain ⟨d, hd, _⟩ := h hy
   cases he
   exact ⟨d, hd⟩
  refine wp_append_lies (P := Tryz.prog) _ s x 23 ho 0 3 i0 (.int .i64 0) 1 8 Tryz.underlying23 hi hz0 hz1 hz2 rfl (by decide) v zs.length (zs.map (Value.int .i64)) hs H.hd
   d is.length uc (is.map (Value.int .i64)) hx (by simp) hu.news (fun u hu => by obtain ⟨y, _, rfl⟩ := List.mem_map.1 hu; rfl) hpos (by unfold maxLen; omega) (by omega) (Nat.zero_le _) _ rfl ?_
  intro g cap w1 hown' hgrow hg _
  have ho' : OwnInts 0 w1 (.slice (some ⟨g, 0, none⟩) (zs.length + is.length) cap) (zs ++ is) := by
   unfold OwnInts
   rw [List.length_append, List.map_append]
   exact hown'
  refine h _ w1 (H.upd' (Only.of_grown (S := Hits v) hgrow fun k hk => hk) ho' fun k hk => ?_)
  have : g = k := by simpa [OI, Hits, Value.ownBlock] using hk
  subst this
  exact hg.imp id (fun h => Nat.le_of_eq h.symm)
theorem app_intsS (hgd : o.guard = none) (s x : Operand) (ho : o.op = .call { callee := .builtin .append, args := #[s, x], argTypes := #[23, 23] })
 (hs : a.eval s = v) (hx : a.eval x = u) (H : Sep w (OI v zs :: l)) (hu : IntsV w u is) (hl : zs.length + is.length ≤ 1000000000)
 (h : ∀ v' w', Sep w' (OI v' (zs ++ is) :: l) → wpList Tryz.prog ops Q rest (a.put o.dst v') w') : wpList Tryz.prog ops Q (o :: rest) a w :=
 wpList_plain hgd fun _ hK => wp_app_intsS s x ho hs hx H hu hl fun v' w' h1 => hK _ _ (h v' w' h1)
end
end Go.Proofs.YtjagjhchnpmngaaGreat

/-
  Own copies of edges and graphs. Conditions: lengths are small.
-/
import Derived.Test.YtjagjhchnpmngaaGreatDoorBa03
import Derived.StillTailTactics
namespace Go.Proofs.YtjagjhchnpmngaaGreatDoor
open Go.RowKit
set_option linter.unusedVariables false
set_option maxRecDepth 100000

/-- Two parts behind the first go into the bag. -/
theorem Sep.bagTwo {w : World} {X A B : Asrt} {L r : List Asrt} (h : Sep w (X :: A :: B :: Bag L :: r)) : Sep w (X :: Bag (L ++ [A, B]) :: r) := by
  have h1 := Sep.unbag h.s4
  have h2 : Sep w ((L ++ [A, B]) ++ (X :: r)) := Sep.perm (by rw [List.append_assoc]; exact List.Perm.append_left L ((List.Perm.swap A X (B :: r)).trans ((List.Perm.swap B X r).cons A))) h1
  exact (Sep.bag h2).s2
theorem fillX_set {xs : List XE} {n k : Nat} {x : XE} (hl : xs.length = k) (hk : k < n) : (xs ++ List.replicate (n - k) xe0).set k x = (xs ++ [x]) ++ List.replicate (n - (k + 1)) xe0 := by
  rw [List.set_append_right _ _ (by omega), hl, Nat.sub_self, show n - k = (n - (k + 1)) + 1 by omega, List.replicate_succ, List.set_cons_zero, List.append_assoc]
  rfl
theorem eds_take {es : List Ed} {xs : List XE} {x : XE} {k : Nat} (h : eds xs = es.take k) (hk : k < es.length) (hx : x.ed = es.getD k e0) : eds (xs ++ [x]) = es.take (k + 1) := by
  unfold eds at h ⊢
  rw [List.map_append, h, List.take_succ_eq_append_getElem hk, List.map_cons, List.map_nil, hx, List.getD_eq_getElem?_getD, List.getElem?_eq_getElem hk]
  rfl
end Go.Proofs.YtjagjhchnpmngaaGreatDoor

/-
  Own copies of graphs; equal graphs. Conditions: lengths are small.
-/
namespace Go.Proofs.YtjagjhchnpmngaaGreatDoor
open Go.RowKit
set_option linter.unusedVariables false
set_option maxRecDepth 100000

theorem OE_own {v : Value} {xs : List XE} : ∀ k, (OE v xs).sees k → (OE v xs).foot k := by
  rintro k ⟨A, hA, hk⟩
  refine ⟨A, hA, ?_⟩
  rcases List.mem_cons.1 hA with rfl | hA
  · exact hk
  · obtain ⟨x, _, hx⟩ := List.mem_flatMap.1 hA
    simp only [List.mem_cons, List.not_mem_nil, or_false] at hx
    rcases hx with rfl | rfl <;> exact hk
theorem OE.shape {w : World} {v : Value} {xs : List XE} (h : (OE v xs).holds w) : ∃ a c, v = .slice a xs.length c := OwnR.shape (show OwnR edgeE 0 w v xs from (show Sep w (OR edgeE v xs :: rowsE xs) from h).hd)
theorem eds_len (xs : List XE) : (eds xs).length = xs.length := by simp [eds]
/-! ### equal graphs -/
theorem eqEdge_same (k v : Int) (i1 o1 i2 o2 : Value) (is os : List Int) (w : World) (h1 : IntsV w i1 is) (h2 : IntsV w o1 os) (h3 : IntsV w i2 is) (h4 : IntsV w o2 os) (l1 : is.length ≤ 1000000000) (l2 : os.length ≤ 1000000000) :
    Calls Tryz.prog 81 #[.agg #[.int .i64 k, .int .i64 v, i1, o1], .agg #[.int .i64 k, .int .i64 v, i2, o2]] w fun e w' => e = .returned (.bool true) ∧ w.grownBy w' none := by
  have HG := Lib.hid fun W (h : w.grownBy W none) => eqIntS_any i1 i2 is is W (h1.carry h) (h3.carry h) l1 l1
  have HO := Lib.hid fun W (h : w.grownBy W none) => eqIntS_any o1 o2 os os W (h2.carry h) (h4.carry h) l2 l2
  rw [decide_eq_true rfl] at HG HO
  obtain ⟨a1, c1, rfl⟩ := h1.shape
  obtain ⟨a2, c2, rfl⟩ := h2.shape
  obtain ⟨a3, c3, rfl⟩ := h3.shape
  obtain ⟨a4, c4, rfl⟩ := h4.shape
  generalize is.length = n1 at *
  generalize os.length = n2 at *
  clear h1 h2 h3 h4
  have hs0 := ((Sep.start w).box #[.int .i64 k, .int .i64 v, .slice a1 n1 c1, .slice a2 n2 c2] 88).box #[.int .i64 k, .int .i64 v, .slice a3 n1 c3, .slice a4 n2 c4] 88
  have e1 : (w.alloc (.cells #[.int .i64 k, .int .i64 v, .slice a1 n1 c1, .slice a2 n2 c2] 88)).heap.size = w.heap.size + 1 := by simp
  rw [e1] at hs0
  have HS0 := Lib.hid hs0
  have HK0 := Lib.hid (show w.grownBy _ none from hs0.tl.tl.hd)
  clear hs0 e1
  go_enter Tryz.func81, Tryz.ntmps81
  go_wp2_with (first
    | (go_at_call 52
       with_reducible refine (HG.out _ HK0.out).mono ?_
       rintro e w4 ⟨rfl, hg⟩
       have hs1 := HS0.out.grown hg
       obtain ⟨x0, x1, x2, x3, _⟩ := bq4 hs1.hd
       obtain ⟨y0, y1, y2, y3, _⟩ := bq4 hs1.tl.hd
       have HK1 := Lib.hid (show w.grownBy w4 none from hs1.tl.tl.hd)
       clear hg hs1)
    | (go_at_call 52
       with_reducible refine (HO.out _ HK1.out).mono ?_
       rintro e w6 ⟨rfl, hg⟩
       have HK2 := Lib.hid (grownBy_trans HK1.out hg)
       clear hg))
  go_ret
  exact ⟨rfl, HK2.out⟩
set_option maxHeartbeats 2000000 in
theorem eqEdgeS_same (v1 v2 : Value) (es : List Ed) (w : World) (h1 : RdE edgeE w v1 es) (h2 : RdE edgeE w v2 es) (l1 : es.length ≤ 2000000) (hle : ∀ e ∈ es, e.i.length ≤ 1000000000 ∧ e.o.length ≤ 1000000000) :
    Calls Tryz.prog 51 #[v1, v2] w fun e w' => e = .returned (.bool true) ∧ w.grownBy w' none := by
  have H1 := Lib.hid h1; have H2 := Lib.hid h2; have HLE := Lib.hid hle
  obtain ⟨a1, c1, rfl⟩ := h1.shape
  obtain ⟨a2, c2, rfl⟩ := h2.shape
  clear h1 h2 hle
  generalize hlx : es.length = l at *
  have HLX := Lib.hid hlx
  clear hlx
  go_enter Tryz.func51, Tryz.ntmps51
  go_wp2
  go_loopw [5] (fun i wr => ∃ k : Nat, k ≤ l ∧ i = .int .i64 k ∧ w.grownBy wr none) (fun i _ => l - (intOf i).toNat)
  case atStart => exact ⟨0, by omega, rfl, grownBy_refl _ _⟩
  case round =>
    obtain ⟨k, hk, rfl, hg⟩ := hrel
    have HG := Lib.hid hg
    clear hg
    by_cases hlt : k < l
    · have hke : k < es.length := by rw [HLX.out]; exact hlt
      have hdr : w.grownBy wr.drew none := ⟨HG.out.os, HG.out.tape, HG.out.output, HG.out.size, HG.out.block⟩
      obtain ⟨b1, o1, i1, t1, rfl, _, p0, p1, p2, p3, hi1, ho1⟩ := (H1.out.carry HG.out).at rfl rfl hke
      obtain ⟨b2, o2, i2, t2, rfl, _, q0, q1, q2, q3, hi2, ho2⟩ := (H2.out.carry HG.out).at rfl rfl hke
      have hlm := HLE.out _ (show es.getD k e0 ∈ es by rw [List.getD_eq_getElem?_getD, List.getElem?_eq_getElem hke]; exact List.getElem_mem _)
      have hdw : wr.grownBy wr.drew none := ⟨rfl, rfl, rfl, Nat.le_refl _, fun _ _ _ => rfl⟩
      have HC := Lib.hid (eqEdge_same (es.getD k e0).k (es.getD k e0).v i1 t1 i2 t2 (es.getD k e0).i (es.getD k e0).o wr.drew (hi1.carry hdw) (ho1.carry hdw) (hi2.carry hdw) (ho2.carry hdw) hlm.1 hlm.2)
      have HDR := Lib.hid hdr
      obtain ⟨s1, r1, rfl⟩ := hi1.shape
      obtain ⟨s2, r2, rfl⟩ := ho1.shape
      obtain ⟨s3, r3, rfl⟩ := hi2.shape
      obtain ⟨s4, r4, rfl⟩ := ho2.shape
      generalize es.getD k e0 = y at *
      obtain ⟨yk, yv, yi, yo⟩ := y
      simp only at p0 p1 p2 p3 q0 q1 q2 q3 HC
      clear hke hlm hdw hdr hi1 hi2 ho1 ho2
      generalize yi.length = m1 at *
      generalize yo.length = m2 at *
      go_wp2_with fail
      refine wp_region_still_tail 8 (by kernel_rfl) (by kernel_rfl) ?_
      simp only [List.take_succ_cons, List.take_zero, List.drop_succ_cons, List.drop_zero]
      repeat still_step
      refine wpStill_nil ?_
      change wpList _ _ _ _ _ wr.drew
      go_wp2_with (
        go_at_call 81
        with_reducible refine HC.out.mono ?_
        rintro e w2 ⟨rfl, hg⟩
        have HG2 := Lib.hid (grownBy_trans HDR.out hg)
        clear hg)
      go_roundw
      case rel => exact ⟨k + 1, by omega, by go_num, HG2.out⟩
      case measure => simp [intOf]; omega
    · have hkl : k = l := by omega
      subst hkl
      go_wp2
      go_ret
      exact ⟨rfl, HG.out⟩
theorem eqGraph_same (u0 u1 u2 v0 v1 v2 : Value) (g : Gr) (w : World) (h0 : RdE edgeE w u0 g.es) (h1 : IntsV w u1 g.i) (h2 : IntsV w u2 g.o) (k0 : RdE edgeE w v0 g.es) (k1 : IntsV w v1 g.i) (k2 : IntsV w v2 g.o) (l0 : g.es.length ≤ 2000000) (l1 : g.i.length ≤ 1000000000) (l2 : g.o.length ≤ 1000000000) (hle : ∀ e ∈ g.es, e.i.length ≤ 1000000000 ∧ e.o.length ≤ 1000000000) :
    Calls Tryz.prog 24 #[grV g.n u0 u1 u2, grV g.n v0 v1 v2] w fun e w' => e = .returned (.bool true) ∧ w.grownBy w' none := by
  have HE := Lib.hid fun W (h : w.grownBy W none) => eqEdgeS_same u0 v0 g.es W (h0.carry h) (k0.carry h) l0 hle
  have HG := Lib.hid fun W (h : w.grownBy W none) => eqIntS_any u1 v1 g.i g.i W (h1.carry h) (k1.carry h) l1 l1
  have HO := Lib.hid fun W (h : w.grownBy W none) => eqIntS_any u2 v2 g.o g.o W (h2.carry h) (k2.carry h) l2 l2
  rw [decide_eq_true rfl] at HG HO
  unfold grV
  obtain ⟨a0, c0, rfl⟩ := h0.shape
  obtain ⟨a1, c1, rfl⟩ := h1.shape
  obtain ⟨a2, c2, rfl⟩ := h2.shape
  obtain ⟨b0, d0, rfl⟩ := k0.shape
  obtain ⟨b1, d1, rfl⟩ := k1.shape
  obtain ⟨b2, d2, rfl⟩ := k2.shape
  obtain ⟨k, es, is, os⟩ := g
  simp only at HE HG HO ⊢
  clear h0 h1 h2 k0 k1 k2 hle
  generalize es.length = n0 at *
  generalize is.length = n1 at *
  generalize os.length = n2 at *
  have hs0 := ((Sep.start w).box #[.int .i64 k, .slice a0 n0 c0, .slice a1 n1 c1, .slice a2 n2 c2] 30).box #[.int .i64 k, .slice b0 n0 d0, .slice b1 n1 d1, .slice b2 n2 d2] 30
  have e1 : (w.alloc (.cells #[.int .i64 k, .slice a0 n0 c0, .slice a1 n1 c1, .slice a2 n2 c2] 30)).heap.size = w.heap.size + 1 := by simp
  rw [e1] at hs0
  have HS0 := Lib.hid hs0
  have HK0 := Lib.hid (show w.grownBy _ none from hs0.tl.tl.hd)
  clear hs0 e1
  go_enter Tryz.func24, Tryz.ntmps24
  go_wp2_with (first
    | (go_at_call 51
       with_reducible refine (HE.out _ HK0.out).mono ?_
       rintro e w4 ⟨rfl, hg⟩
       have hs1 := HS0.out.grown hg
       obtain ⟨x0, x1, x2, x3, _⟩ := bq4 hs1.hd
       obtain ⟨y0, y1, y2, y3, _⟩ := bq4 hs1.tl.hd
       have HS1 := Lib.hid hs1
       have HK1 := Lib.hid (show w.grownBy w4 none from hs1.tl.tl.hd)
       clear hg hs1)
    | (go_at_call 52
       with_reducible refine (HG.out _ HK1.out).mono ?_
       rintro e w5 ⟨rfl, hg⟩
       have hs1 := HS1.out.grown hg
       obtain ⟨x0, x1, x2, x3, _⟩ := bq4 hs1.hd
       obtain ⟨y0, y1, y2, y3, _⟩ := bq4 hs1.tl.hd
       have HK2 := Lib.hid (show w.grownBy w5 none from hs1.tl.tl.hd)
       clear hg hs1)
    | (go_at_call 52
       with_reducible refine (HO.out _ HK2.out).mono ?_
       rintro e w6 ⟨rfl, hg⟩
       have HK3 := Lib.hid (grownBy_trans HK2.out hg)
       clear hg))
  go_ret
  exact ⟨rfl, HK3.out⟩
end Go.Proofs.YtjagjhchnpmngaaGreatDoor

/-
  Graphs marked and held. Conditions: lengths are small.
-/
namespace Go.Proofs.YtjagjhchnpmngaaGreatDoor
open Go.RowKit
set_option linter.unusedVariables false
set_option maxRecDepth 100000

def mkE (k : Int) (e : Ed) : Ed := ⟨k, k + 1, cntI (k + 2) e.i.length, cntI (k + 2 + e.i.length) e.o.length⟩
def wE (e : Ed) : Nat := 2 + e.i.length + e.o.length
def wEs : List Ed → Nat
  | [] => 0
  | e :: es => wE e + wEs es
def mkX (k : Int) (x : XE) : XE := ⟨mkE k x.ed, x.iv, x.ov⟩
def mkXs (k : Int) : List XE → List XE
  | [] => []
  | x :: xs => mkX k x :: mkXs (k + wE x.ed) xs
def mkEs (k : Int) : List Ed → List Ed
  | [] => []
  | e :: es => mkE k e :: mkEs (k + wE e) es
theorem wEs_tot (es : List Ed) : wEs es = 2 * es.length + totEs es := by
  induction es with
  | nil => rfl
  | cons e es ih => simp only [wEs, wE, totEs, totE, List.length_cons, ih]; omega
theorem wEs_take (es : List Ed) (k : Nat) (hk : k < es.length) : wEs (es.take (k + 1)) = wEs (es.take k) + wE (es.getD k e0) := by
  induction es generalizing k with
  | nil => simp at hk
  | cons e es ih =>
    cases k with
    | zero => simp [wEs]
    | succ k =>
      have := ih k (by simpa using hk)
      simp only [List.take_succ_cons, wEs, List.getD_cons_succ]
      omega
theorem wEs_le (es : List Ed) (k : Nat) : wEs (es.take k) ≤ wEs es := by
  induction es generalizing k with
  | nil => simp
  | cons e es ih =>
    cases k with
    | zero => simp [wEs]
    | succ k =>
      have := ih k
      simp only [List.take_succ_cons, wEs]
      omega
theorem wEs_app (A B : List Ed) : wEs (A ++ B) = wEs A + wEs B := by
  induction A with
  | nil => simp [wEs]
  | cons a A ih => simp only [List.cons_append, wEs, ih]; omega
theorem mkXs_len (k : Int) (xs : List XE) : (mkXs k xs).length = xs.length := by
  induction xs generalizing k with
  | nil => rfl
  | cons x xs ih => simp only [mkXs, List.length_cons, ih]
theorem mkEs_len (k : Int) (es : List Ed) : (mkEs k es).length = es.length := by
  induction es generalizing k with
  | nil => rfl
  | cons x xs ih => simp only [mkEs, List.length_cons, ih]
theorem eds_mk (k : Int) (xs : List XE) : eds (mkXs k xs) = mkEs k (eds xs) := by
  induction xs generalizing k with
  | nil => rfl
  | cons x xs ih =>
    show (mkX k x).ed :: eds (mkXs (k + wE x.ed) xs) = _
    rw [ih]
    rfl
theorem mkXs_snoc (k : Int) (A : List XE) (x : XE) : mkXs k (A ++ [x]) = mkXs k A ++ [mkX (k + wEs (eds A)) x] := by
  induction A generalizing k with
  | nil => simp [mkXs, eds, wEs]
  | cons a A ih =>
    show mkX k a :: mkXs (k + wE a.ed) (A ++ [x]) = _
    rw [ih]
    show _ = mkX k a :: (mkXs (k + wE a.ed) A ++ [mkX (k + ((wE a.ed + wEs (eds A) : Nat) : Int)) x])
    rw [show k + ((wE a.ed + wEs (eds A) : Nat) : Int) = k + (wE a.ed : Int) + (wEs (eds A) : Int) by omega]
theorem mkEs_at (k : Int) (es : List Ed) (j : Nat) (hj : j < es.length) : (mkEs k es).getD j e0 = mkE (k + wEs (es.take j)) (es.getD j e0) := by
  induction es generalizing k j with
  | nil => simp at hj
  | cons e es ih =>
    cases j with
    | zero => simp [mkEs, wEs]
    | succ j =>
      show (mkEs (k + wE e) es).getD j e0 = _
      rw [ih (k + wE e) j (by simpa using hj)]
      simp only [List.take_succ_cons, wEs, List.getD_cons_succ]
      rw [show k + ((wE e + wEs (es.take j) : Nat) : Int) = k + (wE e : Int) + (wEs (es.take j) : Int) by omega]
theorem rowsE_cons (x : XE) (xs : List XE) : rowsE (x :: xs) = OI x.iv x.ed.i :: OI x.ov x.ed.o :: rowsE xs := by simp [rowsE]
/-- Two parts behind the first go into the bag behind them. -/
theorem Sep.swapTwo {w : World} {X A B C : Asrt} {r : List Asrt} (h : Sep w (A :: B :: X :: C :: r)) : Sep w (X :: A :: B :: C :: r) := h.s3
set_option maxHeartbeats 4000000 in
theorem markEdgeS_any (a : Option Addr) (n c : Nat) (xs : List XE) (k : Int) (w : World) (l : List Asrt) (hs : Sep w (OE (.slice a n c) xs :: l)) (hn : n = xs.length) (hl : wEs (eds xs) ≤ 4000000) (hlt2 : totEs (eds xs) ≤ 2000000) (h0 : 0 ≤ k) (h1 : k ≤ 50000000) :
    Calls Tryz.prog 55 #[.slice a n c, .int .i64 k] w fun e w' => e = .returned (.int .i64 (k + wEs (eds xs))) ∧ Sep w' (OE (.slice a n c) (mkXs k xs) :: l) := by
  have HS := Lib.hid hs.outBag; have HL := Lib.hid hn.symm
  have hn2 : n ≤ 2000000 := by have := wEs_tot (eds xs); rw [eds_len] at this; omega
  clear hs hn
  go_enter Tryz.func55, Tryz.ntmps55
  go_wp2
  go_loopw [1, 5] (fun kv i wr => ∃ (j : Nat) (A R : List XE) (q : Int), j ≤ n ∧ i = .int .i64 j ∧ xs = A ++ R ∧ A.length = j ∧ kv = .int .i64 q ∧ q = k + wEs (eds A) ∧ Sep wr (OR edgeE (.slice a n c) (mkXs k A ++ R) :: Bag (rowsE (mkXs k A)) :: Bag (rowsE R) :: l)) (fun _ i _ => n - (intOf i).toNat)
  case atStart => exact ⟨0, [], xs, k, by omega, rfl, rfl, rfl, rfl, by simp [eds, wEs], by simpa [mkXs, rowsE] using HS.out.noBag.s2⟩
  case round =>
    obtain ⟨j, A, R, q, hj, rfl, hx, hA, rfl, hq, hs⟩ := hrel
    have HQ := Lib.hid hq
    have HSX := Lib.hid hs; have HX := Lib.hid hx; have HA := Lib.hid hA
    have hwl : wEs (eds A) + wEs (eds R) = wEs (eds xs) := by rw [hx]; unfold eds; rw [List.map_append, wEs_app]
    clear hs hx hA HS
    by_cases hlt : j < n
    · have hRl : 0 < R.length := by
        have h1 := HL.out
        rw [HX.out, List.length_append, HA.out] at h1
        omega
      obtain ⟨x, R', rfl⟩ : ∃ x R', R = x :: R' := by
        cases R with
        | nil => simp at hRl
        | cons x R' => exact ⟨x, R', rfl⟩
      have hll : n = (mkXs k A ++ x :: R').length := by
        have h1 := HL.out
        rw [HX.out, List.length_append] at h1
        rw [List.length_append, mkXs_len]
        omega
      have hjl : j < (mkXs k A ++ x :: R').length := by rw [← hll]; exact hlt
      have hget : (mkXs k A ++ x :: R').getD j xe0 = x := by
        rw [List.getD_eq_getElem?_getD, List.getElem?_append_right (by rw [mkXs_len, HA.out]; exact Nat.le_refl _), mkXs_len, HA.out, Nat.sub_self]
        rfl
      obtain ⟨g, cap, he, _, _, _⟩ := OwnR.parts (show OwnR edgeE 0 wr (.slice a n c) (mkXs k A ++ x :: R') from HSX.out.hd) (by omega)
      rw [← hll] at he
      cases he
      have hgE : (mkXs k A ++ x :: R')[j] = x := by
        rw [List.getD_eq_getElem?_getD, List.getElem?_eq_getElem hjl] at hget
        exact hget
      have hq1 : q ≤ 54000000 := by omega
      have hq0 : 0 ≤ q := by omega
      obtain ⟨q1, e1⟩ : ∃ q1, q1 = q + 1 := ⟨_, rfl⟩
      obtain ⟨q2, e2⟩ : ∃ q2, q2 = q1 + 1 := ⟨_, rfl⟩
      have hw : wrap64 (q + 1) = q1 := (wrap64_id (by omega) (by omega)).trans e1.symm
      have hw1 : wrap64 (q1 + 1) = q2 := (wrap64_id (by omega) (by omega)).trans e2.symm
      obtain ⟨i1, d1, hiv⟩ : ∃ a c, x.iv = .slice a x.ed.i.length c := own_shape (show OwnInts 0 wr x.iv x.ed.i from (by have h := HSX.out.s3; rw [rowsE_cons] at h; exact h.outBag.hd))
      obtain ⟨i2, d2, hov⟩ : ∃ a c, x.ov = .slice a x.ed.o.length c := own_shape (show OwnInts 0 wr x.ov x.ed.o from (by have h := HSX.out.s3; rw [rowsE_cons] at h; exact h.outBag.s2.outBag.hd))
      have h1 := show Sep (wr.setCell ⟨g, j * 4, none⟩ (.int .i64 q)) _ from HSX.out.setR (E := edgeE) hll (i := j) (j := 0) (y := ⟨⟨q, x.ed.v, [], []⟩, x.iv, x.ov⟩) (u := .int .i64 q) hjl (by decide) (by rw [hgE]; rfl)
      have h2 := show Sep ((wr.setCell ⟨g, j * 4, none⟩ (.int .i64 q)).setCell ⟨g, j * 4 + 1, none⟩ (.int .i64 q1)) _ from h1.setR (E := edgeE) (by rw [List.length_set]; exact hll) (i := j) (j := 1) (y := mkX q x) (u := .int .i64 q1) (by rw [List.length_set]; exact hjl) (by decide) (by rw [List.getElem_set_self, e1]; rfl)
      rw [List.set_set, List.set_append_right _ _ (by rw [mkXs_len, HA.out]; exact Nat.le_refl _), mkXs_len, HA.out, Nat.sub_self, List.set_cons_zero] at h2
      obtain ⟨f0, f1, f2, f3⟩ := edge_free HSX.out.hd hll j
      obtain ⟨p0, p1, p2, p3⟩ := edge_cells HSX.out.hd hll hjl
      obtain ⟨r0, r1, r2, r3⟩ := edge_free h1.hd (by rw [List.length_set]; exact hll) j
      obtain ⟨t0, t1, t2, t3⟩ := edge_cells h1.hd (by rw [List.length_set]; exact hll) (i := j) (by rw [List.length_set]; exact hjl)
      have hll2 : n = (mkXs k A ++ mkX q x :: R').length := by rw [hll]; simp
      have hge2 : (mkXs k A ++ mkX q x :: R').getD j xe0 = mkX q x := by
        rw [List.getD_eq_getElem?_getD, List.getElem?_append_right (by rw [mkXs_len, HA.out]; exact Nat.le_refl _), mkXs_len, HA.out, Nat.sub_self]
        rfl
      obtain ⟨u0, u1, u2, u3⟩ := edge_cells h2.hd hll2 (i := j) (by rw [← hll2]; exact hlt)
      rw [hge2] at u0 u1 u2 u3
      have HC := Lib.hid fun W l' (h : Sep W (OR edgeE (.slice (some ⟨g, 0, none⟩) n c) (mkXs k A ++ mkX q x :: R') :: l')) => (edge_cells h.hd hll2 (i := j) (by rw [← hll2]; exact hlt)).2.2.2
      rw [hge2] at HC
      rw [rowsE_cons] at h2
      have h3 := h2.s3.outBag.s2.outBag.s3
      obtain ⟨⟨xk, xv, xi, xo⟩, xiv, xov⟩ := x
      simp only at hiv hov
      subst hiv hov
      have h3' : Sep _ (OI (.slice i1 xi.length d1) xi :: OI (.slice i2 xo.length d2) xo :: Bag (rowsE R') :: OR edgeE (.slice (some ⟨g, 0, none⟩) n c) (mkXs k A ++ mkX q ⟨⟨xk, xv, xi, xo⟩, .slice i1 xi.length d1, .slice i2 xo.length d2⟩ :: R') :: Bag (rowsE (mkXs k A)) :: l) := h3
      have HS3 := Lib.hid h3'
      have hwx : wEs (eds A) + (2 + xi.length + xo.length) ≤ wEs (eds xs) := by rw [← hwl]; simp only [eds, List.map_cons, wEs, wE]; omega
      have hxm : xi.length + xo.length ≤ totEs (eds xs) := tot_mem (e := ⟨xk, xv, xi, xo⟩) (by rw [HX.out]; simp [eds])
      obtain ⟨q3, e3⟩ : ∃ q3, q3 = q2 + (xi.length : Int) := ⟨_, rfl⟩
      obtain ⟨q4, e4⟩ : ∃ q4, q4 = q3 + (xo.length : Int) := ⟨_, rfl⟩
      have HM1 := Lib.hid fun W l (h : Sep W (OI (.slice i1 xi.length d1) xi :: l)) => markIntS_any i1 xi.length d1 xi q2 W l h rfl (by omega) (by omega) (by omega)
      have HM2 := Lib.hid fun W l (h : Sep W (OI (.slice i2 xo.length d2) xo :: l)) => markIntS_any i2 xo.length d2 xo q3 W l h rfl (by omega) (by omega) (by omega)
      rw [← e3] at HM1
      rw [← e4] at HM2
      have HQ4 := Lib.hid (show q4 = k + (wEs (eds (A ++ [⟨⟨xk, xv, xi, xo⟩, .slice i1 xi.length d1, .slice i2 xo.length d2⟩])) : Int) by
        rw [show eds (A ++ [(⟨⟨xk, xv, xi, xo⟩, .slice i1 xi.length d1, .slice i2 xo.length d2⟩ : XE)]) = eds A ++ [⟨xk, xv, xi, xo⟩] by simp [eds], wEs_app]
        simp only [wEs, wE]
        omega)
      have hmx : mkX q ⟨⟨xk, xv, xi, xo⟩, .slice i1 xi.length d1, .slice i2 xo.length d2⟩ = ⟨⟨q, q1, cntI q2 xi.length, cntI q3 xo.length⟩, .slice i1 xi.length d1, .slice i2 xo.length d2⟩ := by
        unfold mkX mkE
        simp only
        rw [show q + 2 + (xi.length : Int) = q3 by omega, show q + 2 = q2 by omega, show q + 1 = q1 by omega]
      have HEND := Lib.hid (show mkXs k (A ++ [⟨⟨xk, xv, xi, xo⟩, .slice i1 xi.length d1, .slice i2 xo.length d2⟩]) = mkXs k A ++ [⟨⟨q, q1, cntI q2 xi.length, cntI q3 xo.length⟩, .slice i1 xi.length d1, .slice i2 xo.length d2⟩] by rw [mkXs_snoc, ← hq, hmx])
      have HXN := Lib.hid (show xs = (A ++ [⟨⟨xk, xv, xi, xo⟩, .slice i1 xi.length d1, .slice i2 xo.length d2⟩]) ++ R' by rw [HX.out]; simp)
      rw [hmx] at HC HS3 u0 u1 u2 u3
      simp only at p0 p1 p2 p3 t0 t1 t2 t3 u0 u1 u2 u3 HC hget
      have HAL := Lib.hid (show (A ++ [(⟨⟨xk, xv, xi, xo⟩, .slice i1 xi.length d1, .slice i2 xo.length d2⟩ : XE)]).length = j + 1 by rw [List.length_append, HA.out]; rfl)
      rw [hget] at p0 p1 p2 p3
      simp only at p0 p1 p2 p3
      clear h1 h2 h3 h3' hll hll2 hjl hget hgE hge2 hmx e1 e2 e3 e4 hq hwx hwl hq0 hq1 hxm
      have HMA := Lib.hid (HM1.out _ _ HS3.out)
      have HMB := Lib.hid fun W l h => HM2.out W l h
      clear HS3 HM1 HM2 HSX
      generalize xi.length = m1 at *
      generalize xo.length = m2 at *
      go_wp2_with (first
        | (go_at_call 56
           with_reducible refine HMA.out.mono ?_
           rintro e w5 ⟨rfl, hs5⟩
           have v3 := HC.out _ _ (show Sep w5 (OR edgeE _ _ :: _) from hs5.s4)
           have HS5 := Lib.hid hs5.s2
           clear hs5)
        | (go_at_call 56
           with_reducible refine (HMB.out _ _ HS5.out).mono ?_
           rintro e w6 ⟨rfl, hs6⟩
           have hs7 := hs6.s5.s2.s3.s5.bagTwo
           have HS7 := Lib.hid hs7
           clear hs6 hs7))
      go_roundw
      case rel =>
        have h := HS7.out
        refine ⟨j + 1, _, R', q4, by omega, by go_num, HXN.out, HAL.out, rfl, HQ4.out, ?_⟩
        rw [HEND.out, rowsE_snoc, List.append_assoc]
        exact h
      case measure => simp [intOf]; omega
    · have hjn : j = n := by omega
      subst hjn
      have hR : R = [] := by
        have h1 := HL.out
        rw [HX.out, List.length_append, HA.out] at h1
        exact List.length_eq_zero_iff.1 (by omega)
      subst hR
      have hxa : xs = A := by rw [HX.out, List.append_nil]
      have hs := HSX.out
      rw [List.append_nil] at hs
      have hs2 := (hs.under (fun h => h.drop2) (by simp +contextual)).intoBag
      rw [← hxa] at hs2 hq
      have HF := Lib.hid hs2
      have HQF := Lib.hid hq
      clear hs hs2 hq hxa hlt hwl HQ
      go_wp2
      go_ret
      exact ⟨by rw [HQF.out]; rfl, HF.out⟩
set_option maxHeartbeats 1000000 in
theorem markGraph_any (u0 u1 u2 : Value) (xs : List XE) (g : Gr) (k : Int) (w : World) (l : List Asrt) (hs : Sep w (OE u0 xs :: OI u1 g.i :: OI u2 g.o :: l)) (hx : eds xs = g.es) (hl : totG g ≤ 1048576) (h0 : 0 ≤ k) (h1 : k ≤ 1000000) :
    Calls Tryz.prog 28 #[grV g.n u0 u1 u2, .int .i64 k] w fun e w' => e = .returned (.int .i64 (k + wEs g.es + g.i.length + g.o.length)) ∧ Sep w' (OE u0 (mkXs k xs) :: OI u1 (cntI (k + wEs g.es) g.i.length) :: OI u2 (cntI (k + wEs g.es + g.i.length) g.o.length) :: l) := by
  have hw := wEs_tot g.es
  unfold totG at hl
  obtain ⟨a0, c0, rfl⟩ := OE.shape hs.hd
  obtain ⟨a1, c1, rfl⟩ := own_shape (show OwnInts 0 w u1 g.i from hs.tl.hd)
  obtain ⟨a2, c2, rfl⟩ := own_shape (show OwnInts 0 w u2 g.o from hs.tl.tl.hd)
  obtain ⟨q, hq⟩ : ∃ q, q = k + (wEs g.es : Int) := ⟨_, rfl⟩
  obtain ⟨q2, hq2⟩ : ∃ q2, q2 = q + (g.i.length : Int) := ⟨_, rfl⟩
  have HE := Lib.hid fun W l (h : Sep W (OE (.slice a0 xs.length c0) xs :: l)) => markEdgeS_any a0 xs.length c0 xs k W l h rfl (by rw [hx]; omega) (by rw [hx]; omega) h0 (by omega)
  have HI := Lib.hid fun W l (h : Sep W (OI (.slice a1 g.i.length c1) g.i :: l)) => markIntS_any a1 g.i.length c1 g.i q W l h rfl (by omega) (by omega) (by omega)
  have HO := Lib.hid fun W l (h : Sep W (OI (.slice a2 g.o.length c2) g.o :: l)) => markIntS_any a2 g.o.length c2 g.o q2 W l h rfl (by omega) (by omega) (by omega)
  rw [hx, ← hq] at HE
  rw [← hq2] at HI
  rw [← hq, ← hq2]
  unfold grV
  have hs0 := hs.box #[.int .i64 g.n, .slice a0 xs.length c0, .slice a1 g.i.length c1, .slice a2 g.o.length c2] 30
  have HS0 := Lib.hid hs0.s2
  clear hs hs0 hq hq2 hw hx hl
  generalize g.i.length = n1 at *
  generalize g.o.length = n2 at *
  generalize xs.length = n0 at *
  go_enter Tryz.func28, Tryz.ntmps28
  go_wp2_with (first
    | (go_at_call 55
       with_reducible refine (HE.out _ _ HS0.out).mono ?_
       rintro e w4 ⟨rfl, hs⟩
       obtain ⟨x0, x1, x2, x3, _⟩ := bq4 hs.tl.hd
       have HS1 := Lib.hid hs.s3
       clear hs)
    | (go_at_call 56
       with_reducible refine (HI.out _ _ HS1.out).mono ?_
       rintro e w6 ⟨rfl, hs⟩
       obtain ⟨x0, x1, x2, x3, _⟩ := bq4 hs.tl.tl.hd
       have HS2 := Lib.hid hs.s4
       clear hs)
    | (go_at_call 56
       with_reducible refine (HO.out _ _ HS2.out).mono ?_
       rintro e w7 ⟨rfl, hs⟩
       have HS3 := Lib.hid (show Sep w7 (OE _ _ :: OI _ _ :: OI _ _ :: l) from hs.s3.under (fun h => h.s2.under (fun h => h.under (fun h => h.tl) (by simp +contextual)) (by simp +contextual)) (by simp +contextual))
       clear hs))
  go_ret
  exact ⟨rfl, HS3.out⟩
end Go.Proofs.YtjagjhchnpmngaaGreatDoor

/-
  Graphs whose marks are held. Conditions: lengths are small.
-/
namespace Go.Proofs.YtjagjhchnpmngaaGreatDoor
open Go.RowKit
set_option linter.unusedVariables false
set_option maxRecDepth 100000

set_option maxHeartbeats 2000000 in
theorem heldEdgeS_any (v : Value) (es : List Ed) (k : Int) (w : World) (hv : RdE edgeE w v (mkEs k es)) (hl : wEs es ≤ 4000000) (hlt2 : totEs es ≤ 2000000) (h0 : 0 ≤ k) (h1 : k ≤ 50000000) :
    Calls Tryz.prog 57 #[v, .int .i64 k] w fun e w' => e = .returned (.int .i64 (k + wEs es)) ∧ w.grownBy w' none := by
  have HV := Lib.hid hv
  obtain ⟨a, c, rfl⟩ := hv.shape
  rw [mkEs_len] at *
  clear hv
  generalize hn : es.length = n at *
  have HN := Lib.hid hn
  have hn2 : n ≤ 2000000 := by have := wEs_tot es; omega
  clear hn
  go_enter Tryz.func57, Tryz.ntmps57
  go_wp2
  go_loopw [1, 5] (fun kv i wr => ∃ (j : Nat) (q : Int), j ≤ n ∧ i = .int .i64 j ∧ kv = .int .i64 q ∧ q = k + wEs (es.take j) ∧ w.grownBy wr none) (fun _ i _ => n - (intOf i).toNat)
  case atStart => exact ⟨0, k, by omega, rfl, rfl, by simp [wEs], grownBy_refl _ _⟩
  case round =>
    obtain ⟨j, q, hj, rfl, rfl, hq, hg⟩ := hrel
    have HG := Lib.hid hg; have HQ := Lib.hid hq
    clear hg
    by_cases hlt : j < n
    · have hje : j < es.length := by rw [HN.out]; exact hlt
      obtain ⟨b, o, iv, ov, rfl, _, p0, p1, p2, p3, hi, ho⟩ := (HV.out.carry HG.out).at rfl rfl (i := j) (by rw [mkEs_len]; exact hje)
      rw [mkEs_at k es j hje, ← hq] at p0 p1 hi ho
      have HT := Lib.hid (wEs_take es j hje)
      have hle := wEs_le es (j + 1)
      have hxm := tot_mem (show es.getD j e0 ∈ es by rw [List.getD_eq_getElem?_getD, List.getElem?_eq_getElem hje]; exact List.getElem_mem _)
      rw [HT.out] at hle
      unfold wE at hle HT
      unfold mkE at p0 p1 hi ho
      simp only at p0 p1 hi ho
      obtain ⟨q1, e1⟩ : ∃ q1, q1 = q + 1 := ⟨_, rfl⟩
      obtain ⟨q2, e2⟩ : ∃ q2, q2 = q1 + 1 := ⟨_, rfl⟩
      have hq0 : 0 ≤ q := by omega
      have hq54 : q ≤ 54000000 := by omega
      have hw : wrap64 (q + 1) = q1 := (wrap64_id (by omega) (by omega)).trans e1.symm
      have hw1 : wrap64 (q1 + 1) = q2 := (wrap64_id (by omega) (by omega)).trans e2.symm
      obtain ⟨q3, e3⟩ : ∃ q3, q3 = q2 + ((es.getD j e0).i.length : Int) := ⟨_, rfl⟩
      obtain ⟨q4, e4⟩ : ∃ q4, q4 = q3 + ((es.getD j e0).o.length : Int) := ⟨_, rfl⟩
      rw [show q + 1 = q1 by omega] at p1
      rw [show q + 2 = q2 by omega] at hi ho
      rw [← e3] at ho
      obtain ⟨i1, d1, rfl⟩ := hi.shape
      obtain ⟨i2, d2, rfl⟩ := ho.shape
      rw [cntI_len] at hi ho p2 p3
      have HA := Lib.hid (heldIntS_any i1 _ d1 q2 wr hi (by omega) (by omega) (by omega))
      have HB := Lib.hid (heldIntS_any i2 _ d2 q3 wr ho (by omega) (by omega) (by omega))
      rw [← e3] at HA
      rw [← e4] at HB
      have HQ4 := Lib.hid (show q4 = k + (wEs (es.take (j + 1)) : Int) by have := HT.out; omega)
      have hn1 : (q1 != q1) = false := by simp
      have hn0 : (q != q) = false := by simp
      have hq30 : ¬ q3 < 0 := by omega
      have hq40 : ¬ q4 < 0 := by omega
      clear hi ho HT hle hxm e1 e2 e3 e4 hq0 hq54 hje hq
      try simp only [cntI_len] at HA HB p2 p3
      generalize (es.getD j e0).i.length = m1 at *
      generalize (es.getD j e0).o.length = m2 at *
      go_wp2_with (first
        | (go_at_call 58; with_reducible refine HA.out.mono ?_; rintro e w5 ⟨rfl, rfl⟩)
        | (go_at_call 58; with_reducible refine HB.out.mono ?_; rintro e w6 ⟨rfl, rfl⟩))
      go_roundw
      case rel => exact ⟨j + 1, q4, by omega, by go_num, rfl, HQ4.out, HG.out⟩
      case measure => simp [intOf]; omega
    · have hjn : j = n := by omega
      subst hjn
      rw [List.take_of_length_le (by rw [HN.out]; exact Nat.le_refl _)] at hq
      have HQF := Lib.hid hq
      clear hq HQ
      go_wp2
      go_ret
      exact ⟨by rw [HQF.out]; rfl, HG.out⟩
theorem heldGraph_any (u0 u1 u2 : Value) (g : Gr) (k : Int) (w : World) (h0 : RdE edgeE w u0 (mkEs k g.es)) (h1 : IntsV w u1 (cntI (k + wEs g.es) g.i.length)) (h2 : IntsV w u2 (cntI (k + wEs g.es + g.i.length) g.o.length)) (hl : totG g ≤ 1048576) (hk0 : 0 ≤ k) (hk1 : k ≤ 1000000) :
    Calls Tryz.prog 30 #[grV g.n u0 u1 u2, .int .i64 k] w fun e w' => e = .returned (.int .i64 (k + wEs g.es + g.i.length + g.o.length)) ∧ w.grownBy w' none := by
  have hw := wEs_tot g.es
  unfold totG at hl
  have HE := Lib.hid fun W (h : w.grownBy W none) => heldEdgeS_any u0 g.es k W (h0.carry h) (by omega) (by omega) hk0 (by omega)
  obtain ⟨q, hq⟩ : ∃ q, q = k + (wEs g.es : Int) := ⟨_, rfl⟩
  obtain ⟨q2, hq2⟩ : ∃ q2, q2 = q + (g.i.length : Int) := ⟨_, rfl⟩
  obtain ⟨q3, hq3⟩ : ∃ q3, q3 = q2 + (g.o.length : Int) := ⟨_, rfl⟩
  obtain ⟨a0, c0, rfl⟩ := h0.shape
  obtain ⟨a1, c1, rfl⟩ := h1.shape
  obtain ⟨a2, c2, rfl⟩ := h2.shape
  simp only [cntI_len, mkEs_len] at *
  rw [← hq] at h1 h2 HE ⊢
  rw [← hq2] at h2 ⊢
  rw [← hq3]
  have HI := Lib.hid fun W (h : w.grownBy W none) => heldIntS_any a1 g.i.length c1 q W (h1.carry h) (by omega) (by omega) (by omega)
  have HO := Lib.hid fun W (h : w.grownBy W none) => heldIntS_any a2 g.o.length c2 q2 W (h2.carry h) (by omega) (by omega) (by omega)
  rw [← hq2] at HI
  rw [← hq3] at HO
  have n1 : ¬ q < 0 := by omega
  have n2 : ¬ q2 < 0 := by omega
  have n3 : ¬ q3 < 0 := by omega
  unfold grV
  have hs0 := (Sep.start w).box #[.int .i64 g.n, .slice a0 g.es.length c0, .slice a1 g.i.length c1, .slice a2 g.o.length c2] 30
  have HS0 := Lib.hid hs0
  have HK0 := Lib.hid (show w.grownBy _ none from hs0.tl.hd)
  clear hs0 hq hq2 hq3 hw hl h0 h1 h2
  generalize g.i.length = m1 at *
  generalize g.o.length = m2 at *
  generalize g.es.length = m0 at *
  go_enter Tryz.func30, Tryz.ntmps30
  go_wp2_with (first
    | (go_at_call 57
       with_reducible refine (HE.out _ HK0.out).mono ?_
       rintro e w4 ⟨rfl, hg⟩
       have hs := HS0.out.grown hg
       obtain ⟨x0, x1, x2, x3, _⟩ := bq4 hs.hd
       have HK1 := Lib.hid (show w.grownBy w4 none from hs.tl.hd)
       clear hs hg)
    | (go_at_call 58; with_reducible refine (HI.out _ HK1.out).mono ?_; rintro e w5 ⟨rfl, rfl⟩)
    | (go_at_call 58; with_reducible refine (HO.out _ HK1.out).mono ?_; rintro e w6 ⟨rfl, rfl⟩))
  go_ret
  exact ⟨rfl, HK1.out⟩
end Go.Proofs.YtjagjhchnpmngaaGreatDoor

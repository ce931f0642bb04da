/-
  Lists of matches in the laws: compared, marked, what is held. Conditions: lengths are small.
-/
import Derived.Test.YtlpgjnjhhgjkmaaYq05
import Derived.Test.YtlpgjnjhhgjkmaaYq03
import Derived.Test.YtlpgjnjhhgjkmaaYq00
namespace Go.Proofs.Ytlpgjnjhhgjkmaa
open Go.RowKit
set_option linter.unusedVariables false
set_option maxRecDepth 100000

def m0 : Mt := ⟨[], []⟩
def xm0 : XM := ⟨[], [], nilS, nilS⟩
/-- A list of matches that can be read. -/
def RdMs (w : World) (v : Value) (ms : List Mt) : Prop := ∃ xs : List XM, mts xs = ms ∧ RdR matchE w v xs ∧ ∀ x ∈ xs, IntsV w x.wv x.W ∧ IntsV w x.ev x.E
/-- A list of matches that is the call's own. -/
def OMs (v : Value) (xs : List XM) : Asrt := Bag (OR matchE v xs :: rowsM xs)
theorem Sep.toOMs {w : World} {v : Value} {xs : List XM} {l : List Asrt} (h : Sep w (OR matchE v xs :: Bag (rowsM xs) :: l)) : Sep w (OMs v xs :: l) := h.intoBag
theorem Sep.ofOMs {w : World} {v : Value} {xs : List XM} {l : List Asrt} (h : Sep w (OMs v xs :: l)) : Sep w (OR matchE v xs :: Bag (rowsM xs) :: l) := h.outBag
theorem OMs_own {v : Value} {xs : List XM} : ∀ k, (OMs v xs).sees k → (OMs v xs).foot k := by
  rintro k ⟨A, hA, hk⟩
  refine ⟨A, hA, ?_⟩
  rcases List.mem_cons.1 hA with rfl | hA
  · exact hk
  · obtain ⟨x, _, hx⟩ := List.mem_flatMap.1 hA
    simp only [List.mem_cons, List.not_mem_nil, or_false] at hx
    rcases hx with rfl | rfl <;> exact hk
theorem OMs.shape {w : World} {v : Value} {xs : List XM} (h : (OMs v xs).holds w) : ∃ a c, v = .slice a xs.length c := OwnR.shape (show OwnR matchE 0 w v xs from (show Sep w (OR matchE v xs :: rowsM xs) from h).hd)
theorem OMs.read {w : World} {v : Value} {xs : List XM} (h : (OMs v xs).holds w) : RdMs w v (mts xs) := by
  have ha := Sep.all (show Sep w (OR matchE v xs :: rowsM xs) from h)
  refine ⟨xs, rfl, OwnR.read (show OwnR matchE 0 w v xs from ha (OR matchE v xs) (by simp)), fun x hx => ?_⟩
  exact ⟨OwnInts.read (show OwnInts 0 w x.wv x.W from ha (OI x.wv x.W) (List.mem_cons_of_mem _ (List.mem_flatMap.2 ⟨x, hx, by simp⟩))), OwnInts.read (show OwnInts 0 w x.ev x.E from ha (OI x.ev x.E) (List.mem_cons_of_mem _ (List.mem_flatMap.2 ⟨x, hx, by simp⟩)))⟩
theorem RdMs.carry {w w' : World} {v : Value} {ms : List Mt} (h : RdMs w v ms) (hg : w.grownBy w' none) : RdMs w' v ms := by
  obtain ⟨xs, h1, h2, h3⟩ := h
  exact ⟨xs, h1, h2.carry hg, fun x hx => ⟨(h3 x hx).1.carry hg, (h3 x hx).2.carry hg⟩⟩
theorem RdMs.shape {w : World} {v : Value} {ms : List Mt} (h : RdMs w v ms) : ∃ a c, v = .slice a ms.length c := by
  obtain ⟨xs, h1, h2, _⟩ := h
  obtain ⟨a, c, rfl, _⟩ := h2
  exact ⟨a, c, by rw [← h1]; simp [mts]⟩
theorem mts_at {xs : List XM} {i : Nat} : (mts xs).getD i m0 = (xs.getD i xm0).mt := by
  unfold mts
  rw [List.getD_eq_getElem?_getD, List.getElem?_map, List.getD_eq_getElem?_getD]
  cases xs[i]? <;> rfl
theorem RdMs.at {w : World} {a : Option Addr} {n c : Nat} {ms : List Mt} (h : RdMs w (.slice a n c) ms) {i : Nat} (hi : i < ms.length) :
    ∃ b o wv ev, a = some ⟨b, o, none⟩ ∧ b < w.heap.size ∧ w.cell? ⟨b, o + i * 2, none⟩ = some wv ∧ w.cell? ⟨b, o + i * 2 + 1, none⟩ = some ev ∧ IntsV w wv (ms.getD i m0).W ∧ IntsV w ev (ms.getD i m0).E := by
  obtain ⟨xs, rfl, hr, hx⟩ := h
  have hil : i < xs.length := by simpa [mts] using hi
  obtain ⟨b, o, rfl, hb, hc⟩ := hr.at hil
  rw [mts_at, List.getD_eq_getElem?_getD, List.getElem?_eq_getElem hil]
  simp only [Option.getD_some]
  have hm := hx xs[i] (List.getElem_mem _)
  exact ⟨b, o, xs[i].wv, xs[i].ev, rfl, hb, hc 0 (by decide), hc 1 (by decide), hm.1, hm.2⟩
/-! ### how many numbers; the numbers that marking lays -/
def wM (x : Mt) : Nat := x.W.length + x.E.length
def wMs : List Mt → Nat
  | [] => 0
  | x :: r => wM x + wMs r
def mkM (k : Int) (x : Mt) : Mt := ⟨cntI k x.W.length, cntI (k + x.W.length) x.E.length⟩
def mkMs (k : Int) : List Mt → List Mt
  | [] => []
  | x :: r => mkM k x :: mkMs (k + wM x) r
def mkXM (k : Int) (x : XM) : XM := ⟨cntI k x.W.length, cntI (k + x.W.length) x.E.length, x.wv, x.ev⟩
def mkXMs (k : Int) : List XM → List XM
  | [] => []
  | x :: r => mkXM k x :: mkXMs (k + wM x.mt) r
theorem wMs_app (A B : List Mt) : wMs (A ++ B) = wMs A + wMs B := by
  induction A with
  | nil => simp [wMs]
  | cons x A ih => simp only [List.cons_append, wMs, ih]; omega
theorem wMs_take (ms : List Mt) (k : Nat) (hk : k < ms.length) : wMs (ms.take (k + 1)) = wMs (ms.take k) + wM (ms.getD k m0) := by
  rw [List.take_add_one, wMs_app, List.getD_eq_getElem?_getD, List.getElem?_eq_getElem hk]
  simp [wMs]
theorem wMs_le (ms : List Mt) (k : Nat) : wMs (ms.take k) ≤ wMs ms := by
  have h := wMs_app (ms.take k) (ms.drop k)
  rw [List.take_append_drop] at h
  omega
theorem mkMs_len (ms : List Mt) : ∀ k : Int, (mkMs k ms).length = ms.length := by
  induction ms with
  | nil => intro k; rfl
  | cons x r ih => intro k; simp only [mkMs, List.length_cons, ih]
theorem mkXMs_len (xs : List XM) : ∀ k : Int, (mkXMs k xs).length = xs.length := by
  induction xs with
  | nil => intro k; rfl
  | cons x r ih => intro k; simp only [mkXMs, List.length_cons, ih]
theorem mts_mk (xs : List XM) : ∀ k : Int, mts (mkXMs k xs) = mkMs k (mts xs) := by
  induction xs with
  | nil => intro k; rfl
  | cons x r ih => intro k; have h := ih (k + wM x.mt); unfold mts at h ⊢; simp only [mkXMs, List.map_cons, mkMs, h]; rfl
theorem mkXMs_snoc (A : List XM) (x : XM) : ∀ k : Int, mkXMs k (A ++ [x]) = mkXMs k A ++ [mkXM (k + wMs (mts A)) x] := by
  induction A with
  | nil => intro k; simp [mkXMs, mts, wMs]
  | cons y A ih =>
    intro k
    simp only [List.cons_append, mkXMs, ih, mts, List.map_cons, wMs]
    rw [show k + (wM y.mt : Int) + (wMs (List.map XM.mt A) : Int) = k + ((wM y.mt + wMs (List.map XM.mt A) : Nat) : Int) by omega]
theorem mkMs_at (ms : List Mt) : ∀ (k : Int) (j : Nat), j < ms.length → (mkMs k ms).getD j m0 = mkM (k + wMs (ms.take j)) (ms.getD j m0) := by
  induction ms with
  | nil => intro k j hj; simp at hj
  | cons x r ih =>
    intro k j hj
    cases j with
    | zero => simp [mkMs, wMs]
    | succ j =>
      have := ih (k + wM x) j (by simpa using hj)
      simp only [mkMs, List.getD_cons_succ, List.take_succ_cons, wMs]
      rw [this, show k + (wM x : Int) + (wMs (List.take j r) : Int) = k + ((wM x + wMs (List.take j r) : Nat) : Int) by omega]
theorem wM_mem {ms : List Mt} {x : Mt} (h : x ∈ ms) : wM x ≤ wMs ms := by
  induction ms with
  | nil => cases h
  | cons y r ih =>
    simp only [wMs]
    rcases List.mem_cons.1 h with rfl | h
    · omega
    · have := ih h; omega
theorem rowsM_cons (x : XM) (xs : List XM) : rowsM (x :: xs) = OI x.wv x.W :: OI x.ev x.E :: rowsM xs := by simp [rowsM]
theorem match_cells {w : World} {g n cap B : Nat} {xs : List XM} (h : OwnR matchE B w (.slice (some ⟨g, 0, none⟩) n cap) xs) (hn : n = xs.length) {i : Nat} (hi : i < xs.length) :
    w.cell? ⟨g, i * 2, none⟩ = some (xs.getD i xm0).wv ∧ w.cell? ⟨g, i * 2 + 1, none⟩ = some (xs.getD i xm0).ev := by
  have e : xs.getD i xm0 = xs[i] := by rw [List.getD_eq_getElem?_getD, List.getElem?_eq_getElem hi]; rfl
  rw [e]
  have hc := fun j hj => h.cell hn (i := i) (j := j) hi hj
  exact ⟨hc 0 (by decide), hc 1 (by decide)⟩
theorem OwnR.sameC {α : Type} {E : Lay α} {B : Nat} {w : World} {v : Value} {xs ys : List α} (h : OwnR E B w v xs) (hl : ys.length = xs.length) (hc : ys.flatMap E.cs = xs.flatMap E.cs) : OwnR E B w v ys := by
  unfold OwnR at h ⊢
  rw [hl, hc]
  exact h
/-! ### comparing -/
set_option maxHeartbeats 1000000 in
theorem eqMatch_same (i1 o1 i2 o2 : Value) (is os : List Int) (w : World) (h1 : IntsV w i1 is) (h2 : IntsV w o1 os) (h3 : IntsV w i2 is) (h4 : IntsV w o2 os) (l1 : is.length ≤ 1000000000) (l2 : os.length ≤ 1000000000) :
    Calls Try.prog 16 #[.agg #[i1, o1], .agg #[i2, o2]] w fun e w' => e = .returned (.bool true) ∧ w.grownBy w' none := by
  have HG := Lib.hid fun W (h : w.grownBy W none) => eqIntS_any i1 i2 is is W (h1.carry h) (h3.carry h) l1 l1
  have HO := Lib.hid fun W (h : w.grownBy W none) => eqIntS_any o1 o2 os os W (h2.carry h) (h4.carry h) l2 l2
  rw [decide_eq_true rfl] at HG HO
  obtain ⟨a1, c1, rfl⟩ := h1.shape
  obtain ⟨a2, c2, rfl⟩ := h2.shape
  obtain ⟨a3, c3, rfl⟩ := h3.shape
  obtain ⟨a4, c4, rfl⟩ := h4.shape
  generalize is.length = n1 at *
  generalize os.length = n2 at *
  clear h1 h2 h3 h4
  have hs0 := ((Sep.start w).box #[.slice a1 n1 c1, .slice a2 n2 c2] 37).box #[.slice a3 n1 c3, .slice a4 n2 c4] 37
  have e1 : (w.alloc (.cells #[.slice a1 n1 c1, .slice a2 n2 c2] 37)).heap.size = w.heap.size + 1 := by simp
  rw [e1] at hs0
  have HS0 := Lib.hid hs0
  have HK0 := Lib.hid (show w.grownBy _ none from hs0.tl.tl.hd)
  clear hs0 e1
  go_enter Try.func16, Try.ntmps16
  go_wp2_with (first
    | (go_at_call 39
       with_reducible refine (HG.out _ HK0.out).mono ?_
       rintro e w4 ⟨rfl, hg⟩
       have hs1 := HS0.out.grown hg
       obtain ⟨x0, x1⟩ := bq2 hs1.hd
       obtain ⟨y0, y1⟩ := bq2 hs1.tl.hd
       have HK1 := Lib.hid (show w.grownBy w4 none from hs1.tl.tl.hd)
       clear hg hs1)
    | (go_at_call 39
       with_reducible refine (HO.out _ HK1.out).mono ?_
       rintro e w6 ⟨rfl, hg⟩
       have HK2 := Lib.hid (grownBy_trans HK1.out hg)
       clear hg))
  go_ret
  exact ⟨rfl, HK2.out⟩
set_option maxHeartbeats 2000000 in
theorem eqMatchS_same (v1 v2 : Value) (ms : List Mt) (w : World) (h1 : RdMs w v1 ms) (h2 : RdMs w v2 ms) (l1 : ms.length ≤ 2000000) (hle : ∀ x ∈ ms, x.W.length ≤ 1000000000 ∧ x.E.length ≤ 1000000000) :
    Calls Try.prog 21 #[v1, v2] w fun e w' => e = .returned (.bool true) ∧ w.grownBy w' none := by
  have H1 := Lib.hid h1; have H2 := Lib.hid h2; have HLE := Lib.hid hle
  obtain ⟨a1, c1, rfl⟩ := h1.shape
  obtain ⟨a2, c2, rfl⟩ := h2.shape
  clear h1 h2 hle
  generalize hlx : ms.length = l at *
  have HLX := Lib.hid hlx
  clear hlx
  go_enter Try.func21, Try.ntmps21
  go_wp2
  go_loopw [5] (fun i wr => ∃ k : Nat, k ≤ l ∧ i = .int .i64 k ∧ w.grownBy wr none) (fun i _ => l - (intOf i).toNat)
  case atStart => exact ⟨0, by omega, rfl, grownBy_refl _ _⟩
  case round =>
    obtain ⟨k, hk, rfl, hg⟩ := hrel
    have HG := Lib.hid hg
    clear hg
    by_cases hlt : k < l
    · have hke : k < ms.length := by rw [HLX.out]; exact hlt
      have hdr : w.grownBy wr.drew none := ⟨HG.out.os, HG.out.tape, HG.out.output, HG.out.size, HG.out.block⟩
      obtain ⟨b1, o1, i1, t1, rfl, _, p0, p1, hi1, ho1⟩ := (H1.out.carry HG.out).at hke
      obtain ⟨b2, o2, i2, t2, rfl, _, q0, q1, hi2, ho2⟩ := (H2.out.carry HG.out).at hke
      have hlm := HLE.out _ (show ms.getD k m0 ∈ ms by rw [List.getD_eq_getElem?_getD, List.getElem?_eq_getElem hke]; exact List.getElem_mem _)
      have hdw : wr.grownBy wr.drew none := ⟨rfl, rfl, rfl, Nat.le_refl _, fun _ _ _ => rfl⟩
      have HC := Lib.hid (eqMatch_same i1 t1 i2 t2 (ms.getD k m0).W (ms.getD k m0).E wr.drew (hi1.carry hdw) (ho1.carry hdw) (hi2.carry hdw) (ho2.carry hdw) hlm.1 hlm.2)
      have HDR := Lib.hid hdr
      obtain ⟨s1, r1, rfl⟩ := hi1.shape
      obtain ⟨s2, r2, rfl⟩ := ho1.shape
      obtain ⟨s3, r3, rfl⟩ := hi2.shape
      obtain ⟨s4, r4, rfl⟩ := ho2.shape
      generalize ms.getD k m0 = y at *
      obtain ⟨yi, yo⟩ := y
      simp only at p0 p1 q0 q1 HC
      clear hke hlm hdw hdr hi1 hi2 ho1 ho2
      generalize yi.length = m1 at *
      generalize yo.length = m2 at *
      go_wp2_with fail
      refine wp_region_still_tail 8 (by kernel_rfl) (by kernel_rfl) ?_
      simp only [List.take_succ_cons, List.take_zero, List.drop_succ_cons, List.drop_zero]
      repeat still_step
      refine wpStill_nil ?_
      change wpList _ _ _ _ _ wr.drew
      go_wp2_with (
        go_at_call 16
        with_reducible refine HC.out.mono ?_
        rintro e w2 ⟨rfl, hg⟩
        have HG2 := Lib.hid (grownBy_trans HDR.out hg)
        clear hg)
      go_roundw
      case rel => exact ⟨k + 1, by omega, by go_num, HG2.out⟩
      case measure => simp [intOf]; omega
    · have hkl : k = l := by omega
      subst hkl
      go_wp2
      go_ret
      exact ⟨rfl, HG.out⟩
/-! ### marking -/
set_option maxHeartbeats 4000000 in
theorem markMatchS_any (a : Option Addr) (n c : Nat) (xs : List XM) (k : Int) (w : World) (l : List Asrt) (hs : Sep w (OMs (.slice a n c) xs :: l)) (hn : n = xs.length) (hn2 : n ≤ 2000000) (hl : wMs (mts xs) ≤ 2000000) (h0 : 0 ≤ k) (h1 : k ≤ 50000000) :
    Calls Try.prog 22 #[.slice a n c, .int .i64 k] w fun e w' => e = .returned (.int .i64 (k + wMs (mts xs))) ∧ Sep w' (OMs (.slice a n c) (mkXMs k xs) :: l) := by
  have HS := Lib.hid hs.ofOMs; have HL := Lib.hid hn.symm
  clear hs hn
  go_enter Try.func22, Try.ntmps22
  go_wp2
  go_loopw [1, 5] (fun kv i wr => ∃ (j : Nat) (A R : List XM) (q : Int), j ≤ n ∧ i = .int .i64 j ∧ xs = A ++ R ∧ A.length = j ∧ kv = .int .i64 q ∧ q = k + wMs (mts A) ∧ Sep wr (OR matchE (.slice a n c) (mkXMs k A ++ R) :: Bag (rowsM (mkXMs k A)) :: Bag (rowsM R) :: l)) (fun _ i _ => n - (intOf i).toNat)
  case atStart => exact ⟨0, [], xs, k, by omega, rfl, rfl, rfl, rfl, by simp [mts, wMs], by simpa [mkXMs, rowsM] using HS.out.noBag.s2⟩
  case round =>
    obtain ⟨j, A, R, q, hj, rfl, hx, hA, rfl, hq, hs⟩ := hrel
    have HQ := Lib.hid hq
    have HSX := Lib.hid hs; have HX := Lib.hid hx; have HA := Lib.hid hA
    have hwl : wMs (mts A) + wMs (mts R) = wMs (mts xs) := by rw [hx]; unfold mts; rw [List.map_append, wMs_app]
    clear hs hx hA HS
    by_cases hlt : j < n
    · have hRl : 0 < R.length := by
        have h1 := HL.out
        rw [HX.out, List.length_append, HA.out] at h1
        omega
      obtain ⟨x, R', rfl⟩ : ∃ x R', R = x :: R' := by
        cases R with
        | nil => simp at hRl
        | cons x R' => exact ⟨x, R', rfl⟩
      have hll : n = (mkXMs k A ++ x :: R').length := by
        have h1 := HL.out
        rw [HX.out, List.length_append] at h1
        rw [List.length_append, mkXMs_len]
        omega
      have hjl : j < (mkXMs k A ++ x :: R').length := by rw [← hll]; exact hlt
      have hget : (mkXMs k A ++ x :: R').getD j xm0 = x := by
        rw [List.getD_eq_getElem?_getD, List.getElem?_append_right (by rw [mkXMs_len, HA.out]; exact Nat.le_refl _), mkXMs_len, HA.out, Nat.sub_self]
        rfl
      obtain ⟨g, cap, he, _, _, _⟩ := OwnR.parts (show OwnR matchE 0 wr (.slice a n c) (mkXMs k A ++ x :: R') from HSX.out.hd) (by omega)
      rw [← hll] at he
      cases he
      have hq1 : q ≤ 54000000 := by omega
      have hq0 : 0 ≤ q := by omega
      obtain ⟨i1, d1, hiv⟩ : ∃ a c, x.wv = .slice a x.W.length c := own_shape (show OwnInts 0 wr x.wv x.W from (by have h := HSX.out.s3; rw [rowsM_cons] at h; exact h.outBag.hd))
      obtain ⟨i2, d2, hov⟩ : ∃ a c, x.ev = .slice a x.E.length c := own_shape (show OwnInts 0 wr x.ev x.E from (by have h := HSX.out.s3; rw [rowsM_cons] at h; exact h.outBag.s2.outBag.hd))
      obtain ⟨p0, p1⟩ := match_cells HSX.out.hd hll hjl
      have HC := Lib.hid fun W l' (h : Sep W (OR matchE (.slice (some ⟨g, 0, none⟩) n c) (mkXMs k A ++ x :: R') :: l')) => (match_cells h.hd hll hjl).2
      rw [hget] at HC p0 p1
      have h2 := HSX.out
      rw [rowsM_cons] at h2
      have h3 := h2.s3.outBag.s2.outBag.s3
      have hwx : wMs (mts A) + (x.W.length + x.E.length) ≤ wMs (mts xs) := by rw [← hwl]; simp only [mts, List.map_cons, wMs, wM, XM.mt]; omega
      obtain ⟨xi, xo, xiv, xov⟩ := x
      simp only at hiv hov hwx p0 p1 HC
      subst hiv hov
      have h3' : Sep _ (OI (.slice i1 xi.length d1) xi :: OI (.slice i2 xo.length d2) xo :: Bag (rowsM R') :: OR matchE (.slice (some ⟨g, 0, none⟩) n c) (mkXMs k A ++ ⟨xi, xo, .slice i1 xi.length d1, .slice i2 xo.length d2⟩ :: R') :: Bag (rowsM (mkXMs k A)) :: l) := h3
      have HS3 := Lib.hid h3'
      obtain ⟨q3, e3⟩ : ∃ q3, q3 = q + (xi.length : Int) := ⟨_, rfl⟩
      obtain ⟨q4, e4⟩ : ∃ q4, q4 = q3 + (xo.length : Int) := ⟨_, rfl⟩
      have HM1 := Lib.hid fun W l (h : Sep W (OI (.slice i1 xi.length d1) xi :: l)) => markIntS_any i1 xi.length d1 xi q W l h rfl (by omega) (by omega) (by omega)
      have HM2 := Lib.hid fun W l (h : Sep W (OI (.slice i2 xo.length d2) xo :: l)) => markIntS_any i2 xo.length d2 xo q3 W l h rfl (by omega) (by omega) (by omega)
      rw [← e3] at HM1
      rw [← e4] at HM2
      have HQ4 := Lib.hid (show q4 = k + (wMs (mts (A ++ [⟨xi, xo, .slice i1 xi.length d1, .slice i2 xo.length d2⟩])) : Int) by
        rw [show mts (A ++ [(⟨xi, xo, .slice i1 xi.length d1, .slice i2 xo.length d2⟩ : XM)]) = mts A ++ [⟨xi, xo⟩] by simp [mts, XM.mt], wMs_app]
        simp only [wMs, wM]
        omega)
      have hmx : mkXM q ⟨xi, xo, .slice i1 xi.length d1, .slice i2 xo.length d2⟩ = ⟨cntI q xi.length, cntI q3 xo.length, .slice i1 xi.length d1, .slice i2 xo.length d2⟩ := by
        unfold mkXM
        simp only
        rw [e3]
      have HEND := Lib.hid (show mkXMs k (A ++ [⟨xi, xo, .slice i1 xi.length d1, .slice i2 xo.length d2⟩]) = mkXMs k A ++ [⟨cntI q xi.length, cntI q3 xo.length, .slice i1 xi.length d1, .slice i2 xo.length d2⟩] by rw [mkXMs_snoc, ← hq, hmx])
      have HPUT := Lib.hid fun W l' (h : Sep W (OR matchE (.slice (some ⟨g, 0, none⟩) n c) (mkXMs k A ++ ⟨xi, xo, .slice i1 xi.length d1, .slice i2 xo.length d2⟩ :: R') :: l')) =>
        show Sep W (OR matchE (.slice (some ⟨g, 0, none⟩) n c) ((mkXMs k A ++ [⟨cntI q xi.length, cntI q3 xo.length, .slice i1 xi.length d1, .slice i2 xo.length d2⟩]) ++ R') :: l') from by
          rw [List.append_assoc]
          exact h.upd' (A' := OR matchE (.slice (some ⟨g, 0, none⟩) n c) _) (Only.refl _ _) (OwnR.sameC (E := matchE) h.hd (by simp) (by simp [matchE, matchC])) (fun k hk => Or.inl hk)
      have HXN := Lib.hid (show xs = (A ++ [⟨xi, xo, .slice i1 xi.length d1, .slice i2 xo.length d2⟩]) ++ R' by rw [HX.out]; simp)
      have HAL := Lib.hid (show (A ++ [(⟨xi, xo, .slice i1 xi.length d1, .slice i2 xo.length d2⟩ : XM)]).length = j + 1 by rw [List.length_append, HA.out]; rfl)
      clear h2 h3 h3' hll hjl hget hmx e3 e4 hq hwx hwl hq0 hq1
      have HMA := Lib.hid (HM1.out _ _ HS3.out)
      have HMB := Lib.hid fun W l h => HM2.out W l h
      clear HS3 HM1 HM2 HSX
      generalize xi.length = m1 at *
      generalize xo.length = m2 at *
      go_wp2_with (first
        | (go_at_call 41
           with_reducible refine HMA.out.mono ?_
           rintro e w5 ⟨rfl, hs5⟩
           have v3 := HC.out _ _ (show Sep w5 (OR matchE _ _ :: _) from hs5.s4)
           have HS5 := Lib.hid hs5.s2
           clear hs5)
        | (go_at_call 41
           with_reducible refine (HMB.out _ _ HS5.out).mono ?_
           rintro e w6 ⟨rfl, hs6⟩
           have hs7 := HPUT.out _ _ (hs6.s5.s2.s3.s5.bagTwo)
           have HS7 := Lib.hid hs7
           clear hs6 hs7))
      go_roundw
      case rel =>
        have h := HS7.out
        refine ⟨j + 1, _, R', q4, by omega, by go_num, HXN.out, HAL.out, rfl, HQ4.out, ?_⟩
        rw [HEND.out, rowsM_snoc]
        exact h
      case measure => simp [intOf]; omega
    · have hjn : j = n := by omega
      subst hjn
      have hR : R = [] := by
        have h1 := HL.out
        rw [HX.out, List.length_append, HA.out] at h1
        exact List.length_eq_zero_iff.1 (by omega)
      subst hR
      have hxa : xs = A := by rw [HX.out, List.append_nil]
      have hs := HSX.out
      rw [List.append_nil] at hs
      have hs2 := (hs.under (fun h => h.drop2) (by simp +contextual)).toOMs
      rw [← hxa] at hs2 hq
      have HF := Lib.hid hs2
      have HQF := Lib.hid hq
      clear hs hs2 hq hxa hlt hwl HQ
      go_wp2
      go_ret
      exact ⟨by rw [HQF.out]; rfl, HF.out⟩
set_option maxHeartbeats 1000000 in
theorem heldMatchS_any (v : Value) (ms : List Mt) (k : Int) (w : World) (hv : RdMs w v (mkMs k ms)) (hl1 : ms.length ≤ 2000000) (hl : wMs ms ≤ 2000000) (h0 : 0 ≤ k) (h1 : k ≤ 50000000) :
    Calls Try.prog 23 #[v, .int .i64 k] w fun e w' => e = .returned (.int .i64 (k + wMs ms)) ∧ w.grownBy w' none := by
  have HV := Lib.hid hv
  obtain ⟨a, c, rfl⟩ := hv.shape
  rw [mkMs_len] at *
  clear hv
  generalize hn : ms.length = n at *
  have HN := Lib.hid hn
  clear hn
  go_enter Try.func23, Try.ntmps23
  go_wp2
  go_loopw [1, 5] (fun kv i wr => ∃ (j : Nat) (q : Int), j ≤ n ∧ i = .int .i64 j ∧ kv = .int .i64 q ∧ q = k + wMs (ms.take j) ∧ w.grownBy wr none) (fun _ i _ => n - (intOf i).toNat)
  case atStart => exact ⟨0, k, by omega, rfl, rfl, by simp [wMs], grownBy_refl _ _⟩
  case round =>
    obtain ⟨j, q, hj, rfl, rfl, hq, hg⟩ := hrel
    have HG := Lib.hid hg; have HQ := Lib.hid hq
    clear hg
    by_cases hlt : j < n
    · have hje : j < ms.length := by rw [HN.out]; exact hlt
      obtain ⟨b, o, iv, ov, rfl, _, p0, p1, hi, ho⟩ := (HV.out.carry HG.out).at (i := j) (by rw [mkMs_len]; exact hje)
      rw [mkMs_at ms k j hje, ← hq] at hi ho
      have HT := Lib.hid (wMs_take ms j hje)
      have hle := wMs_le ms (j + 1)
      rw [HT.out] at hle
      unfold wM at hle HT
      unfold mkM at hi ho
      simp only at hi ho
      have hq0 : 0 ≤ q := by omega
      have hq54 : q ≤ 54000000 := by omega
      obtain ⟨q3, e3⟩ : ∃ q3, q3 = q + ((ms.getD j m0).W.length : Int) := ⟨_, rfl⟩
      obtain ⟨q4, e4⟩ : ∃ q4, q4 = q3 + ((ms.getD j m0).E.length : Int) := ⟨_, rfl⟩
      rw [← e3] at ho
      obtain ⟨i1, d1, rfl⟩ := hi.shape
      obtain ⟨i2, d2, rfl⟩ := ho.shape
      rw [cntI_len] at hi ho p0 p1
      have HA := Lib.hid (heldIntS_any i1 _ d1 q wr hi (by omega) (by omega) (by omega))
      have HB := Lib.hid (heldIntS_any i2 _ d2 q3 wr ho (by omega) (by omega) (by omega))
      rw [← e3] at HA
      rw [← e4] at HB
      have HQ4 := Lib.hid (show q4 = k + (wMs (ms.take (j + 1)) : Int) by have := HT.out; omega)
      have hq30 : ¬ q3 < 0 := by omega
      have hq40 : ¬ q4 < 0 := by omega
      clear hi ho HT hle e3 e4 hq0 hq54 hje hq
      try simp only [cntI_len] at HA HB p0 p1
      generalize (ms.getD j m0).W.length = m1 at *
      generalize (ms.getD j m0).E.length = m2 at *
      go_wp2_with (first
        | (go_at_call 43; with_reducible refine HA.out.mono ?_; rintro e w5 ⟨rfl, rfl⟩)
        | (go_at_call 43; with_reducible refine HB.out.mono ?_; rintro e w6 ⟨rfl, rfl⟩))
      go_roundw
      case rel => exact ⟨j + 1, q4, by omega, by go_num, rfl, HQ4.out, HG.out⟩
      case measure => simp [intOf]; omega
    · have hjn : j = n := by omega
      subst hjn
      rw [List.take_of_length_le (by rw [HN.out]; exact Nat.le_refl _)] at hq
      have HQF := Lib.hid hq
      clear hq HQ
      go_wp2
      go_ret
      exact ⟨by rw [HQF.out]; rfl, HG.out⟩
end Go.Proofs.Ytlpgjnjhhgjkmaa

/-
  A graph is marked, from greater numbers on. Conditions: the graph is small.
-/
namespace Go.Proofs.Ytlpgjnjhhgjkmaa
open Go.RowKit
set_option linter.unusedVariables false
set_option maxRecDepth 100000

set_option maxHeartbeats 1000000 in
theorem markGraph_big (u0 u1 u2 : Value) (xs : List XE) (g : Gr) (k : Int) (w : World) (l : List Asrt) (hs : Sep w (OE u0 xs :: OI u1 g.i :: OI u2 g.o :: l)) (hx : eds xs = g.es) (hl : totG g ≤ 1048576) (h0 : 0 ≤ k) (h1 : k ≤ 30000000) :
    Calls Try.prog 12 #[grV g.n u0 u1 u2, .int .i64 k] w fun e w' => e = .returned (.int .i64 (k + wEs g.es + g.i.length + g.o.length)) ∧ Sep w' (OE u0 (mkXs k xs) :: OI u1 (cntI (k + wEs g.es) g.i.length) :: OI u2 (cntI (k + wEs g.es + g.i.length) g.o.length) :: l) := by
  have hw := wEs_tot g.es
  unfold totG at hl
  obtain ⟨a0, c0, rfl⟩ := OE.shape hs.hd
  obtain ⟨a1, c1, rfl⟩ := own_shape (show OwnInts 0 w u1 g.i from hs.tl.hd)
  obtain ⟨a2, c2, rfl⟩ := own_shape (show OwnInts 0 w u2 g.o from hs.tl.tl.hd)
  obtain ⟨q, hq⟩ : ∃ q, q = k + (wEs g.es : Int) := ⟨_, rfl⟩
  obtain ⟨q2, hq2⟩ : ∃ q2, q2 = q + (g.i.length : Int) := ⟨_, rfl⟩
  have HE := Lib.hid fun W l (h : Sep W (OE (.slice a0 xs.length c0) xs :: l)) => markEdgeS_any a0 xs.length c0 xs k W l h rfl (by rw [hx]; omega) (by rw [hx]; omega) h0 (by omega)
  have HI := Lib.hid fun W l (h : Sep W (OI (.slice a1 g.i.length c1) g.i :: l)) => markIntS_any a1 g.i.length c1 g.i q W l h rfl (by omega) (by omega) (by omega)
  have HO := Lib.hid fun W l (h : Sep W (OI (.slice a2 g.o.length c2) g.o :: l)) => markIntS_any a2 g.o.length c2 g.o q2 W l h rfl (by omega) (by omega) (by omega)
  rw [hx, ← hq] at HE
  rw [← hq2] at HI
  rw [← hq, ← hq2]
  unfold grV
  have hs0 := hs.box #[.int .i64 g.n, .slice a0 xs.length c0, .slice a1 g.i.length c1, .slice a2 g.o.length c2] 29
  have HS0 := Lib.hid hs0.s2
  clear hs hs0 hq hq2 hw hx hl
  generalize g.i.length = n1 at *
  generalize g.o.length = n2 at *
  generalize xs.length = n0 at *
  go_enter Try.func12, Try.ntmps12
  go_wp2_with (first
    | (go_at_call 40
       with_reducible refine (HE.out _ _ HS0.out).mono ?_
       rintro e w4 ⟨rfl, hs⟩
       obtain ⟨x0, x1, x2, x3, _⟩ := bq4 hs.tl.hd
       have HS1 := Lib.hid hs.s3
       clear hs)
    | (go_at_call 41
       with_reducible refine (HI.out _ _ HS1.out).mono ?_
       rintro e w6 ⟨rfl, hs⟩
       obtain ⟨x0, x1, x2, x3, _⟩ := bq4 hs.tl.tl.hd
       have HS2 := Lib.hid hs.s4
       clear hs)
    | (go_at_call 41
       with_reducible refine (HO.out _ _ HS2.out).mono ?_
       rintro e w7 ⟨rfl, hs⟩
       have HS3 := Lib.hid (show Sep w7 (OE _ _ :: OI _ _ :: OI _ _ :: l) from hs.s3.under (fun h => h.s2.under (fun h => h.under (fun h => h.tl) (by simp +contextual)) (by simp +contextual)) (by simp +contextual))
       clear hs))
  go_ret
  exact ⟨rfl, HS3.out⟩
/-- Parts let go. -/

theorem markGraph_go (u0 u1 u2 : Value) (xs : List XE) (g : Gr) (k : Int) (w : World) (l : List Asrt) (hs : Sep w (OX3 u0 xs u1 g.i u2 g.o :: l)) (hx : eds xs = g.es) (hl : totG g ≤ 1048576) (h0 : 0 ≤ k) (h1 : k ≤ 27000000) :
    Calls Try.prog 12 #[grV g.n u0 u1 u2, .int .i64 k] w fun e w' => ∃ r : Int, e = .returned (.int .i64 r) ∧ 0 ≤ r ∧ r ≤ k + 3000000 ∧ Sep w' l := by
  refine (markGraph_big u0 u1 u2 xs g k w l (Sep.unbag hs) hx hl h0 (by omega)).mono ?_
  rintro e w' ⟨rfl, hsg⟩
  have hw := wEs_tot g.es
  unfold totG at hl
  exact ⟨_, rfl, by omega, by omega, hsg.tl.tl.tl⟩
end Go.Proofs.Ytlpgjnjhhgjkmaa

/-
  The walk of FnExactMatchesOf. Conditions: the slices' lengths are those of slices.
-/
namespace Go.Proofs.Ytlpgjnjhhgjkmaa
open Go.RowKit
set_option linter.unusedVariables false
set_option maxRecDepth 100000

theorem wMs_bound {ms : List Mt} {b : Nat} (h : ∀ x ∈ ms, wM x ≤ b) : wMs ms ≤ b * ms.length := by
  induction ms with
  | nil => simp [wMs]
  | cons x r ih =>
    simp only [wMs, List.length_cons]
    have h1 := h x (by simp)
    have h2 := ih fun y hy => h y (by simp [hy])
    rw [Nat.mul_succ]
    omega
theorem mtL_mem {g p : Gr} {x : Mt} (h : x ∈ mtL g p) : IsMt g p x ∧ mtB g p = true := by
  unfold mtL at h
  split at h
  · rename_i hb
    exact ⟨all_iff.1 (List.mem_of_mem_take h), hb⟩
  · cases h
theorem mtL_len {g p : Gr} {x : Mt} (h : x ∈ mtL g p) : x.W.length ≤ 100 ∧ x.E.length ≤ 60 := by
  obtain ⟨hm, hb⟩ := mtL_mem h
  unfold mtB at hb
  simp only [Bool.and_eq_true] at hb
  obtain ⟨mp, hmp, hp1, hp2, _⟩ := grB_n (mgB_gr hb.1.2)
  rw [hm.lw, hm.le, hmp]
  have hp1' : mp ≤ 100 := by simpa using hp1
  exact ⟨by simpa using hp1', hp2⟩
theorem mtL_cnt (g p : Gr) : (mtL g p).length ≤ 100 := by
  unfold mtL
  split
  · rw [List.length_take]; omega
  · simp
theorem sub_small {g p : Gr} {L : List Mt} (h1 : L.length ≤ 100) (h2 : ∀ x ∈ L, x ∈ mtL g p) : L.length ≤ 100 ∧ (∀ x ∈ L, x.W.length ≤ 1000 ∧ x.E.length ≤ 1000) ∧ wMs L ≤ 200000 := by
  refine ⟨h1, fun x hx => ?_, ?_⟩
  · have := mtL_len (h2 x hx); omega
  · have := wMs_bound (ms := L) (b := 160) fun x hx => by have := mtL_len (h2 x hx); unfold wM; omega
    omega
theorem mtL_small (g p : Gr) : (mtL g p).length ≤ 100 ∧ (∀ x ∈ mtL g p, x.W.length ≤ 1000 ∧ x.E.length ≤ 1000) ∧ wMs (mtL g p) ≤ 200000 := sub_small (mtL_cnt g p) fun _ h => h
theorem MatR.sh {g p : Gr} {w w' : World} {e : Ending} {L : List Mt} {b : Bool} (hL : mtL g p = L) (hb : mtB g p = b) (h : MatR g p w e w') : ∃ a c ys, e = .returned (.tuple #[.slice a L.length c, .bool b]) ∧ mts ys = L ∧ Sep w' [OMs (.slice a L.length c) ys, KeepA w] := by
  obtain ⟨v, xs, rfl, hx, hs⟩ := h
  obtain ⟨a, c, rfl⟩ := OwnR.shape (show OwnR matchE 0 w' v xs from hs.hd)
  rw [hL] at hx
  have hl : xs.length = L.length := by rw [← hx]; simp [mts]
  rw [hl] at hs ⊢
  exact ⟨a, c, xs, by rw [hb], hx, hs.toOMs⟩
set_option maxHeartbeats 16000000 in
theorem fnMatchesOf_any (g p : Gr) (gev giv gov pev piv pov : Value) (w : World) (g1 : RdE argEdE w gev g.es) (g2 : IntsV w giv g.i) (g3 : IntsV w gov g.o) (hok : okG g) (p1 : RdE argEdE w pev p.es) (p2 : IntsV w piv p.i) (p3 : IntsV w pov p.o) (hokp : okG p) :
    Calls Try.prog 5 #[grV g.n gev giv gov, grV p.n pev piv pov] w fun e w' => e = .returned (.bool true) ∧ w.grownBy w' none := by
  have HZ1 := Lib.hid fun W (h : w.grownBy W none) => szGraph_any g.n gev giv gov g 1048576 W (g1.carry h) (g2.carry h) (g3.carry h) (by decide) (by decide) hok
  have HZP := Lib.hid fun (left : Int) (h0 : 0 ≤ left) (h1 : left ≤ 1048576) W (h : w.grownBy W none) => szGraph_any p.n pev piv pov p left W (p1.carry h) (p2.carry h) (p3.carry h) h0 h1 hokp
  have HTG := Lib.hid fun (ht : totG g ≤ 1048576) W (h : w.grownBy W none) => toGraph_sh g gev giv gov W (g1.carry h) (g2.carry h) (g3.carry h) ht
  have HTP := Lib.hid fun (ht : totG p ≤ 1048576) W (h : w.grownBy W none) => toGraph_sh p pev piv pov W (p1.carry h) (p2.carry h) (p3.carry h) ht
  unfold grV at HZ1 HZP HTG HTP
  unfold Gives3 id at HTG HTP
  unfold grV
  obtain ⟨ag, cg, rfl⟩ := g1.shape
  obtain ⟨pg, qg, rfl⟩ := g2.shape
  obtain ⟨rg, sg, rfl⟩ := g3.shape
  obtain ⟨ap, cp, rfl⟩ := p1.shape
  obtain ⟨pp, qp, rfl⟩ := p2.shape
  obtain ⟨rp, sp, rfl⟩ := p3.shape
  clear g1 g2 g3 hok p1 p2 p3 hokp
  have HS0 := Lib.hid (((Sep.start w).box #[.int .i64 g.n, .slice ag g.es.length cg, .slice pg g.i.length qg, .slice rg g.o.length sg] 25).boxAt (w.heap.size + 1) (by simp) #[.int .i64 p.n, .slice ap p.es.length cp, .slice pp p.i.length qp, .slice rp p.o.length sp] 25)
  have HK0 := Lib.hid (show w.grownBy _ none from HS0.out.tl.tl.hd)
  by_cases hsz : lft 1048576 (totG g) < 0
  · generalize lft 1048576 (totG g) = rr at *
    generalize g.es.length = n1 at *
    generalize g.i.length = n2 at *
    generalize g.o.length = n3 at *
    generalize p.es.length = m1 at *
    generalize p.i.length = m2 at *
    generalize p.o.length = m3 at *
    clear HTG HTP HZP
    go_enter Try.func5, Try.ntmps5
    go_wp2_with (
      (go_at_call 7
       with_reducible refine (HZ1.out _ HK0.out).mono ?_
       rintro e w2 ⟨rfl, hg⟩
       have hs2 := HS0.out.grown hg
       obtain ⟨x0, x1, x2, x3, _⟩ := bq4 hs2.hd
       obtain ⟨y0, y1, y2, y3, _⟩ := bq4 hs2.tl.hd
       have HS2 := Lib.hid hs2
       have HK2 := Lib.hid (show w.grownBy w2 none from hs2.tl.tl.hd)
       clear hg hs2))
    go_ret
    exact ⟨rfl, HK2.out⟩
  · have htg : totG g ≤ 1048576 := by unfold lft at hsz; by_cases h : (1048576 : Int) - totG g < 0 <;> simp [h] at hsz <;> omega
    obtain ⟨r1, hr1⟩ : ∃ r, lft 1048576 (totG g) = r := ⟨_, rfl⟩
    rw [hr1] at HZ1 hsz
    have hr0 : 0 ≤ r1 := by omega
    have hr2 : r1 ≤ 1048576 := by rw [← hr1]; unfold lft; split <;> omega
    have HZ2 := Lib.hid (HZP.out r1 hr0 hr2)
    by_cases hsz2 : lft r1 (totG p) < 0
    · generalize lft r1 (totG p) = rr at *
      generalize g.es.length = n1 at *
      generalize g.i.length = n2 at *
      generalize g.o.length = n3 at *
      generalize p.es.length = m1 at *
      generalize p.i.length = m2 at *
      generalize p.o.length = m3 at *
      clear HTG HTP HZP hr1 hr0 hr2 htg
      go_enter Try.func5, Try.ntmps5
      go_wp2_with (first
        | (go_at_call 7
           with_reducible refine (HZ1.out _ HK0.out).mono ?_
           rintro e w2 ⟨rfl, hg⟩
           have hs2 := HS0.out.grown hg
           obtain ⟨x0, x1, x2, x3, _⟩ := bq4 hs2.hd
           obtain ⟨y0, y1, y2, y3, _⟩ := bq4 hs2.tl.hd
           have HS2 := Lib.hid hs2
           have HK2 := Lib.hid (show w.grownBy w2 none from hs2.tl.tl.hd)
           clear hg hs2)
        | (go_at_call 7
           with_reducible refine (HZ2.out _ HK2.out).mono ?_
           rintro e w3 ⟨rfl, hg⟩
           have hs3 := HS2.out.grown hg
           clear x0 x1 x2 x3 y0 y1 y2 y3
           have HS3 := Lib.hid hs3
           have HK3 := Lib.hid (show w.grownBy w3 none from hs3.tl.tl.hd)
           clear hg hs3))
      go_ret
      exact ⟨rfl, HK3.out⟩
    · have htp : totG p ≤ 1048576 := by unfold lft at hsz2; by_cases h : r1 - totG p < 0 <;> simp [h] at hsz2 <;> omega
      have HTG := Lib.hid (HTG.out htg)
      have HTP := Lib.hid (HTP.out htp)
      have hsg := Sm.of htg
      have hsp := Sm.of htp
      obtain ⟨L, hL⟩ : ∃ L, mtL g p = L := ⟨_, rfl⟩
      obtain ⟨b, hb⟩ : ∃ b, mtB g p = b := ⟨_, rfl⟩
      obtain ⟨s1, s2, s3⟩ := (show L.length ≤ 100 ∧ (∀ x ∈ L, x.W.length ≤ 1000 ∧ x.E.length ≤ 1000) ∧ wMs L ≤ 200000 from by rw [← hL]; exact mtL_small g p)
      obtain ⟨n, hn⟩ : ∃ n, L.length = n := ⟨_, rfl⟩
      have HEG := Lib.hid fun W u0 u1 u2 v0 v1 v2 (h : RdX W g u0 u1 u2) (h' : RdX W g v0 v1 v2) => eqGraph_sh g W u0 u1 u2 v0 v1 v2 h h' htg
      have HEP := Lib.hid fun W u0 u1 u2 v0 v1 v2 (h : RdX W p u0 u1 u2) (h' : RdX W p v0 v1 v2) => eqGraph_sh p W u0 u1 u2 v0 v1 v2 h h' htp
      have HMG := Lib.hid fun W u0 u1 u2 xs l (h : Sep W (OX3 u0 xs u1 g.i u2 g.o :: l)) (hx : eds xs = g.es) => markGraph_go u0 u1 u2 xs g 1 W l h hx htg (by decide) (by decide)
      have HMP := Lib.hid fun (k : Int) (h0 : 0 ≤ k) (h1 : k ≤ 10000000) W u0 u1 u2 xs l (h : Sep W (OX3 u0 xs u1 p.i u2 p.o :: l)) (hx : eds xs = p.es) => markGraph_go u0 u1 u2 xs p k W l h hx htp h0 (by omega)
      have HSP := Lib.hid fun W u0 u1 u2 v0 v1 v2 (h : RdX W g u0 u1 u2) (h' : RdX W p v0 v1 v2) => show Calls Try.prog 19 #[grV g.n u0 u1 u2, grV p.n v0 v1 v2] W fun e w' => ∃ a c ys, e = .returned (.tuple #[.slice a n c, .bool b]) ∧ mts ys = L ∧ Sep w' [OMs (.slice a n c) ys, KeepA W] from
        (sMatchesOf_any g p u0 u1 u2 v0 v1 v2 W h h' hsg hsp).mono fun e w' h => by have := MatR.sh hL hb h; rw [hn] at this; exact this
      have HIM := Lib.hid fun W u0 u1 u2 v0 v1 v2 (h : RdX W g u0 u1 u2) (h' : RdX W p v0 v1 v2) => show Calls Try.prog 20 #[grV g.n u0 u1 u2, grV p.n v0 v1 v2] W fun e w' => ∃ a c ys, e = .returned (.tuple #[.slice a n c, .bool b]) ∧ mts ys = L ∧ Sep w' [OMs (.slice a n c) ys, KeepA W] from
        (iMatchesOf_any g p u0 u1 u2 v0 v1 v2 W h h' hsg hsp).mono fun e w' h => by have := MatR.sh hL hb h; rw [hn] at this; exact this
      have HEQ := Lib.hid fun W v v' (h : RdMs W v L) (h' : RdMs W v' L) => eqMatchS_same v v' L W h h' (by omega) (fun x hx => by have := s2 x hx; omega)
      have HMM := Lib.hid fun W a c ys l (h : Sep W (OMs (.slice a n c) ys :: l)) (hy : mts ys = L) => show Calls Try.prog 22 #[.slice a n c, .int .i64 1] W fun e w' => e = .returned (.int .i64 (1 + wMs L)) ∧ Sep w' (OMs (.slice a n c) (mkXMs 1 ys) :: l) from by
        have := markMatchS_any a n c ys 1 W l h (by rw [← hn, ← hy]; simp [mts]) (by omega) (by rw [hy]; omega) (by decide) (by decide)
        rw [hy] at this
        exact this
      have HHM := Lib.hid fun W v (h : RdMs W v (mkMs 1 L)) => heldMatchS_any v L 1 W h (by omega) (by omega) (by decide) (by decide)
      have HRD := Lib.hid fun W v ys (h : (OMs v ys).holds W) (hy : mts ys = L) => show RdMs W v L from by rw [← hy]; exact OMs.read h
      have HRM := Lib.hid fun W v ys (h : (OMs v (mkXMs 1 ys)).holds W) (hy : mts ys = L) => show RdMs W v (mkMs 1 L) from by rw [← hy, ← mts_mk]; exact OMs.read h
      obtain ⟨m, hm⟩ : ∃ m : Int, m = 1 + (wMs L : Int) := ⟨_, rfl⟩
      rw [← hm] at HMM HHM
      have hm0 : ¬ m < 0 := by omega
      have hmm : (m != m) = false := by simp
      have hnb : (b != b) = false := by simp
      generalize lft r1 (totG p) = r2 at *
      unfold grV at HEG HEP HMG HMP HSP HIM
      clear htg htp hsg hsp hL hb s1 s2 s3 hn hm hr1 hr0 hr2 HZP
      go_enter Try.func5, Try.ntmps5
      go_upto_region 8 with (first
        | (go_at_call 7
           with_reducible refine (HZ1.out _ HK0.out).mono ?_
           rintro e w2 ⟨rfl, hg⟩
           have hs2 := HS0.out.grown hg
           obtain ⟨x0, x1, x2, x3, _⟩ := bq4 hs2.hd
           obtain ⟨y0, y1, y2, y3, _⟩ := bq4 hs2.tl.hd
           have HS2 := Lib.hid hs2
           have HK2 := Lib.hid (show w.grownBy w2 none from hs2.tl.tl.hd)
           clear hg hs2)
        | (go_at_call 7
           with_reducible refine (HZ2.out _ HK2.out).mono ?_
           rintro e w3 ⟨rfl, hg⟩
           have hs3 := HS2.out.grown hg
           clear x0 x1 x2 x3 y0 y1 y2 y3
           have HS3 := Lib.hid hs3
           have HK3 := Lib.hid (show w.grownBy w3 none from hs3.tl.tl.hd)
           clear hg hs3))
      have HBM := Lib.hid fun (W1 : World) (L : List Asrt) (h : Sep W1 L) (hG : BxA w.heap.size #[.int .i64 g.n, .slice ag g.es.length cg, .slice pg g.i.length qg, .slice rg g.o.length sg] 25 ∈ L) (hP : BxA (w.heap.size + 1) #[.int .i64 p.n, .slice ap p.es.length cp, .slice pp p.i.length qp, .slice rp p.o.length sp] 25 ∈ L) => show (W1.cell? ⟨w.heap.size, 0, none⟩ = some (.int .i64 g.n) ∧ W1.cell? ⟨w.heap.size, 1, none⟩ = some (.slice ag g.es.length cg) ∧ W1.cell? ⟨w.heap.size, 2, none⟩ = some (.slice pg g.i.length qg) ∧ W1.cell? ⟨w.heap.size, 3, none⟩ = some (.slice rg g.o.length sg)) ∧ (W1.cell? ⟨w.heap.size + 1, 0, none⟩ = some (.int .i64 p.n) ∧ W1.cell? ⟨w.heap.size + 1, 1, none⟩ = some (.slice ap p.es.length cp) ∧ W1.cell? ⟨w.heap.size + 1, 2, none⟩ = some (.slice pp p.i.length qp) ∧ W1.cell? ⟨w.heap.size + 1, 3, none⟩ = some (.slice rp p.o.length sp)) from
        have q := bq4 (show W1.heap[w.heap.size]? = some (.cells #[.int .i64 g.n, .slice ag g.es.length cg, .slice pg g.i.length qg, .slice rg g.o.length sg] 25 (0, 0)) from Sep.all h _ hG)
        have q2 := bq4 (show W1.heap[w.heap.size + 1]? = some (.cells #[.int .i64 p.n, .slice ap p.es.length cp, .slice pp p.i.length qp, .slice rp p.o.length sp] 25 (0, 0)) from Sep.all h _ hP)
        ⟨⟨q.1, q.2.1, q.2.2.1, q.2.2.2.1⟩, ⟨q2.1, q2.2.1, q2.2.2.1, q2.2.2.2.1⟩⟩
      have HSA := Lib.hid HS3.out.dr
      have HKA := Lib.hid (show w.grownBy _ none from HSA.out.tl.tl.hd)
      have XA0 := Lib.hid (HBM.out _ _ HSA.out (by simp) (by simp))
      refine AnyL.start (fun W1 => (W1.cell? ⟨w.heap.size, 0, none⟩ = some (.int .i64 g.n) ∧ W1.cell? ⟨w.heap.size, 1, none⟩ = some (.slice ag g.es.length cg) ∧ W1.cell? ⟨w.heap.size, 2, none⟩ = some (.slice pg g.i.length qg) ∧ W1.cell? ⟨w.heap.size, 3, none⟩ = some (.slice rg g.o.length sg)) ∧ (W1.cell? ⟨w.heap.size + 1, 0, none⟩ = some (.int .i64 p.n) ∧ W1.cell? ⟨w.heap.size + 1, 1, none⟩ = some (.slice ap p.es.length cp) ∧ W1.cell? ⟨w.heap.size + 1, 2, none⟩ = some (.slice pp p.i.length qp) ∧ W1.cell? ⟨w.heap.size + 1, 3, none⟩ = some (.slice rp p.o.length sp))) (fun _ => True) 99 (by kernel_rfl) ?_
      refine AnyL.take (i := 0) (v := ?vx1) (by rfl) (by kernel_rfl) (by kernel_rfl) (by kernel_rfl) rfl (by exact fun _ _ _ h => h) (by rfl) ?hyx1 (by exact ⟨XA0.out, fun _ => trivial⟩) ?restx1
      case hyx1 => intro W hSW; (try dsimp only at hSW); first | (go_simp; done) | (go_simp; with_reducible rfl)
      try simp only [Act.put, List.setIfInBounds_toArray, List.set_cons_zero, List.set_cons_succ]
      refine AnyL.take (i := 2) (v := ?vx2) (by rfl) (by kernel_rfl) (by kernel_rfl) (by kernel_rfl) rfl (by exact fun _ _ _ h => h) (by rfl) ?hyx2 (by exact ⟨XA0.out, fun _ => trivial⟩) ?restx2
      case hyx2 => intro W hSW; (try dsimp only at hSW); first | (go_simp; done) | (go_simp; with_reducible rfl)
      try simp only [Act.put, List.setIfInBounds_toArray, List.set_cons_zero, List.set_cons_succ]
      refine AnyL.step (i := 1) (by kernel_rfl) (by rfl) (fun K hK => ?_)
      go_simp
      go_at_call 9
      with_reducible refine (HTG.out _ HKA.out).mono ?_
      rintro e w4 ⟨aA, cA, pA, qA, rA, sA, xsA, rfl, hxs, hsg⟩
      have HXA := Lib.hid hxs
      have hs := HSA.out.graft1 hsg OX3_own
      have HS4 := Lib.hid hs
      have HK4 := Lib.hid (show w.grownBy _ none from hs.tl.tl.tl.hd)
      clear hsg hs hxs
      refine hK.out _ _ (by exact HBM.out _ _ HS4.out (by simp) (by simp)) (by exact fun _ => trivial) ?_
      clear hK K
      try simp only [Act.put, List.setIfInBounds_toArray, List.set_cons_zero, List.set_cons_succ]
      refine AnyL.step (i := 3) (by kernel_rfl) (by rfl) (fun K hK => ?_)
      go_simp
      go_at_call 9
      with_reducible refine (HTP.out _ HK4.out).mono ?_
      rintro e w5 ⟨aB, cB, pB, qB, rB, sB, xsB, rfl, hxs, hsg⟩
      have HXB := Lib.hid hxs
      have hs := HS4.out.graft1 hsg OX3_own
      have HSP5 := Lib.hid (HSP.out _ _ _ _ _ _ _ (OX3.read hs.tl.hd HXA.out) (OX3.read hs.hd hxs))
      have HS5 := Lib.hid hs
      clear hsg hs hxs
      refine hK.out _ _ (by exact HBM.out _ _ HS5.out (by simp) (by simp)) (by exact fun _ => trivial) ?_
      clear hK K
      try simp only [Act.put, List.setIfInBounds_toArray, List.set_cons_zero, List.set_cons_succ]
      refine AnyL.step (i := 4) (by kernel_rfl) (by rfl) (fun K hK => ?_)
      go_simp
      go_at_call 19
      with_reducible refine HSP5.out.mono ?_
      rintro e w6 ⟨am, cm, ym, rfl, hxs, hsg⟩
      have HY0 := Lib.hid hxs
      have hs := Sep.cutA (X := [_]) (A := [_, _]) (HS5.out.graft1 hsg OMs_own)
      have HK6 := Lib.hid (show w.grownBy _ none from hs.tl.tl.tl.hd)
      have HS6 := Lib.hid hs
      clear hsg hs hxs
      refine hK.out _ _ (by exact HBM.out _ _ HS6.out (by simp) (by simp)) (by exact fun _ => trivial) ?_
      clear hK K
      try simp only [Act.put, List.setIfInBounds_toArray, List.set_cons_zero, List.set_cons_succ]
      refine AnyL.take (i := 5) (v := ?vx3) (by rfl) (by kernel_rfl) (by kernel_rfl) (by kernel_rfl) rfl (by exact fun _ _ _ h => h) (by rfl) ?hyx3 (by exact ⟨HBM.out _ _ HS6.out (by simp) (by simp), fun _ => trivial⟩) ?restx3
      case hyx3 => intro W hSW; (try dsimp only at hSW); first | (go_simp; done) | (go_simp; with_reducible rfl)
      try simp only [Act.put, List.setIfInBounds_toArray, List.set_cons_zero, List.set_cons_succ]
      refine AnyL.take (i := 6) (v := ?vx4) (by rfl) (by kernel_rfl) (by kernel_rfl) (by kernel_rfl) rfl (by exact fun _ _ _ h => h) (by rfl) ?hyx4 (by exact ⟨HBM.out _ _ HS6.out (by simp) (by simp), fun _ => trivial⟩) ?restx4
      case hyx4 => intro W hSW; (try dsimp only at hSW); first | (go_simp; done) | (go_simp; with_reducible rfl)
      try simp only [Act.put, List.setIfInBounds_toArray, List.set_cons_zero, List.set_cons_succ]
      refine AnyL.take (i := 7) (v := ?vx5) (by rfl) (by kernel_rfl) (by kernel_rfl) (by kernel_rfl) rfl (by exact fun _ _ _ h => h) (by rfl) ?hyx5 (by exact ⟨HBM.out _ _ HS6.out (by simp) (by simp), fun _ => trivial⟩) ?restx5
      case hyx5 => intro W hSW; (try dsimp only at hSW); first | (go_simp; done) | (go_simp; with_reducible rfl)
      try simp only [Act.put, List.setIfInBounds_toArray, List.set_cons_zero, List.set_cons_succ]
      refine AnyL.take (i := 8) (v := ?vx6) (by rfl) (by kernel_rfl) (by kernel_rfl) (by kernel_rfl) rfl (by exact fun _ _ _ h => h) (by rfl) ?hyx6 (by exact ⟨HBM.out _ _ HS6.out (by simp) (by simp), fun _ => trivial⟩) ?restx6
      case hyx6 => intro W hSW; (try dsimp only at hSW); first | (go_simp; done) | (go_simp; with_reducible rfl)
      try simp only [Act.put, List.setIfInBounds_toArray, List.set_cons_zero, List.set_cons_succ]
      refine AnyL.take (i := 9) (v := ?vx7) (by rfl) (by kernel_rfl) (by kernel_rfl) (by kernel_rfl) rfl (by exact fun _ _ _ h => h) (by rfl) ?hyx7 (by exact ⟨HBM.out _ _ HS6.out (by simp) (by simp), fun _ => trivial⟩) ?restx7
      case hyx7 => intro W hSW; (try dsimp only at hSW); first | (go_simp; done) | (go_simp; with_reducible rfl)
      try simp only [Act.put, List.setIfInBounds_toArray, List.set_cons_zero, List.set_cons_succ]
      refine AnyL.done (by kernel_rfl) ?_ _
      clear XA0 HS4 HS5 HSA HSP5
      obtain ⟨x0, x1, x2, x3, _⟩ := bq4 HS6.out.tl.hd
      obtain ⟨y0, y1, y2, y3, _⟩ := bq4 HS6.out.tl.tl.hd
      go_upto_region 14 with (first
        | (go_at_call 9
           with_reducible refine (HTG.out _ HK6.out).mono ?_
           rintro e w7 ⟨aC, cC, pC, qC, rC, sC, xsC, rfl, hxs, hsg⟩
           have HXC := Lib.hid hxs
           have hs := HS6.out.graft1 hsg OX3_own
           have hs := hs.box #[.int .i64 g.n, .slice aC g.es.length cC, .slice pC g.i.length qC, .slice rC g.o.length sC] 29
           clear x0 x1 x2 x3 y0 y1 y2 y3
           obtain ⟨x0, x1, x2, x3, _⟩ := bq4 hs.tl.tl.tl.hd
           obtain ⟨z0, z1, z2, z3, _⟩ := bq4 hs.hd
           have HS7 := Lib.hid hs
           have HK7 := Lib.hid (show w.grownBy _ none from hs.tl.tl.tl.tl.tl.hd)
           clear hsg hs hxs)
        | (go_at_call 9
           with_reducible refine (HTP.out _ HK7.out).mono ?_
           rintro e w8 ⟨aD, cD, pD, qD, rD, sD, xsD, rfl, hxs, hsg⟩
           have HXD := Lib.hid hxs
           have hs := HS7.out.graft1 hsg OX3_own
           have hs := hs.box #[.int .i64 p.n, .slice aD p.es.length cD, .slice pD p.i.length qD, .slice rD p.o.length sD] 29
           clear x0 x1 x2 x3 z0 z1 z2 z3
           obtain ⟨x0, x1, x2, x3, _⟩ := bq4 hs.tl.tl.hd
           obtain ⟨y0, y1, y2, y3, _⟩ := bq4 hs.hd
           have HIM8 := Lib.hid (HIM.out _ _ _ _ _ _ _ (OX3.read hs.tl.tl.tl.hd HXC.out) (OX3.read hs.tl.hd hxs))
           have HS8 := Lib.hid hs
           clear hsg hs hxs)
        | (go_at_call 20
           with_reducible refine HIM8.out.mono ?_
           rintro e w9 ⟨an, cn, yn, rfl, hxs, hsg⟩
           have HY1 := Lib.hid hxs
           have hs := HS8.out.graft1 hsg OMs_own
           clear x0 x1 x2 x3 y0 y1 y2 y3
           have HEQ9 := Lib.hid (HEQ.out _ _ _ (HRD.out _ _ _ hs.hd hxs) (HRD.out _ _ _ hs.tl.tl.tl.tl.tl.hd HY0.out))
           have HS9 := Lib.hid hs
           clear hsg hs hxs)
        | (go_at_call 21
           with_reducible refine HEQ9.out.mono ?_
           rintro e w10 ⟨rfl, hg⟩
           have HS10 := Lib.hid (HS9.out.grown hg)
           clear hg))
      clear HS6 HS7 HS8 HS9 HEQ9 HIM8
      have HSEa := Lib.hid HS10.out.dr
      have HKEa := Lib.hid (show w.grownBy _ none from HSEa.out.tl.tl.tl.tl.tl.tl.tl.tl.hd)
      have HBEa := Lib.hid fun (W1 : World) (L : List Asrt) (h : Sep W1 L) (hG : BxA w7.heap.size #[.int .i64 g.n, .slice aC g.es.length cC, .slice pC g.i.length qC, .slice rC g.o.length sC] 29 ∈ L) (hP : BxA (w.heap.size) #[.int .i64 g.n, .slice ag g.es.length cg, .slice pg g.i.length qg, .slice rg g.o.length sg] 25 ∈ L) => show (W1.cell? ⟨w7.heap.size, 0, none⟩ = some (.int .i64 g.n) ∧ W1.cell? ⟨w7.heap.size, 1, none⟩ = some (.slice aC g.es.length cC) ∧ W1.cell? ⟨w7.heap.size, 2, none⟩ = some (.slice pC g.i.length qC) ∧ W1.cell? ⟨w7.heap.size, 3, none⟩ = some (.slice rC g.o.length sC)) ∧ (W1.cell? ⟨w.heap.size, 0, none⟩ = some (.int .i64 g.n) ∧ W1.cell? ⟨w.heap.size, 1, none⟩ = some (.slice ag g.es.length cg) ∧ W1.cell? ⟨w.heap.size, 2, none⟩ = some (.slice pg g.i.length qg) ∧ W1.cell? ⟨w.heap.size, 3, none⟩ = some (.slice rg g.o.length sg)) from
        have q := bq4 (show W1.heap[w7.heap.size]? = some (.cells #[.int .i64 g.n, .slice aC g.es.length cC, .slice pC g.i.length qC, .slice rC g.o.length sC] 29 (0, 0)) from Sep.all h _ hG)
        have q2 := bq4 (show W1.heap[w.heap.size]? = some (.cells #[.int .i64 g.n, .slice ag g.es.length cg, .slice pg g.i.length qg, .slice rg g.o.length sg] 25 (0, 0)) from Sep.all h _ hP)
        ⟨⟨q.1, q.2.1, q.2.2.1, q.2.2.2.1⟩, ⟨q2.1, q2.2.1, q2.2.2.1, q2.2.2.2.1⟩⟩
      have XEa := Lib.hid (HBEa.out _ _ HSEa.out (by simp) (by simp))
      refine AnyL.start (fun W1 => (W1.cell? ⟨w7.heap.size, 0, none⟩ = some (.int .i64 g.n) ∧ W1.cell? ⟨w7.heap.size, 1, none⟩ = some (.slice aC g.es.length cC) ∧ W1.cell? ⟨w7.heap.size, 2, none⟩ = some (.slice pC g.i.length qC) ∧ W1.cell? ⟨w7.heap.size, 3, none⟩ = some (.slice rC g.o.length sC)) ∧ (W1.cell? ⟨w.heap.size, 0, none⟩ = some (.int .i64 g.n) ∧ W1.cell? ⟨w.heap.size, 1, none⟩ = some (.slice ag g.es.length cg) ∧ W1.cell? ⟨w.heap.size, 2, none⟩ = some (.slice pg g.i.length qg) ∧ W1.cell? ⟨w.heap.size, 3, none⟩ = some (.slice rg g.o.length sg))) (fun _ => True) 99 (by kernel_rfl) ?_
      refine AnyL.take (i := 0) (v := ?vx8) (by rfl) (by kernel_rfl) (by kernel_rfl) (by kernel_rfl) rfl (by exact fun _ _ _ h => h) (by rfl) ?hyx8 (by exact ⟨XEa.out, fun _ => trivial⟩) ?restx8
      case hyx8 => intro W hSW; (try dsimp only at hSW); first | (go_simp; done) | (go_simp; with_reducible rfl)
      try simp only [Act.put, List.setIfInBounds_toArray, List.set_cons_zero, List.set_cons_succ]
      refine AnyL.take (i := 1) (v := ?vx9) (by rfl) (by kernel_rfl) (by kernel_rfl) (by kernel_rfl) rfl (by exact fun _ _ _ h => h) (by rfl) ?hyx9 (by exact ⟨XEa.out, fun _ => trivial⟩) ?restx9
      case hyx9 => intro W hSW; (try dsimp only at hSW); first | (go_simp; done) | (go_simp; with_reducible rfl)
      try simp only [Act.put, List.setIfInBounds_toArray, List.set_cons_zero, List.set_cons_succ]
      refine AnyL.step (i := 2) (by kernel_rfl) (by rfl) (fun K hK => ?_)
      go_simp
      go_at_call 9
      with_reducible refine (HTG.out _ HKEa.out).mono ?_
      rintro e w11 ⟨aE, cE, pE, qE, rE, sE, xsE, rfl, hxs, hsg⟩
      have HXE := Lib.hid hxs
      have hs := HSEa.out.graft1 hsg OX3_own
      have HQEa := Lib.hid (HEG.out _ _ _ _ _ _ _ (OX3.read hs.tl.tl.tl.tl.tl.hd HXC.out) (OX3.read hs.hd hxs))
      have HSFa := Lib.hid hs
      clear hsg hs hxs
      refine hK.out _ _ (by exact HBEa.out _ _ HSFa.out (by simp) (by simp)) (by exact fun _ => trivial) ?_
      clear hK K
      try simp only [Act.put, List.setIfInBounds_toArray, List.set_cons_zero, List.set_cons_succ]
      refine AnyL.step (i := 3) (by kernel_rfl) (by rfl) (fun K hK => ?_)
      go_simp
      go_at_call 11
      with_reducible refine HQEa.out.mono ?_
      rintro e w12 ⟨rfl, hg⟩
      have hs := (HSFa.out.grown hg).tl
      have HS12 := Lib.hid hs
      clear hg hs
      refine hK.out _ _ (by exact HBEa.out _ _ HS12.out (by simp) (by simp)) (by exact fun _ => trivial) ?_
      clear hK K
      try simp only [Act.put, List.setIfInBounds_toArray, List.set_cons_zero, List.set_cons_succ]
      refine AnyL.take (i := 4) (v := ?vx10) (by rfl) (by kernel_rfl) (by kernel_rfl) (by kernel_rfl) rfl (by exact fun _ _ _ h => h) (by rfl) ?hyx10 (by exact ⟨HBEa.out _ _ HS12.out (by simp) (by simp), fun _ => trivial⟩) ?restx10
      case hyx10 => intro W hSW; (try dsimp only at hSW); first | (go_simp; done) | (go_simp; with_reducible rfl)
      try simp only [Act.put, List.setIfInBounds_toArray, List.set_cons_zero, List.set_cons_succ]
      refine AnyL.done (by kernel_rfl) ?_ _
      clear HSEa HSFa XEa HBEa HQEa
      go_upto_region 16 with fail
      have HSEb := Lib.hid HS12.out.dr
      have HKEb := Lib.hid (show w.grownBy _ none from HSEb.out.tl.tl.tl.tl.tl.tl.tl.tl.hd)
      have HBEb := Lib.hid fun (W1 : World) (L : List Asrt) (h : Sep W1 L) (hG : BxA w8.heap.size #[.int .i64 p.n, .slice aD p.es.length cD, .slice pD p.i.length qD, .slice rD p.o.length sD] 29 ∈ L) (hP : BxA (w.heap.size + 1) #[.int .i64 p.n, .slice ap p.es.length cp, .slice pp p.i.length qp, .slice rp p.o.length sp] 25 ∈ L) => show (W1.cell? ⟨w8.heap.size, 0, none⟩ = some (.int .i64 p.n) ∧ W1.cell? ⟨w8.heap.size, 1, none⟩ = some (.slice aD p.es.length cD) ∧ W1.cell? ⟨w8.heap.size, 2, none⟩ = some (.slice pD p.i.length qD) ∧ W1.cell? ⟨w8.heap.size, 3, none⟩ = some (.slice rD p.o.length sD)) ∧ (W1.cell? ⟨w.heap.size + 1, 0, none⟩ = some (.int .i64 p.n) ∧ W1.cell? ⟨w.heap.size + 1, 1, none⟩ = some (.slice ap p.es.length cp) ∧ W1.cell? ⟨w.heap.size + 1, 2, none⟩ = some (.slice pp p.i.length qp) ∧ W1.cell? ⟨w.heap.size + 1, 3, none⟩ = some (.slice rp p.o.length sp)) from
        have q := bq4 (show W1.heap[w8.heap.size]? = some (.cells #[.int .i64 p.n, .slice aD p.es.length cD, .slice pD p.i.length qD, .slice rD p.o.length sD] 29 (0, 0)) from Sep.all h _ hG)
        have q2 := bq4 (show W1.heap[w.heap.size + 1]? = some (.cells #[.int .i64 p.n, .slice ap p.es.length cp, .slice pp p.i.length qp, .slice rp p.o.length sp] 25 (0, 0)) from Sep.all h _ hP)
        ⟨⟨q.1, q.2.1, q.2.2.1, q.2.2.2.1⟩, ⟨q2.1, q2.2.1, q2.2.2.1, q2.2.2.2.1⟩⟩
      have XEb := Lib.hid (HBEb.out _ _ HSEb.out (by simp) (by simp))
      refine AnyL.start (fun W1 => (W1.cell? ⟨w8.heap.size, 0, none⟩ = some (.int .i64 p.n) ∧ W1.cell? ⟨w8.heap.size, 1, none⟩ = some (.slice aD p.es.length cD) ∧ W1.cell? ⟨w8.heap.size, 2, none⟩ = some (.slice pD p.i.length qD) ∧ W1.cell? ⟨w8.heap.size, 3, none⟩ = some (.slice rD p.o.length sD)) ∧ (W1.cell? ⟨w.heap.size + 1, 0, none⟩ = some (.int .i64 p.n) ∧ W1.cell? ⟨w.heap.size + 1, 1, none⟩ = some (.slice ap p.es.length cp) ∧ W1.cell? ⟨w.heap.size + 1, 2, none⟩ = some (.slice pp p.i.length qp) ∧ W1.cell? ⟨w.heap.size + 1, 3, none⟩ = some (.slice rp p.o.length sp))) (fun _ => True) 99 (by kernel_rfl) ?_
      refine AnyL.take (i := 0) (v := ?vx11) (by rfl) (by kernel_rfl) (by kernel_rfl) (by kernel_rfl) rfl (by exact fun _ _ _ h => h) (by rfl) ?hyx11 (by exact ⟨XEb.out, fun _ => trivial⟩) ?restx11
      case hyx11 => intro W hSW; (try dsimp only at hSW); first | (go_simp; done) | (go_simp; with_reducible rfl)
      try simp only [Act.put, List.setIfInBounds_toArray, List.set_cons_zero, List.set_cons_succ]
      refine AnyL.take (i := 1) (v := ?vx12) (by rfl) (by kernel_rfl) (by kernel_rfl) (by kernel_rfl) rfl (by exact fun _ _ _ h => h) (by rfl) ?hyx12 (by exact ⟨XEb.out, fun _ => trivial⟩) ?restx12
      case hyx12 => intro W hSW; (try dsimp only at hSW); first | (go_simp; done) | (go_simp; with_reducible rfl)
      try simp only [Act.put, List.setIfInBounds_toArray, List.set_cons_zero, List.set_cons_succ]
      refine AnyL.step (i := 2) (by kernel_rfl) (by rfl) (fun K hK => ?_)
      go_simp
      go_at_call 9
      with_reducible refine (HTP.out _ HKEb.out).mono ?_
      rintro e w13 ⟨aF, cF, pF, qF, rF, sF, xsF, rfl, hxs, hsg⟩
      have HXF := Lib.hid hxs
      have hs := HSEb.out.graft1 hsg OX3_own
      have HQEb := Lib.hid (HEP.out _ _ _ _ _ _ _ (OX3.read hs.tl.tl.tl.hd HXD.out) (OX3.read hs.hd hxs))
      have HSFb := Lib.hid hs
      clear hsg hs hxs
      refine hK.out _ _ (by exact HBEb.out _ _ HSFb.out (by simp) (by simp)) (by exact fun _ => trivial) ?_
      clear hK K
      try simp only [Act.put, List.setIfInBounds_toArray, List.set_cons_zero, List.set_cons_succ]
      refine AnyL.step (i := 3) (by kernel_rfl) (by rfl) (fun K hK => ?_)
      go_simp
      go_at_call 11
      with_reducible refine HQEb.out.mono ?_
      rintro e w14 ⟨rfl, hg⟩
      have hs := (HSFb.out.grown hg).tl
      have HS14 := Lib.hid hs
      clear hg hs
      refine hK.out _ _ (by exact HBEb.out _ _ HS14.out (by simp) (by simp)) (by exact fun _ => trivial) ?_
      clear hK K
      try simp only [Act.put, List.setIfInBounds_toArray, List.set_cons_zero, List.set_cons_succ]
      refine AnyL.take (i := 4) (v := ?vx13) (by rfl) (by kernel_rfl) (by kernel_rfl) (by kernel_rfl) rfl (by exact fun _ _ _ h => h) (by rfl) ?hyx13 (by exact ⟨HBEb.out _ _ HS14.out (by simp) (by simp), fun _ => trivial⟩) ?restx13
      case hyx13 => intro W hSW; (try dsimp only at hSW); first | (go_simp; done) | (go_simp; with_reducible rfl)
      try simp only [Act.put, List.setIfInBounds_toArray, List.set_cons_zero, List.set_cons_succ]
      refine AnyL.done (by kernel_rfl) ?_ _
      clear HSEb HSFb XEb HBEb HQEb
      obtain ⟨x0, x1, x2, x3, _⟩ := bq4 HS14.out.tl.tl.tl.hd
      obtain ⟨y0, y1, y2, y3, _⟩ := bq4 HS14.out.tl.hd
      have HS14b := Lib.hid (Sep.blk (A := [_, _, _, _]) (B := [_]) HS14.out)
      have HMG14 := Lib.hid (HMG.out _ _ _ _ _ _ HS14b.out HXC.out)
      go_upto_region 31 with (first
        | (go_at_call 12
           with_reducible refine HMG14.out.mono ?_
           rintro e w15 ⟨r15, rfl, h15a, h15b, hs15⟩
           clear x0 x1 x2 x3 y0 y1 y2 y3
           obtain ⟨x0, x1, x2, x3, _⟩ := bq4 hs15.tl.hd
           have hs := Sep.blk (A := [_, _]) (B := [_]) hs15
           have HMP15 := Lib.hid (HMP.out r15 h15a (by omega) _ _ _ _ _ _ hs HXD.out)
           clear hs15 hs h15a h15b)
        | (go_at_call 12
           with_reducible refine HMP15.out.mono ?_
           rintro e w16 ⟨r16, rfl, h16a, h16b, hs16⟩
           clear x0 x1 x2 x3
           have hr16 : ¬ r16 < 0 := by omega
           have HS16 := Lib.hid hs16
           have HEQ16 := Lib.hid (HEQ.out _ _ _ (HRD.out _ _ _ hs16.hd HY1.out) (HRD.out _ _ _ hs16.tl.tl.tl.hd HY0.out))
           clear hs16 h16a h16b)
        | (go_at_call 21
           with_reducible refine HEQ16.out.mono ?_
           rintro e w17 ⟨rfl, hg⟩
           have hs := HS16.out.grown hg
           have HMM17 := Lib.hid (HMM.out _ _ _ _ _ hs HY1.out)
           clear hg hs)
        | (go_at_call 22
           with_reducible refine HMM17.out.mono ?_
           rintro e w18 ⟨rfl, hs18⟩
           have HS18 := Lib.hid hs18
           have HHM18 := Lib.hid (HHM.out _ _ (HRM.out _ _ _ hs18.hd HY1.out))
           clear hs18)
        | (go_at_call 23
           with_reducible refine HHM18.out.mono ?_
           rintro e w19 ⟨rfl, hg⟩
           have HS19 := Lib.hid (HS18.out.grown hg)
           clear hg))
      have HSH := Lib.hid HS19.out.dr
      have HKH := Lib.hid (show w.grownBy _ none from HSH.out.tl.tl.tl.tl.tl.tl.hd)
      have XH0 := Lib.hid (HBM.out _ _ HSH.out (by simp) (by simp))
      clear HS14 HS14b HS16 HS18 HMG14 HEQ16 HMM17 HHM18 HMP15
      refine AnyL.start (fun W1 => (W1.cell? ⟨w.heap.size, 0, none⟩ = some (.int .i64 g.n) ∧ W1.cell? ⟨w.heap.size, 1, none⟩ = some (.slice ag g.es.length cg) ∧ W1.cell? ⟨w.heap.size, 2, none⟩ = some (.slice pg g.i.length qg) ∧ W1.cell? ⟨w.heap.size, 3, none⟩ = some (.slice rg g.o.length sg)) ∧ (W1.cell? ⟨w.heap.size + 1, 0, none⟩ = some (.int .i64 p.n) ∧ W1.cell? ⟨w.heap.size + 1, 1, none⟩ = some (.slice ap p.es.length cp) ∧ W1.cell? ⟨w.heap.size + 1, 2, none⟩ = some (.slice pp p.i.length qp) ∧ W1.cell? ⟨w.heap.size + 1, 3, none⟩ = some (.slice rp p.o.length sp))) (fun _ => True) 99 (by kernel_rfl) ?_
      refine AnyL.take (i := 0) (v := ?vx14) (by rfl) (by kernel_rfl) (by kernel_rfl) (by kernel_rfl) rfl (by exact fun _ _ _ h => h) (by rfl) ?hyx14 (by exact ⟨XH0.out, fun _ => trivial⟩) ?restx14
      case hyx14 => intro W hSW; (try dsimp only at hSW); first | (go_simp; done) | (go_simp; with_reducible rfl)
      try simp only [Act.put, List.setIfInBounds_toArray, List.set_cons_zero, List.set_cons_succ]
      refine AnyL.take (i := 2) (v := ?vx15) (by rfl) (by kernel_rfl) (by kernel_rfl) (by kernel_rfl) rfl (by exact fun _ _ _ h => h) (by rfl) ?hyx15 (by exact ⟨XH0.out, fun _ => trivial⟩) ?restx15
      case hyx15 => intro W hSW; (try dsimp only at hSW); first | (go_simp; done) | (go_simp; with_reducible rfl)
      try simp only [Act.put, List.setIfInBounds_toArray, List.set_cons_zero, List.set_cons_succ]
      refine AnyL.step (i := 1) (by kernel_rfl) (by rfl) (fun K hK => ?_)
      go_simp
      go_at_call 9
      with_reducible refine (HTG.out _ HKH.out).mono ?_
      rintro e w20 ⟨aG, cG, pG, qG, rG, sG, xsG, rfl, hxs, hsg⟩
      have HXG := Lib.hid hxs
      have hs := HSH.out.graft1 hsg OX3_own
      have HS20 := Lib.hid hs
      have HK20 := Lib.hid (show w.grownBy _ none from hs.tl.tl.tl.tl.tl.tl.tl.hd)
      clear hsg hs hxs
      refine hK.out _ _ (by exact HBM.out _ _ HS20.out (by simp) (by simp)) (by exact fun _ => trivial) ?_
      clear hK K
      try simp only [Act.put, List.setIfInBounds_toArray, List.set_cons_zero, List.set_cons_succ]
      refine AnyL.step (i := 3) (by kernel_rfl) (by rfl) (fun K hK => ?_)
      go_simp
      go_at_call 9
      with_reducible refine (HTP.out _ HK20.out).mono ?_
      rintro e w21 ⟨aH, cH, pH, qH, rH, sH, xsH, rfl, hxs, hsg⟩
      have HXH := Lib.hid hxs
      have hs := HS20.out.graft1 hsg OX3_own
      have HIM21 := Lib.hid (HIM.out _ _ _ _ _ _ _ (OX3.read hs.tl.hd HXG.out) (OX3.read hs.hd hxs))
      have HS21 := Lib.hid hs
      clear hsg hs hxs
      refine hK.out _ _ (by exact HBM.out _ _ HS21.out (by simp) (by simp)) (by exact fun _ => trivial) ?_
      clear hK K
      try simp only [Act.put, List.setIfInBounds_toArray, List.set_cons_zero, List.set_cons_succ]
      refine AnyL.step (i := 4) (by kernel_rfl) (by rfl) (fun K hK => ?_)
      go_simp
      go_at_call 20
      with_reducible refine HIM21.out.mono ?_
      rintro e w22 ⟨ao, co, yo, rfl, hxs, hsg⟩
      have hs := Sep.cutA (X := [_]) (A := [_, _]) (HS21.out.graft1 hsg OMs_own)
      have HEQ22 := Lib.hid (HEQ.out _ _ _ (HRD.out _ _ _ hs.hd hxs) (HRD.out _ _ _ hs.tl.tl.tl.tl.hd HY0.out))
      have HS22 := Lib.hid hs
      clear hsg hs hxs
      refine hK.out _ _ (by exact HBM.out _ _ HS22.out (by simp) (by simp)) (by exact fun _ => trivial) ?_
      clear hK K
      try simp only [Act.put, List.setIfInBounds_toArray, List.set_cons_zero, List.set_cons_succ]
      refine AnyL.take (i := 5) (v := ?vx16) (by rfl) (by kernel_rfl) (by kernel_rfl) (by kernel_rfl) rfl (by exact fun _ _ _ h => h) (by rfl) ?hyx16 (by exact ⟨HBM.out _ _ HS22.out (by simp) (by simp), fun _ => trivial⟩) ?restx16
      case hyx16 => intro W hSW; (try dsimp only at hSW); first | (go_simp; done) | (go_simp; with_reducible rfl)
      try simp only [Act.put, List.setIfInBounds_toArray, List.set_cons_zero, List.set_cons_succ]
      refine AnyL.take (i := 6) (v := ?vx17) (by rfl) (by kernel_rfl) (by kernel_rfl) (by kernel_rfl) rfl (by exact fun _ _ _ h => h) (by rfl) ?hyx17 (by exact ⟨HBM.out _ _ HS22.out (by simp) (by simp), fun _ => trivial⟩) ?restx17
      case hyx17 => intro W hSW; (try dsimp only at hSW); first | (go_simp; done) | (go_simp; with_reducible rfl)
      try simp only [Act.put, List.setIfInBounds_toArray, List.set_cons_zero, List.set_cons_succ]
      refine AnyL.take (i := 7) (v := ?vx18) (by rfl) (by kernel_rfl) (by kernel_rfl) (by kernel_rfl) rfl (by exact fun _ _ _ h => h) (by rfl) ?hyx18 (by exact ⟨HBM.out _ _ HS22.out (by simp) (by simp), fun _ => trivial⟩) ?restx18
      case hyx18 => intro W hSW; (try dsimp only at hSW); first | (go_simp; done) | (go_simp; with_reducible rfl)
      try simp only [Act.put, List.setIfInBounds_toArray, List.set_cons_zero, List.set_cons_succ]
      refine AnyL.take (i := 8) (v := ?vx19) (by rfl) (by kernel_rfl) (by kernel_rfl) (by kernel_rfl) rfl (by exact fun _ _ _ h => h) (by rfl) ?hyx19 (by exact ⟨HBM.out _ _ HS22.out (by simp) (by simp), fun _ => trivial⟩) ?restx19
      case hyx19 => intro W hSW; (try dsimp only at hSW); first | (go_simp; done) | (go_simp; with_reducible rfl)
      try simp only [Act.put, List.setIfInBounds_toArray, List.set_cons_zero, List.set_cons_succ]
      refine AnyL.take (i := 9) (v := ?vx20) (by rfl) (by kernel_rfl) (by kernel_rfl) (by kernel_rfl) rfl (by exact fun _ _ _ h => h) (by rfl) ?hyx20 (by exact ⟨HBM.out _ _ HS22.out (by simp) (by simp), fun _ => trivial⟩) ?restx20
      case hyx20 => intro W hSW; (try dsimp only at hSW); first | (go_simp; done) | (go_simp; with_reducible rfl)
      try simp only [Act.put, List.setIfInBounds_toArray, List.set_cons_zero, List.set_cons_succ]
      refine AnyL.done (by kernel_rfl) ?_ _
      clear XH0 HS20 HS21 HSH HIM21
      go_wp2_with (first
        | (go_at_call 21
           with_reducible refine HEQ22.out.mono ?_
           rintro e w23 ⟨rfl, hg⟩
           have hs := HS22.out.grown hg
           have HHM23 := Lib.hid (HHM.out _ _ (HRM.out _ _ _ hs.tl.hd HY1.out))
           have HK23 := Lib.hid (show w.grownBy w23 none from hs.tl.tl.tl.tl.tl.tl.tl.hd)
           clear hg hs)
        | (go_at_call 23
           with_reducible refine HHM23.out.mono ?_
           rintro e w24 ⟨rfl, hg⟩
           have HK24 := Lib.hid (grownBy_trans HK23.out hg)
           clear hg))
      go_ret
      exact ⟨rfl, HK24.out⟩
end Go.Proofs.Ytlpgjnjhhgjkmaa

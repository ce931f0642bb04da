/-
  Who is in a space: vectors, coordinates, separators. Conditions: the sizes are small.
-/
import Derived.Test.YtpeaeminjbjlnaaDoorMs14
import Derived.Test.YtpeaeminjbjlnaaDoorMs16
import Derived.Test.YtpeaeminjbjlnaaDoorMs08
namespace Go.Proofs.YtpeaeminjbjlnaaDoor
open Go.RowKit
set_option linter.unusedVariables false

def vectorB (p n : Int) (L : List (List Int)) (x : List Int) : Bool := spaceB p n L && vecB p n x
theorem vectorB_nat {p n : Int} {L : List (List Int)} {x : List Int} (h : vectorB p n L x = true) : ∃ (q : Nat) (_ : NeZero q) (m : Nat), p = q ∧ n = m ∧ fldN q = true ∧ q ≤ 97 ∧ m ≤ 24 ∧ L.length ≤ m ∧ IsRed q m L ∧ RowsOk q m L ∧ VecOk q m x := by
  unfold vectorB at h
  rw [Bool.and_eq_true] at h
  obtain ⟨q, i, m, rfl, rfl, h1, h2, h3, h4, h5, h6⟩ := spaceB_nat h.1
  exact ⟨q, i, m, rfl, rfl, h1, h2, h3, h4, h5, h6, vecB_ok.1 h.2⟩

section
variable (p n : Int) (u v : Value) (L : List (List Int)) (x : List Int) (w : World) (ht : Tab w) (hu : MatV w u L) (hv : IntsV w v x) (hl : L.length ≤ 1000000) (hll : ∀ row ∈ L, row.length ≤ 1000000) (hxl : x.length ≤ 1000000)
include ht hu hv hl hll hxl
set_option maxRecDepth 100000 in
theorem hasVector_no (hno : vectorB p n L x = false) : Calls Tryd.prog 56 #[.int .i64 p, mxV n u, v] w fun e w' => e = .returned (.tuple #[.bool false, .bool false]) ∧ w.grownBy w' none := by
  have HS := Lib.hid fun w' (hg : w.grownBy w' none) => isSpace_any p n u L w' (ht.grown hg) (hu.carry hg) hl hll
  have HX := Lib.hid fun w' (hg : w.grownBy w' none) => isVector_any p n v x w' (hv.carry hg) hxl
  unfold vectorB at hno
  unfold mxV at *
  obtain ⟨a, c, rfl⟩ := hu.shape
  obtain ⟨xa, xc, rfl, hvx⟩ := hv
  have e0 := Lib.hid (alloc_heap_new w (.cells #[.int .i64 n, .slice a L.length c] 74))
  clear hu hvx hll ht
  generalize L.length = l at *
  generalize x.length = xl at *
  cases h1 : spaceB p n L <;> cases h2 : vecB p n x
  all_goals
    rw [h1] at HS
    rw [h2] at HX
    first
      | (exfalso; rw [h1, h2] at hno; exact absurd hno (by decide))
      | (clear h1 h2 hno
         go_enter Tryd.func56, Tryd.ntmps56
         go_wp2_with (first
           | (go_at_call 171
              with_reducible refine (HS.out _ (grownBy_alloc _ _ none)).mono ?_
              rintro e w1 ⟨rfl, hg⟩
              obtain ⟨c0, c1, f0, f1⟩ := bx (bx_on e0.out hg)
              have HG := Lib.hid ((grownBy_alloc w _ none).trans hg)
              clear hg)
           | (go_at_call 173; with_reducible refine (HX.out _ HG.out).mono ?_; rintro e w' ⟨rfl, rfl⟩))
         go_ret2
         exact ⟨rfl, HG.out⟩)
set_option maxRecDepth 100000 in
theorem hasVector_yes (hb : vectorB p n L x = true) : Calls Tryd.prog 56 #[.int .i64 p, mxV n u, v] w fun e w' => e = .returned (.tuple #[.bool (hasB p n.toNat L x), .bool true]) ∧ w.grownBy w' none := by
  have HS := fun w' (hg : w.grownBy w' none) => isSpace_any p n u L w' (ht.grown hg) (hu.carry hg) hl hll
  have HX := fun w' (hg : w.grownBy w' none) => isVector_any p n v x w' (hv.carry hg) hxl
  have hb' := hb
  unfold vectorB at hb'
  rw [Bool.and_eq_true] at hb'
  rw [hb'.1] at HS
  rw [hb'.2] at HX
  have HS := Lib.hid HS; have HX := Lib.hid HX
  obtain ⟨q, i, m, rfl, rfl, h1, h2, h3, h4, h5, h6, h7⟩ := vectorB_nat hb
  rw [Int.toNat_natCast]
  have HC := Lib.hid fun w' (hg : w.grownBy w' none) => coordinates_any q m u v L x w' h1 (by omega) (hu.carry hg) (hv.carry hg) h5 h7 (by omega) (by omega)
  unfold mxV at *
  obtain ⟨a, c, rfl⟩ := hu.shape
  obtain ⟨xa, xc, rfl, hvx⟩ := hv
  have e0 := Lib.hid (alloc_heap_new w (.cells #[.int .i64 m, .slice a L.length c] 74))
  clear hu hvx hll ht hb hb' h1 h5 h6 h7
  generalize hasB q m L x = hb at *
  generalize L.length = l at *
  generalize x.length = xl at *
  go_enter Tryd.func56, Tryd.ntmps56
  go_wp2_with (first
    | (go_at_call 171
       with_reducible refine (HS.out _ (grownBy_alloc _ _ none)).mono ?_
       rintro e w1 ⟨rfl, hg⟩
       obtain ⟨c0, c1, f0, f1⟩ := bx (bx_on e0.out hg)
       have HG := Lib.hid ((grownBy_alloc w _ none).trans hg)
       clear hg)
    | (go_at_call 173; with_reducible refine (HX.out _ HG.out).mono ?_; rintro e w' ⟨rfl, rfl⟩)
    | (go_at_call 174
       with_reducible refine (HC.out _ HG.out).mono ?_
       rintro e w2 ⟨o, rfl, ho, hg⟩
       have HG2 := Lib.hid hg
       clear ho hg))
  go_ret2
  exact ⟨rfl, HG.out.trans HG2.out⟩
set_option maxRecDepth 100000 in
theorem coordinatesOf_no (hno : vectorB p n L x = false) : Calls Tryd.prog 75 #[.int .i64 p, mxV n u, v] w fun e w' => e = .returned (.tuple #[nilS, .bool false]) ∧ w.grownBy w' none := by
  have HS := Lib.hid fun w' (hg : w.grownBy w' none) => isSpace_any p n u L w' (ht.grown hg) (hu.carry hg) hl hll
  have HX := Lib.hid fun w' (hg : w.grownBy w' none) => isVector_any p n v x w' (hv.carry hg) hxl
  unfold vectorB at hno
  unfold mxV at *
  unfold nilS
  obtain ⟨a, c, rfl⟩ := hu.shape
  obtain ⟨xa, xc, rfl, hvx⟩ := hv
  have e0 := Lib.hid (alloc_heap_new w (.cells #[.int .i64 n, .slice a L.length c] 74))
  clear hu hvx hll ht
  generalize L.length = l at *
  generalize x.length = xl at *
  cases h1 : spaceB p n L <;> cases h2 : vecB p n x
  all_goals
    rw [h1] at HS
    rw [h2] at HX
    first
      | (exfalso; rw [h1, h2] at hno; exact absurd hno (by decide))
      | (clear h1 h2 hno
         go_enter Tryd.func75, Tryd.ntmps75
         go_wp2_with (first
           | (go_at_call 171
              with_reducible refine (HS.out _ (grownBy_alloc _ _ none)).mono ?_
              rintro e w1 ⟨rfl, hg⟩
              obtain ⟨c0, c1, f0, f1⟩ := bx (bx_on e0.out hg)
              have HG := Lib.hid ((grownBy_alloc w _ none).trans hg)
              clear hg)
           | (go_at_call 173; with_reducible refine (HX.out _ HG.out).mono ?_; rintro e w' ⟨rfl, rfl⟩))
         go_ret2
         exact ⟨rfl, HG.out⟩)
set_option maxRecDepth 100000 in
theorem coordinatesOf_yes (hb : vectorB p n L x = true) : Calls Tryd.prog 75 #[.int .i64 p, mxV n u, v] w fun e w' => ∃ o, e = .returned (.tuple #[o, .bool (hasB p n.toNat L x)]) ∧ OwnInts w.heap.size w' o (if hasB p n.toNat L x then coordsL L x else []) ∧ w.grownBy w' none := by
  have HS := fun w' (hg : w.grownBy w' none) => isSpace_any p n u L w' (ht.grown hg) (hu.carry hg) hl hll
  have HX := fun w' (hg : w.grownBy w' none) => isVector_any p n v x w' (hv.carry hg) hxl
  have hb' := hb
  unfold vectorB at hb'
  rw [Bool.and_eq_true] at hb'
  rw [hb'.1] at HS
  rw [hb'.2] at HX
  have HS := Lib.hid HS; have HX := Lib.hid HX
  obtain ⟨q, i, m, rfl, rfl, h1, h2, h3, h4, h5, h6, h7⟩ := vectorB_nat hb
  rw [Int.toNat_natCast]
  have HC := Lib.hid fun w' (hg : w.grownBy w' none) => coordinates_any q m u v L x w' h1 (by omega) (hu.carry hg) (hv.carry hg) h5 h7 (by omega) (by omega)
  unfold mxV at *
  obtain ⟨a, c, rfl⟩ := hu.shape
  obtain ⟨xa, xc, rfl, hvx⟩ := hv
  have e0 := Lib.hid (alloc_heap_new w (.cells #[.int .i64 m, .slice a L.length c] 74))
  clear hu hvx hll ht hb hb' h1 h5 h6 h7
  generalize coordsL L x = co at *
  generalize L.length = l at *
  generalize x.length = xl at *
  cases hbb : hasB q m L x
  all_goals
    rw [hbb] at HC
    clear hbb
    go_enter Tryd.func75, Tryd.ntmps75
    go_wp2_with (first
      | (go_at_call 171
         with_reducible refine (HS.out _ (grownBy_alloc _ _ none)).mono ?_
         rintro e w1 ⟨rfl, hg⟩
         obtain ⟨c0, c1, f0, f1⟩ := bx (bx_on e0.out hg)
         have HG := Lib.hid ((grownBy_alloc w _ none).trans hg)
         clear hg)
      | (go_at_call 173; with_reducible refine (HX.out _ HG.out).mono ?_; rintro e w' ⟨rfl, rfl⟩)
      | (go_at_call 174
         with_reducible refine (HC.out _ HG.out).mono ?_
         rintro e w2 ⟨o, rfl, ho, hg⟩
         have HG2 := Lib.hid hg; have HO := Lib.hid ho
         clear ho hg))
    go_ret2
    first
      | exact ⟨nilS, rfl, OwnInts.nil _ _, HG.out.trans HG2.out⟩
      | exact ⟨o, rfl, HO.out.base HG.out.size, HG.out.trans HG2.out⟩
end
end Go.Proofs.YtpeaeminjbjlnaaDoor

/-
  The specification's checks of spaces, sums and coordinates. Conditions: the sizes are small.
-/
namespace Go.Proofs.YtpeaeminjbjlnaaDoor
open Go.RowKit
set_option linter.unusedVariables false

theorem spRows_any (p n : Int) (v : Value) (L : List (List Int)) (w : World) (hv : MatV w v L) (hl : L.length ≤ 1000000) (hll : ∀ row ∈ L, row.length ≤ 1000000) (hp0 : -1000 ≤ p) (hp1 : p ≤ 1000) :
    Calls Tryd.prog 207 #[.int .i64 p, .int .i64 n, v] w fun e w' => e = .returned (.bool (rowsB p n L)) ∧ w = w' := by
  have HV := Lib.hid hv; have HLL := Lib.hid hll
  obtain ⟨a, c, rfl⟩ := hv.shape
  clear hv hll
  generalize hlen : L.length = l at *
  have HL := Lib.hid hlen
  clear hlen
  go_enter Tryd.func207, Tryd.ntmps207
  go_wp2
  go_loop [11] (fun i => ∃ k : Nat, k ≤ l ∧ i = .int .i64 k ∧ ∀ j (h : j < L.length), j < k → vecB p n L[j] = true) (fun i => l - (intOf i).toNat)
  case atStart => exact ⟨0, by omega, rfl, fun _ _ h => absurd h (by omega)⟩
  case round =>
    obtain ⟨k, hk, rfl, ho⟩ := hrel
    have HO := Lib.hid ho
    clear ho
    by_cases hlt : k < l
    · have hkl : k < L.length := by rw [HL.out]; exact hlt
      obtain ⟨d, r, rc, rfl, hs, hd, hcell, hrow⟩ := HV.out.row hkl
      have hlr := HLL.out L[k] (List.getElem_mem _)
      obtain ⟨db, dof, _⟩ := d
      simp only at hs hcell
      subst hs
      have HBAD := Lib.hid (show vecB p n L[k] = false → rowsB p n L = false by
        intro h
        unfold rowsB
        exact List.all_eq_false.2 ⟨L[k], List.getElem_mem _, by rw [h]; simp⟩)
      have HF := Lib.hid (fdIn_any p _ L[k] w hrow hlr (by omega) (by omega))
      have HVB := Lib.hid (show vecB p n L[k] = (decide ((L[k].length : Int) = n) && L[k].all (elB p)) from rfl)
      clear hd hrow hlr
      generalize hrl : L[k].length = rl at *
      clear hrl
      by_cases hq : (rl : Int) = n
      · have hb1 : ((rl : Int) != n) = false := by rw [bne_eq_false_iff_eq]; exact hq
        cases he : L[k].all (elB p)
        · rw [he] at HF
          have hfin := HBAD.out (by rw [HVB.out, he, Bool.and_false])
          have HFIN := Lib.hid hfin
          clear hfin he
          go_wp2_with (go_at_call 192; with_reducible refine HF.out.mono ?_; rintro e w' ⟨rfl, rfl⟩)
          go_ret
          exact ⟨by rw [HFIN.out]; rfl, rfl⟩
        · rw [he] at HF
          have hv1 : vecB p n L[k] = true := by rw [HVB.out, he, decide_eq_true hq]; rfl
          have HV2 := Lib.hid hv1
          clear hv1 he
          go_wp2_with (go_at_call 192; with_reducible refine HF.out.mono ?_; rintro e w' ⟨rfl, rfl⟩)
          go_round
          case rel => exact ⟨k + 1, by omega, by go_num, fun j h hj => by
            by_cases hjk : j = k
            · subst hjk; exact HV2.out
            · exact HO.out j h (by omega)⟩
          case measure => simp [intOf]; omega
      · have hb1 : ((rl : Int) != n) = true := by rw [bne_iff_ne]; exact hq
        have hfin := HBAD.out (by rw [HVB.out, decide_eq_false hq, Bool.false_and])
        have HFIN := Lib.hid hfin
        clear hfin hq
        go_wp2
        go_ret
        exact ⟨by rw [HFIN.out]; rfl, rfl⟩
    · have hfin : rowsB p n L = true := by
        unfold rowsB
        refine List.all_eq_true.2 fun x hx => ?_
        obtain ⟨j, hj, rfl⟩ := List.getElem_of_mem hx
        exact HO.out j hj (by have := HL.out; omega)
      have HFIN := Lib.hid hfin
      clear hfin
      go_wp2
      go_ret
      exact ⟨by rw [HFIN.out]; rfl, rfl⟩

end Go.Proofs.YtpeaeminjbjlnaaDoor

/-
  The specification's comparisons of lists: what is answered, and that nothing but draws happens. Conditions: lengths are small.
-/
namespace Go.Proofs.YtpeaeminjbjlnaaDoor
open Go.RowKit
set_option linter.unusedVariables false

/-- l1Same: nothing but draws. -/
theorem l1Same_q (v1 v2 : Value) (x y : List Int) (w : World) (h1 : IntsV w v1 x) (h2 : IntsV w v2 y) (l1 : x.length ≤ 1000000000) (l2 : y.length ≤ 1000000000) :
    Calls Tryd.prog 280 #[v1, v2] w fun e w' => e = .returned (.bool (x == y)) ∧ ∃ q, w' = w.drewN q := by
  obtain ⟨a1, c1, rfl, r1⟩ := h1
  obtain ⟨a2, c2, rfl, r2⟩ := h2
  have R1 := Lib.hid r1; have R2 := Lib.hid r2
  clear r1 r2
  by_cases hl : x.length = y.length
  · generalize hlx : x.length = l at *
    have HLX := Lib.hid hlx; have HLY := Lib.hid hl
    rw [← HLY.out]
    clear hlx hl
    go_enter Tryd.func280, Tryd.ntmps280
    go_wp2
    go_loopw [13] (fun i wr => ∃ k : Nat, k ≤ l ∧ i = .int .i64 k ∧ (∀ j (h : j < x.length) (h' : j < y.length), j < k → x[j] = y[j]) ∧ ∃ q, wr = w.drewN q) (fun i _ => l - (intOf i).toNat)
    case atStart => exact ⟨0, by omega, rfl, fun _ _ _ h => absurd h (by omega), 0, rfl⟩
    case round =>
      obtain ⟨k, hk, rfl, ho, q0, rfl⟩ := hrel
      have HO := Lib.hid ho
      clear ho
      by_cases hlt : k < l
      · have hkx : k < x.length := by rw [HLX.out]; exact hlt
        have hky : k < y.length := by rw [← HLY.out]; exact hlt
        obtain ⟨d1, ha1, hs1, hd1, hi1⟩ := R1.out (by intro h; rw [h] at hkx; simp at hkx)
        obtain ⟨d2, ha2, hs2, hd2, hi2⟩ := R2.out (by intro h; rw [h] at hky; simp at hky)
        subst ha1 ha2
        obtain ⟨b1, o1, _⟩ := d1
        obtain ⟨b2, o2, _⟩ := d2
        simp only at hs1 hs2 hd1 hd2
        subst hs1 hs2
        have hc1 := hi1 k hkx
        have hc2 := hi2 k hky
        generalize hzx : x[k] = zx at hc1
        generalize hzy : y[k] = zy at hc2
        have HZX := Lib.hid hzx; have HZY := Lib.hid hzy
        clear hzx hzy hi1 hi2 hd1 hd2
        by_cases he : zx = zy
        · subst he
          go_wp2
          go_quiet (fail)
          go_wp2
          go_roundw
          case rel => exact ⟨k + 1, by omega, by go_num, fun j h h' hj => by
            by_cases hjk : j = k
            · subst hjk; rw [HZX.out, HZY.out]
            · exact HO.out j h h' (by omega), ⟨_, rfl⟩⟩
          case measure => simp [intOf]; omega
        · have hb : (zx != zy) = true := by rw [bne_iff_ne]; exact he
          have hfin : (x == y) = false := by
            rw [beq_eq_false_iff_ne]
            intro h
            subst h
            exact he (HZX.out.symm.trans HZY.out)
          have HF := Lib.hid hfin
          clear hfin he
          go_wp2
          go_quiet (fail)
          go_wp2
          go_ret
          exact ⟨by rw [HF.out]; rfl, _, World.drewN_drewN _ _ _⟩
      · have hfin : (x == y) = true := by
          rw [beq_iff_eq]
          refine List.ext_getElem (by rw [HLX.out, HLY.out]) fun j h h' => HO.out j h h' (by have := HLX.out; omega)
        have HF := Lib.hid hfin
        clear hfin
        go_wp2
        go_ret
        exact ⟨by rw [HF.out]; rfl, _, rfl⟩
  · have hfin : (x == y) = false := by
      rw [beq_eq_false_iff_ne]
      intro h
      exact hl (by rw [h])
    have hb : ((x.length : Int) != y.length) = true := by rw [bne_iff_ne]; omega
    have HF := Lib.hid hfin
    clear hfin hl
    go_enter Tryd.func280, Tryd.ntmps280
    go_wp2
    go_ret
    exact ⟨by rw [HF.out]; rfl, 0, rfl⟩

theorem spSame_q (v1 v2 : Value) (X Y : List (List Int)) (w : World) (h1 : MatV w v1 X) (h2 : MatV w v2 Y) (l1 : X.length ≤ 1000000) (l2 : Y.length ≤ 1000000) (m1 : ∀ row ∈ X, row.length ≤ 1000000) (m2 : ∀ row ∈ Y, row.length ≤ 1000000) :
    Calls Tryd.prog 275 #[v1, v2] w fun e w' => e = .returned (.bool (X == Y)) ∧ ∃ q, w' = w.drewN q := by
  obtain ⟨a1, c1, rfl⟩ := h1.shape
  obtain ⟨a2, c2, rfl⟩ := h2.shape
  have R1 := Lib.hid h1; have R2 := Lib.hid h2; have M1 := Lib.hid m1; have M2 := Lib.hid m2
  clear h1 h2 m1 m2
  by_cases hl : X.length = Y.length
  · rw [← hl]
    generalize hlx : X.length = l at *
    have HLX := Lib.hid hlx; have HLY := Lib.hid hl
    clear hlx hl
    go_enter Tryd.func275, Tryd.ntmps275
    go_wp2
    go_loopw [13] (fun i wr => ∃ k : Nat, k ≤ l ∧ i = .int .i64 k ∧ (∀ j (h : j < X.length) (h' : j < Y.length), j < k → X[j] = Y[j]) ∧ ∃ q, wr = w.drewN q) (fun i _ => l - (intOf i).toNat)
    case atStart => exact ⟨0, by omega, rfl, fun _ _ _ h => absurd h (by omega), 0, rfl⟩
    case round =>
      obtain ⟨k, hk, rfl, ho, q0, rfl⟩ := hrel
      have HO := Lib.hid ho
      clear ho
      by_cases hlt : k < l
      · have hkx : k < X.length := by rw [HLX.out]; exact hlt
        have hky : k < Y.length := by rw [← HLY.out]; exact hlt
        obtain ⟨d1, r1, rc1, ha1, hs1, hd1, hc1, hr1⟩ := R1.out.row hkx
        obtain ⟨d2, r2, rc2, ha2, hs2, hd2, hc2, hr2⟩ := R2.out.row hky
        subst ha1 ha2
        obtain ⟨b1, o1, _⟩ := d1
        obtain ⟨b2, o2, _⟩ := d2
        simp only at hs1 hs2 hd1 hd2 hc1 hc2
        subst hs1 hs2
        have A := Lib.hid fun W (h : w.grownBy W none) => l1Same_q _ _ X[k] Y[k] W (hr1.carry h) (hr2.carry h) (by have := M1.out _ (List.getElem_mem hkx); omega) (by have := M2.out _ (List.getElem_mem hky); omega)
        clear hr1 hr2 hd1 hd2
        generalize X[k].length = n1 at *
        generalize Y[k].length = n2 at *
        cases he : (X[k] == Y[k])
        · rw [he] at A
          have hfin : (X == Y) = false := by
            rw [beq_eq_false_iff_ne]
            intro h
            subst h
            simp at he
          have HF := Lib.hid hfin
          clear hfin he
          go_wp2
          go_quiet ((go_at_call 280; exact quiet_more A.out))
          go_wp2
          go_ret
          exact ⟨by rw [HF.out]; rfl, _, World.drewN_drewN _ _ _⟩
        · rw [he] at A
          have HE := Lib.hid (eq_of_beq he)
          clear he
          go_wp2
          go_quiet ((go_at_call 280; exact quiet_more A.out))
          go_wp2
          go_roundw
          case rel => exact ⟨k + 1, by omega, by go_num, fun j h h' hj => by
            by_cases hjk : j = k
            · subst hjk; exact HE.out
            · exact HO.out j h h' (by omega), _, rfl⟩
          case measure => simp [intOf]; omega
      · have hfin : (X == Y) = true := by
          rw [beq_iff_eq]
          refine List.ext_getElem (by rw [HLX.out, HLY.out]) fun j h h' => HO.out j h h' (by have := HLX.out; omega)
        have HF := Lib.hid hfin
        clear hfin
        go_wp2
        go_ret
        exact ⟨by rw [HF.out]; rfl, _, rfl⟩
  · have hfin : (X == Y) = false := by
      rw [beq_eq_false_iff_ne]
      intro h
      exact hl (by rw [h])
    have hb : ((X.length : Int) != Y.length) = true := by rw [bne_iff_ne]; omega
    have HF := Lib.hid hfin
    clear hfin hl
    go_enter Tryd.func275, Tryd.ntmps275
    go_wp2
    go_ret
    exact ⟨by rw [HF.out]; rfl, 0, rfl⟩

end Go.Proofs.YtpeaeminjbjlnaaDoor

/-
  The specification's check of spaces. Conditions: the sizes are small.
-/
namespace Go.Proofs.YtpeaeminjbjlnaaDoor
open Go.RowKit
set_option linter.unusedVariables false

theorem grown_dr {w w' : World} (h : w.grownBy w' none) : w.grownBy w'.drew none := ⟨h.os, h.tape, h.output, h.size, h.block⟩
theorem q0 {f : FuncId} {args : Array Value} {W : World} {v : Value} (h : Calls Tryd.prog f args W fun e w' => e = .returned v ∧ W = w') : Calls Tryd.prog f args W fun e w' => e = .returned v ∧ ∃ m, w' = W.drewN m :=
  h.mono fun _ _ h => ⟨h.1, 0, h.2 ▸ rfl⟩
set_option maxRecDepth 100000 in
set_option maxHeartbeats 1000000 in
theorem spGood_any (p n : Int) (v : Value) (L : List (List Int)) (w : World) (hv : MatV w v L) (hl : L.length ≤ 1000000) (hll : ∀ row ∈ L, row.length ≤ 1000000) (hp0 : -1000 ≤ p) (hp1 : p ≤ 1000) :
    Calls Tryd.prog 176 #[.int .i64 p, mxV n v] w fun e w' => e = .returned (.bool (spaceB p n L)) ∧ w.grownBy w' none := by
  unfold mxV
  obtain ⟨a, c, rfl⟩ := hv.shape
  have hgr := grownBy_alloc w (.cells #[.int .i64 n, .slice a L.length c] 74) none
  have HK := Lib.hid fun w' (h : (w.alloc (.cells #[.int .i64 n, .slice a L.length c] 74)).grownBy w' none) => (⟨(bx (bx_on (alloc_heap_new w _) h)).1, (bx (bx_on (alloc_heap_new w _) h)).2.1⟩ : w'.cell? ⟨w.heap.size, 0, none⟩ = some (.int .i64 n) ∧ w'.cell? ⟨w.heap.size, 1, none⟩ = some (.slice a L.length c))
  have HRD := Lib.hid (grown_dr (grownBy_refl (w.alloc (.cells #[.int .i64 n, .slice a L.length c] 74)) none))
  have HGR := Lib.hid hgr
  have HA := Lib.hid fun w => fdGood_any p w hp0 hp1
  have HI := Lib.hid fun w => l1In_any n 0 24 w
  have HV := Lib.hid fun w' (h : (w.alloc (.cells #[.int .i64 n, .slice a L.length c] 74)).grownBy w' none) => hv.carry (hgr.trans h)
  have HS := Lib.hid fun w' (h : (w.alloc (.cells #[.int .i64 n, .slice a L.length c] 74)).grownBy w' none) => spRows_any p n _ L w' (hv.carry (hgr.trans h)) hl hll hp0 hp1
  have HLL := Lib.hid hll
  clear hv hll hgr
  cases h1 : fldB p
  · have HF := Lib.hid (show spaceB p n L = false by unfold spaceB; rw [h1]; rfl)
    rw [h1] at HA
    clear h1
    generalize L.length = l at *
    go_enter Tryd.func176, Tryd.ntmps176
    go_wp2_with fail
    go_quiet ((first | (go_at_call 206; exact Calls.quiet_of (q0 (HA.out _)))))
    go_wp2
    go_ret
    exact ⟨by rw [HF.out]; rfl, HGR.out.trans (grown_drewN _ _)⟩
  · cases h2 : decide (0 ≤ n ∧ n ≤ 24)
    · have HF := Lib.hid (show spaceB p n L = false by unfold spaceB; rw [h1, h2]; rfl)
      rw [h1] at HA
      rw [h2] at HI
      clear h1 h2
      generalize L.length = l at *
      go_enter Tryd.func176, Tryd.ntmps176
      go_wp2_with fail
      go_quiet ((first | (go_at_call 206; exact Calls.quiet_of (q0 (HA.out _))) | (go_at_call 137; exact Calls.quiet_of (q0 (HI.out _)))))
      go_wp2
      go_ret
      exact ⟨by rw [HF.out]; rfl, HGR.out.trans (grown_drewN _ _)⟩
    · by_cases h3 : (L.length : Int) ≤ n
      · have hd3 : decide ((L.length : Int) ≤ n) = true := decide_eq_true h3
        cases h4 : rowsB p n L
        · have HF := Lib.hid (show spaceB p n L = false by unfold spaceB redB; rw [h1, h2, h4]; simp)
          rw [h1] at HA
          rw [h2] at HI
          rw [h4] at HS
          clear h1 h2 h4
          generalize L.length = l at *
          go_enter Tryd.func176, Tryd.ntmps176
          go_wp2_with fail
          go_quiet ((first | (go_at_call 206; exact Calls.quiet_of (q0 (HA.out _))) | (go_at_call 137; exact Calls.quiet_of (q0 (HI.out _))) | (go_at_call 207; exact Calls.quiet_of (q0 (HS.out _ (grown_drewN _ _))))))
          go_wp2
          go_ret
          exact ⟨by rw [HF.out]; rfl, HGR.out.trans (grown_drewN _ _)⟩
        · obtain ⟨b1, b2⟩ := fldB_bd h1
          have b3 := of_decide_eq_true h2
          obtain ⟨q, rfl⟩ := Int.eq_ofNat_of_zero_le (show 0 ≤ p by omega)
          obtain ⟨m, rfl⟩ := Int.eq_ofNat_of_zero_le (show 0 ≤ n by omega)
          haveI : NeZero q := ⟨by omega⟩
          have hok := rowsB_ok.1 h4
          have HF := Lib.hid (show spaceB q m L = (reducedL q m L == L) by unfold spaceB redB; rw [h1, h2, h4, hd3, Int.toNat_natCast]; simp)
          rw [h1] at HA
          rw [h2] at HI
          rw [h4] at HS
          rw [fldB_nat] at h1
          have hrk := rank_le h1 hok
          have hrl := reducedL_len h1 hok
          have hro := (reducedL_red h1 hok).1
          have HR := Lib.hid fun w' (h : (w.alloc (.cells #[.int .i64 m, .slice a L.length c] 74)).grownBy w' none) => spReduce_any q m _ L w' h1 (by omega) (HV.out w' h) hok (by omega) (by omega)
          have HSS := Lib.hid fun w' u (h : (w.alloc (.cells #[.int .i64 m, .slice a L.length c] 74)).grownBy w' none) (hu : MatV w' u (reducedL q m L)) => spSame_q u _ (reducedL q m L) L w' hu (HV.out w' h) (by omega) (by omega) (fun row hrow => by rw [(hro row hrow).1]; omega) HLL.out
          clear h1 h2 h4 hok hro hrk hrl
          generalize reducedL q m L = red at *
          generalize (red == L) = bb at *
          generalize L.length = l at *
          generalize red.length = rl at *
          go_enter Tryd.func176, Tryd.ntmps176
          go_wp2_with fail
          go_region_held3 (fun w' => w'.cell? ⟨w.heap.size, 0, none⟩ = some (.int .i64 m) ∧ w'.cell? ⟨w.heap.size, 1, none⟩ = some (.slice a l c)) (first | with_reducible exact HK.out _ HRD.out | with_reducible exact HK.out _ HQ.out | go_keep)
            (first
              | (go_at_call 206; with_reducible refine (HA.out _).mono ?_; rintro e w' ⟨rfl, rfl⟩)
              | (go_at_call 137; with_reducible refine (HI.out _).mono ?_; rintro e w' ⟨rfl, rfl⟩)
              | (go_at_call 207; with_reducible refine (HS.out _ HRD.out).mono ?_; rintro e w' ⟨rfl, rfl⟩)
              | (go_at_call 168
                 with_reducible refine (HR.out _ HRD.out).mono ?_
                 rintro e w2 ⟨ra, rc, rfl, hp, hg⟩
                 have HM := Lib.hid hp.read; have HQ := Lib.hid (HRD.out.trans hg)
                 clear hp hg)
              | (go_at_call 275
                 with_reducible refine (HSS.out _ _ HQ.out HM.out).mono ?_
                 rintro e w3 ⟨rfl, q3, rfl⟩))
          go_wp2
          go_ret
          exact ⟨by rw [HF.out]; rfl, (HGR.out.trans HQ.out).trans (grown_drewN _ _)⟩
      · have hd3 : decide ((L.length : Int) ≤ n) = false := decide_eq_false h3
        have HF := Lib.hid (show spaceB p n L = false by unfold spaceB redB; rw [h1, h2, hd3]; rfl)
        rw [h1] at HA
        rw [h2] at HI
        clear h1 h2 h3
        generalize L.length = l at *
        go_enter Tryd.func176, Tryd.ntmps176
        go_wp2_with fail
        go_quiet ((first | (go_at_call 206; exact Calls.quiet_of (q0 (HA.out _))) | (go_at_call 137; exact Calls.quiet_of (q0 (HI.out _)))))
        go_wp2
        go_ret
        exact ⟨by rw [HF.out]; rfl, HGR.out.trans (grown_drewN _ _)⟩
end Go.Proofs.YtpeaeminjbjlnaaDoor

/-
  The specification's coordinates and sums of vectors. Conditions: the sizes are small.
-/
namespace Go.Proofs.YtpeaeminjbjlnaaDoor
open Go.RowKit
set_option linter.unusedVariables false

set_option maxRecDepth 100000 in
theorem spCoords_any (n : Nat) (u v : Value) (m : List (List Int)) (x : List Int) (w : World) (hu : MatV w u m) (hv : IntsV w v x) (hm : m.length ≤ 1000) (hn : n ≤ 1000) (hx : x.length = n) (hrow : ∀ row ∈ m, row.length = n) (hld : ∀ i, i < m.length → leadL (m.getD i []) < n) :
    Calls Tryd.prog 201 #[u, v] w fun e w' => ∃ o, e = .returned o ∧ OwnInts w.heap.size w' o (coordsL m x) ∧ w.grownBy w' none := by
  have HU := Lib.hid hu; have HV := Lib.hid hv; have HROW := Lib.hid hrow; have HLD := Lib.hid hld
  obtain ⟨ua, uc, rfl⟩ := hu.shape
  obtain ⟨va, vc, rfl, hvx⟩ := hv
  have HCLN := Lib.hid (show (coordsL m x).length = m.length by simp [coordsL])
  rw [hx] at HV
  have HX := Lib.hid hx
  rw [hx]
  clear hu hrow hld hvx hx
  generalize hml : m.length = l at *
  have HML := Lib.hid hml
  clear hml
  go_enter Tryd.func201, Tryd.ntmps201
  go_wp2
  go_loopw [5, 10] (fun out i wr => ∃ k : Nat, k ≤ l ∧ i = .int .i64 k ∧ Sep wr [OI out ((coordsL m x).take k), KeepA w]) (fun _ i _ => l - (intOf i).toNat)
  case atStart => exact ⟨0, by omega, rfl, (Sep.start w).nilI⟩
  case round =>
    obtain ⟨k, hk, rfl, hs⟩ := hrel
    have HS := Lib.hid hs
    clear hs
    by_cases hlt : k < l
    · have hkl : k < m.length := by rw [HML.out]; exact hlt
      obtain ⟨b, o, cap, ml, r, rc, he, hcell, hrow0⟩ := HU.out.rowK HS.out.s2.hd hkl
      cases he
      have hrl := HROW.out _ (getD_mem hkl)
      have hll := HLD.out k hlt
      have HSN := Lib.hid (take_snocD 0 (show k < (coordsL m x).length by rw [HCLN.out]; exact hlt))
      have HAT := Lib.hid (coordsL_at (v := x) hkl)
      rw [hrl] at hcell hrow0
      have hrow := hrow0.carry HS.out.s2.hd
      have HLD2 := Lib.hid (spLead_any _ _ wr hrow (by rw [hrl]; omega))
      have hvw := HV.out.carry HS.out.s2.hd
      have A5 := Lib.hid (show ((coordsL m x).take k).length ≤ 1000000000 by rw [List.length_take]; omega)
      clear hrl hrow0 hrow hkl
      generalize hld : leadL (m.getD k []) = ld at *
      obtain ⟨d, rfl, hs2, hd2, hc2⟩ := hvw.at (show ld < x.length by rw [HX.out]; exact hll)
      obtain ⟨db, dof, _⟩ := d
      simp only at hs2 hc2
      subst hs2
      rw [← getD_lt (by rw [HX.out]; exact hll)] at hc2
      generalize hz : x.getD ld 0 = z at *
      have l0 : ((ld : Nat) : Int) < (n : Int) := by omega
      clear hld hvw hd2
      go_wp2_with (first
        | (go_at_call 276
           with_reducible refine HLD2.out.mono ?_
           rintro e w' ⟨rfl, rfl⟩)
        | (at_builtin
           refine app_intS rfl _ _ rfl rfl rfl HS.out A5.out ?_
           intro g2 cap2 w2 hs2
           have HS2 := Lib.hid hs2
           clear hs2))
      go_roundw
      case rel => exact ⟨k + 1, by omega, by go_num, by have h := HS2.out; rw [List.length_take] at h; rw [HSN.out, HAT.out]; exact h⟩
      case measure => simp [intOf]; omega
    · have ht : (coordsL m x).take k = coordsL m x := List.take_of_length_le (by rw [HCLN.out]; omega)
      have HTK := Lib.hid ht
      clear ht
      go_wp2
      go_ret
      exact ⟨_, rfl, by have := HS.out; rw [HTK.out] at this; exact this.ints, HS.out.s2.hd⟩

set_option maxRecDepth 100000 in
set_option maxHeartbeats 1000000 in
theorem spSum_any (p : Nat) [NeZero p] (n : Nat) (u v : Value) (L : List (List Int)) (x : List Int) (w : World) (hp1 : 1 < p) (hp2 : p ≤ 1000) (hu : MatV w u L) (hv : IntsV w v x) (hL : RowsOk p n L) (hx : x.length = L.length) (hxb : ∀ z ∈ x, 0 ≤ z ∧ z < p) (hm : L.length ≤ 1000) (hn : n ≤ 1000) :
    Calls Tryd.prog 271 #[.int .i64 p, .int .i64 n, u, v] w fun e w' => ∃ o, e = .returned o ∧ OwnInts w.heap.size w' o (combTo p x L n L.length) ∧ w.grownBy w' none := by
  obtain ⟨i0, hi, hz0, hz1, hz2⟩ := info_parts info_int
  have HI := Lib.hid hi; have HZ0 := Lib.hid hz0; have HZ1 := Lib.hid hz1; have HZ2 := Lib.hid hz2
  have HU := Lib.hid hu; have HV := Lib.hid hv; have HL := Lib.hid hL; have HXB := Lib.hid hxb
  have HCO := Lib.hid fun k (hk : k ≤ L.length) => combTo_ok (x := x) hp1 hL k hk
  obtain ⟨ua, uc, rfl⟩ := hu.shape
  obtain ⟨va, vc, rfl, hvx⟩ := hv
  have HX := Lib.hid hx
  rw [hx] at HV ⊢
  clear hu hL hxb hvx hx hi hz0 hz1 hz2
  generalize hml : L.length = l at *
  have HML := Lib.hid hml
  clear hml
  go_enter Tryd.func271, Tryd.ntmps271
  go_wp2_with (at_make; refine wpList_make_full _ rfl _ _ 24 rfl w.heap.size 3 i0 (.int .i64 0) 1 Tryd.underlying24 HI.out HZ0.out HZ1.out _ _ _ _ n rfl rfl rfl rfl (by rw [HZ2.out]; omega) (by unfold maxLen; omega) (Nat.le_refl _) ?_; intro w1 hown' hgr'
               have H1 := Lib.hid hown'; have H2 := Lib.hid hgr'
               clear hown' hgr')
  have ho := H1.out
  rw [madeCells_int] at ho
  have ho' : OwnInts w.heap.size w1 (.slice (some ⟨w.heap.size, 0, none⟩) n n) (List.replicate n 0) := by
    unfold OwnInts; rw [List.length_replicate]; exact ho
  have HS := Lib.hid ((Sep.start w).newI H2.out ho')
  clear ho ho' H1 H2 HI HZ0 HZ1 HZ2
  generalize w.heap.size = g at *
  go_loopw [18] (fun i wr => ∃ k : Nat, k ≤ l ∧ i = .int .i64 k ∧ Sep wr [OI (.slice (some ⟨g, 0, none⟩) n n) (combTo p x L n k), KeepA w]) (fun i _ => l - (intOf i).toNat)
  case atStart => exact ⟨0, by omega, rfl, HS.out⟩
  case round =>
    obtain ⟨k, hk, rfl, hs⟩ := hrel
    have HS := Lib.hid hs
    clear hs
    by_cases hlt : k < l
    · have hkl : k < L.length := by rw [HML.out]; exact hlt
      obtain ⟨b, o, cap, ml, r, rc, he, hcell, hrow0⟩ := HU.out.rowK HS.out.s2.hd hkl
      cases he
      have hro := HL.out _ (getD_mem hkl)
      rw [hro.1] at hcell hrow0
      have HROW := Lib.hid hrow0; have HRO := Lib.hid hro
      have hco := HCO.out k hk
      have HCK := Lib.hid hco
      have hnx : combTo p x L n (k + 1) = addT p (combTo p x L n k) (x.getD k 0) (L.getD k []) := rfl
      have HNX := Lib.hid hnx
      have hxk := HXB.out _ (List.getElem_mem (show k < x.length by rw [HX.out]; exact hlt))
      rw [← getD_lt (by rw [HX.out]; exact hlt)] at hxk
      clear hrow0 hro hco hnx hkl
      generalize combTo p x L n k = cb at *
      generalize L.getD k [] = row at *
      go_wp2_with fail
      obtain ⟨w2, hw2⟩ : ∃ w2, w2 = wr := ⟨_, rfl⟩
      subst hw2
      clear hcell
      go_loopw [25] (fun i wx => ∃ (q : Nat) (zs : List Int), q ≤ n ∧ i = .int .i64 q ∧ zs.length = n ∧ (∀ t, t < q → zs.getD t 0 = (cb.getD t 0 + x.getD k 0 * row.getD t 0) % p) ∧ (∀ t, q ≤ t → zs.getD t 0 = cb.getD t 0) ∧ Sep wx [OI (.slice (some ⟨g, 0, none⟩) n n) zs, KeepA w]) (fun i _ => n - (intOf i).toNat)
      case atStart => exact ⟨0, cb, by omega, rfl, HCK.out.1, fun _ h => absurd h (by omega), fun _ _ => rfl, HS.out⟩
      case round =>
        obtain ⟨q, zs, hq, rfl, hz1, hz2, hz3, hsx⟩ := hrel
        have HZL := Lib.hid hz1; have HZ2 := Lib.hid hz2; have HZ3 := Lib.hid hz3; have HSX := Lib.hid hsx
        clear hz1 hz2 hz3 hsx
        by_cases hqn : q < n
        · obtain ⟨d, rfl, hs1, hd1, hc1⟩ := (HROW.out.carry HSX.out.s2.hd).at (show q < row.length by rw [HRO.out.1]; exact hqn)
          obtain ⟨d2, rfl, hs2, hd2, hc2⟩ := (HV.out.carry HSX.out.s2.hd).at (show k < x.length by rw [HX.out]; exact hlt)
          obtain ⟨db, dof, _⟩ := d
          obtain ⟨db2, dof2, _⟩ := d2
          simp only at hs1 hc1 hs2 hc2
          subst hs1 hs2
          have hc3 := HSX.out.hd.cell HZL.out.symm (show q < zs.length by rw [HZL.out]; exact hqn)
          have hf3 := HSX.out.hd.free HZL.out.symm q
          have HP := Lib.hid fun y => HSX.out.setI HZL.out.symm q y
          rw [← getD_lt (by rw [HX.out]; exact hlt)] at hc2
          have hbx := HRO.out.2 _ (List.getElem_mem (show q < row.length by rw [HRO.out.1]; exact hqn))
          rw [← getD_lt (by rw [HRO.out.1]; exact hqn)] at hbx hc1
          rw [← getD_lt (by rw [HZL.out]; exact hqn), HZ3.out q (Nat.le_refl _)] at hc3
          have hbc := HCK.out.2 _ (List.getElem_mem (show q < cb.length by rw [HCK.out.1]; exact hqn))
          rw [← getD_lt (by rw [HCK.out.1]; exact hqn)] at hbc
          generalize hxk' : x.getD k 0 = xk at *
          generalize hrq : row.getD q 0 = rq at *
          generalize hcq : cb.getD q 0 = cq at *
          have HXK := Lib.hid hxk'; have HRQ := Lib.hid hrq; have HCQ := Lib.hid hcq
          have b3 := mul_bd2 (a := xk) (b := rq) (A := 1000) (B := 1000) ⟨by omega, by omega⟩ (show 0 ≤ rq ∧ rq ≤ 1000 by omega) (by omega) (by omega)
          have b4 := Int.mul_nonneg hxk.1 hbx.1
          have q0 : (0 : Int) ≤ (q : Int) := by omega
          have q1 : (q : Int) < (n : Int) := by omega
          have q2 : (0 : Int) ≤ (k : Int) := by omega
          have q3 : (k : Int) < (l : Int) := by omega
          have q4 : (0 : Int) < (p : Int) := by omega
          clear hxk' hrq hcq hd1 hd2
          go_wp2_with fail
          go_region
          all_goals
            go_wp2
            go_roundw
            case rel =>
              refine ⟨q + 1, zs.set q ((cq + xk * rq) % p), by omega, by go_num, by rw [List.length_set]; exact HZL.out, fun t ht => ?_, fun t ht => ?_, (HP.out _).dr⟩
              · by_cases htq : q = t
                · subst htq
                  rw [getD_set_self (by rw [HZL.out]; exact hqn), HRQ.out, HCQ.out]
                · rw [getD_set_ne htq]
                  exact HZ2.out t (by omega)
              · rw [getD_set_ne (by omega)]
                exact HZ3.out t (by omega)
            case measure => simp [intOf]; omega
        · have hzs : zs = addT p cb (x.getD k 0) row := by
            refine list_ext_getD (by rw [HZL.out]; have h1 := HCK.out.1; have h2 := HRO.out.1; simp only [addT, List.length_zipWith]; omega) fun t ht => ?_
            have ht' : t < n := by have := HZL.out; omega
            rw [addT_getD (by rw [HCK.out.1, HRO.out.1]) (by rw [HCK.out.1]; exact ht')]
            exact HZ2.out t (by omega)
          have HZS := Lib.hid hzs
          clear hzs
          go_wp2
          go_roundw
          case rel => exact ⟨k + 1, by omega, by go_num, by rw [HNX.out, ← HZS.out]; exact HSX.out⟩
          case measure => simp [intOf]; omega
    · have hkl : k = l := by omega
      subst hkl
      go_wp2
      go_ret
      exact ⟨_, rfl, HS.out.ints, HS.out.s2.hd⟩
end Go.Proofs.YtpeaeminjbjlnaaDoor

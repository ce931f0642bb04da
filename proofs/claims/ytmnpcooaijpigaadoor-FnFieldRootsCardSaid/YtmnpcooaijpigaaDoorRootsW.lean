/-
  The law on square roots, primitive roots and quadratic roots: its walk. Conditions: both arguments read as bytes; the table of small primes holds what its text lays.
-/
import Derived.Test.YtmnpcooaijpigaaDoorFld5
import Derived.Test.YtmnpcooaijpigaaDoorFieldsW
namespace Go.Proofs.YtmnpcooaijpigaaDoor
open Go.RowKit
set_option linter.unusedVariables false

theorem iOrder_prim (n : Nat) (w : World) (ht : Tab w) (hf : fldB n = true) : Calls Tryd.prog 12 #[.int .i64 n, .int .i64 (primN n)] w (Gives (.tuple #[.int .i64 ((n : Int) - 1), .bool true]) w) := by
  have hn : fldN n = true := by rw [← fldB_nat]; exact hf
  have P := prim_facts hn
  have h1 := P.lo
  have h2 := P.hi
  have := iElementOrder_ok n (primN n) w ht (by rw [okE_1, hf, Bool.true_and, elB_iff]; omega) (by rw [beq_eq_false_iff_ne]; omega)
  rw [P.ord, show ((n - 1 : Nat) : Int) = (n : Int) - 1 from by omega] at this
  exact this
theorem iQuad_el (n c : Nat) (w : World) (ht : Tab w) (hf : fldB n = true) (hc : c < n) : Calls Tryd.prog 22 #[.int .i64 n, .int .i64 1, .int .i64 0, .int .i64 c] w (GivesRoots (rootsTo n 1 0 c n) w) := by
  have hb := fldB_bd hf
  exact iQuad_ok n 1 0 c w ht (by
    rw [okE_3, okE_2, hf]
    simp only [Bool.true_and, Bool.and_eq_true, elB_iff]
    omega)
theorem iQuad_sq (n a : Nat) (w : World) (ht : Tab w) (hk : okE n [(a : Int)] = true) : Calls Tryd.prog 22 #[.int .i64 n, .int .i64 1, .int .i64 0, .int .i64 (-((a : Int) % n) % n)] w (GivesRoots (rootsTo n 1 0 ((n - a) % n) n) w) := by
  obtain ⟨hn, ha⟩ := okE_fldN1 hk
  have h2 := (of_decide_eq_true hn).1
  have e : (-((a : Int) % n) % n) = (((n - a) % n : Nat) : Int) := by
    rw [← Int.add_emod_left, ← Int.sub_eq_add_neg, Int.emod_eq_of_lt (show (0 : Int) ≤ a by omega) (by omega), show (n : Int) - a = ((n - a : Nat) : Int) from by omega]
    exact_mod_cast rfl
  rw [e]
  exact iQuad_el n _ w ht (by rw [fldB_nat]; exact hn) (Nat.mod_lt _ (by omega))
theorem iQuad_gen (n : Nat) (c : Int) (w : World) (ht : Tab w) (hf : fldB n = true) (h0 : 0 ≤ c) (h1 : c < n) : Calls Tryd.prog 22 #[.int .i64 n, .int .i64 1, .int .i64 0, .int .i64 c] w (GivesRoots (rootsTo n 1 0 c.toNat n) w) := by
  obtain ⟨m, rfl⟩ := Int.eq_ofNat_of_zero_le h0
  exact iQuad_el n m w ht hf (by omega)
theorem rootsV_len {w : World} {v : Value} {n a : Nat} (h : IntsV w v (rootsTo n 1 0 ((n - a) % n) n)) (h2 : 2 ≤ n) (ha : a < n) : ∃ s l c, v = .slice s l c ∧ l ≤ n ∧ (l = 0 ↔ sqrtN n a = none) := by
  obtain ⟨s, c, rfl, _⟩ := h
  exact ⟨s, _, c, rfl, rootsTo_len _ _ _ _ _, by rw [← sqrt_iff h2 ha, List.length_eq_zero_iff]⟩
theorem rootsV_any {w : World} {v : Value} {zs : List Int} (h : IntsV w v zs) : ∃ s l c, v = .slice s l c ∧ l = zs.length := by
  obtain ⟨s, c, rfl, _⟩ := h
  exact ⟨s, _, c, rfl, rfl⟩

set_option maxRecDepth 100000 in
set_option maxHeartbeats 1000000 in
theorem fnFieldRoots_any (cv mv : Value) (w : World) (hc : CodeRaw w cv) (hm : CodeRaw w mv) (ht : Tab w) : Calls Tryd.prog 4 #[cv, mv] w (Gives (.bool true) w) := by
  have HT := Lib.hid ht
  obtain ⟨a1, l1, c1, rfl, hl1, hx1⟩ := hc
  obtain ⟨a2, l2, c2, rfl, hl2, hx2⟩ := hm
  have HX1 := Lib.hid hx1; have HX2 := Lib.hid hx2
  clear ht hx1 hx2
  cases hbig : bigB l1 l2
  case true =>
    go_enter Tryd.func4, Tryd.ntmps4
    go_wp2_with (go_at_call 6; refine (big_any _ _ _ _ _ _ _ hl1 hl2).mono ?_; rintro e w' ⟨rfl, rfl⟩)
    go_ret
    exact ⟨rfl, grownBy_refl _ _⟩
  case false =>
    obtain ⟨b1, b2⟩ := bigB_no hbig
    have HC := Lib.hid (show CodeAt w (.slice a1 l1 c1) from ⟨a1, l1, c1, rfl, by omega, HX1.out⟩)
    have HM := Lib.hid (show CodeAt w (.slice a2 l2 c2) from ⟨a2, l2, c2, rfl, by omega, HX2.out⟩)
    clear b1 b2
    go_enter Tryd.func4, Tryd.ntmps4
    go_wp2_with fail
    refine (big_any _ _ _ _ _ _ _ hl1 hl2).mono ?_
    rintro e w' ⟨rfl, rfl⟩
    go_wp2_with fail
    refine (drawSquareRoot_any _ _ HC.out).mono ?_
    rintro e wc ⟨p, a, rfl, hp, ha, hg⟩
    have hpb := anyP_bd hp
    have HG := Lib.hid hg
    clear hp hg
    cases hk : okE p [a]
    case true =>
      obtain ⟨p0, p1, a0, a1'⟩ := okE_bd1 hk
      obtain ⟨np, rfl⟩ := Int.eq_ofNat_of_zero_le (show 0 ≤ p by omega)
      obtain ⟨na, rfl⟩ := Int.eq_ofNat_of_zero_le a0
      have hfl : fldB np = true := by rw [okE_1, Bool.and_eq_true] at hk; exact hk.1
      have g0 := Int.emod_nonneg (na : Int) (show (np : Int) ≠ 0 by omega)
      have g1 := Int.emod_lt_of_pos (na : Int) (show 0 < (np : Int) by omega)
      cases hs : sqrtN np na
      case none =>
        go_wp2_with fail
        (with_reducible refine (iSqrt_is _ _ (none) _ (HT.out.grown HG.out) hk hs).mono ?_)
        rintro e wd ⟨rfl, hg⟩
        have HG2 := Lib.hid (grownBy_trans HG.out hg); clear hg HG
        have HG := HG2; clear HG2
        go_wp2_with fail
        (with_reducible refine (sSqrt_is _ _ (none) _ hk hs).mono ?_)
        rintro e w' ⟨rfl, rfl⟩
        go_wp2_with fail
        (with_reducible refine (iPrim_ok _ _ (HT.out.grown HG.out) hfl).mono ?_)
        rintro e w' ⟨rfl, rfl⟩
        go_wp2_with fail
        (with_reducible refine (sPrim_ok _ _ hfl).mono ?_)
        rintro e w' ⟨rfl, rfl⟩
        go_wp2_with fail
        (with_reducible refine (iOrder_prim _ _ (HT.out.grown HG.out) hfl).mono ?_)
        rintro e wd ⟨rfl, hg⟩
        have HG2 := Lib.hid (grownBy_trans HG.out hg); clear hg HG
        have HG := HG2; clear HG2
        go_wp2_with fail
        (with_reducible refine (iQuad_sq _ _ _ (HT.out.grown HG.out) hk).mono ?_)
        rintro e wd ⟨v0, rfl, hi, hg⟩
        have I0 := Lib.hid hi; have HG2 := Lib.hid (grownBy_trans HG.out hg); have HGG := Lib.hid hg; clear hi hg HG
        have HG := HG2; clear HG2
        obtain ⟨sl, ll, lc, rfl, hll, hlz⟩ := rootsV_len I0.out (by omega) (by omega)
        have hl0 : ll = 0 := hlz.2 hs
        subst hl0
        clear hlz hll HGG I0
        go_wp2_with fail
        refine (drawQuadraticRoots_any _ _ (HM.out.carry HG.out)).mono ?_
        rintro e wd ⟨q, x, y, z, rfl, hq, hx, hy, hz, hg⟩
        have hqb := anyP_bd hq
        have HG2 := Lib.hid (grownBy_trans HG.out hg); clear hq hg HG
        have HG := HG2; clear HG2
        cases hk2 : okE q [x, y, z]
        case false =>
          go_wp2_with fail
          (with_reducible refine (iQuad_no _ _ _ _ _ (HT.out.grown HG.out) hk2).mono ?_)
          rintro e wd ⟨rfl, hg⟩
          have HG2 := Lib.hid (grownBy_trans HG.out hg); clear hg HG
          have HG := HG2; clear HG2
          go_wp2_with fail
          (with_reducible refine (sQuad_no _ _ _ _ _ (by omega) (by omega) hk2).mono ?_)
          rintro e w' ⟨rfl, rfl⟩
          go_wp2_with fail
          refine (sameInts_any _ _ [] [] _ (IntsV.nil _) (IntsV.nil _) (by simp) (by simp)).mono ?_
          rintro e wd ⟨rfl, hg⟩
          have HG2 := Lib.hid (grownBy_trans HG.out hg); clear hg HG
          have HG := HG2; clear HG2
          go_wp2
          go_loop [168] (fun i => i = .int .i64 0) (fun _ => 0)
          case atStart => exact rfl
          case round =>
            obtain rfl := hrel
            go_wp2
            go_ret
            exact ⟨rfl, HG.out⟩
        case true =>
          obtain ⟨q0, q1, x0, x1, y0, y1, z0, z1⟩ := okE_bd3 hk2
          obtain ⟨nq, rfl⟩ := Int.eq_ofNat_of_zero_le (show 0 ≤ q by omega)
          obtain ⟨nx, rfl⟩ := Int.eq_ofNat_of_zero_le x0
          obtain ⟨ny, rfl⟩ := Int.eq_ofNat_of_zero_le y0
          obtain ⟨nz, rfl⟩ := Int.eq_ofNat_of_zero_le z0
          have hqf : fldN nq = true := by rw [← fldB_nat]; rw [okE_3, okE_2, Bool.and_eq_true, Bool.and_eq_true] at hk2; exact hk2.1.1
          have HFEW := Lib.hid (fun h => roots_few (n := nq) (a := nx) (b := ny) (c := nz) hqf (by omega) (by omega) (by omega) h)
          have hlen := rootsTo_len nq nx ny nz nq
          have HMEM := Lib.hid (fun v (h : v ∈ rootsTo nq nx ny nz nq) => rootsTo_mem h)
          clear hqf
          go_wp2_with fail
          (with_reducible refine (iQuad_ok _ _ _ _ _ (HT.out.grown HG.out) hk2).mono ?_)
          rintro e wd ⟨v1, rfl, hi, hg⟩
          have I1 := Lib.hid hi; have HG2 := Lib.hid (grownBy_trans HG.out hg); have HGG := Lib.hid hg; clear hi hg HG
          have HG := HG2; clear HG2
          have I1b := Lib.hid I1.out; clear I1
          go_wp2_with fail
          (with_reducible refine (sQuad_ok _ _ _ _ _ hk2).mono ?_)
          rintro e wd ⟨v2, rfl, hi, hg⟩
          have I2 := Lib.hid hi; have HG2 := Lib.hid (grownBy_trans HG.out hg); have HGG := Lib.hid hg; clear hi hg HG
          have HG := HG2; clear HG2
          have I1 := Lib.hid (I1b.out.carry HGG.out); clear I1b HGG
          generalize hrt : rootsTo nq nx ny nz nq = zs at *
          clear hrt
          go_wp2_with fail
          refine (sameInts_any _ _ zs zs _ I1.out I2.out (by omega) (by omega)).mono ?_
          rintro e wd ⟨rfl, hg⟩
          have J1 := Lib.hid (I1.out.carry hg)
          have HG2 := Lib.hid (grownBy_trans HG.out hg); clear hg HG I1 I2
          have HG := HG2; clear HG2
          have hzz : (zs == zs) = true := by simp
          obtain ⟨sa, sc, rfl, hr⟩ := J1.out
          have HR := Lib.hid hr; clear hr J1
          generalize hlz : zs.length = l at *
          have HLZ := Lib.hid hlz
          clear hlz
          go_wp2
          go_loop [168] (fun i => ∃ k : Nat, k ≤ l ∧ i = .int .i64 k) (fun i => l - (intOf i).toNat)
          case atStart => exact ⟨0, by omega, rfl⟩
          case round =>
            obtain ⟨k, hk', rfl⟩ := hrel
            by_cases hlt : k < l
            · have hkz : k < zs.length := by rw [HLZ.out]; exact hlt
              obtain ⟨d, rfl, hs, hd, hi⟩ := HR.out (by intro h; rw [h] at hkz; simp at hkz)
              obtain ⟨db, dof, _⟩ := d
              simp only at hs hd
              subst hs
              have hcell := hi k hkz
              simp only at hcell
              obtain ⟨xr, hxr, hxn, hroot⟩ := HMEM.out zs[k] (List.getElem_mem _)
              rw [hxr] at hcell
              obtain ⟨s0, s1⟩ := mul_bd (x := (nx : Int)) (y := xr) (X := 100) (Y := 100) (by omega) (by omega) (by omega) (by omega)
              obtain ⟨s2, s3⟩ := mul_bd (x := (nx : Int) * xr) (y := xr) (X := 10000) (Y := 100) (by omega) (by omega) (by omega) (by omega)
              obtain ⟨s4, s5⟩ := mul_bd (x := (ny : Int)) (y := xr) (X := 100) (Y := 100) (by omega) (by omega) (by omega) (by omega)
              have hv := quad_nat2 nx ny nz xr nq
              rw [hroot] at hv
              have hv2 : (((nx : Int) * xr * xr + (ny : Int) * xr + nz) % nq != 0) = false := by rw [bne, hv]; rfl
              clear hxr hroot hi hv hd
              go_wp2
              go_round
              case rel => exact ⟨k + 1, by omega, by go_num⟩
              case measure => simp [intOf]; omega
            · have hkl : k = l := by omega
              subst hkl
              clear hlt hk'
              by_cases hl2 : k ≤ 2
              · have hb : decide ((k : Int) ≤ 2) = true := by simp; omega
                go_wp2
                go_ret
                exact ⟨rfl, HG.out⟩
              · have hb : decide ((k : Int) ≤ 2) = false := by simp; omega
                obtain ⟨rfl, rfl, rfl⟩ := HFEW.out (by have := HLZ.out; omega)
                go_wp2
                go_ret
                exact ⟨rfl, HG.out⟩
      case some j =>
        obtain ⟨hj1, hj2⟩ := sqrt_some hs
        obtain ⟨m0, m1⟩ := mul_bd (x := (j : Int)) (y := j) (X := 100) (Y := 100) (by omega) (by omega) (by omega) (by omega)
        have hjb : ((j : Int) * j % np != na) = false := by rw [bne_eq_false_iff_eq]; exact_mod_cast hj1
        clear hj1
        go_wp2_with fail
        (with_reducible refine (iSqrt_is _ _ (some j) _ (HT.out.grown HG.out) hk hs).mono ?_)
        rintro e wd ⟨rfl, hg⟩
        have HG2 := Lib.hid (grownBy_trans HG.out hg); clear hg HG
        have HG := HG2; clear HG2
        go_wp2_with fail
        (with_reducible refine (sSqrt_is _ _ (some j) _ hk hs).mono ?_)
        rintro e w' ⟨rfl, rfl⟩
        go_wp2_with fail
        (with_reducible refine (iPrim_ok _ _ (HT.out.grown HG.out) hfl).mono ?_)
        rintro e w' ⟨rfl, rfl⟩
        go_wp2_with fail
        (with_reducible refine (sPrim_ok _ _ hfl).mono ?_)
        rintro e w' ⟨rfl, rfl⟩
        go_wp2_with fail
        (with_reducible refine (iOrder_prim _ _ (HT.out.grown HG.out) hfl).mono ?_)
        rintro e wd ⟨rfl, hg⟩
        have HG2 := Lib.hid (grownBy_trans HG.out hg); clear hg HG
        have HG := HG2; clear HG2
        go_wp2_with fail
        (with_reducible refine (iQuad_sq _ _ _ (HT.out.grown HG.out) hk).mono ?_)
        rintro e wd ⟨v0, rfl, hi, hg⟩
        have I0 := Lib.hid hi; have HG2 := Lib.hid (grownBy_trans HG.out hg); have HGG := Lib.hid hg; clear hi hg HG
        have HG := HG2; clear HG2
        obtain ⟨sl, ll, lc, rfl, hll, hlz⟩ := rootsV_len I0.out (by omega) (by omega)
        have hl0 : ll ≠ 0 := fun h => by have := hlz.1 h; rw [hs] at this; cases this
        have hlb : decide (0 < (ll : Int)) = true := by simp; omega
        have hlp : 0 < ll := by omega
        have hlc : decide (0 < ll) = true := by simpa using hlp
        clear hlz HGG I0
        go_wp2_with fail
        refine (drawQuadraticRoots_any _ _ (HM.out.carry HG.out)).mono ?_
        rintro e wd ⟨q, x, y, z, rfl, hq, hx, hy, hz, hg⟩
        have hqb := anyP_bd hq
        have HG2 := Lib.hid (grownBy_trans HG.out hg); clear hq hg HG
        have HG := HG2; clear HG2
        cases hk2 : okE q [x, y, z]
        case false =>
          go_wp2_with fail
          (with_reducible refine (iQuad_no _ _ _ _ _ (HT.out.grown HG.out) hk2).mono ?_)
          rintro e wd ⟨rfl, hg⟩
          have HG2 := Lib.hid (grownBy_trans HG.out hg); clear hg HG
          have HG := HG2; clear HG2
          go_wp2_with fail
          (with_reducible refine (sQuad_no _ _ _ _ _ (by omega) (by omega) hk2).mono ?_)
          rintro e w' ⟨rfl, rfl⟩
          go_wp2_with fail
          refine (sameInts_any _ _ [] [] _ (IntsV.nil _) (IntsV.nil _) (by simp) (by simp)).mono ?_
          rintro e wd ⟨rfl, hg⟩
          have HG2 := Lib.hid (grownBy_trans HG.out hg); clear hg HG
          have HG := HG2; clear HG2
          go_wp2
          go_loop [168] (fun i => i = .int .i64 0) (fun _ => 0)
          case atStart => exact rfl
          case round =>
            obtain rfl := hrel
            go_wp2
            go_ret
            exact ⟨rfl, HG.out⟩
        case true =>
          obtain ⟨q0, q1, x0, x1, y0, y1, z0, z1⟩ := okE_bd3 hk2
          obtain ⟨nq, rfl⟩ := Int.eq_ofNat_of_zero_le (show 0 ≤ q by omega)
          obtain ⟨nx, rfl⟩ := Int.eq_ofNat_of_zero_le x0
          obtain ⟨ny, rfl⟩ := Int.eq_ofNat_of_zero_le y0
          obtain ⟨nz, rfl⟩ := Int.eq_ofNat_of_zero_le z0
          have hqf : fldN nq = true := by rw [← fldB_nat]; rw [okE_3, okE_2, Bool.and_eq_true, Bool.and_eq_true] at hk2; exact hk2.1.1
          have HFEW := Lib.hid (fun h => roots_few (n := nq) (a := nx) (b := ny) (c := nz) hqf (by omega) (by omega) (by omega) h)
          have hlen := rootsTo_len nq nx ny nz nq
          have HMEM := Lib.hid (fun v (h : v ∈ rootsTo nq nx ny nz nq) => rootsTo_mem h)
          clear hqf
          go_wp2_with fail
          (with_reducible refine (iQuad_ok _ _ _ _ _ (HT.out.grown HG.out) hk2).mono ?_)
          rintro e wd ⟨v1, rfl, hi, hg⟩
          have I1 := Lib.hid hi; have HG2 := Lib.hid (grownBy_trans HG.out hg); have HGG := Lib.hid hg; clear hi hg HG
          have HG := HG2; clear HG2
          have I1b := Lib.hid I1.out; clear I1
          go_wp2_with fail
          (with_reducible refine (sQuad_ok _ _ _ _ _ hk2).mono ?_)
          rintro e wd ⟨v2, rfl, hi, hg⟩
          have I2 := Lib.hid hi; have HG2 := Lib.hid (grownBy_trans HG.out hg); have HGG := Lib.hid hg; clear hi hg HG
          have HG := HG2; clear HG2
          have I1 := Lib.hid (I1b.out.carry HGG.out); clear I1b HGG
          generalize hrt : rootsTo nq nx ny nz nq = zs at *
          clear hrt
          go_wp2_with fail
          refine (sameInts_any _ _ zs zs _ I1.out I2.out (by omega) (by omega)).mono ?_
          rintro e wd ⟨rfl, hg⟩
          have J1 := Lib.hid (I1.out.carry hg)
          have HG2 := Lib.hid (grownBy_trans HG.out hg); clear hg HG I1 I2
          have HG := HG2; clear HG2
          have hzz : (zs == zs) = true := by simp
          obtain ⟨sa, sc, rfl, hr⟩ := J1.out
          have HR := Lib.hid hr; clear hr J1
          generalize hlz : zs.length = l at *
          have HLZ := Lib.hid hlz
          clear hlz
          go_wp2
          go_loop [168] (fun i => ∃ k : Nat, k ≤ l ∧ i = .int .i64 k) (fun i => l - (intOf i).toNat)
          case atStart => exact ⟨0, by omega, rfl⟩
          case round =>
            obtain ⟨k, hk', rfl⟩ := hrel
            by_cases hlt : k < l
            · have hkz : k < zs.length := by rw [HLZ.out]; exact hlt
              obtain ⟨d, rfl, hs, hd, hi⟩ := HR.out (by intro h; rw [h] at hkz; simp at hkz)
              obtain ⟨db, dof, _⟩ := d
              simp only at hs hd
              subst hs
              have hcell := hi k hkz
              simp only at hcell
              obtain ⟨xr, hxr, hxn, hroot⟩ := HMEM.out zs[k] (List.getElem_mem _)
              rw [hxr] at hcell
              obtain ⟨s0, s1⟩ := mul_bd (x := (nx : Int)) (y := xr) (X := 100) (Y := 100) (by omega) (by omega) (by omega) (by omega)
              obtain ⟨s2, s3⟩ := mul_bd (x := (nx : Int) * xr) (y := xr) (X := 10000) (Y := 100) (by omega) (by omega) (by omega) (by omega)
              obtain ⟨s4, s5⟩ := mul_bd (x := (ny : Int)) (y := xr) (X := 100) (Y := 100) (by omega) (by omega) (by omega) (by omega)
              have hv := quad_nat2 nx ny nz xr nq
              rw [hroot] at hv
              have hv2 : (((nx : Int) * xr * xr + (ny : Int) * xr + nz) % nq != 0) = false := by rw [bne, hv]; rfl
              clear hxr hroot hi hv hd
              go_wp2
              go_round
              case rel => exact ⟨k + 1, by omega, by go_num⟩
              case measure => simp [intOf]; omega
            · have hkl : k = l := by omega
              subst hkl
              clear hlt hk'
              by_cases hl2 : k ≤ 2
              · have hb : decide ((k : Int) ≤ 2) = true := by simp; omega
                go_wp2
                go_ret
                exact ⟨rfl, HG.out⟩
              · have hb : decide ((k : Int) ≤ 2) = false := by simp; omega
                obtain ⟨rfl, rfl, rfl⟩ := HFEW.out (by have := HLZ.out; omega)
                go_wp2
                go_ret
                exact ⟨rfl, HG.out⟩
    case false =>
      go_wp2_with fail
      (with_reducible refine (iSqrt_not _ _ _ (HT.out.grown HG.out) hk).mono ?_)
      rintro e wd ⟨rfl, hg⟩
      have HG2 := Lib.hid (grownBy_trans HG.out hg); clear hg HG
      have HG := HG2; clear HG2
      go_wp2_with fail
      (with_reducible refine (sSqrt_not _ _ _ (by omega) (by omega) hk).mono ?_)
      rintro e w' ⟨rfl, rfl⟩
      cases hfl : fldB p
      case false =>
        go_wp2_with fail
        (with_reducible refine (iPrim_no _ _ (HT.out.grown HG.out) hfl).mono ?_)
        rintro e w' ⟨rfl, rfl⟩
        go_wp2_with fail
        (with_reducible refine (sPrim_no _ _ (by omega) (by omega) hfl).mono ?_)
        rintro e w' ⟨rfl, rfl⟩
        go_wp2_with fail
        refine (drawQuadraticRoots_any _ _ (HM.out.carry HG.out)).mono ?_
        rintro e wd ⟨q, x, y, z, rfl, hq, hx, hy, hz, hg⟩
        have hqb := anyP_bd hq
        have HG2 := Lib.hid (grownBy_trans HG.out hg); clear hq hg HG
        have HG := HG2; clear HG2
        cases hk2 : okE q [x, y, z]
        case false =>
          go_wp2_with fail
          (with_reducible refine (iQuad_no _ _ _ _ _ (HT.out.grown HG.out) hk2).mono ?_)
          rintro e wd ⟨rfl, hg⟩
          have HG2 := Lib.hid (grownBy_trans HG.out hg); clear hg HG
          have HG := HG2; clear HG2
          go_wp2_with fail
          (with_reducible refine (sQuad_no _ _ _ _ _ (by omega) (by omega) hk2).mono ?_)
          rintro e w' ⟨rfl, rfl⟩
          go_wp2_with fail
          refine (sameInts_any _ _ [] [] _ (IntsV.nil _) (IntsV.nil _) (by simp) (by simp)).mono ?_
          rintro e wd ⟨rfl, hg⟩
          have HG2 := Lib.hid (grownBy_trans HG.out hg); clear hg HG
          have HG := HG2; clear HG2
          go_wp2
          go_loop [168] (fun i => i = .int .i64 0) (fun _ => 0)
          case atStart => exact rfl
          case round =>
            obtain rfl := hrel
            go_wp2
            go_ret
            exact ⟨rfl, HG.out⟩
        case true =>
          obtain ⟨q0, q1, x0, x1, y0, y1, z0, z1⟩ := okE_bd3 hk2
          obtain ⟨nq, rfl⟩ := Int.eq_ofNat_of_zero_le (show 0 ≤ q by omega)
          obtain ⟨nx, rfl⟩ := Int.eq_ofNat_of_zero_le x0
          obtain ⟨ny, rfl⟩ := Int.eq_ofNat_of_zero_le y0
          obtain ⟨nz, rfl⟩ := Int.eq_ofNat_of_zero_le z0
          have hqf : fldN nq = true := by rw [← fldB_nat]; rw [okE_3, okE_2, Bool.and_eq_true, Bool.and_eq_true] at hk2; exact hk2.1.1
          have HFEW := Lib.hid (fun h => roots_few (n := nq) (a := nx) (b := ny) (c := nz) hqf (by omega) (by omega) (by omega) h)
          have hlen := rootsTo_len nq nx ny nz nq
          have HMEM := Lib.hid (fun v (h : v ∈ rootsTo nq nx ny nz nq) => rootsTo_mem h)
          clear hqf
          go_wp2_with fail
          (with_reducible refine (iQuad_ok _ _ _ _ _ (HT.out.grown HG.out) hk2).mono ?_)
          rintro e wd ⟨v1, rfl, hi, hg⟩
          have I1 := Lib.hid hi; have HG2 := Lib.hid (grownBy_trans HG.out hg); have HGG := Lib.hid hg; clear hi hg HG
          have HG := HG2; clear HG2
          have I1b := Lib.hid I1.out; clear I1
          go_wp2_with fail
          (with_reducible refine (sQuad_ok _ _ _ _ _ hk2).mono ?_)
          rintro e wd ⟨v2, rfl, hi, hg⟩
          have I2 := Lib.hid hi; have HG2 := Lib.hid (grownBy_trans HG.out hg); have HGG := Lib.hid hg; clear hi hg HG
          have HG := HG2; clear HG2
          have I1 := Lib.hid (I1b.out.carry HGG.out); clear I1b HGG
          generalize hrt : rootsTo nq nx ny nz nq = zs at *
          clear hrt
          go_wp2_with fail
          refine (sameInts_any _ _ zs zs _ I1.out I2.out (by omega) (by omega)).mono ?_
          rintro e wd ⟨rfl, hg⟩
          have J1 := Lib.hid (I1.out.carry hg)
          have HG2 := Lib.hid (grownBy_trans HG.out hg); clear hg HG I1 I2
          have HG := HG2; clear HG2
          have hzz : (zs == zs) = true := by simp
          obtain ⟨sa, sc, rfl, hr⟩ := J1.out
          have HR := Lib.hid hr; clear hr J1
          generalize hlz : zs.length = l at *
          have HLZ := Lib.hid hlz
          clear hlz
          go_wp2
          go_loop [168] (fun i => ∃ k : Nat, k ≤ l ∧ i = .int .i64 k) (fun i => l - (intOf i).toNat)
          case atStart => exact ⟨0, by omega, rfl⟩
          case round =>
            obtain ⟨k, hk', rfl⟩ := hrel
            by_cases hlt : k < l
            · have hkz : k < zs.length := by rw [HLZ.out]; exact hlt
              obtain ⟨d, rfl, hs, hd, hi⟩ := HR.out (by intro h; rw [h] at hkz; simp at hkz)
              obtain ⟨db, dof, _⟩ := d
              simp only at hs hd
              subst hs
              have hcell := hi k hkz
              simp only at hcell
              obtain ⟨xr, hxr, hxn, hroot⟩ := HMEM.out zs[k] (List.getElem_mem _)
              rw [hxr] at hcell
              obtain ⟨s0, s1⟩ := mul_bd (x := (nx : Int)) (y := xr) (X := 100) (Y := 100) (by omega) (by omega) (by omega) (by omega)
              obtain ⟨s2, s3⟩ := mul_bd (x := (nx : Int) * xr) (y := xr) (X := 10000) (Y := 100) (by omega) (by omega) (by omega) (by omega)
              obtain ⟨s4, s5⟩ := mul_bd (x := (ny : Int)) (y := xr) (X := 100) (Y := 100) (by omega) (by omega) (by omega) (by omega)
              have hv := quad_nat2 nx ny nz xr nq
              rw [hroot] at hv
              have hv2 : (((nx : Int) * xr * xr + (ny : Int) * xr + nz) % nq != 0) = false := by rw [bne, hv]; rfl
              clear hxr hroot hi hv hd
              go_wp2
              go_round
              case rel => exact ⟨k + 1, by omega, by go_num⟩
              case measure => simp [intOf]; omega
            · have hkl : k = l := by omega
              subst hkl
              clear hlt hk'
              by_cases hl2 : k ≤ 2
              · have hb : decide ((k : Int) ≤ 2) = true := by simp; omega
                go_wp2
                go_ret
                exact ⟨rfl, HG.out⟩
              · have hb : decide ((k : Int) ≤ 2) = false := by simp; omega
                obtain ⟨rfl, rfl, rfl⟩ := HFEW.out (by have := HLZ.out; omega)
                go_wp2
                go_ret
                exact ⟨rfl, HG.out⟩
      case true =>
        obtain ⟨p0, p1⟩ := fldB_bd hfl
        obtain ⟨np, rfl⟩ := Int.eq_ofNat_of_zero_le (show 0 ≤ p by omega)
        go_wp2_with fail
        (with_reducible refine (iPrim_ok _ _ (HT.out.grown HG.out) hfl).mono ?_)
        rintro e w' ⟨rfl, rfl⟩
        go_wp2_with fail
        (with_reducible refine (sPrim_ok _ _ hfl).mono ?_)
        rintro e w' ⟨rfl, rfl⟩
        go_wp2_with fail
        (with_reducible refine (iOrder_prim _ _ (HT.out.grown HG.out) hfl).mono ?_)
        rintro e wd ⟨rfl, hg⟩
        have HG2 := Lib.hid (grownBy_trans HG.out hg); clear hg HG
        have HG := HG2; clear HG2
        by_cases hneg : a < 0
        · have ha1 : a = -1 := by omega
          subst ha1
          have hd0 : decide ((0 : Int) ≤ -1) = false := by decide
          have hm1 : (1 : Int) % np = 1 := Int.emod_eq_of_lt (by omega) (by omega)
          go_wp2_with fail
          (with_reducible refine (iQuad_gen _ 1 _ (HT.out.grown HG.out) hfl (by omega) (by omega)).mono ?_)
          rintro e wd ⟨v0, rfl, hi, hg⟩
          have I0 := Lib.hid hi; have HG2 := Lib.hid (grownBy_trans HG.out hg); have HGG := Lib.hid hg; clear hi hg HG
          have HG := HG2; clear HG2
          obtain ⟨sl, ll, lc, rfl, hll⟩ := rootsV_any I0.out
          clear hll HGG I0
          go_wp2_with fail
          refine (drawQuadraticRoots_any _ _ (HM.out.carry HG.out)).mono ?_
          rintro e wd ⟨q, x, y, z, rfl, hq, hx, hy, hz, hg⟩
          have hqb := anyP_bd hq
          have HG2 := Lib.hid (grownBy_trans HG.out hg); clear hq hg HG
          have HG := HG2; clear HG2
          cases hk2 : okE q [x, y, z]
          case false =>
            go_wp2_with fail
            (with_reducible refine (iQuad_no _ _ _ _ _ (HT.out.grown HG.out) hk2).mono ?_)
            rintro e wd ⟨rfl, hg⟩
            have HG2 := Lib.hid (grownBy_trans HG.out hg); clear hg HG
            have HG := HG2; clear HG2
            go_wp2_with fail
            (with_reducible refine (sQuad_no _ _ _ _ _ (by omega) (by omega) hk2).mono ?_)
            rintro e w' ⟨rfl, rfl⟩
            go_wp2_with fail
            refine (sameInts_any _ _ [] [] _ (IntsV.nil _) (IntsV.nil _) (by simp) (by simp)).mono ?_
            rintro e wd ⟨rfl, hg⟩
            have HG2 := Lib.hid (grownBy_trans HG.out hg); clear hg HG
            have HG := HG2; clear HG2
            go_wp2
            go_loop [168] (fun i => i = .int .i64 0) (fun _ => 0)
            case atStart => exact rfl
            case round =>
              obtain rfl := hrel
              go_wp2
              go_ret
              exact ⟨rfl, HG.out⟩
          case true =>
            obtain ⟨q0, q1, x0, x1, y0, y1, z0, z1⟩ := okE_bd3 hk2
            obtain ⟨nq, rfl⟩ := Int.eq_ofNat_of_zero_le (show 0 ≤ q by omega)
            obtain ⟨nx, rfl⟩ := Int.eq_ofNat_of_zero_le x0
            obtain ⟨ny, rfl⟩ := Int.eq_ofNat_of_zero_le y0
            obtain ⟨nz, rfl⟩ := Int.eq_ofNat_of_zero_le z0
            have hqf : fldN nq = true := by rw [← fldB_nat]; rw [okE_3, okE_2, Bool.and_eq_true, Bool.and_eq_true] at hk2; exact hk2.1.1
            have HFEW := Lib.hid (fun h => roots_few (n := nq) (a := nx) (b := ny) (c := nz) hqf (by omega) (by omega) (by omega) h)
            have hlen := rootsTo_len nq nx ny nz nq
            have HMEM := Lib.hid (fun v (h : v ∈ rootsTo nq nx ny nz nq) => rootsTo_mem h)
            clear hqf
            go_wp2_with fail
            (with_reducible refine (iQuad_ok _ _ _ _ _ (HT.out.grown HG.out) hk2).mono ?_)
            rintro e wd ⟨v1, rfl, hi, hg⟩
            have I1 := Lib.hid hi; have HG2 := Lib.hid (grownBy_trans HG.out hg); have HGG := Lib.hid hg; clear hi hg HG
            have HG := HG2; clear HG2
            have I1b := Lib.hid I1.out; clear I1
            go_wp2_with fail
            (with_reducible refine (sQuad_ok _ _ _ _ _ hk2).mono ?_)
            rintro e wd ⟨v2, rfl, hi, hg⟩
            have I2 := Lib.hid hi; have HG2 := Lib.hid (grownBy_trans HG.out hg); have HGG := Lib.hid hg; clear hi hg HG
            have HG := HG2; clear HG2
            have I1 := Lib.hid (I1b.out.carry HGG.out); clear I1b HGG
            generalize hrt : rootsTo nq nx ny nz nq = zs at *
            clear hrt
            go_wp2_with fail
            refine (sameInts_any _ _ zs zs _ I1.out I2.out (by omega) (by omega)).mono ?_
            rintro e wd ⟨rfl, hg⟩
            have J1 := Lib.hid (I1.out.carry hg)
            have HG2 := Lib.hid (grownBy_trans HG.out hg); clear hg HG I1 I2
            have HG := HG2; clear HG2
            have hzz : (zs == zs) = true := by simp
            obtain ⟨sa, sc, rfl, hr⟩ := J1.out
            have HR := Lib.hid hr; clear hr J1
            generalize hlz : zs.length = l at *
            have HLZ := Lib.hid hlz
            clear hlz
            go_wp2
            go_loop [168] (fun i => ∃ k : Nat, k ≤ l ∧ i = .int .i64 k) (fun i => l - (intOf i).toNat)
            case atStart => exact ⟨0, by omega, rfl⟩
            case round =>
              obtain ⟨k, hk', rfl⟩ := hrel
              by_cases hlt : k < l
              · have hkz : k < zs.length := by rw [HLZ.out]; exact hlt
                obtain ⟨d, rfl, hs, hd, hi⟩ := HR.out (by intro h; rw [h] at hkz; simp at hkz)
                obtain ⟨db, dof, _⟩ := d
                simp only at hs hd
                subst hs
                have hcell := hi k hkz
                simp only at hcell
                obtain ⟨xr, hxr, hxn, hroot⟩ := HMEM.out zs[k] (List.getElem_mem _)
                rw [hxr] at hcell
                obtain ⟨s0, s1⟩ := mul_bd (x := (nx : Int)) (y := xr) (X := 100) (Y := 100) (by omega) (by omega) (by omega) (by omega)
                obtain ⟨s2, s3⟩ := mul_bd (x := (nx : Int) * xr) (y := xr) (X := 10000) (Y := 100) (by omega) (by omega) (by omega) (by omega)
                obtain ⟨s4, s5⟩ := mul_bd (x := (ny : Int)) (y := xr) (X := 100) (Y := 100) (by omega) (by omega) (by omega) (by omega)
                have hv := quad_nat2 nx ny nz xr nq
                rw [hroot] at hv
                have hv2 : (((nx : Int) * xr * xr + (ny : Int) * xr + nz) % nq != 0) = false := by rw [bne, hv]; rfl
                clear hxr hroot hi hv hd
                go_wp2
                go_round
                case rel => exact ⟨k + 1, by omega, by go_num⟩
                case measure => simp [intOf]; omega
              · have hkl : k = l := by omega
                subst hkl
                clear hlt hk'
                by_cases hl2 : k ≤ 2
                · have hb : decide ((k : Int) ≤ 2) = true := by simp; omega
                  go_wp2
                  go_ret
                  exact ⟨rfl, HG.out⟩
                · have hb : decide ((k : Int) ≤ 2) = false := by simp; omega
                  obtain ⟨rfl, rfl, rfl⟩ := HFEW.out (by have := HLZ.out; omega)
                  go_wp2
                  go_ret
                  exact ⟨rfl, HG.out⟩
        · have hge : ¬ a < np := by
            intro h
            rw [okE_1, hfl, Bool.true_and] at hk
            have := elB_iff.2 (show 0 ≤ a ∧ a < np by omega)
            rw [this] at hk
            cases hk
          have hdd : decide (a < (np : Int)) = false := by simpa using hge
          have g0 := Int.emod_nonneg a (show (np : Int) ≠ 0 by omega)
          have g1 := Int.emod_lt_of_pos a (show 0 < (np : Int) by omega)
          have g2 := Int.emod_nonneg (-(a % np)) (show (np : Int) ≠ 0 by omega)
          have g3 := Int.emod_lt_of_pos (-(a % np)) (show 0 < (np : Int) by omega)
          go_wp2_with fail
          (with_reducible refine (iQuad_gen _ _ _ (HT.out.grown HG.out) hfl g2 g3).mono ?_)
          rintro e wd ⟨v0, rfl, hi, hg⟩
          have I0 := Lib.hid hi; have HG2 := Lib.hid (grownBy_trans HG.out hg); have HGG := Lib.hid hg; clear hi hg HG
          have HG := HG2; clear HG2
          obtain ⟨sl, ll, lc, rfl, hll⟩ := rootsV_any I0.out
          clear hll HGG I0
          go_wp2_with fail
          refine (drawQuadraticRoots_any _ _ (HM.out.carry HG.out)).mono ?_
          rintro e wd ⟨q, x, y, z, rfl, hq, hx, hy, hz, hg⟩
          have hqb := anyP_bd hq
          have HG2 := Lib.hid (grownBy_trans HG.out hg); clear hq hg HG
          have HG := HG2; clear HG2
          cases hk2 : okE q [x, y, z]
          case false =>
            go_wp2_with fail
            (with_reducible refine (iQuad_no _ _ _ _ _ (HT.out.grown HG.out) hk2).mono ?_)
            rintro e wd ⟨rfl, hg⟩
            have HG2 := Lib.hid (grownBy_trans HG.out hg); clear hg HG
            have HG := HG2; clear HG2
            go_wp2_with fail
            (with_reducible refine (sQuad_no _ _ _ _ _ (by omega) (by omega) hk2).mono ?_)
            rintro e w' ⟨rfl, rfl⟩
            go_wp2_with fail
            refine (sameInts_any _ _ [] [] _ (IntsV.nil _) (IntsV.nil _) (by simp) (by simp)).mono ?_
            rintro e wd ⟨rfl, hg⟩
            have HG2 := Lib.hid (grownBy_trans HG.out hg); clear hg HG
            have HG := HG2; clear HG2
            go_wp2
            go_loop [168] (fun i => i = .int .i64 0) (fun _ => 0)
            case atStart => exact rfl
            case round =>
              obtain rfl := hrel
              go_wp2
              go_ret
              exact ⟨rfl, HG.out⟩
          case true =>
            obtain ⟨q0, q1, x0, x1, y0, y1, z0, z1⟩ := okE_bd3 hk2
            obtain ⟨nq, rfl⟩ := Int.eq_ofNat_of_zero_le (show 0 ≤ q by omega)
            obtain ⟨nx, rfl⟩ := Int.eq_ofNat_of_zero_le x0
            obtain ⟨ny, rfl⟩ := Int.eq_ofNat_of_zero_le y0
            obtain ⟨nz, rfl⟩ := Int.eq_ofNat_of_zero_le z0
            have hqf : fldN nq = true := by rw [← fldB_nat]; rw [okE_3, okE_2, Bool.and_eq_true, Bool.and_eq_true] at hk2; exact hk2.1.1
            have HFEW := Lib.hid (fun h => roots_few (n := nq) (a := nx) (b := ny) (c := nz) hqf (by omega) (by omega) (by omega) h)
            have hlen := rootsTo_len nq nx ny nz nq
            have HMEM := Lib.hid (fun v (h : v ∈ rootsTo nq nx ny nz nq) => rootsTo_mem h)
            clear hqf
            go_wp2_with fail
            (with_reducible refine (iQuad_ok _ _ _ _ _ (HT.out.grown HG.out) hk2).mono ?_)
            rintro e wd ⟨v1, rfl, hi, hg⟩
            have I1 := Lib.hid hi; have HG2 := Lib.hid (grownBy_trans HG.out hg); have HGG := Lib.hid hg; clear hi hg HG
            have HG := HG2; clear HG2
            have I1b := Lib.hid I1.out; clear I1
            go_wp2_with fail
            (with_reducible refine (sQuad_ok _ _ _ _ _ hk2).mono ?_)
            rintro e wd ⟨v2, rfl, hi, hg⟩
            have I2 := Lib.hid hi; have HG2 := Lib.hid (grownBy_trans HG.out hg); have HGG := Lib.hid hg; clear hi hg HG
            have HG := HG2; clear HG2
            have I1 := Lib.hid (I1b.out.carry HGG.out); clear I1b HGG
            generalize hrt : rootsTo nq nx ny nz nq = zs at *
            clear hrt
            go_wp2_with fail
            refine (sameInts_any _ _ zs zs _ I1.out I2.out (by omega) (by omega)).mono ?_
            rintro e wd ⟨rfl, hg⟩
            have J1 := Lib.hid (I1.out.carry hg)
            have HG2 := Lib.hid (grownBy_trans HG.out hg); clear hg HG I1 I2
            have HG := HG2; clear HG2
            have hzz : (zs == zs) = true := by simp
            obtain ⟨sa, sc, rfl, hr⟩ := J1.out
            have HR := Lib.hid hr; clear hr J1
            generalize hlz : zs.length = l at *
            have HLZ := Lib.hid hlz
            clear hlz
            go_wp2
            go_loop [168] (fun i => ∃ k : Nat, k ≤ l ∧ i = .int .i64 k) (fun i => l - (intOf i).toNat)
            case atStart => exact ⟨0, by omega, rfl⟩
            case round =>
              obtain ⟨k, hk', rfl⟩ := hrel
              by_cases hlt : k < l
              · have hkz : k < zs.length := by rw [HLZ.out]; exact hlt
                obtain ⟨d, rfl, hs, hd, hi⟩ := HR.out (by intro h; rw [h] at hkz; simp at hkz)
                obtain ⟨db, dof, _⟩ := d
                simp only at hs hd
                subst hs
                have hcell := hi k hkz
                simp only at hcell
                obtain ⟨xr, hxr, hxn, hroot⟩ := HMEM.out zs[k] (List.getElem_mem _)
                rw [hxr] at hcell
                obtain ⟨s0, s1⟩ := mul_bd (x := (nx : Int)) (y := xr) (X := 100) (Y := 100) (by omega) (by omega) (by omega) (by omega)
                obtain ⟨s2, s3⟩ := mul_bd (x := (nx : Int) * xr) (y := xr) (X := 10000) (Y := 100) (by omega) (by omega) (by omega) (by omega)
                obtain ⟨s4, s5⟩ := mul_bd (x := (ny : Int)) (y := xr) (X := 100) (Y := 100) (by omega) (by omega) (by omega) (by omega)
                have hv := quad_nat2 nx ny nz xr nq
                rw [hroot] at hv
                have hv2 : (((nx : Int) * xr * xr + (ny : Int) * xr + nz) % nq != 0) = false := by rw [bne, hv]; rfl
                clear hxr hroot hi hv hd
                go_wp2
                go_round
                case rel => exact ⟨k + 1, by omega, by go_num⟩
                case measure => simp [intOf]; omega
              · have hkl : k = l := by omega
                subst hkl
                clear hlt hk'
                by_cases hl2 : k ≤ 2
                · have hb : decide ((k : Int) ≤ 2) = true := by simp; omega
                  go_wp2
                  go_ret
                  exact ⟨rfl, HG.out⟩
                · have hb : decide ((k : Int) ≤ 2) = false := by simp; omega
                  obtain ⟨rfl, rfl, rfl⟩ := HFEW.out (by have := HLZ.out; omega)
                  go_wp2
                  go_ret
                  exact ⟨rfl, HG.out⟩

end Go.Proofs.YtmnpcooaijpigaaDoor

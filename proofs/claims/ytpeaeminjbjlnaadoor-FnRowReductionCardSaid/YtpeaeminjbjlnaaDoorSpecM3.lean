/-
  The specification's row operations: a row multiplied, a multiple of a row subtracted. Conditions: the elements are small.
-/
import Derived.Test.YtpeaeminjbjlnaaDoorOwnM2
import Derived.Deep.RegionHeld3
import Derived.Deep.RegionWith
namespace Go.Proofs.YtpeaeminjbjlnaaDoor
open Go.RowKit
set_option linter.unusedVariables false

theorem less_eq (p k a s : Int) : (a + p - k * s % p) % p = (a + -k * s) % p := by
  have h := Int.emod_add_mul_ediv (k * s) p
  have e : a + -k * s = (a + p - k * s % p) + p * (-(k * s / p) - 1) := by grind
  rw [e, Int.add_mul_emod_self_left]

theorem mxScale_any (p k : Int) (v : Value) (x : List Int) (B : Nat) (w : World) (hv : OwnInts B w v x) (hlm : x.length ≤ 1000000) (hp : 2 ≤ p) (hp2 : p ≤ 1000) (hk0 : 0 ≤ k) (hk1 : k ≤ 1000) (hx : ∀ z ∈ x, 0 ≤ z ∧ z ≤ 1000) :
    Calls Tryd.prog 257 #[.int .i64 p, v, .int .i64 k] w fun e w' => e = .returned (.tuple #[]) ∧ OwnInts B w' v (scaleV p x k) ∧ Only (Hits v) w w' := by
  have HX := Lib.hid hx; have HV := Lib.hid hv
  have hsh := own_shape hv
  obtain ⟨a0, cap0, rfl⟩ := hsh
  clear hx hv
  generalize hlen : x.length = l at *
  have HLX := Lib.hid hlen
  clear hlen
  go_enter Tryd.func257, Tryd.ntmps257
  go_wp2
  go_loopw [9] (fun i wr => ∃ (j : Nat) (zs : List Int), j ≤ l ∧ i = .int .i64 j ∧ zs.length = x.length ∧ (∀ q, q < j → zs.getD q 0 = x.getD q 0 * k % p) ∧ (∀ q, j ≤ q → zs.getD q 0 = x.getD q 0) ∧ OwnInts B wr (.slice a0 l cap0) zs ∧ Only (Hits (.slice a0 l cap0)) w wr) (fun i _ => l - (intOf i).toNat)
  case atStart => exact ⟨0, x, by omega, rfl, rfl, fun _ h => absurd h (by omega), fun _ _ => rfl, HV.out, Only.refl _ _⟩
  case round =>
    obtain ⟨j, zs, hj, rfl, hz, h1, h2, ho, hon⟩ := hrel
    have HZ := Lib.hid hz; have H1 := Lib.hid h1; have H2 := Lib.hid h2; have HO := Lib.hid ho; have HON := Lib.hid hon
    clear hz h1 h2 ho hon
    by_cases hlt : j < l
    · have hjx : j < x.length := by rw [HLX.out]; exact hlt
      have hjz : j < zs.length := by rw [HZ.out]; exact hjx
      obtain ⟨g, cap, hve, hg0, hg1, hhit⟩ := HO.out.parts (by intro h; rw [h] at hjz; simp at hjz)
      have hzl : zs.length = l := by rw [HZ.out, HLX.out]
      rw [hzl] at hve
      simp only [Value.slice.injEq, true_and] at hve
      obtain ⟨rfl, rfl⟩ := hve
      have hcell := HO.out.cell hzl.symm hjz
      have hfree := HO.out.free hzl.symm j
      have HP := Lib.hid fun n => HO.out.put hzl.symm j n
      have e1 : zs[j] = x.getD j 0 := by rw [← getD_lt hjz]; exact H2.out j (Nat.le_refl _)
      have b1 := HX.out _ (List.getElem_mem hjx)
      rw [← getD_lt hjx] at b1
      rw [e1] at hcell
      clear e1 hg0 hg1 hhit
      generalize hxk : x.getD j 0 = xk at *
      have HXK := Lib.hid hxk; have HZL := Lib.hid hzl
      clear hxk hzl hjx hjz
      go_wp2_with (go_at_call 199; refine (fdMulS_any p xk k _ (by omega) hp2 b1.1 b1.2 hk0 hk1).mono ?_; rintro e w' ⟨rfl, rfl⟩)
      go_roundw
      case rel =>
        have hjz : j < zs.length := by rw [HZL.out]; exact hlt
        refine ⟨j + 1, zs.set j (xk * k % p), by omega, by go_num, by rw [List.length_set]; exact HZ.out, fun q hq => ?_, fun q hq => ?_, (HP.out _).1, HON.out.trans ((HP.out _).2.mono fun g hg => by rw [hg]; rfl)⟩
        · by_cases hjq : j = q
          · subst hjq
            rw [getD_set_self hjz, HXK.out]
          · rw [getD_set_ne hjq]
            exact H1.out q (by omega)
        · rw [getD_set_ne (by omega)]
          exact H2.out q (by omega)
      case measure => simp [intOf]; omega
    · have hfin : zs = scaleV p x k := by
        refine list_ext_getD (by rw [HZ.out]; simp [scaleV]) fun q hq => ?_
        have hqx : q < x.length := by rw [← HZ.out]; exact hq
        rw [scale_getD hqx]
        exact H1.out q (by have := HLX.out; omega)
      have HF := Lib.hid hfin
      clear hfin
      go_wp2
      go_end0
      exact ⟨rfl, by rw [← HF.out]; exact HO.out, HON.out⟩

set_option maxHeartbeats 2000000 in
theorem mxLess_any (p k : Int) (v u : Value) (x y : List Int) (B : Nat) (w : World) (hv : OwnInts B w v x) (hu : IntsV w u y) (hap : x ≠ [] → ∀ q, Hits v q → Value.blk' u ≠ some q) (hl : x.length = y.length) (hlm : x.length ≤ 1000000)
    (hp : 2 ≤ p) (hp2 : p ≤ 1000) (hk0 : 0 ≤ k) (hk1 : k ≤ 1000) (hx : ∀ z ∈ x, 0 ≤ z ∧ z ≤ 1000) (hy : ∀ z ∈ y, 0 ≤ z ∧ z ≤ 1000) :
    Calls Tryd.prog 258 #[.int .i64 p, v, u, .int .i64 k] w fun e w' => e = .returned (.tuple #[]) ∧ OwnInts B w' v (addT p x (-k) y) ∧ Only (Hits v) w w' := by
  have HX := Lib.hid hx; have HY := Lib.hid hy; have HU := Lib.hid hu; have HV := Lib.hid hv; have HAP := Lib.hid hap; have HL := Lib.hid hl
  have hsh := own_shape hv
  obtain ⟨a0, cap0, rfl⟩ := hsh
  obtain ⟨ua, ucap, rfl, ui⟩ := hu
  clear ui hv hx hy hap
  rw [← hl]
  generalize hlen : x.length = l at *
  have HLX := Lib.hid hlen
  clear hlen hl
  go_enter Tryd.func258, Tryd.ntmps258
  go_wp2
  go_loopw [11] (fun i wr => ∃ (j : Nat) (zs : List Int), j ≤ l ∧ i = .int .i64 j ∧ zs.length = x.length ∧ (∀ q, q < j → zs.getD q 0 = (x.getD q 0 + -k * y.getD q 0) % p) ∧ (∀ q, j ≤ q → zs.getD q 0 = x.getD q 0) ∧ OwnInts B wr (.slice a0 l cap0) zs ∧ Only (Hits (.slice a0 l cap0)) w wr) (fun i _ => l - (intOf i).toNat)
  case atStart => exact ⟨0, x, by omega, rfl, rfl, fun _ h => absurd h (by omega), fun _ _ => rfl, HV.out, Only.refl _ _⟩
  case round =>
    obtain ⟨j, zs, hj, rfl, hz, h1, h2, ho, hon⟩ := hrel
    have HZ := Lib.hid hz; have H1 := Lib.hid h1; have H2 := Lib.hid h2; have HO := Lib.hid ho; have HON := Lib.hid hon
    clear hz h1 h2 ho hon
    by_cases hlt : j < l
    · have hjx : j < x.length := by rw [HLX.out]; exact hlt
      have hjy : j < y.length := by rw [← HL.out]; exact hlt
      have hjz : j < zs.length := by rw [HZ.out]; exact hjx
      have hu' := (HU.out.only HON.out fun g hg hh => HAP.out (by intro h; rw [h] at hjx; simp at hjx) g hh hg).at hjy
      obtain ⟨d, rfl, hs, hd, hc⟩ := hu'
      obtain ⟨db, dof, _⟩ := d
      simp only at hs hc
      subst hs
      obtain ⟨g, cap, hve, hg0, hg1, hhit⟩ := HO.out.parts (by intro h; rw [h] at hjz; simp at hjz)
      have hzl : zs.length = l := by rw [HZ.out, HLX.out]
      rw [hzl] at hve
      simp only [Value.slice.injEq, true_and] at hve
      obtain ⟨rfl, rfl⟩ := hve
      have hcell := HO.out.cell hzl.symm hjz
      have hfree := HO.out.free hzl.symm j
      have HP := Lib.hid fun n => (HO.out.only (Only.drew (fun _ => False) wr) (fun _ _ h => h)).put hzl.symm j n
      have e1 : zs[j] = x.getD j 0 := by rw [← getD_lt hjz]; exact H2.out j (Nat.le_refl _)
      have e2 : y[j] = y.getD j 0 := (getD_lt hjy).symm
      have b1 := HX.out _ (List.getElem_mem hjx)
      rw [← getD_lt hjx] at b1
      have b2 := HY.out _ (List.getElem_mem hjy)
      rw [e2] at b2 hc
      rw [e1] at hcell
      clear e1 e2 hd hg0 hg1 hhit
      generalize hxk : x.getD j 0 = xk at *
      generalize hyk : y.getD j 0 = yk at *
      have HXK := Lib.hid hxk; have HYK := Lib.hid hyk; have HZL := Lib.hid hzl
      clear hxk hyk hzl hjx hjy hjz
      have m0 := Int.emod_nonneg (k * yk) (show p ≠ 0 by omega)
      have m1 := Int.emod_lt_of_pos (k * yk) (show 0 < p by omega)
      have M1 := Lib.hid fun w1 => fdMulS_any p k yk w1 (by omega) hp2 hk0 hk1 b2.1 b2.2
      have M2 := Lib.hid fun w1 => fdSubS_any p xk (k * yk % p) w1 (by omega) hp2 b1.1 b1.2 m0 (by omega)
      have HLE := Lib.hid (less_eq p k xk yk)
      rw [HLE.out] at M2
      clear m0 m1
      go_wp2_with fail
      go_region_with
        (first
          | (go_at_call 199
             refine (M1.out _).mono ?_
             rintro e w' ⟨rfl, rfl⟩)
          | (go_at_call 245
             refine (M2.out _).mono ?_
             rintro e w' ⟨rfl, rfl⟩))
      all_goals
        go_wp2
        go_roundw
        case rel =>
          have hjz : j < zs.length := by rw [HZL.out]; exact hlt
          refine ⟨j + 1, zs.set j ((xk + -k * yk) % p), by omega, by go_num, by rw [List.length_set]; exact HZ.out, fun q hq => ?_, fun q hq => ?_, (HP.out _).1, (HON.out.trans (Only.drew _ _)).trans ((HP.out _).2.mono fun g hg => by rw [hg]; rfl)⟩
          · by_cases hjq : j = q
            · subst hjq
              rw [getD_set_self hjz, HXK.out, HYK.out]
            · rw [getD_set_ne hjq]
              exact H1.out q (by omega)
          · rw [getD_set_ne (by omega)]
            exact H2.out q (by omega)
        case measure => simp [intOf]; omega
    · have hfin : zs = addT p x (-k) y := by
        refine list_ext_getD (by rw [HZ.out]; have h1 := HL.out; have h2 := HLX.out; simp [addT]; omega) fun q hq => ?_
        have hqx : q < x.length := by rw [← HZ.out]; exact hq
        rw [addT_getD (HLX.out.trans HL.out) hqx]
        exact H1.out q (by have := HLX.out; omega)
      have HF := Lib.hid hfin
      clear hfin
      go_wp2
      go_end0
      exact ⟨rfl, by rw [← HF.out]; exact HO.out, HON.out⟩

end Go.Proofs.YtpeaeminjbjlnaaDoor

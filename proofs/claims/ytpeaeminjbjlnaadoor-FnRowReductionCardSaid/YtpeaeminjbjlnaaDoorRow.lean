/-
  Rows of the call's own: a multiple added in place; new rows. Conditions: the elements are small.
-/
import Derived.Test.YtpeaeminjbjlnaaDoorMem
namespace Go.Proofs.YtpeaeminjbjlnaaDoor
open Go.RowKit
set_option linter.unusedVariables false

theorem addT_getD {p k : Int} {x y : List Int} (hl : x.length = y.length) {j : Nat} (hj : j < x.length) : (addT p x k y).getD j 0 = (x.getD j 0 + k * y.getD j 0) % p := by
  unfold addT
  simp only [List.getD_eq_getElem?_getD]
  rw [List.getElem?_zipWith, List.getElem?_eq_getElem hj, List.getElem?_eq_getElem (show j < y.length by omega)]
  simp
theorem getD_set_self {zs : List Int} {j : Nat} (hj : j < zs.length) (x : Int) : (zs.set j x).getD j 0 = x := by
  rw [List.getD_eq_getElem?_getD, List.getElem?_set_self hj]; rfl
theorem getD_set_ne {zs : List Int} {i j : Nat} (h : i ≠ j) (x : Int) : (zs.set i x).getD j 0 = zs.getD j 0 := by
  rw [List.getD_eq_getElem?_getD, List.getElem?_set_ne h, ← List.getD_eq_getElem?_getD]
theorem list_ext_getD {x y : List Int} (hl : x.length = y.length) (h : ∀ j, j < x.length → x.getD j 0 = y.getD j 0) : x = y := by
  refine List.ext_getElem hl fun j h1 h2 => ?_
  have := h j h1
  simpa [List.getD_eq_getElem?_getD, h1, h2] using this
theorem getD_lt {x : List Int} {j : Nat} (h : j < x.length) : x.getD j 0 = x[j] := by simp [List.getD_eq_getElem?_getD, h]
theorem mul_bd2 {a b A B : Int} (ha : -A ≤ a ∧ a ≤ A) (hb : 0 ≤ b ∧ b ≤ B) (hA : 0 ≤ A) (hB : 0 ≤ B) : -(A * B) ≤ a * b ∧ a * b ≤ A * B := by
  have h1 : a * b ≤ A * b := Int.mul_le_mul_of_nonneg_right ha.2 hb.1
  have h2 : A * b ≤ A * B := Int.mul_le_mul_of_nonneg_left hb.2 hA
  have h3 : -A * b ≤ a * b := Int.mul_le_mul_of_nonneg_right ha.1 hb.1
  rw [Int.neg_mul] at h3
  omega

theorem addTimes_any (p by' : Int) (v u : Value) (x y : List Int) (B : Nat) (w : World) (hv : OwnInts B w v x) (hu : IntsV w u y) (hap : x ≠ [] → ∀ k, Hits v k → Value.blk' u ≠ some k) (hl : x.length = y.length) (hlm : x.length ≤ 1000000)
    (hp : 2 ≤ p) (hp2 : p ≤ 1000) (hb0 : -1000 ≤ by') (hb1 : by' ≤ 1000) (hx : ∀ z ∈ x, 0 ≤ z ∧ z ≤ 1000) (hy : ∀ z ∈ y, 0 ≤ z ∧ z ≤ 1000) :
    Calls Tryd.prog 244 #[.int .i64 p, v, .int .i64 by', u] w fun e w' => e = .returned (.tuple #[]) ∧ OwnInts B w' v (addT p x by' y) ∧ Only (Hits v) w w' := by
  have HX := Lib.hid hx; have HY := Lib.hid hy; have HU := Lib.hid hu; have HV := Lib.hid hv; have HAP := Lib.hid hap; have HL := Lib.hid hl
  obtain ⟨ua, ucap, rfl, ui⟩ := hu
  clear ui hv hx hy hap
  rw [← hl]
  generalize hlen : x.length = l at *
  have HLX := Lib.hid hlen
  clear hlen hl
  go_enter Tryd.func244, Tryd.ntmps244
  go_wp2
  go_loopw [12] (fun i wr => ∃ (k : Nat) (zs : List Int), k ≤ l ∧ i = .int .i64 k ∧ zs.length = x.length ∧ (∀ j, j < k → zs.getD j 0 = (x.getD j 0 + by' * y.getD j 0) % p) ∧ (∀ j, k ≤ j → zs.getD j 0 = x.getD j 0) ∧ OwnInts B wr v zs ∧ Only (Hits v) w wr) (fun i _ => l - (intOf i).toNat)
  case atStart => exact ⟨0, x, by omega, rfl, rfl, fun _ h => absurd h (by omega), fun _ _ => rfl, HV.out, Only.refl _ _⟩
  case round =>
    obtain ⟨k, zs, hk, rfl, hz, h1, h2, ho, hon⟩ := hrel
    have HZ := Lib.hid hz; have H1 := Lib.hid h1; have H2 := Lib.hid h2; have HO := Lib.hid ho; have HON := Lib.hid hon
    clear hz h1 h2 ho hon
    by_cases hlt : k < l
    · have hkx : k < x.length := by rw [HLX.out]; exact hlt
      have hky : k < y.length := by rw [← HL.out]; exact hlt
      have hkz : k < zs.length := by rw [HZ.out]; exact hkx
      have hu' := (HU.out.only HON.out fun g hg hh => HAP.out (by intro h; rw [h] at hkx; simp at hkx) g hh hg).at hky
      obtain ⟨d, rfl, hs, hd, hc⟩ := hu'
      obtain ⟨db, dof, _⟩ := d
      simp only at hs hc
      subst hs
      obtain ⟨g, cap, hve, hg0, hg1, hhit⟩ := HO.out.parts (by intro h; rw [h] at hkz; simp at hkz)
      have hzl : zs.length = l := by rw [HZ.out, HLX.out]
      rw [hzl] at hve
      subst hve
      have hcell := HO.out.cell hzl.symm hkz
      have hfree := HO.out.free hzl.symm k
      have hput := fun n => HO.out.put hzl.symm k n
      have HP := Lib.hid hput
      have e1 : zs[k] = x.getD k 0 := by rw [← getD_lt hkz]; exact H2.out k (Nat.le_refl _)
      have e2 : y[k] = y.getD k 0 := (getD_lt hky).symm
      have b1 := HX.out _ (List.getElem_mem hkx)
      rw [← getD_lt hkx] at b1
      have b2 := HY.out _ (List.getElem_mem hky)
      rw [e2] at b2 hc
      rw [e1] at hcell
      clear hput e1 e2 hd hg0 hg1 hhit
      generalize hxk : x.getD k 0 = xk at *
      generalize hyk : y.getD k 0 = yk at *
      have HXK := Lib.hid hxk; have HYK := Lib.hid hyk; have HZL := Lib.hid hzl
      clear hxk hyk hzl hkx hky hkz
      have b3 := mul_bd2 (A := 1000) (B := 1000) ⟨hb0, hb1⟩ b2 (by omega) (by omega)
      go_wp2_with (go_at_call 236; refine (mod_all p (xk + by' * yk) (by omega) hp2 (by omega) (by omega) _).mono ?_; rintro e w' ⟨rfl, rfl⟩)
      go_roundw
      case rel =>
        have hkz : k < zs.length := by rw [HZL.out]; exact hlt
        refine ⟨k + 1, zs.set k ((xk + by' * yk) % p), by omega, by go_num, by rw [List.length_set]; exact HZ.out, fun j hj => ?_, fun j hj => ?_, (HP.out _).1, HON.out.trans ((HP.out _).2.mono fun g hg => by rw [hg]; rfl)⟩
        · by_cases hjk : k = j
          · subst hjk
            rw [getD_set_self hkz, HXK.out, HYK.out]
          · rw [getD_set_ne hjk]
            exact H1.out j (by omega)
        · rw [getD_set_ne (by omega)]
          exact H2.out j (by omega)
      case measure => simp [intOf]; omega
    · have hfin : zs = addT p x by' y := by
        refine list_ext_getD (by rw [HZ.out]; have h1 := HL.out; have h2 := HLX.out; simp [addT]; omega) fun j hj => ?_
        have hjx : j < x.length := by rw [← HZ.out]; exact hj
        rw [addT_getD (HLX.out.trans HL.out) hjx]
        exact H1.out j (by have := HLX.out; omega)
      have HF := Lib.hid hfin
      clear hfin
      go_wp2
      go_end0
      exact ⟨rfl, by rw [← HF.out]; exact HO.out, HON.out⟩

end Go.Proofs.YtpeaeminjbjlnaaDoor

/-
  More walks of chapter 1: powers, inverses, orders, logarithms. Conditions: as each states.
-/
import Derived.Test.YtpeaeminjbjlnaaDoorFld
namespace Go.Proofs.YtpeaeminjbjlnaaDoor
open Go.RowKit
set_option linter.unusedVariables false

theorem power_any (p a n : Int) (w : World) (hp : 1 ≤ p) (hp2 : p ≤ 1000) (ha : 0 ≤ a) (ha2 : a ≤ 1000) (hn : 0 ≤ n) (hn2 : n ≤ 1000000) :
    Calls Tryd.prog 249 #[.int .i64 p, .int .i64 a, .int .i64 n] w fun e w' => e = .returned (.int .i64 (a ^ n.toNat % p)) ∧ w = w' := by
  have hm0 := Int.emod_nonneg (1 : Int) (show p ≠ 0 by omega)
  have hm1 := Int.emod_lt_of_pos (1 : Int) (show 0 < p by omega)
  go_enter Tryd.func249, Tryd.ntmps249
  go_wp2
  go_loop [1, 2, 7] (fun x m o => ∃ (x' o' : Int) (m' : Nat), x = .int .i64 x' ∧ m = .int .i64 m' ∧ o = .int .i64 o' ∧ 0 ≤ o' ∧ o' < p ∧ 0 ≤ x' ∧ x' ≤ 1000 ∧ m' ≤ 1000000 ∧ o' * x' ^ m' % p = a ^ n.toNat % p) (fun _ m _ => (intOf m).toNat)
  case atStart =>
    obtain ⟨n', rfl⟩ := Int.eq_ofNat_of_zero_le hn
    exact ⟨a, 1 % p, n', rfl, rfl, rfl, hm0, hm1, ha, ha2, by omega, by rw [emod_mul_l, Int.one_mul, Int.toNat_natCast]⟩
  case round =>
    obtain ⟨x, o, m, rfl, rfl, rfl, ho0, ho1, hx0, hx1, hm, hr⟩ := hrel
    have HR := Lib.hid hr
    have hxx : 0 ≤ x * x := Int.mul_nonneg hx0 hx0
    have hxx2 : x * x ≤ 1000 * 1000 := Int.mul_le_mul hx1 hx1 hx0 (by omega)
    have hox : 0 ≤ o * x := Int.mul_nonneg ho0 hx0
    have hox2 : o * x ≤ 1000 * 1000 := Int.mul_le_mul (by omega) hx1 hx0 (by omega)
    have e0 := Int.emod_nonneg (x * x) (show p ≠ 0 by omega)
    have e1 := Int.emod_lt_of_pos (x * x) (show 0 < p by omega)
    have e2 := Int.emod_nonneg (o * x) (show p ≠ 0 by omega)
    have e3 := Int.emod_lt_of_pos (o * x) (show 0 < p by omega)
    clear hr
    by_cases h0 : m = 0
    · subst h0
      have hfin : a ^ n.toNat % p = o := by
        have := HR.out
        rw [← this, Int.pow_zero, Int.mul_one, Int.emod_eq_of_lt ho0 ho1]
      have HF := Lib.hid hfin
      clear hfin
      go_wp2
      go_ret
      exact ⟨by rw [HF.out]; rfl, rfl⟩
    · have h0' : 0 < m := by omega
      by_cases hodd : m % 2 = 1
      · have hb : ((m : Int) % 2 == 1) = true := by rw [beq_iff_eq]; omega
        have HO := Lib.hid hodd
        clear hodd h0
        go_wp2
        go_round
        case rel => exact ⟨x * x % p, o * x % p, m / 2, rfl, by go_num, rfl, e2, e3, e0, by omega, by omega, by rw [pw_odd _ _ _ _ HO.out, HR.out]⟩
        case measure => simp [intOf]; omega
      · have hb : ((m : Int) % 2 == 1) = false := by rw [beq_eq_false_iff_ne]; omega
        have he : m % 2 = 0 := by omega
        have HO := Lib.hid he
        clear hodd he h0
        go_wp2
        go_round
        case rel => exact ⟨x * x % p, o, m / 2, rfl, by go_num, rfl, ho0, ho1, e0, by omega, by omega, by rw [pw_even _ _ _ _ HO.out, HR.out]⟩
        case measure => simp [intOf]; omega

theorem inverse_any (p a : Int) (w : World) (hp : 2 ≤ p) (hp2 : p ≤ 1000) (ha : 0 ≤ a) (ha2 : a ≤ 1000) :
    Calls Tryd.prog 110 #[.int .i64 p, .int .i64 a] w fun e w' => e = .returned (.int .i64 (invI p a)) ∧ w = w' := by
  by_cases h2 : p = 2
  · subst h2
    go_enter Tryd.func110, Tryd.ntmps110
    go_wp2_with (first | (go_at_call 250; refine (bit_any true _).mono ?_; rintro e w' ⟨rfl, rfl⟩) | (go_at_call 249; refine (power_any _ _ _ _ (by omega) (by omega) ha ha2 (by omega) (by omega)).mono ?_; rintro e w' ⟨rfl, rfl⟩))
    go_ret
    exact ⟨rfl, rfl⟩
  · have hb : (p == 2) = false := by rw [beq_eq_false_iff_ne]; exact h2
    have hfin : invI p a = a ^ (p - 2).toNat % p := by
      unfold invI
      rw [if_neg h2, show p.toNat - 2 + 0 = (p - 2).toNat from by omega]
    have HF := Lib.hid hfin
    clear hfin h2
    go_enter Tryd.func110, Tryd.ntmps110
    go_wp2_with (first | (go_at_call 250; refine (bit_any false _).mono ?_; rintro e w' ⟨rfl, rfl⟩) | (go_at_call 249; refine (power_any _ _ _ _ (by omega) (by omega) ha ha2 (by omega) (by omega)).mono ?_; rintro e w' ⟨rfl, rfl⟩))
    go_ret
    exact ⟨by rw [HF.out]; rfl, rfl⟩

/-! ### the reference's test of a field -/
theorem fdGood_any (p : Int) (w : World) (h0 : -1000 ≤ p) (h1 : p ≤ 1000) : Calls Tryd.prog 206 #[.int .i64 p] w fun e w' => e = .returned (.bool (fldB p)) ∧ w = w' := by
  by_cases hin : 2 ≤ p ∧ p ≤ 97
  · have hd : decide (2 ≤ p ∧ p ≤ 97) = true := by simpa using hin
    obtain ⟨g0, g1⟩ := hin
    go_enter Tryd.func206, Tryd.ntmps206
    go_wp2_with (go_at_call 137; refine (l1In_any _ _ _ _).mono ?_; rintro e w' ⟨rfl, rfl⟩)
    go_loop [3] (fun k => ∃ k' : Nat, k = .int .i64 k' ∧ 2 ≤ k' ∧ k' ≤ 10 ∧ ∀ j : Int, 2 ≤ j → j < k' → p % j ≠ 0) (fun k => 200 - (intOf k).toNat)
    case atStart => exact ⟨2, rfl, by omega, by omega, fun j h1 h2 => by omega⟩
    case round =>
      obtain ⟨k, rfl, hk2, hk10, hr⟩ := hrel
      have HR := Lib.hid hr
      clear hr
      have hkk : ((k : Int) * k) = ((k * k : Nat) : Int) := by push_cast; rfl
      have hkk2 : k * k ≤ 100 := Nat.mul_le_mul hk10 hk10
      have HKK := Lib.hid hkk
      clear hkk
      have hq0 : (0 : Int) ≤ (k : Int) * k := by rw [HKK.out]; omega
      have hq1 : (k : Int) * k ≤ 100 := by rw [HKK.out]; omega
      have e0 := Int.emod_nonneg p (show (k : Int) ≠ 0 by omega)
      by_cases hle : (k : Int) * k ≤ p
      · by_cases hd0 : p % (k : Int) = 0
        · have hb : (p % (k : Int) == 0) = true := by rw [beq_iff_eq]; exact hd0
          have hfin : fldB p = false := fld_no g0 g1 (by omega) hle hd0
          have HF := Lib.hid hfin
          clear hfin hd0
          go_wp2
          go_ret
          exact ⟨by rw [HF.out]; rfl, rfl⟩
        · have hb : (p % (k : Int) == 0) = false := by rw [beq_eq_false_iff_ne]; exact hd0
          have HD := Lib.hid hd0
          clear hd0
          have hk9 : k < 10 := by
            rcases Nat.lt_or_ge k 10 with h | h
            · exact h
            · obtain rfl : k = 10 := by omega
              omega
          go_wp2
          go_round
          case rel => exact ⟨k + 1, by go_num, by omega, by omega, fun j h1 h2 => by
            by_cases hj : j = k
            · subst hj; exact HD.out
            · exact HR.out j h1 (by omega)⟩
          case measure => simp [intOf]; omega
      · have hfin : fldB p = true := fld_yes g0 g1 (k := k) (by omega) (by omega) (by omega) HR.out
        have HF := Lib.hid hfin
        clear hfin
        go_wp2
        go_ret
        exact ⟨by rw [HF.out]; rfl, rfl⟩
  · have hd : decide (2 ≤ p ∧ p ≤ 97) = false := by simpa using hin
    have hfin : fldB p = false := by
      unfold fldB
      rw [decide_eq_false_iff_not]
      exact fun h => hin ⟨h.1, h.2.1⟩
    have HF := Lib.hid hfin
    clear hfin hin
    go_enter Tryd.func206, Tryd.ntmps206
    go_wp2_with (go_at_call 137; refine (l1In_any _ _ _ _).mono ?_; rintro e w' ⟨rfl, rfl⟩)
    go_ret
    exact ⟨by rw [HF.out]; rfl, rfl⟩

end Go.Proofs.YtpeaeminjbjlnaaDoor

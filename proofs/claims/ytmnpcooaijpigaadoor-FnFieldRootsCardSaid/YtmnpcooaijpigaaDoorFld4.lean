/-
  Walks: square roots, primitive roots, quadratic roots, of the program and of the reference. Conditions: as each states.
-/
import Derived.Test.YtmnpcooaijpigaaDoorFld3
import Derived.Test.YtmnpcooaijpigaaDoorFpq
import Derived.Test.YtmnpcooaijpigaaDoorInts
namespace Go.Proofs.YtmnpcooaijpigaaDoor
open Go.RowKit
set_option linter.unusedVariables false

theorem okE_fldN1 {n a : Nat} (hk : okE n [(a : Int)] = true) : fldN n = true ∧ a < n := by
  have h := okE_bd1 hk
  rw [okE_1, Bool.and_eq_true] at hk
  rw [← fldB_nat]
  exact ⟨hk.1, by omega⟩

/-! ### square roots -/
theorem iSqrt_is (n a : Nat) (o : Option Nat) (w : World) (ht : Tab w) (hk : okE n [(a : Int)] = true) (ho : sqrtN n a = o) : Calls Tryd.prog 18 #[.int .i64 n, .int .i64 a] w (Gives (.tuple #[.int .i64 (o.getD 0 : Nat), .bool o.isSome]) w) := by
  have HT := Lib.hid ht
  obtain ⟨p0, p1, a0, a1⟩ := okE_bd1 hk
  have HO := Lib.hid ho
  clear ht ho
  go_enter Tryd.func18, Tryd.ntmps18
  go_wp2_with (go_at_call 29; refine (areElements_new n [(a : Int)] _ w HT.out (by simp)).mono ?_; rintro e w' ⟨rfl, rfl⟩)
  go_loop [13] (fun k => ∃ (k' f : Nat), k = .int .i64 k' ∧ k' + f = n ∧ sqrtN n a = firstFrom (fun x => x * x % n == a) k' f) (fun k => 200 - (intOf k).toNat)
  case atStart => exact ⟨0, n, rfl, by omega, rfl⟩
  case round =>
    obtain ⟨k, f, rfl, hkf, hr⟩ := hrel
    have HR := Lib.hid hr
    clear hr
    have hq := mul_bd (x := (k : Int)) (y := k) (X := 1000) (Y := 1000) (by omega) (by omega) (by omega) (by omega)
    obtain ⟨hq0, hq1⟩ := hq
    cases f with
    | zero =>
      have hfin : o = none := by rw [← HO.out, HR.out]; rfl
      subst hfin
      have hk1 : k = n := by omega
      subst hk1
      go_wp2
      go_ret2
      exact ⟨rfl, grownBy_alloc _ _ _⟩
    | succ f =>
      by_cases hxa : k * k % n = a
      · have hb : ((k : Int) * k % n == a) = true := by rw [beq_iff_eq]; exact_mod_cast hxa
        have hfin : o = some k := by rw [← HO.out, HR.out, firstFrom_yes (by simpa using hxa)]
        subst hfin
        clear hxa
        go_wp2
        go_ret2
        exact ⟨rfl, grownBy_alloc _ _ _⟩
      · have hb : ((k : Int) * k % n == a) = false := by rw [beq_eq_false_iff_ne]; exact_mod_cast hxa
        have hfin : sqrtN n a = firstFrom (fun x => x * x % n == a) (k + 1) f := by rw [HR.out, firstFrom_no (by simpa using hxa)]
        have HF := Lib.hid hfin
        clear hfin hxa
        go_wp2
        go_round
        case rel => exact ⟨k + 1, f, by go_num, by omega, HF.out⟩
        case measure => simp [intOf]; omega
theorem iSqrt_not (p a : Int) (w : World) (ht : Tab w) (hk : okE p [a] = false) : Calls Tryd.prog 18 #[.int .i64 p, .int .i64 a] w (Gives (.tuple #[.int .i64 0, .bool false]) w) := by
  have HT := Lib.hid ht
  clear ht
  go_enter Tryd.func18, Tryd.ntmps18
  go_wp2_with (go_at_call 29; refine (areElements_new p [a] _ w HT.out (by simp)).mono ?_; rintro e w' ⟨rfl, rfl⟩)
  go_ret2
  exact ⟨rfl, grownBy_alloc _ _ _⟩
theorem okE_20 {p a : Int} : okE p [a, 0] = okE p [a] := by
  rw [okE_2, okE_1]
  cases h : fldB p
  · rfl
  · have := fldB_bd h
    have e : elB p 0 = true := elB_iff.2 (by omega)
    rw [e, Bool.and_true]
theorem sSqrt_is (n a : Nat) (o : Option Nat) (w : World) (hk : okE n [(a : Int)] = true) (ho : sqrtN n a = o) : Calls Tryd.prog 19 #[.int .i64 n, .int .i64 a] w fun e w' => e = .returned (.tuple #[.int .i64 (o.getD 0 : Nat), .bool o.isSome]) ∧ w = w' := by
  obtain ⟨p0, p1, a0, a1⟩ := okE_bd1 hk
  have hk2 : okE n [(a : Int), 0] = true := by rw [okE_20]; exact hk
  have HO := Lib.hid ho
  clear ho
  go_enter Tryd.func19, Tryd.ntmps19
  go_wp2_with (go_at_call 31; refine (fdTwo_any _ _ _ _ (by omega) (by omega)).mono ?_; rintro e w' ⟨rfl, rfl⟩)
  go_loop [6] (fun k => ∃ (k' f : Nat), k = .int .i64 k' ∧ k' + f = n ∧ sqrtN n a = firstFrom (fun x => x * x % n == a) k' f) (fun k => 200 - (intOf k).toNat)
  case atStart => exact ⟨0, n, rfl, by omega, rfl⟩
  case round =>
    obtain ⟨k, f, rfl, hkf, hr⟩ := hrel
    have HR := Lib.hid hr
    clear hr
    have hq := mul_bd (x := (k : Int)) (y := k) (X := 1000) (Y := 1000) (by omega) (by omega) (by omega) (by omega)
    obtain ⟨hq0, hq1⟩ := hq
    cases f with
    | zero =>
      have hfin : o = none := by rw [← HO.out, HR.out]; rfl
      subst hfin
      have hk1 : k = n := by omega
      subst hk1
      go_wp2
      go_ret2
      exact ⟨rfl, rfl⟩
    | succ f =>
      by_cases hxa : k * k % n = a
      · have hb : ((k : Int) * k % n == a) = true := by rw [beq_iff_eq]; exact_mod_cast hxa
        have hfin : o = some k := by rw [← HO.out, HR.out, firstFrom_yes (by simpa using hxa)]
        subst hfin
        clear hxa
        go_wp2
        go_ret2
        exact ⟨rfl, rfl⟩
      · have hb : ((k : Int) * k % n == a) = false := by rw [beq_eq_false_iff_ne]; exact_mod_cast hxa
        have hfin : sqrtN n a = firstFrom (fun x => x * x % n == a) (k + 1) f := by rw [HR.out, firstFrom_no (by simpa using hxa)]
        have HF := Lib.hid hfin
        clear hfin hxa
        go_wp2
        go_round
        case rel => exact ⟨k + 1, f, by go_num, by omega, HF.out⟩
        case measure => simp [intOf]; omega
theorem sSqrt_not (p a : Int) (w : World) (h0 : -1000 ≤ p) (h1 : p ≤ 1000) (hk : okE p [a] = false) : Calls Tryd.prog 19 #[.int .i64 p, .int .i64 a] w fun e w' => e = .returned (.tuple #[.int .i64 0, .bool false]) ∧ w = w' := by
  have hk2 : okE p [a, 0] = false := by rw [okE_20]; exact hk
  go_enter Tryd.func19, Tryd.ntmps19
  go_wp2_with (go_at_call 31; refine (fdTwo_any _ _ _ _ h0 h1).mono ?_; rintro e w' ⟨rfl, rfl⟩)
  go_ret2
  exact ⟨rfl, rfl⟩

/-! ### primitive roots -/
theorem iPrim_ok (n : Nat) (w : World) (ht : Tab w) (hk : fldB n = true) : Calls Tryd.prog 20 #[.int .i64 n] w fun e w' => e = .returned (.tuple #[.int .i64 (primN n), .bool true]) ∧ w = w' := by
  have HT := Lib.hid ht
  obtain ⟨p0, p1⟩ := fldB_bd hk
  have hf : fldN n = true := by rw [← fldB_nat]; exact hk
  have P := prim_facts hf
  have HP := Lib.hid P
  have HFF := Lib.hid hf
  have g1 := P.lo
  have g2 := P.hi
  clear ht hf P
  go_enter Tryd.func20, Tryd.ntmps20
  go_wp2_with (go_at_call 37; refine (isField_any _ _ HT.out).mono ?_; rintro e w' ⟨rfl, rfl⟩)
  go_loop [4] (fun k => ∃ k' : Nat, k = .int .i64 k' ∧ 1 ≤ k' ∧ k' ≤ primN n) (fun k => 200 - (intOf k).toNat)
  case atStart => exact ⟨1, rfl, by omega, g1⟩
  case round =>
    obtain ⟨k, rfl, hk1, hk2⟩ := hrel
    have F := field_facts HFF.out (b := k) (by omega)
    have o1 := F.ord1 (by omega)
    have o2 := F.ord2 (by omega)
    clear F
    by_cases hkp : k = primN n
    · have ho : ordN n k = n - 1 := by rw [hkp]; exact HP.out.ord
      generalize hoo : ordN n k = q at *
      have HOO := Lib.hid hoo
      have hb : ((q : Int) == (n : Int) - 1) = true := by rw [beq_iff_eq]; omega
      have HKP := Lib.hid hkp
      clear hoo ho hkp
      go_wp2_with (go_at_call 34; refine (order_any _ _ _ (by omega) (by omega) (by omega) (by rw [HOO.out]; omega)).mono ?_; rintro e w' ⟨rfl, rfl⟩; rw [HOO.out])
      go_ret2
      exact ⟨by rw [← HKP.out]; rfl, rfl⟩
    · have ho : ordN n k ≠ n - 1 := HP.out.least k hk1 (by omega)
      generalize hoo : ordN n k = q at *
      have HOO := Lib.hid hoo
      have hb : ((q : Int) == (n : Int) - 1) = false := by rw [beq_eq_false_iff_ne]; omega
      have hk3 : k < primN n := by omega
      clear hoo ho hkp
      go_wp2_with (go_at_call 34; refine (order_any _ _ _ (by omega) (by omega) (by omega) (by rw [HOO.out]; omega)).mono ?_; rintro e w' ⟨rfl, rfl⟩; rw [HOO.out])
      go_round
      case rel => exact ⟨k + 1, by go_num, by omega, by omega⟩
      case measure => simp [intOf]; omega
theorem iPrim_no (p : Int) (w : World) (ht : Tab w) (hk : fldB p = false) : Calls Tryd.prog 20 #[.int .i64 p] w fun e w' => e = .returned (.tuple #[.int .i64 0, .bool false]) ∧ w = w' := by
  have HT := Lib.hid ht
  clear ht
  go_enter Tryd.func20, Tryd.ntmps20
  go_wp2_with (go_at_call 37; refine (isField_any _ _ HT.out).mono ?_; rintro e w' ⟨rfl, rfl⟩)
  go_ret2
  exact ⟨rfl, rfl⟩
theorem sPrim_ok (n : Nat) (w : World) (hk : fldB n = true) : Calls Tryd.prog 21 #[.int .i64 n] w fun e w' => e = .returned (.tuple #[.int .i64 (primN n), .bool true]) ∧ w = w' := by
  obtain ⟨p0, p1⟩ := fldB_bd hk
  have hf : fldN n = true := by rw [← fldB_nat]; exact hk
  have P := prim_facts hf
  have HP := Lib.hid P
  have HFF := Lib.hid hf
  have g1 := P.lo
  have g2 := P.hi
  clear hf P
  go_enter Tryd.func21, Tryd.ntmps21
  go_wp2_with (go_at_call 38; refine (fdGood_any _ _ (by omega) (by omega)).mono ?_; rintro e w' ⟨rfl, rfl⟩)
  go_loop [4] (fun k => ∃ k' : Nat, k = .int .i64 k' ∧ 1 ≤ k' ∧ k' ≤ primN n) (fun k => 200 - (intOf k).toNat)
  case atStart => exact ⟨1, rfl, by omega, g1⟩
  case round =>
    obtain ⟨k, rfl, hk1, hk2⟩ := hrel
    have F := field_facts HFF.out (b := k) (by omega)
    have o1 := F.ord1 (by omega)
    have o2 := F.ord2 (by omega)
    clear F
    by_cases hkp : k = primN n
    · have ho : ordN n k = n - 1 := by rw [hkp]; exact HP.out.ord
      generalize hoo : ordN n k = q at *
      have HOO := Lib.hid hoo
      have hb : ((q : Int) != (n : Int) - 1) = false := by rw [bne_eq_false_iff_eq]; omega
      have HKP := Lib.hid hkp
      clear hoo ho hkp
      go_wp2_with (go_at_call 39; refine (fdOrder_any _ _ _ (by omega) (by omega) (by omega) (by rw [HOO.out]; omega)).mono ?_; rintro e w' ⟨rfl, rfl⟩; rw [HOO.out])
      go_ret2
      exact ⟨by rw [← HKP.out]; rfl, rfl⟩
    · have ho : ordN n k ≠ n - 1 := HP.out.least k hk1 (by omega)
      generalize hoo : ordN n k = q at *
      have HOO := Lib.hid hoo
      have hb : ((q : Int) != (n : Int) - 1) = true := by rw [bne_iff_ne]; omega
      have hk3 : k < primN n := by omega
      clear hoo ho hkp
      go_wp2_with (go_at_call 39; refine (fdOrder_any _ _ _ (by omega) (by omega) (by omega) (by rw [HOO.out]; omega)).mono ?_; rintro e w' ⟨rfl, rfl⟩; rw [HOO.out])
      go_round
      case rel => exact ⟨k + 1, by go_num, by omega, by omega⟩
      case measure => simp [intOf]; omega
theorem sPrim_no (p : Int) (w : World) (h0 : -1000 ≤ p) (h1 : p ≤ 1000) (hk : fldB p = false) : Calls Tryd.prog 21 #[.int .i64 p] w fun e w' => e = .returned (.tuple #[.int .i64 0, .bool false]) ∧ w = w' := by
  go_enter Tryd.func21, Tryd.ntmps21
  go_wp2_with (go_at_call 38; refine (fdGood_any _ _ h0 h1).mono ?_; rintro e w' ⟨rfl, rfl⟩)
  go_ret2
  exact ⟨rfl, rfl⟩

end Go.Proofs.YtmnpcooaijpigaaDoor

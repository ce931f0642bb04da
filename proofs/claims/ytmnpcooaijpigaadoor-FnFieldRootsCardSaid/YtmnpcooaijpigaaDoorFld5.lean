/-
  Walks: quadratic roots, of the program and of the reference. Conditions: as each states.
-/
import Derived.Test.YtmnpcooaijpigaaDoorFld4
namespace Go.Proofs.YtmnpcooaijpigaaDoor
open Go.RowKit
set_option linter.unusedVariables false

theorem okE_3 (p a b c : Int) : okE p [a, b, c] = (okE p [a, b] && elB p c) := by
  simp [okE, Bool.and_assoc]
theorem okE_bd3 {p a b c : Int} (h : okE p [a, b, c] = true) : 2 ≤ p ∧ p ≤ 97 ∧ 0 ≤ a ∧ a < p ∧ 0 ≤ b ∧ b < p ∧ 0 ≤ c ∧ c < p := by
  rw [okE_3, Bool.and_eq_true, elB_iff] at h
  have := okE_bd h.1
  omega

/-- The call returns the roots, and writes nothing that was there. -/
def GivesRoots (zs : List Int) (w : World) (e : Ending) (w' : World) : Prop := ∃ v, e = .returned (.tuple #[v, .bool true]) ∧ IntsV w' v zs ∧ w.grownBy w' none

theorem quad_nat (a b c k n : Nat) : ((((a : Int) * k + b) * k + c) % n == 0) = isRoot n a b c k := by
  unfold isRoot
  rw [Bool.eq_iff_iff, beq_iff_eq, beq_iff_eq]
  have e : ((a : Int) * k + b) * k + c = ((a * k * k + b * k + c : Nat) : Int) := by push_cast; grind
  rw [e]
  omega
theorem quad_nat2 (a b c k n : Nat) : (((a : Int) * k * k + (b : Int) * k + c) % n == 0) = isRoot n a b c k := by
  rw [← quad_nat]
  congr 2
  grind

theorem iQuad_ok (n a b c : Nat) (w : World) (ht : Tab w) (hk : okE n [(a : Int), (b : Int), (c : Int)] = true) : Calls Tryd.prog 22 #[.int .i64 n, .int .i64 a, .int .i64 b, .int .i64 c] w (GivesRoots (rootsTo n a b c n) w) := by
  have HT := Lib.hid ht
  obtain ⟨p0, p1, a0, a1, b0, b1, c0, c1⟩ := okE_bd3 hk
  clear ht
  go_enter Tryd.func22, Tryd.ntmps22
  go_wp2_with (go_at_call 29; refine (areElements_new n [(a : Int), (b : Int), (c : Int)] _ w HT.out (by simp)).mono ?_; rintro e w' ⟨rfl, rfl⟩)
  go_loopw [10, 21] (fun o k wr => ∃ k' : Nat, k = .int .i64 k' ∧ k' ≤ n ∧ OwnInts w.heap.size wr o (rootsTo n a b c k') ∧ Below w.heap.size w wr) (fun _ k _ => 200 - (intOf k).toNat)
  case atStart => exact ⟨0, rfl, by omega, OwnInts.empty (by simp) (by simp), ((Below.refl _ _).alloc (Nat.le_refl _) _).alloc (by simp) _⟩
  case round =>
    obtain ⟨k, rfl, hkn, ho, hb⟩ := hrel
    have HO := Lib.hid ho; have HB := Lib.hid hb
    have hsz := hb.size
    clear ho hb
    by_cases hlt : k < n
    · obtain ⟨q0, q1⟩ := mul_bd (x := (a : Int)) (y := k) (X := 100) (Y := 100) (by omega) (by omega) (by omega) (by omega)
      obtain ⟨q2, q3⟩ := mul_bd (x := (a : Int) * k + b) (y := k) (X := 20000) (Y := 100) (by omega) (by omega) (by omega) (by omega)
      have hr := quad_nat a b c k n
      cases hroot : isRoot n a b c k
      · rw [hroot] at hr
        have HR := Lib.hid (rootsTo_no hroot)
        clear hroot
        go_wp2_with (go_at_call 30; refine (mod_any _ _ (by omega) (by omega) (by omega) (by omega) _).mono ?_; rintro e w' ⟨rfl, rfl⟩)
        go_roundw
        case rel => exact ⟨k + 1, by go_num, by omega, by rw [HR.out]; exact HO.out, HB.out⟩
        case measure => simp [intOf]; omega
      · rw [hroot] at hr
        have HR := Lib.hid (rootsTo_yes hroot)
        have hlen := rootsTo_len n a b c k
        clear hroot
        go_wp2_with (first
          | (go_at_call 30; refine (mod_any _ _ (by omega) (by omega) (by omega) (by omega) _).mono ?_; rintro e w' ⟨rfl, rfl⟩)
          | (at_builtin; refine app_int rfl _ _ rfl rfl rfl HO.out hsz (by omega) ?_; intro v' w1 hown' hbel'))
        have HO2 := Lib.hid hown'; have HB2 := Lib.hid hbel'
        clear hown' hbel'
        go_wp2
        go_roundw
        case rel => exact ⟨k + 1, by go_num, by omega, by rw [HR.out]; exact HO2.out, HB.out.trans HB2.out⟩
        case measure => simp [intOf]; omega
    · have hk1 : k = n := by omega
      subst hk1
      go_wp2
      go_ret2
      exact ⟨_, rfl, HO.out.read, grown_of_below HB.out⟩

theorem iQuad_no (p a b c : Int) (w : World) (ht : Tab w) (hk : okE p [a, b, c] = false) : Calls Tryd.prog 22 #[.int .i64 p, .int .i64 a, .int .i64 b, .int .i64 c] w (Gives (.tuple #[.slice none 0 0, .bool false]) w) := by
  have HT := Lib.hid ht
  clear ht
  go_enter Tryd.func22, Tryd.ntmps22
  go_wp2_with (go_at_call 29; refine (areElements_new p [a, b, c] _ w HT.out (by simp)).mono ?_; rintro e w' ⟨rfl, rfl⟩)
  go_ret2
  exact ⟨rfl, grownBy_alloc _ _ _⟩

theorem sQuad_ok (n a b c : Nat) (w : World) (hk : okE n [(a : Int), (b : Int), (c : Int)] = true) : Calls Tryd.prog 24 #[.int .i64 n, .int .i64 a, .int .i64 b, .int .i64 c] w (GivesRoots (rootsTo n a b c n) w) := by
  obtain ⟨p0, p1, a0, a1, b0, b1, c0, c1⟩ := okE_bd3 hk
  have hk1 : okE n [(a : Int), (b : Int)] = true := by rw [okE_3, Bool.and_eq_true] at hk; exact hk.1
  have hk2 : elB n c = true := by rw [okE_3, Bool.and_eq_true] at hk; exact hk.2
  go_enter Tryd.func24, Tryd.ntmps24
  go_wp2_with (first
    | (go_at_call 31; refine (fdTwo_any _ _ _ _ (by omega) (by omega)).mono ?_; rintro e w' ⟨rfl, rfl⟩)
    | (go_at_call 42; refine (l1In_el _ _ _).mono ?_; rintro e w' ⟨rfl, rfl⟩))
  go_loopw [10, 11] (fun o k wr => ∃ k' : Nat, k = .int .i64 k' ∧ k' ≤ n ∧ OwnInts w.heap.size wr o (rootsTo n a b c k') ∧ Below w.heap.size w wr) (fun _ k _ => 200 - (intOf k).toNat)
  case atStart => exact ⟨0, rfl, by omega, OwnInts.nil _ _, Below.refl _ _⟩
  case round =>
    obtain ⟨k, rfl, hkn, ho, hb⟩ := hrel
    have HO := Lib.hid ho; have HB := Lib.hid hb
    have hsz := hb.size
    clear ho hb
    by_cases hlt : k < n
    · obtain ⟨q0, q1⟩ := mul_bd (x := (a : Int)) (y := k) (X := 100) (Y := 100) (by omega) (by omega) (by omega) (by omega)
      obtain ⟨q2, q3⟩ := mul_bd (x := (a : Int) * k) (y := k) (X := 10000) (Y := 100) (by omega) (by omega) (by omega) (by omega)
      obtain ⟨q4, q5⟩ := mul_bd (x := (b : Int)) (y := k) (X := 100) (Y := 100) (by omega) (by omega) (by omega) (by omega)
      have hr := quad_nat2 a b c k n
      cases hroot : isRoot n a b c k
      · rw [hroot] at hr
        have HR := Lib.hid (rootsTo_no hroot)
        clear hroot
        go_wp2
        go_roundw
        case rel => exact ⟨k + 1, by go_num, by omega, by rw [HR.out]; exact HO.out, HB.out⟩
        case measure => simp [intOf]; omega
      · rw [hroot] at hr
        have HR := Lib.hid (rootsTo_yes hroot)
        have hlen := rootsTo_len n a b c k
        clear hroot
        go_wp2_with (at_builtin; refine app_int rfl _ _ rfl rfl rfl HO.out hsz (by omega) ?_; intro v' w1 hown' hbel')
        have HO2 := Lib.hid hown'; have HB2 := Lib.hid hbel'
        clear hown' hbel'
        go_wp2
        go_roundw
        case rel => exact ⟨k + 1, by go_num, by omega, by rw [HR.out]; exact HO2.out, HB.out.trans HB2.out⟩
        case measure => simp [intOf]; omega
    · have hk1 : k = n := by omega
      subst hk1
      go_wp2
      go_ret2
      exact ⟨_, rfl, HO.out.read, grown_of_below HB.out⟩

theorem sQuad_no (p a b c : Int) (w : World) (h0 : -1000 ≤ p) (h1 : p ≤ 1000) (hk : okE p [a, b, c] = false) : Calls Tryd.prog 24 #[.int .i64 p, .int .i64 a, .int .i64 b, .int .i64 c] w fun e w' => e = .returned (.tuple #[.slice none 0 0, .bool false]) ∧ w = w' := by
  rw [okE_3] at hk
  cases hk1 : okE p [a, b] <;> cases hk2 : elB p c
  case true.true => rw [hk1, hk2] at hk; cases hk
  all_goals
    clear hk
    go_enter Tryd.func24, Tryd.ntmps24
    go_wp2_with (first
      | (go_at_call 31; refine (fdTwo_any _ _ _ _ h0 h1).mono ?_; rintro e w' ⟨rfl, rfl⟩)
      | (go_at_call 42; refine (l1In_el _ _ _).mono ?_; rintro e w' ⟨rfl, rfl⟩))
    go_ret2
    exact ⟨rfl, rfl⟩

end Go.Proofs.YtmnpcooaijpigaaDoor

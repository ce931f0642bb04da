/-
  The exported functions of chapter 1 that the law on fields calls. Conditions: as each states.
-/
import Derived.Test.YtmnpcooaijpigaaDoorFld2
namespace Go.Proofs.YtmnpcooaijpigaaDoor
open Go.RowKit
set_option linter.unusedVariables false

/-- A call that returns v and writes nothing that was there. -/
def Gives (v : Value) (w : World) (e : Ending) (w' : World) : Prop := e = .returned v ∧ w.grownBy w' none

theorem okE_2 (p a b : Int) : okE p [a, b] = (fldB p && (elB p a && elB p b)) := by simp [okE]
theorem okE_1 (p a : Int) : okE p [a] = (fldB p && elB p a) := by simp [okE]

theorem l1In_el (p a : Int) (w : World) : Calls Tryd.prog 42 #[.int .i64 a, .int .i64 0, .int .i64 (p - 1)] w fun e w' => e = .returned (.bool (elB p a)) ∧ w = w' := by
  have h : decide (0 ≤ a ∧ a ≤ p - 1) = elB p a := by unfold elB; exact decide_eq_decide.2 (by omega)
  rw [← h]
  exact l1In_any _ _ _ _

theorem fdTwo_any (p a b : Int) (w : World) (h0 : -1000 ≤ p) (h1 : p ≤ 1000) : Calls Tryd.prog 31 #[.int .i64 p, .int .i64 a, .int .i64 b] w fun e w' => e = .returned (.bool (okE p [a, b])) ∧ w = w' := by
  rw [okE_2]
  cases hf : fldB p <;> cases ha : elB p a <;> cases hb : elB p b
  all_goals
    go_enter Tryd.func31, Tryd.ntmps31
    go_wp2_with (first
      | (go_at_call 38; refine (fdGood_any _ _ h0 h1).mono ?_; rintro e w' ⟨rfl, rfl⟩)
      | (go_at_call 42; refine (l1In_el _ _ _).mono ?_; rintro e w' ⟨rfl, rfl⟩))
    go_ret
    exact ⟨rfl, rfl⟩

theorem fdMul_any (p a b : Int) (w : World) (hp : 1 ≤ p) (hp2 : p ≤ 1000) (ha : 0 ≤ a) (ha2 : a ≤ 1000) (hb : 0 ≤ b) (hb2 : b ≤ 1000) : Calls Tryd.prog 32 #[.int .i64 p, .int .i64 a, .int .i64 b] w fun e w' => e = .returned (.int .i64 (a * b % p)) ∧ w = w' := by
  have h0 : 0 ≤ a * b := Int.mul_nonneg ha hb
  have h1 : a * b ≤ 1000 * 1000 := Int.mul_le_mul ha2 hb2 hb (by omega)
  go_enter Tryd.func32, Tryd.ntmps32
  go_wp2
  go_ret
  exact ⟨rfl, rfl⟩

theorem okE_bd {p a b : Int} (h : okE p [a, b] = true) : 2 ≤ p ∧ p ≤ 97 ∧ 0 ≤ a ∧ a < p ∧ 0 ≤ b ∧ b < p := by
  rw [okE_2, Bool.and_eq_true, Bool.and_eq_true, elB_iff, elB_iff] at h
  have := fldB_bd h.1
  omega
theorem okE_bd1 {p a : Int} (h : okE p [a] = true) : 2 ≤ p ∧ p ≤ 97 ∧ 0 ≤ a ∧ a < p := by
  rw [okE_1, Bool.and_eq_true, elB_iff] at h
  have := fldB_bd h.1
  omega

theorem sFieldMul_no (p a b : Int) (w : World) (h0 : -1000 ≤ p) (h1 : p ≤ 1000) (hk : okE p [a, b] = false) : Calls Tryd.prog 9 #[.int .i64 p, .int .i64 a, .int .i64 b] w fun e w' => e = .returned (.tuple #[.int .i64 0, .bool false]) ∧ w = w' := by
  go_enter Tryd.func9, Tryd.ntmps9
  go_wp2_with (go_at_call 31; refine (fdTwo_any _ _ _ _ h0 h1).mono ?_; rintro e w' ⟨rfl, rfl⟩)
  go_ret2
  exact ⟨rfl, rfl⟩
theorem sFieldMul_ok (p a b : Int) (w : World) (hk : okE p [a, b] = true) : Calls Tryd.prog 9 #[.int .i64 p, .int .i64 a, .int .i64 b] w fun e w' => e = .returned (.tuple #[.int .i64 (a * b % p), .bool true]) ∧ w = w' := by
  obtain ⟨p0, p1, a0, a1, b0, b1⟩ := okE_bd hk
  go_enter Tryd.func9, Tryd.ntmps9
  go_wp2_with (first
    | (go_at_call 31; refine (fdTwo_any _ _ _ _ (by omega) (by omega)).mono ?_; rintro e w' ⟨rfl, rfl⟩)
    | (go_at_call 32; refine (fdMul_any _ _ _ _ (by omega) (by omega) a0 (by omega) b0 (by omega)).mono ?_; rintro e w' ⟨rfl, rfl⟩))
  go_ret2
  exact ⟨rfl, rfl⟩

/-- areElements over a literal list that has just been laid. -/
theorem areElements_new (p : Int) (zs : List Int) (t : TypeId) (w : World) (ht : Tab w) (hl : zs.length ≤ 1000000) :
    Calls Tryd.prog 29 #[.int .i64 p, .slice (some ⟨w.heap.size, 0, none⟩) zs.length zs.length] (w.alloc (.cells (zs.map (Value.int .i64)).toArray t)) fun e w' => e = .returned (.bool (okE p zs)) ∧ w.alloc (.cells (zs.map (Value.int .i64)).toArray t) = w' :=
  areElements_any p ⟨w.heap.size, 0, none⟩ zs.length zs _ (ht.alloc _) rfl (intsAt_new w zs t) hl

theorem iFieldMul_no (p a b : Int) (w : World) (ht : Tab w) (hk : okE p [a, b] = false) : Calls Tryd.prog 8 #[.int .i64 p, .int .i64 a, .int .i64 b] w (Gives (.tuple #[.int .i64 0, .bool false]) w) := by
  have HT := Lib.hid ht
  clear ht
  go_enter Tryd.func8, Tryd.ntmps8
  go_wp2_with (go_at_call 29; refine (areElements_new p [a, b] _ w HT.out (by simp)).mono ?_; rintro e w' ⟨rfl, rfl⟩)
  go_ret2
  exact ⟨rfl, grownBy_alloc _ _ _⟩
theorem iFieldMul_ok (p a b : Int) (w : World) (ht : Tab w) (hk : okE p [a, b] = true) : Calls Tryd.prog 8 #[.int .i64 p, .int .i64 a, .int .i64 b] w (Gives (.tuple #[.int .i64 (a * b % p), .bool true]) w) := by
  have HT := Lib.hid ht
  obtain ⟨p0, p1, a0, a1, b0, b1⟩ := okE_bd hk
  have h0 : 0 ≤ a * b := Int.mul_nonneg a0 b0
  have h1 : a * b ≤ 1000 * 1000 := Int.mul_le_mul (by omega) (by omega) b0 (by omega)
  clear ht
  go_enter Tryd.func8, Tryd.ntmps8
  go_wp2_with (first
    | (go_at_call 29; refine (areElements_new p [a, b] _ w HT.out (by simp)).mono ?_; rintro e w' ⟨rfl, rfl⟩)
    | (go_at_call 30; refine (mod_any _ _ (by omega) (by omega) (by omega) (by omega) _).mono ?_; rintro e w' ⟨rfl, rfl⟩))
  go_ret2
  exact ⟨rfl, grownBy_alloc _ _ _⟩
theorem iFieldAdd_ok (p a b : Int) (w : World) (ht : Tab w) (hk : okE p [a, b] = true) : Calls Tryd.prog 10 #[.int .i64 p, .int .i64 a, .int .i64 b] w (Gives (.tuple #[.int .i64 ((a + b) % p), .bool true]) w) := by
  have HT := Lib.hid ht
  obtain ⟨p0, p1, a0, a1, b0, b1⟩ := okE_bd hk
  clear ht
  go_enter Tryd.func10, Tryd.ntmps10
  go_wp2_with (first
    | (go_at_call 29; refine (areElements_new p [a, b] _ w HT.out (by simp)).mono ?_; rintro e w' ⟨rfl, rfl⟩)
    | (go_at_call 30; refine (mod_any _ _ (by omega) (by omega) (by omega) (by omega) _).mono ?_; rintro e w' ⟨rfl, rfl⟩))
  go_ret2
  exact ⟨rfl, grownBy_alloc _ _ _⟩

theorem iFieldInverse_zero (p : Int) (w : World) (ht : Tab w) (hk : okE p [0] = true) : Calls Tryd.prog 11 #[.int .i64 p, .int .i64 0] w (Gives (.tuple #[.int .i64 0, .bool false]) w) := by
  have HT := Lib.hid ht
  clear ht
  go_enter Tryd.func11, Tryd.ntmps11
  go_wp2_with (go_at_call 29; refine (areElements_new p [0] _ w HT.out (by simp)).mono ?_; rintro e w' ⟨rfl, rfl⟩)
  go_ret2
  exact ⟨rfl, grownBy_alloc _ _ _⟩
theorem iFieldInverse_ok (p a : Int) (w : World) (ht : Tab w) (hk : okE p [a] = true) (hz : (a == 0) = false) : Calls Tryd.prog 11 #[.int .i64 p, .int .i64 a] w (Gives (.tuple #[.int .i64 (invI p a), .bool true]) w) := by
  have HT := Lib.hid ht
  obtain ⟨p0, p1, a0, a1⟩ := okE_bd1 hk
  clear ht
  go_enter Tryd.func11, Tryd.ntmps11
  go_wp2_with (first
    | (go_at_call 29; refine (areElements_new p [a] _ w HT.out (by simp)).mono ?_; rintro e w' ⟨rfl, rfl⟩)
    | (go_at_call 33; refine (inverse_any _ _ _ (by omega) (by omega) (by omega) (by omega)).mono ?_; rintro e w' ⟨rfl, rfl⟩))
  go_ret2
  exact ⟨rfl, grownBy_alloc _ _ _⟩

theorem iElementOrder_ok (n b : Nat) (w : World) (ht : Tab w) (hk : okE n [(b : Int)] = true) (hz : ((b : Int) == 0) = false) : Calls Tryd.prog 12 #[.int .i64 n, .int .i64 b] w (Gives (.tuple #[.int .i64 (ordN n b), .bool true]) w) := by
  have HT := Lib.hid ht
  obtain ⟨p0, p1, a0, a1⟩ := okE_bd1 hk
  have hf : fldN n = true := by rw [okE_1, Bool.and_eq_true] at hk; rw [← fldB_nat]; exact hk.1
  have hb0 : b ≠ 0 := by rw [beq_eq_false_iff_ne] at hz; omega
  have ho : ordN n b ≠ 0 := by have := (field_facts hf (b := b) (by omega)).ord1 hb0; omega
  have HO := Lib.hid ho
  clear ht ho hf hb0
  go_enter Tryd.func12, Tryd.ntmps12
  go_wp2_with (first
    | (go_at_call 29; refine (areElements_new n [(b : Int)] _ w HT.out (by simp)).mono ?_; rintro e w' ⟨rfl, rfl⟩)
    | (go_at_call 34; refine (order_any _ _ _ (by omega) (by omega) (by omega) HO.out).mono ?_; rintro e w' ⟨rfl, rfl⟩))
  go_ret2
  exact ⟨rfl, grownBy_alloc _ _ _⟩

theorem iFieldPower_pos (p a n : Int) (w : World) (ht : Tab w) (hk : okE p [a] = true) (hn : 0 ≤ n) (hn2 : n ≤ 10000) : Calls Tryd.prog 13 #[.int .i64 p, .int .i64 a, .int .i64 n] w (Gives (.tuple #[.int .i64 (a ^ n.toNat % p), .bool true]) w) := by
  have HT := Lib.hid ht
  obtain ⟨p0, p1, a0, a1⟩ := okE_bd1 hk
  clear ht
  go_enter Tryd.func13, Tryd.ntmps13
  go_wp2_with (first
    | (go_at_call 29; refine (areElements_new p [a] _ w HT.out (by simp)).mono ?_; rintro e w' ⟨rfl, rfl⟩)
    | (go_at_call 35; refine (power_any _ _ _ _ (by omega) (by omega) (by omega) (by omega) hn (by omega)).mono ?_; rintro e w' ⟨rfl, rfl⟩))
  go_ret2
  exact ⟨rfl, grownBy_alloc _ _ _⟩

theorem invI_bd {p a : Int} (hp : 2 ≤ p) : 0 ≤ invI p a ∧ invI p a < p := ⟨Int.emod_nonneg _ (by omega), Int.emod_lt_of_pos _ (by omega)⟩
theorem iFieldPower_neg (p a : Int) (w : World) (ht : Tab w) (hk : okE p [a] = true) (hz : (a == 0) = false) : Calls Tryd.prog 13 #[.int .i64 p, .int .i64 a, .int .i64 (-1)] w (Gives (.tuple #[.int .i64 (invI p a), .bool true]) w) := by
  have HT := Lib.hid ht
  obtain ⟨p0, p1, a0, a1⟩ := okE_bd1 hk
  obtain ⟨i0, i1⟩ := invI_bd (a := a) p0
  have hfin : invI p a ^ 1 % p = invI p a := by
    rw [Int.pow_one, Int.emod_eq_of_lt i0 i1]
  have HF := Lib.hid hfin
  clear ht hfin
  go_enter Tryd.func13, Tryd.ntmps13
  go_wp2_with (first
    | (go_at_call 29; refine (areElements_new p [a] _ w HT.out (by simp)).mono ?_; rintro e w' ⟨rfl, rfl⟩)
    | (go_at_call 33; refine (inverse_any _ _ _ (by omega) (by omega) (by omega) (by omega)).mono ?_; rintro e w' ⟨rfl, rfl⟩)
    | (go_at_call 35; refine (power_any _ _ _ _ (by omega) (by omega) (by omega) (by omega) (by omega) (by omega)).mono ?_; rintro e w' ⟨rfl, rfl⟩))
  go_ret2
  refine ⟨?_, grownBy_alloc _ _ _⟩
  show Ending.returned (.tuple #[.int .i64 (invI p a ^ 1 % p), .bool true]) = _
  rw [HF.out]

/-! ### logarithms -/
def logV (o : Option Nat) : Value := .tuple #[.int .i64 (o.getD 0 : Nat), .bool o.isSome]

theorem iDiscreteLog_ok (n b a : Nat) (w : World) (ht : Tab w) (hk : okE n [(b : Int), (a : Int)] = true) : Calls Tryd.prog 15 #[.int .i64 n, .int .i64 b, .int .i64 a] w (Gives (logV (logN n b a)) w) := by
  have HT := Lib.hid ht
  obtain ⟨p0, p1, b0, b1, a0, a1⟩ := okE_bd hk
  have hf : fldN n = true := by rw [okE_2, Bool.and_eq_true] at hk; rw [← fldB_nat]; exact hk.1
  have HL := Lib.hid (log_more (a := a) hf (b := b) (by omega))
  clear ht hf
  go_enter Tryd.func15, Tryd.ntmps15
  go_wp2_with (go_at_call 29; refine (areElements_new n [(b : Int), (a : Int)] _ w HT.out (by simp)).mono ?_; rintro e w' ⟨rfl, rfl⟩)
  go_loop [8, 9] (fun x k => ∃ (k' f : Nat), k = .int .i64 k' ∧ x = .int .i64 (b ^ k' % n : Nat) ∧ k' + f = n + 1 ∧ logN n b a = firstFrom (fun k => b ^ k % n == a) k' f) (fun _ k => 200 - (intOf k).toNat)
  case atStart => exact ⟨0, n + 1, rfl, by rw [Nat.pow_zero, Nat.mod_eq_of_lt (by omega)]; rfl, by omega, HL.out.symm⟩
  case round =>
    obtain ⟨k, f, rfl, rfl, hkf, hr⟩ := hrel
    have HR := Lib.hid hr
    clear hr
    have hx : b ^ k % n < n := Nat.mod_lt _ (by omega)
    have hs : b ^ k % n * b % n = b ^ (k + 1) % n := by rw [Nat.mod_mul_mod, Nat.pow_succ]
    have HS := Lib.hid hs
    generalize hxx : b ^ k % n = x at *
    have HX := Lib.hid hxx
    have hq0 : (0 : Int) ≤ (x : Int) * b := by rw [← Int.natCast_mul]; omega
    have hq1 : (x : Int) * b ≤ 1000 * 1000 := Int.mul_le_mul (by omega) (by omega) (by omega) (by omega)
    clear hxx hs
    cases f with
    | zero =>
      have hfin : logN n b a = none := HR.out
      have HF := Lib.hid hfin
      clear hfin
      have hk1 : k = n + 1 := by omega
      subst hk1
      go_wp2
      go_ret2
      exact ⟨by rw [HF.out]; rfl, grownBy_alloc _ _ _⟩
    | succ f =>
      by_cases hxa : x = a
      · have hb : ((x : Int) == a) = true := by rw [beq_iff_eq]; omega
        have hfin : logN n b a = some k := by rw [HR.out, firstFrom_yes (by rw [HX.out, hxa]; simp)]
        have HF := Lib.hid hfin
        clear hfin hxa
        go_wp2
        go_ret2
        exact ⟨by rw [HF.out]; rfl, grownBy_alloc _ _ _⟩
      · have hb : ((x : Int) == a) = false := by rw [beq_eq_false_iff_ne]; omega
        have hfin : logN n b a = firstFrom (fun k => b ^ k % n == a) (k + 1) f := by rw [HR.out, firstFrom_no (by rw [HX.out]; simpa using hxa)]
        have HF := Lib.hid hfin
        clear hfin hxa
        go_wp2
        go_round
        case rel => exact ⟨k + 1, f, by go_num, by rw [← HS.out]; go_num, by omega, HF.out⟩
        case measure => simp [intOf]; omega
theorem iDiscreteLog_no (p b a : Int) (w : World) (ht : Tab w) (hk : okE p [b, a] = false) : Calls Tryd.prog 15 #[.int .i64 p, .int .i64 b, .int .i64 a] w (Gives (logV none) w) := by
  have HT := Lib.hid ht
  clear ht
  go_enter Tryd.func15, Tryd.ntmps15
  go_wp2_with (go_at_call 29; refine (areElements_new p [b, a] _ w HT.out (by simp)).mono ?_; rintro e w' ⟨rfl, rfl⟩)
  go_ret2
  exact ⟨rfl, grownBy_alloc _ _ _⟩

theorem sDiscreteLog_ok (n b a : Nat) (w : World) (hk : okE n [(b : Int), (a : Int)] = true) : Calls Tryd.prog 16 #[.int .i64 n, .int .i64 b, .int .i64 a] w fun e w' => e = .returned (logV (logN n b a)) ∧ w = w' := by
  obtain ⟨p0, p1, b0, b1, a0, a1⟩ := okE_bd hk
  go_enter Tryd.func16, Tryd.ntmps16
  go_wp2_with (go_at_call 31; refine (fdTwo_any _ _ _ _ (by omega) (by omega)).mono ?_; rintro e w' ⟨rfl, rfl⟩)
  go_loop [8, 9] (fun x k => ∃ (k' f : Nat), k = .int .i64 k' ∧ x = .int .i64 (b ^ k' % n : Nat) ∧ k' + f = n ∧ logN n b a = firstFrom (fun k => b ^ k % n == a) k' f) (fun _ k => 200 - (intOf k).toNat)
  case atStart => exact ⟨0, n, rfl, by rw [Nat.pow_zero, Nat.mod_eq_of_lt (by omega)]; rfl, by omega, rfl⟩
  case round =>
    obtain ⟨k, f, rfl, rfl, hkf, hr⟩ := hrel
    have HR := Lib.hid hr
    clear hr
    have hx : b ^ k % n < n := Nat.mod_lt _ (by omega)
    have hs : b ^ k % n * b % n = b ^ (k + 1) % n := by rw [Nat.mod_mul_mod, Nat.pow_succ]
    have HS := Lib.hid hs
    generalize hxx : b ^ k % n = x at *
    have HX := Lib.hid hxx
    have hq0 : (0 : Int) ≤ (x : Int) * b := by rw [← Int.natCast_mul]; omega
    have hq1 : (x : Int) * b ≤ 1000 * 1000 := Int.mul_le_mul (by omega) (by omega) (by omega) (by omega)
    clear hxx hs
    cases f with
    | zero =>
      have hfin : logN n b a = none := HR.out
      have HF := Lib.hid hfin
      clear hfin
      have hk1 : k = n := by omega
      subst hk1
      go_wp2
      go_ret2
      exact ⟨by rw [HF.out]; rfl, rfl⟩
    | succ f =>
      by_cases hxa : x = a
      · have hb : ((x : Int) == a) = true := by rw [beq_iff_eq]; omega
        have hfin : logN n b a = some k := by rw [HR.out, firstFrom_yes (by rw [HX.out, hxa]; simp)]
        have HF := Lib.hid hfin
        clear hfin hxa
        go_wp2
        go_ret2
        exact ⟨by rw [HF.out]; rfl, rfl⟩
      · have hb : ((x : Int) == a) = false := by rw [beq_eq_false_iff_ne]; omega
        have hfin : logN n b a = firstFrom (fun k => b ^ k % n == a) (k + 1) f := by rw [HR.out, firstFrom_no (by rw [HX.out]; simpa using hxa)]
        have HF := Lib.hid hfin
        clear hfin hxa
        go_wp2
        go_round
        case rel => exact ⟨k + 1, f, by go_num, by rw [← HS.out]; go_num, by omega, HF.out⟩
        case measure => simp [intOf]; omega
theorem sDiscreteLog_no (p b a : Int) (w : World) (h0 : -1000 ≤ p) (h1 : p ≤ 1000) (hk : okE p [b, a] = false) : Calls Tryd.prog 16 #[.int .i64 p, .int .i64 b, .int .i64 a] w fun e w' => e = .returned (logV none) ∧ w = w' := by
  go_enter Tryd.func16, Tryd.ntmps16
  go_wp2_with (go_at_call 31; refine (fdTwo_any _ _ _ _ h0 h1).mono ?_; rintro e w' ⟨rfl, rfl⟩)
  go_ret2
  exact ⟨rfl, rfl⟩

end Go.Proofs.YtmnpcooaijpigaaDoor

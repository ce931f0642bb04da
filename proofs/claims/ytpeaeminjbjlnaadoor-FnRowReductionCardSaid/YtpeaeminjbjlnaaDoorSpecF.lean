/-
  The specification's field functions and its matrix check. Conditions: the numbers are small.
-/
import Derived.Test.YtpeaeminjbjlnaaDoorSame
namespace Go.Proofs.YtpeaeminjbjlnaaDoor
open Go.RowKit
set_option linter.unusedVariables false

theorem pSame_any (ca cb : Int) (u v : Value) (A L : List (List Int)) (w : World) (hu : MatV w u A) (hv : MatV w v L) (l1 : A.length ≤ 1000000) (l2 : L.length ≤ 1000000) (m1 : ∀ row ∈ A, row.length ≤ 1000000) (m2 : ∀ row ∈ L, row.length ≤ 1000000) :
    Calls Tryd.prog 28 #[mxV ca u, mxV cb v] w fun e w' => e = .returned (.bool (ca == cb && A == L)) ∧ w.grownBy w' none := by
  have HS := Lib.hid fun w1 (hg : w.grownBy w1 none) => sameLists_q u v A L w1 (hu.carry hg) (hv.carry hg) l1 l2 m1 m2
  obtain ⟨ua, uc, rfl⟩ := hu.shape
  obtain ⟨va, vc, rfl⟩ := hv.shape
  clear hu hv m1 m2
  unfold mxV
  generalize A.length = la at *
  generalize L.length = ll at *
  have HG := Lib.hid fun o1 o2 => (grownBy_alloc w o1 none).trans (grownBy_alloc _ o2 none)
  by_cases h : ca = cb
  · have hb : (ca == cb) = true := beq_iff_eq.2 h
    have HB := Lib.hid hb
    generalize hx : (A == L) = x at *
    have HX := Lib.hid hx
    clear hx
    go_enter Tryd.func28, Tryd.ntmps28
    go_wp2_with (go_at_call 53; with_reducible refine (HS.out _ (HG.out _ _)).mono ?_; rintro e w' ⟨rfl, q, rfl⟩)
    go_ret
    exact ⟨by rw [HB.out]; rfl, (HG.out _ _).trans (grown_drewN _ _)⟩
  · have hb : (ca == cb) = false := beq_eq_false_iff_ne.2 h
    have HB := Lib.hid hb
    go_enter Tryd.func28, Tryd.ntmps28
    go_wp2
    go_ret
    exact ⟨by rw [HB.out]; rfl, HG.out _ _⟩

theorem fdMulS_any (p a b : Int) (w : World) (hp : 1 ≤ p) (hp2 : p ≤ 1000) (ha : 0 ≤ a) (ha2 : a ≤ 1000) (hb : 0 ≤ b) (hb2 : b ≤ 1000) : Calls Tryd.prog 199 #[.int .i64 p, .int .i64 a, .int .i64 b] w fun e w' => e = .returned (.int .i64 (a * b % p)) ∧ w = w' := by
  have h := mul_bd ha ha2 hb hb2
  have h1 := Int.emod_nonneg (a * b) (show p ≠ 0 by omega)
  have h2 := Int.emod_lt_of_pos (a * b) (show 0 < p by omega)
  go_enter Tryd.func199, Tryd.ntmps199
  go_wp2
  go_ret
  exact ⟨rfl, rfl⟩
theorem fdSubS_any (p a b : Int) (w : World) (hp : 1 ≤ p) (hp2 : p ≤ 1000) (ha : 0 ≤ a) (ha2 : a ≤ 1000) (hb : 0 ≤ b) (hb2 : b ≤ p) : Calls Tryd.prog 245 #[.int .i64 p, .int .i64 a, .int .i64 b] w fun e w' => e = .returned (.int .i64 ((a + p - b) % p)) ∧ w = w' := by
  have h1 := Int.emod_nonneg (a + p - b) (show p ≠ 0 by omega)
  have h2 := Int.emod_lt_of_pos (a + p - b) (show 0 < p by omega)
  have h3 : 0 ≤ a + p - b := by omega
  go_enter Tryd.func245, Tryd.ntmps245
  go_wp2
  go_ret
  exact ⟨rfl, rfl⟩

theorem fdNegS_any (p a : Int) (w : World) (hp : 1 ≤ p) (hp2 : p ≤ 1000) (ha : 0 ≤ a) (ha2 : a ≤ p) : Calls Tryd.prog 237 #[.int .i64 p, .int .i64 a] w fun e w' => ∃ r, e = .returned (.int .i64 r) ∧ 0 ≤ r ∧ r < p ∧ w = w' := by
  have h1 := Int.emod_nonneg (p - a) (show p ≠ 0 by omega)
  have h2 := Int.emod_lt_of_pos (p - a) (show 0 < p by omega)
  have H := Lib.hid (And.intro h1 h2)
  obtain ⟨d, hd⟩ : ∃ d, d = p - a := ⟨_, rfl⟩
  clear h1 h2
  go_enter Tryd.func237, Tryd.ntmps237
  go_wp2
  go_ret
  refine ⟨_, rfl, ?_, ?_, rfl⟩
  · have := H.out.1; simpa using this
  · have := H.out.2; simpa using this

theorem inv_unique {p : Nat} [NeZero p] {a x : Int} (hf : fldN p = true) (ha : 0 < a) (ha2 : a < p) (hx : 0 ≤ x) (hx2 : x < p) (h : a * x % p = 1) : x = invI p a := by
  have h1 := toF_inv hf ha ha2
  have hp := lt_p hf
  have h2 : toF p a * toF p x = 1 := by
    rw [← toF_mul, ← toF_one, toF_eq, h, Int.emod_eq_of_lt (by omega) (by omega)]
  have h3 : toF p x = toF p (invI p a) := by
    have : toF p x = toF p x * (toF p a * toF p (invI p a)) := by rw [h1]; grind
    rw [this]
    grind
  have hb : 0 ≤ invI p a ∧ invI p a < p := by
    unfold invI
    exact ⟨Int.emod_nonneg _ (by omega), Int.emod_lt_of_pos _ (by omega)⟩
  exact toF_inj hx hx2 hb.1 hb.2 h3
theorem inv_ok {p : Nat} [NeZero p] {a : Int} (hf : fldN p = true) (ha : 0 < a) (ha2 : a < p) : a * invI p a % p = 1 ∧ 1 ≤ invI p a ∧ invI p a < p := by
  have h1 := toF_inv hf ha ha2
  have hp := lt_p hf
  rw [← toF_mul, ← toF_one, toF_eq, Int.emod_eq_of_lt (show (0 : Int) ≤ 1 by omega) (by omega)] at h1
  have hb : 0 ≤ invI p a ∧ invI p a < p := by
    unfold invI
    exact ⟨Int.emod_nonneg _ (by omega), Int.emod_lt_of_pos _ (by omega)⟩
  refine ⟨h1, ?_, hb.2⟩
  rcases Int.lt_or_le (invI p a) 1 with h | h
  · have : invI p a = 0 := by omega
    rw [this] at h1
    simp at h1
  · exact h

theorem fdInvS_any (p : Nat) [NeZero p] (a : Int) (w : World) (hf : fldN p = true) (hp2 : p ≤ 1000) (ha : 0 < a) (ha2 : a < p) : Calls Tryd.prog 198 #[.int .i64 p, .int .i64 a] w fun e w' => e = .returned (.int .i64 (invI p a)) ∧ w = w' := by
  have hp := lt_p hf
  have HU := Lib.hid fun x h1 h2 h3 => inv_unique (x := x) hf ha ha2 h1 h2 h3
  have HOK := Lib.hid (inv_ok hf ha ha2)
  clear hf
  go_enter Tryd.func198, Tryd.ntmps198
  go_wp2
  go_loop [5] (fun i => ∃ k : Nat, 1 ≤ k ∧ k ≤ p ∧ i = .int .i64 k ∧ ∀ j : Nat, 1 ≤ j → j < k → a * j % p ≠ 1) (fun i => p - (intOf i).toNat)
  case atStart => exact ⟨1, by omega, by omega, rfl, fun j h1 h2 => absurd h1 (by omega)⟩
  case round =>
    obtain ⟨k, hk1, hk, rfl, ho⟩ := hrel
    have HO := Lib.hid ho
    clear ho
    by_cases hlt : k < p
    · have b1 := mul_bd (x := a) (y := k) (X := 1000) (Y := 1000) (by omega) (by omega) (by omega) (by omega)
      have b2 := Int.emod_nonneg (a * k) (show (p : Int) ≠ 0 by omega)
      have b3 := Int.emod_lt_of_pos (a * k) (show (0 : Int) < p by omega)
      by_cases h1 : a * k % p = 1
      · have hb : (a * k % p == 1) = true := beq_iff_eq.2 h1
        have HE := Lib.hid (HU.out k (by omega) (by omega) h1)
        clear h1
        go_wp2
        go_ret
        exact ⟨by rw [← HE.out]; rfl, rfl⟩
      · have hb : (a * k % p == 1) = false := beq_eq_false_iff_ne.2 h1
        have HE := Lib.hid h1
        clear h1
        go_wp2
        go_round
        case rel => exact ⟨k + 1, by omega, by omega, by go_num, fun j h2 h3 => by
          by_cases hj : j = k
          · subst hj; exact HE.out
          · exact HO.out j h2 (by omega)⟩
        case measure => simp [intOf]; omega
    · exfalso
      obtain ⟨h1, h2, h3⟩ := HOK.out
      refine HO.out (invI p a).toNat (by omega) (by omega) ?_
      rw [Int.toNat_of_nonneg (by omega)]
      exact h1

end Go.Proofs.YtpeaeminjbjlnaaDoor

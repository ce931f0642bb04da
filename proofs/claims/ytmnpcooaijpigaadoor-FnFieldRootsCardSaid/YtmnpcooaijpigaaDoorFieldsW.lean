/-
  The law on fields: its walk. Conditions: both arguments read as bytes; the table of small primes holds what its text lays.
-/
import Derived.Test.YtmnpcooaijpigaaDoorFld3
import Derived.Test.YtmnpcooaijpigaaDoorDrawF
namespace Go.Proofs.YtmnpcooaijpigaaDoor
open Go.RowKit
set_option linter.unusedVariables false

theorem Gives.mono {v v' : Value} {w w' : World} {e : Ending} (h : Gives v w e w') (hv : v = v') : Gives v' w e w' := by subst hv; exact h

def bigB (l m : Nat) : Bool := decide (1048576 < (l : Int)) || decide (1048576 - (l : Int) < m)
theorem bigB_no {l m : Nat} (h : bigB l m = false) : l ≤ 1048576 ∧ m ≤ 1048576 := by
  unfold bigB at h
  rw [Bool.or_eq_false_iff, decide_eq_false_iff_not, decide_eq_false_iff_not] at h
  omega
theorem big_any (a b : Option Addr) (l m c d : Nat) (w : World) (hl : l ≤ 9223372036854775807) (hm : m ≤ 9223372036854775807) : Calls Tryd.prog 6 #[.slice a l c, .slice b m d] w fun e w' => e = .returned (.bool (bigB l m)) ∧ w = w' := by
  by_cases h1 : 1048576 < (l : Int)
  · have HF := Lib.hid (show bigB l m = true by unfold bigB; simp only [h1, decide_true, Bool.true_or])
    go_enter Tryd.func6, Tryd.ntmps6
    go_wp2
    go_ret
    exact ⟨by rw [HF.out]; rfl, rfl⟩
  · have hd : decide (1048576 < (l : Int)) = false := by simpa using h1
    by_cases h2 : 1048576 - (l : Int) < m
    · have HF := Lib.hid (show bigB l m = true by unfold bigB; simp only [h2, decide_true, Bool.or_true])
      go_enter Tryd.func6, Tryd.ntmps6
      go_wp2
      go_ret
      exact ⟨by rw [HF.out]; rfl, rfl⟩
    · have hd2 : decide (1048576 - (l : Int) < m) = false := by simpa using h2
      have HF := Lib.hid (show bigB l m = false by unfold bigB; rw [hd, hd2]; rfl)
      go_enter Tryd.func6, Tryd.ntmps6
      go_wp2
      go_ret
      exact ⟨by rw [HF.out]; rfl, rfl⟩

theorem iFieldMul_comm (p a b : Int) (w : World) (ht : Tab w) (hk : okE p [a, b] = true) : Calls Tryd.prog 8 #[.int .i64 p, .int .i64 b, .int .i64 a] w (Gives (.tuple #[.int .i64 (a * b % p), .bool true]) w) := by
  rw [Int.mul_comm]
  exact iFieldMul_ok p b a w ht (by rw [okE_2, Bool.and_comm (elB p b), ← okE_2]; exact hk)
theorem iFieldAdd_comm (p a b : Int) (w : World) (ht : Tab w) (hk : okE p [a, b] = true) : Calls Tryd.prog 10 #[.int .i64 p, .int .i64 b, .int .i64 a] w (Gives (.tuple #[.int .i64 ((a + b) % p), .bool true]) w) := by
  rw [Int.add_comm]
  exact iFieldAdd_ok p b a w ht (by rw [okE_2, Bool.and_comm (elB p b), ← okE_2]; exact hk)

theorem okE_fldN {n a b : Nat} (hk : okE n [(a : Int), (b : Int)] = true) : fldN n = true ∧ a < n ∧ b < n := by
  have h := okE_bd hk
  rw [okE_2, Bool.and_eq_true] at hk
  rw [← fldB_nat]
  exact ⟨hk.1, by omega, by omega⟩
theorem inv_mul {n b : Nat} (hf : fldN n = true) (hb : b < n) (h0 : b ≠ 0) : (b : Int) * invI n b % n = 1 := by
  have h := (field_facts hf hb).inv h0
  have e : invI n b = ((b ^ (n - 2 + if n = 2 then 1 else 0) % n : Nat) : Int) := by
    rw [nat_pow_mod]
    unfold invI
    rw [Int.toNat_natCast]
    by_cases h2 : n = 2
    · subst h2; rfl
    · rw [if_neg h2, if_neg (by omega)]
  rw [e]
  exact_mod_cast h
theorem mul_back {n a b : Nat} (hf : fldN n = true) (ha : a < n) (hb : b < n) (h0 : b ≠ 0) : ((a : Int) * b % n) * invI n b % n = a := by
  rw [emod_mul_l, Int.mul_assoc, emod_congr_r (c := 1) (by rw [inv_mul hf hb h0, Int.emod_eq_of_lt (by omega)]; have := (of_decide_eq_true hf).1; omega), Int.mul_one, Int.emod_eq_of_lt (by omega) (by omega)]
theorem iFieldMul_back (n a b : Nat) (w : World) (ht : Tab w) (hk : okE n [(a : Int), (b : Int)] = true) (h0 : b ≠ 0) : Calls Tryd.prog 8 #[.int .i64 n, .int .i64 ((a : Int) * b % n), .int .i64 (invI n b)] w (Gives (.tuple #[.int .i64 a, .bool true]) w) := by
  obtain ⟨hf, ha, hb⟩ := okE_fldN hk
  have h2 := (of_decide_eq_true hf).1
  have i := invI_bd (p := n) (a := b) (by omega)
  have := iFieldMul_ok n ((a : Int) * b % n) (invI n b) w ht (by
    rw [okE_2, Bool.and_eq_true, Bool.and_eq_true, elB_iff, elB_iff, fldB_nat]
    exact ⟨hf, ⟨Int.emod_nonneg _ (by omega), Int.emod_lt_of_pos _ (by omega)⟩, i⟩)
  rw [mul_back hf ha hb h0] at this
  exact this
theorem iFieldPower_ord (n b : Nat) (w : World) (ht : Tab w) (hk : okE n [(b : Int)] = true) (h0 : b ≠ 0) : Calls Tryd.prog 13 #[.int .i64 n, .int .i64 b, .int .i64 (ordN n b)] w (Gives (.tuple #[.int .i64 1, .bool true]) w) := by
  have hf : fldN n = true := by rw [okE_1, Bool.and_eq_true] at hk; rw [← fldB_nat]; exact hk.1
  have hb := okE_bd1 hk
  have F := field_facts hf (b := b) (by omega)
  have h2 := F.ord2 h0
  have := iFieldPower_pos n b (ordN n b) w ht hk (by omega) (by omega)
  rw [Int.toNat_natCast, ← nat_pow_mod, F.ordp h0] at this
  exact this
theorem iFieldPower_log (n b a j : Nat) (w : World) (ht : Tab w) (hk : okE n [(b : Int), (a : Int)] = true) (hj : logN n b a = some j) : Calls Tryd.prog 13 #[.int .i64 n, .int .i64 b, .int .i64 j] w (Gives (.tuple #[.int .i64 a, .bool true]) w) := by
  have hb := okE_bd hk
  obtain ⟨h1, h2⟩ := log_some hj
  have := iFieldPower_pos n b j w ht (by rw [okE_2, Bool.and_eq_true, Bool.and_eq_true] at hk; rw [okE_1, Bool.and_eq_true]; exact ⟨hk.1, hk.2.1⟩) (by omega) (by omega)
  rw [Int.toNat_natCast, ← nat_pow_mod, h1] at this
  exact this

theorem iLog_is (n b a : Nat) (o : Option Nat) (w : World) (ht : Tab w) (hk : okE n [(b : Int), (a : Int)] = true) (ho : logN n b a = o) : Calls Tryd.prog 15 #[.int .i64 n, .int .i64 b, .int .i64 a] w (Gives (.tuple #[.int .i64 (o.getD 0 : Nat), .bool o.isSome]) w) := by
  subst ho
  exact iDiscreteLog_ok n b a w ht hk
theorem iLog_not (p b a : Int) (w : World) (ht : Tab w) (hk : okE p [b, a] = false) : Calls Tryd.prog 15 #[.int .i64 p, .int .i64 b, .int .i64 a] w (Gives (.tuple #[.int .i64 0, .bool false]) w) :=
  iDiscreteLog_no p b a w ht hk
theorem sLog_is (n b a : Nat) (o : Option Nat) (w : World) (hk : okE n [(b : Int), (a : Int)] = true) (ho : logN n b a = o) : Calls Tryd.prog 16 #[.int .i64 n, .int .i64 b, .int .i64 a] w fun e w' => e = .returned (.tuple #[.int .i64 (o.getD 0 : Nat), .bool o.isSome]) ∧ w = w' := by
  subst ho
  exact sDiscreteLog_ok n b a w hk
theorem sLog_not (p b a : Int) (w : World) (h0 : -1000 ≤ p) (h1 : p ≤ 1000) (hk : okE p [b, a] = false) : Calls Tryd.prog 16 #[.int .i64 p, .int .i64 b, .int .i64 a] w fun e w' => e = .returned (.tuple #[.int .i64 0, .bool false]) ∧ w = w' :=
  sDiscreteLog_no p b a w h0 h1 hk

theorem okE_1_of_2 {p a b : Int} (h : okE p [a, b] = true) : okE p [b] = true := by
  rw [okE_2, Bool.and_eq_true, Bool.and_eq_true] at h
  rw [okE_1, Bool.and_eq_true]
  exact ⟨h.1, h.2.2⟩

set_option maxRecDepth 100000 in
set_option maxHeartbeats 1000000 in
theorem fnFields_any (cv mv : Value) (w : World) (hc : CodeRaw w cv) (hm : CodeRaw w mv) (ht : Tab w) : Calls Tryd.prog 3 #[cv, mv] w (Gives (.bool true) w) := by
  have HT := Lib.hid ht
  obtain ⟨a1, l1, c1, rfl, hl1, hx1⟩ := hc
  obtain ⟨a2, l2, c2, rfl, hl2, hx2⟩ := hm
  have HX1 := Lib.hid hx1; have HX2 := Lib.hid hx2
  clear ht hx1 hx2
  cases hbig : bigB l1 l2
  case true =>
    go_enter Tryd.func3, Tryd.ntmps3
    go_wp2_with (go_at_call 6; refine (big_any _ _ _ _ _ _ _ hl1 hl2).mono ?_; rintro e w' ⟨rfl, rfl⟩)
    go_ret
    exact ⟨rfl, grownBy_refl _ _⟩
  case false =>
    obtain ⟨b1, b2⟩ := bigB_no hbig
    have HC := Lib.hid (show CodeAt w (.slice a1 l1 c1) from ⟨a1, l1, c1, rfl, by omega, HX1.out⟩)
    have HM := Lib.hid (show CodeAt w (.slice a2 l2 c2) from ⟨a2, l2, c2, rfl, by omega, HX2.out⟩)
    clear b1 b2
    go_enter Tryd.func3, Tryd.ntmps3
    go_wp2_with fail
    refine (big_any _ _ _ _ _ _ _ hl1 hl2).mono ?_
    rintro e w' ⟨rfl, rfl⟩
    go_wp2_with fail
    refine (drawFieldMul_any _ _ HC.out).mono ?_
    rintro e wc ⟨p, a, b, rfl, hp, ha, hb, hg⟩
    have hpb := anyP_bd hp
    have HG := Lib.hid hg
    clear hp hg
    cases hk : okE p [a, b]
    case false =>
      go_wp2_with fail
      refine (iFieldMul_no _ _ _ _ (HT.out.grown HG.out) hk).mono ?_
      rintro e wd ⟨rfl, hg⟩
      have HG2 := Lib.hid (grownBy_trans HG.out hg); clear hg HG
      go_wp2_with fail
      refine (sFieldMul_no _ _ _ _ (by omega) (by omega) hk).mono ?_
      rintro e w' ⟨rfl, rfl⟩
      have HG := HG2; clear HG2
      go_wp2_with fail
      refine (drawDiscreteLog_any _ _ (HM.out.carry HG.out)).mono ?_
      rintro e wd ⟨q, c, d, rfl, hq, hc, hd, hg⟩
      have hqb := anyP_bd hq
      have HG2 := Lib.hid (grownBy_trans HG.out hg); clear hq hg HG
      have HG := HG2; clear HG2
      cases hk2 : okE q [c, d]
      case false =>
        go_wp2_with fail
        refine (iLog_not _ _ _ _ (HT.out.grown HG.out) hk2).mono ?_
        rintro e wd ⟨rfl, hg⟩
        have HG2 := Lib.hid (grownBy_trans HG.out hg); clear hg HG
        have HG := HG2; clear HG2
        go_wp2_with fail
        refine (sLog_not _ _ _ _ (by omega) (by omega) hk2).mono ?_
        rintro e w' ⟨rfl, rfl⟩
        go_wp2
        go_ret
        exact ⟨rfl, HG.out⟩
      case true =>
        obtain ⟨q0, q1, c0, c1, d0, d1⟩ := okE_bd hk2
        obtain ⟨nq, rfl⟩ := Int.eq_ofNat_of_zero_le (show 0 ≤ q by omega)
        obtain ⟨nc, rfl⟩ := Int.eq_ofNat_of_zero_le c0
        obtain ⟨nd, rfl⟩ := Int.eq_ofNat_of_zero_le d0
        cases hj : logN nq nc nd
        case none =>
          go_wp2_with fail
          refine (iLog_is _ _ _ (none) _ (HT.out.grown HG.out) hk2 hj).mono ?_
          rintro e wd ⟨rfl, hg⟩
          have HG2 := Lib.hid (grownBy_trans HG.out hg); clear hg HG
          have HG := HG2; clear HG2
          go_wp2_with fail
          refine (sLog_is _ _ _ (none) _ hk2 hj).mono ?_
          rintro e w' ⟨rfl, rfl⟩
          go_wp2
          go_ret
          exact ⟨rfl, HG.out⟩
        case some j =>
          go_wp2_with fail
          refine (iLog_is _ _ _ (some j) _ (HT.out.grown HG.out) hk2 hj).mono ?_
          rintro e wd ⟨rfl, hg⟩
          have HG2 := Lib.hid (grownBy_trans HG.out hg); clear hg HG
          have HG := HG2; clear HG2
          go_wp2_with fail
          refine (sLog_is _ _ _ (some j) _ hk2 hj).mono ?_
          rintro e w' ⟨rfl, rfl⟩
          go_wp2_with fail
          refine (iFieldPower_log _ _ _ _ _ (HT.out.grown HG.out) hk2 hj).mono ?_
          rintro e wd ⟨rfl, hg⟩
          have HG2 := Lib.hid (grownBy_trans HG.out hg); clear hg HG
          have HG := HG2; clear HG2
          go_wp2
          go_ret
          exact ⟨rfl, HG.out⟩
    case true =>
      obtain ⟨p0, p1, a0, a1, b0, b1⟩ := okE_bd hk
      obtain ⟨np, rfl⟩ := Int.eq_ofNat_of_zero_le (show 0 ≤ p by omega)
      obtain ⟨na, rfl⟩ := Int.eq_ofNat_of_zero_le a0
      obtain ⟨nb, rfl⟩ := Int.eq_ofNat_of_zero_le b0
      have m0 : (0 : Int) ≤ (na : Int) * nb := Int.mul_nonneg a0 b0
      have m1 : (na : Int) * nb ≤ 1000 * 1000 := Int.mul_le_mul (by omega) (by omega) b0 (by omega)
      go_wp2_with fail
      refine (iFieldMul_ok _ _ _ _ (HT.out.grown HG.out) hk).mono ?_
      rintro e wd ⟨rfl, hg⟩
      have HG2 := Lib.hid (grownBy_trans HG.out hg); clear hg HG
      have HG := HG2; clear HG2
      go_wp2_with fail
      refine (sFieldMul_ok _ _ _ _ hk).mono ?_
      rintro e w' ⟨rfl, rfl⟩
      go_wp2_with fail
      refine (iFieldMul_comm _ _ _ _ (HT.out.grown HG.out) hk).mono ?_
      rintro e wd ⟨rfl, hg⟩
      have HG2 := Lib.hid (grownBy_trans HG.out hg); clear hg HG
      have HG := HG2; clear HG2
      go_wp2_with fail
      refine (iFieldAdd_ok _ _ _ _ (HT.out.grown HG.out) hk).mono ?_
      rintro e wd ⟨rfl, hg⟩
      have HG2 := Lib.hid (grownBy_trans HG.out hg); clear hg HG
      have HG := HG2; clear HG2
      go_wp2_with fail
      refine (iFieldAdd_comm _ _ _ _ (HT.out.grown HG.out) hk).mono ?_
      rintro e wd ⟨rfl, hg⟩
      have HG2 := Lib.hid (grownBy_trans HG.out hg); clear hg HG
      have HG := HG2; clear HG2
      by_cases hz : nb = 0
      · subst hz
        go_wp2_with fail
        refine (iFieldInverse_zero _ _ (HT.out.grown HG.out) (okE_1_of_2 hk)).mono ?_
        rintro e wd ⟨rfl, hg⟩
        have HG2 := Lib.hid (grownBy_trans HG.out hg); clear hg HG
        have HG := HG2; clear HG2
        go_wp2_with fail
        refine (drawDiscreteLog_any _ _ (HM.out.carry HG.out)).mono ?_
        rintro e wd ⟨q, c, d, rfl, hq, hc, hd, hg⟩
        have hqb := anyP_bd hq
        have HG2 := Lib.hid (grownBy_trans HG.out hg); clear hq hg HG
        have HG := HG2; clear HG2
        cases hk2 : okE q [c, d]
        case false =>
          go_wp2_with fail
          refine (iLog_not _ _ _ _ (HT.out.grown HG.out) hk2).mono ?_
          rintro e wd ⟨rfl, hg⟩
          have HG2 := Lib.hid (grownBy_trans HG.out hg); clear hg HG
          have HG := HG2; clear HG2
          go_wp2_with fail
          refine (sLog_not _ _ _ _ (by omega) (by omega) hk2).mono ?_
          rintro e w' ⟨rfl, rfl⟩
          go_wp2
          go_ret
          exact ⟨rfl, HG.out⟩
        case true =>
          obtain ⟨q0, q1, c0, c1, d0, d1⟩ := okE_bd hk2
          obtain ⟨nq, rfl⟩ := Int.eq_ofNat_of_zero_le (show 0 ≤ q by omega)
          obtain ⟨nc, rfl⟩ := Int.eq_ofNat_of_zero_le c0
          obtain ⟨nd, rfl⟩ := Int.eq_ofNat_of_zero_le d0
          cases hj : logN nq nc nd
          case none =>
            go_wp2_with fail
            refine (iLog_is _ _ _ (none) _ (HT.out.grown HG.out) hk2 hj).mono ?_
            rintro e wd ⟨rfl, hg⟩
            have HG2 := Lib.hid (grownBy_trans HG.out hg); clear hg HG
            have HG := HG2; clear HG2
            go_wp2_with fail
            refine (sLog_is _ _ _ (none) _ hk2 hj).mono ?_
            rintro e w' ⟨rfl, rfl⟩
            go_wp2
            go_ret
            exact ⟨rfl, HG.out⟩
          case some j =>
            go_wp2_with fail
            refine (iLog_is _ _ _ (some j) _ (HT.out.grown HG.out) hk2 hj).mono ?_
            rintro e wd ⟨rfl, hg⟩
            have HG2 := Lib.hid (grownBy_trans HG.out hg); clear hg HG
            have HG := HG2; clear HG2
            go_wp2_with fail
            refine (sLog_is _ _ _ (some j) _ hk2 hj).mono ?_
            rintro e w' ⟨rfl, rfl⟩
            go_wp2_with fail
            refine (iFieldPower_log _ _ _ _ _ (HT.out.grown HG.out) hk2 hj).mono ?_
            rintro e wd ⟨rfl, hg⟩
            have HG2 := Lib.hid (grownBy_trans HG.out hg); clear hg HG
            have HG := HG2; clear HG2
            go_wp2
            go_ret
            exact ⟨rfl, HG.out⟩
      · have hzb : ((nb : Int) == 0) = false := by rw [beq_eq_false_iff_ne]; omega
        have hznb : ((nb : Int) != 0) = true := by rw [bne_iff_ne]; omega
        obtain ⟨hf, ha', hb'⟩ := okE_fldN hk
        have F := field_facts hf hb'
        have o1 := F.ord1 hz
        have o2 := F.ord2 hz
        have o3 : (((np : Int) - 1) % (ordN np nb : Int) != 0) = false := by
          have h := F.ordd hz
          rw [bne_eq_false_iff_eq]
          have e : ((np : Int) - 1) = ((np - 1 : Nat) : Int) := by omega
          rw [e]
          exact_mod_cast h
        have o4 : (1 != 1 % (np : Int)) = false := by rw [bne_eq_false_iff_eq, Int.emod_eq_of_lt (by omega) (by omega)]
        have HZ := Lib.hid hz
        clear hf ha' hb' F hz
        go_wp2_with fail
        refine (iFieldInverse_ok _ _ _ (HT.out.grown HG.out) (okE_1_of_2 hk) hzb).mono ?_
        rintro e wd ⟨rfl, hg⟩
        have HG2 := Lib.hid (grownBy_trans HG.out hg); clear hg HG
        have HG := HG2; clear HG2
        go_wp2_with fail
        refine (iFieldMul_back _ _ _ _ (HT.out.grown HG.out) hk HZ.out).mono ?_
        rintro e wd ⟨rfl, hg⟩
        have HG2 := Lib.hid (grownBy_trans HG.out hg); clear hg HG
        have HG := HG2; clear HG2
        go_wp2_with fail
        refine (iElementOrder_ok _ _ _ (HT.out.grown HG.out) (okE_1_of_2 hk) hzb).mono ?_
        rintro e wd ⟨rfl, hg⟩
        have HG2 := Lib.hid (grownBy_trans HG.out hg); clear hg HG
        have HG := HG2; clear HG2
        go_wp2_with fail
        refine (iFieldPower_ord _ _ _ (HT.out.grown HG.out) (okE_1_of_2 hk) HZ.out).mono ?_
        rintro e wd ⟨rfl, hg⟩
        have HG2 := Lib.hid (grownBy_trans HG.out hg); clear hg HG
        have HG := HG2; clear HG2
        go_wp2_with fail
        refine (iFieldPower_neg _ _ _ (HT.out.grown HG.out) (okE_1_of_2 hk) hzb).mono ?_
        rintro e wd ⟨rfl, hg⟩
        have HG2 := Lib.hid (grownBy_trans HG.out hg); clear hg HG
        have HG := HG2; clear HG2
        go_wp2_with fail
        refine (drawDiscreteLog_any _ _ (HM.out.carry HG.out)).mono ?_
        rintro e wd ⟨q, c, d, rfl, hq, hc, hd, hg⟩
        have hqb := anyP_bd hq
        have HG2 := Lib.hid (grownBy_trans HG.out hg); clear hq hg HG
        have HG := HG2; clear HG2
        cases hk2 : okE q [c, d]
        case false =>
          go_wp2_with fail
          refine (iLog_not _ _ _ _ (HT.out.grown HG.out) hk2).mono ?_
          rintro e wd ⟨rfl, hg⟩
          have HG2 := Lib.hid (grownBy_trans HG.out hg); clear hg HG
          have HG := HG2; clear HG2
          go_wp2_with fail
          refine (sLog_not _ _ _ _ (by omega) (by omega) hk2).mono ?_
          rintro e w' ⟨rfl, rfl⟩
          go_wp2
          go_ret
          exact ⟨rfl, HG.out⟩
        case true =>
          obtain ⟨q0, q1, c0, c1, d0, d1⟩ := okE_bd hk2
          obtain ⟨nq, rfl⟩ := Int.eq_ofNat_of_zero_le (show 0 ≤ q by omega)
          obtain ⟨nc, rfl⟩ := Int.eq_ofNat_of_zero_le c0
          obtain ⟨nd, rfl⟩ := Int.eq_ofNat_of_zero_le d0
          cases hj : logN nq nc nd
          case none =>
            go_wp2_with fail
            refine (iLog_is _ _ _ (none) _ (HT.out.grown HG.out) hk2 hj).mono ?_
            rintro e wd ⟨rfl, hg⟩
            have HG2 := Lib.hid (grownBy_trans HG.out hg); clear hg HG
            have HG := HG2; clear HG2
            go_wp2_with fail
            refine (sLog_is _ _ _ (none) _ hk2 hj).mono ?_
            rintro e w' ⟨rfl, rfl⟩
            go_wp2
            go_ret
            exact ⟨rfl, HG.out⟩
          case some j =>
            go_wp2_with fail
            refine (iLog_is _ _ _ (some j) _ (HT.out.grown HG.out) hk2 hj).mono ?_
            rintro e wd ⟨rfl, hg⟩
            have HG2 := Lib.hid (grownBy_trans HG.out hg); clear hg HG
            have HG := HG2; clear HG2
            go_wp2_with fail
            refine (sLog_is _ _ _ (some j) _ hk2 hj).mono ?_
            rintro e w' ⟨rfl, rfl⟩
            go_wp2_with fail
            refine (iFieldPower_log _ _ _ _ _ (HT.out.grown HG.out) hk2 hj).mono ?_
            rintro e wd ⟨rfl, hg⟩
            have HG2 := Lib.hid (grownBy_trans HG.out hg); clear hg HG
            have HG := HG2; clear HG2
            go_wp2
            go_ret
            exact ⟨rfl, HG.out⟩

end Go.Proofs.YtmnpcooaijpigaaDoor

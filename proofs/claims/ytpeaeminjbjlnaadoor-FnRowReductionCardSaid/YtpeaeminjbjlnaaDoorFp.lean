/-
  Plain arithmetic of the prime fields up to 97: no program in sight.
-/
namespace Go.Proofs.YtpeaeminjbjlnaaDoor

/-- p is a field, as the program asks it. -/
def fldB (p : Int) : Bool := decide (2 ≤ p ∧ p ≤ 97 ∧ (p % 2 ≠ 0 ∨ p = 2) ∧ (p % 3 ≠ 0 ∨ p = 3) ∧ (p % 5 ≠ 0 ∨ p = 5) ∧ (p % 7 ≠ 0 ∨ p = 7))
/-- a is an element. -/
def elB (p a : Int) : Bool := decide (0 ≤ a ∧ a < p)
theorem fldB_iff {p : Int} : fldB p = true ↔ (2 ≤ p ∧ p ≤ 97 ∧ (p % 2 ≠ 0 ∨ p = 2) ∧ (p % 3 ≠ 0 ∨ p = 3) ∧ (p % 5 ≠ 0 ∨ p = 5) ∧ (p % 7 ≠ 0 ∨ p = 7)) := by simp [fldB]
theorem elB_iff {p a : Int} : elB p a = true ↔ (0 ≤ a ∧ a < p) := by simp [elB]
theorem fldB_bd {p : Int} (h : fldB p = true) : 2 ≤ p ∧ p ≤ 97 := by have := fldB_iff.1 h; omega
def okE (p : Int) (zs : List Int) : Bool := fldB p && zs.all (elB p)

def fldN (p : Nat) : Bool := decide (2 ≤ p ∧ p ≤ 97 ∧ (p % 2 ≠ 0 ∨ p = 2) ∧ (p % 3 ≠ 0 ∨ p = 3) ∧ (p % 5 ≠ 0 ∨ p = 5) ∧ (p % 7 ≠ 0 ∨ p = 7))
theorem fldB_nat (n : Nat) : fldB n = fldN n := by unfold fldB fldN; exact decide_eq_decide.2 (by omega)

theorem all_range {n : Nat} {f : Nat → Bool} (h : (List.range n).all f = true) {k : Nat} (hk : k < n) : f k = true := List.all_eq_true.1 h k (List.mem_range.2 hk)

/-! ### trial division -/
theorem fld_no_all : (List.range 98).all (fun p => (List.range 10).all fun k => !(decide (2 ≤ p ∧ 2 ≤ k ∧ k * k ≤ p ∧ p % k = 0)) || !fldN p) = true := by decide +kernel
theorem fld_yes_all : (List.range 98).all (fun p => (List.range 11).all fun k => !(decide (2 ≤ p ∧ 2 ≤ k ∧ p < k * k) && (List.range k).all fun j => decide (j < 2) || decide (p % j ≠ 0)) || fldN p) = true := by decide +kernel
theorem fld_no {p k : Int} (h1 : 2 ≤ p) (h2 : p ≤ 97) (h3 : 2 ≤ k) (h4 : k * k ≤ p) (h5 : p % k = 0) : fldB p = false := by
  obtain ⟨n, rfl⟩ := Int.eq_ofNat_of_zero_le (show 0 ≤ p by omega)
  obtain ⟨m, rfl⟩ := Int.eq_ofNat_of_zero_le (show 0 ≤ k by omega)
  have hm : m < 10 := by
    rcases Nat.lt_or_ge m 10 with h | h
    · exact h
    · have : (10 : Int) * 10 ≤ m * m := Int.mul_le_mul (by omega) (by omega) (by omega) (by omega)
      omega
  have := all_range (all_range fld_no_all (k := n) (by omega)) hm
  have e : decide (2 ≤ n ∧ 2 ≤ m ∧ m * m ≤ n ∧ n % m = 0) = true := by
    refine decide_eq_true ⟨by omega, by omega, by exact_mod_cast h4, by exact_mod_cast h5⟩
  rw [fldB_nat]
  simpa [e] using this
theorem fld_yes {p k : Int} (h1 : 2 ≤ p) (h2 : p ≤ 97) (h3 : 2 ≤ k) (hk : k ≤ 10) (h4 : p < k * k) (h5 : ∀ j : Int, 2 ≤ j → j < k → p % j ≠ 0) : fldB p = true := by
  obtain ⟨n, rfl⟩ := Int.eq_ofNat_of_zero_le (show 0 ≤ p by omega)
  obtain ⟨m, rfl⟩ := Int.eq_ofNat_of_zero_le (show 0 ≤ k by omega)
  have := all_range (all_range fld_yes_all (k := n) (by omega)) (show m < 11 by omega)
  have e : (decide (2 ≤ n ∧ 2 ≤ m ∧ n < m * m) && (List.range m).all fun j => decide (j < 2) || decide (n % j ≠ 0)) = true := by
    rw [Bool.and_eq_true]
    refine ⟨decide_eq_true ⟨by omega, by omega, by exact_mod_cast h4⟩, List.all_eq_true.2 fun j hj => ?_⟩
    rw [List.mem_range] at hj
    by_cases h : j < 2
    · simp [h]
    · have := h5 j (by omega) (by omega)
      have h' : n % j ≠ 0 := by intro e; apply this; exact_mod_cast congrArg Nat.cast e
      simp [h']
  rw [fldB_nat]
  change (!(decide (2 ≤ n ∧ 2 ≤ m ∧ n < m * m) && (List.range m).all fun j => decide (j < 2) || decide (n % j ≠ 0)) || fldN n) = true at this
  rw [e] at this
  simpa using this

/-! ### powers, inverses, orders -/
/-- The order by the loop's own steps; 0 where the steps run out. -/
def ordFrom (n b : Nat) : Nat → Nat → Nat → Nat
  | _, _, 0 => 0
  | x, k, f + 1 => if x = 1 then k else ordFrom n b (x * b % n) (k + 1) f
def ordN (n b : Nat) : Nat := ordFrom n b b 1 100
/-- The least primitive root. -/
def primN (n : Nat) : Nat := ((List.range n).find? fun g => decide (1 ≤ g) && ordN n g == n - 1).getD 0

def fieldOk (n : Nat) : Bool := (List.range n).all fun b => b ^ n % n == b && (b == 0 || (b * (b ^ (n - 2 + if n = 2 then 1 else 0) % n) % n == 1 && decide (1 ≤ ordN n b ∧ ordN n b ≤ n - 1) && (n - 1) % ordN n b == 0 && b ^ ordN n b % n == 1))
theorem field_all : (List.range 98).all (fun n => !fldN n || fieldOk n) = true := by decide +kernel
theorem prim_all : (List.range 98).all (fun n => !fldN n || (decide (1 ≤ primN n ∧ primN n < n) && ordN n (primN n) == n - 1 && (List.range (primN n)).all fun g => g == 0 || ordN n g != n - 1)) = true := by decide +kernel

structure FieldFacts (n b : Nat) : Prop where
  fermat : b ^ n % n = b
  inv : b ≠ 0 → b * (b ^ (n - 2 + if n = 2 then 1 else 0) % n) % n = 1
  ord1 : b ≠ 0 → 1 ≤ ordN n b
  ord2 : b ≠ 0 → ordN n b ≤ n - 1
  ordd : b ≠ 0 → (n - 1) % ordN n b = 0
  ordp : b ≠ 0 → b ^ ordN n b % n = 1
theorem field_facts {n b : Nat} (hf : fldN n = true) (hb : b < n) : FieldFacts n b := by
  have hn : n < 98 := by have := of_decide_eq_true hf; omega
  have h := all_range field_all hn
  have h2 : fieldOk n = true := by simpa [hf] using h
  have h3 := all_range h2 hb
  simp only [Bool.and_eq_true, Bool.or_eq_true, beq_iff_eq, decide_eq_true_eq] at h3
  obtain ⟨h4, h5⟩ := h3
  refine ⟨h4, ?_, ?_, ?_, ?_, ?_⟩ <;> intro h0 <;> rcases h5 with h5 | ⟨⟨⟨h6, h7, h8⟩, h9⟩, h10⟩
  all_goals first | exact absurd h5 h0 | assumption
structure PrimFacts (n : Nat) : Prop where
  lo : 1 ≤ primN n
  hi : primN n < n
  ord : ordN n (primN n) = n - 1
  least : ∀ g, 1 ≤ g → g < primN n → ordN n g ≠ n - 1
theorem prim_facts {n : Nat} (hf : fldN n = true) : PrimFacts n := by
  have hn : n < 98 := by have := of_decide_eq_true hf; omega
  have h := all_range prim_all hn
  simp only [hf, Bool.not_true, Bool.false_or, Bool.and_eq_true, beq_iff_eq, decide_eq_true_eq] at h
  obtain ⟨⟨⟨h1, h2⟩, h3⟩, h4⟩ := h
  refine ⟨h1, h2, h3, fun g g1 g2 => ?_⟩
  have := all_range h4 g2
  simp only [Bool.or_eq_true, beq_iff_eq, bne_iff_ne] at this
  omega

/-! ### sums and products modulo p -/
theorem emod_mul_l (a b p : Int) : (a % p) * b % p = a * b % p := by rw [Int.mul_emod, Int.emod_emod_of_dvd _ (Int.dvd_refl p), ← Int.mul_emod]
theorem emod_mul_r (a b p : Int) : a * (b % p) % p = a * b % p := by rw [Int.mul_comm, emod_mul_l, Int.mul_comm]
theorem emod_pow (a p : Int) (n : Nat) : (a % p) ^ n % p = a ^ n % p := by
  induction n with
  | zero => simp
  | succ n ih => rw [Int.pow_succ, emod_mul_r, ← emod_mul_l, ih, emod_mul_l, ← Int.pow_succ]
theorem emod_congr_r {a b c p : Int} (h : b % p = c % p) : a * b % p = a * c % p := by rw [← emod_mul_r, h, emod_mul_r]
theorem sq_pow (x : Int) (k : Nat) : (x * x) ^ k = x ^ (2 * k) := by
  induction k with
  | zero => simp
  | succ k ih => rw [Int.pow_succ, ih, show 2 * (k + 1) = 2 * k + 1 + 1 from by omega, Int.pow_succ, Int.pow_succ]; simp only [Int.mul_assoc]
theorem pw_even (o x p : Int) (m : Nat) (h : m % 2 = 0) : o * (x * x % p) ^ (m / 2) % p = o * x ^ m % p := by
  rw [emod_congr_r (emod_pow _ _ _), sq_pow, show 2 * (m / 2) = m from by omega]
theorem pw_odd (o x p : Int) (m : Nat) (h : m % 2 = 1) : (o * x % p) * (x * x % p) ^ (m / 2) % p = o * x ^ m % p := by
  rw [emod_mul_l, emod_congr_r (emod_pow _ _ _), sq_pow, Int.mul_assoc, ← Int.pow_succ', show 2 * (m / 2) + 1 = m from by omega]

/-! ### the first index of which q holds -/
def firstFrom (q : Nat → Bool) : Nat → Nat → Option Nat
  | _, 0 => none
  | k, f + 1 => if q k then some k else firstFrom q (k + 1) f
theorem firstFrom_yes {q : Nat → Bool} {k f : Nat} (h : q k = true) : firstFrom q k (f + 1) = some k := by simp [firstFrom, h]
theorem firstFrom_no {q : Nat → Bool} {k f : Nat} (h : q k = false) : firstFrom q k (f + 1) = firstFrom q (k + 1) f := by simp [firstFrom, h]
theorem firstFrom_some {q : Nat → Bool} {f : Nat} : ∀ {k j : Nat}, firstFrom q k f = some j → q j = true ∧ k ≤ j ∧ j < k + f ∧ ∀ i, k ≤ i → i < j → q i = false := by
  induction f with
  | zero => intro k j h; simp [firstFrom] at h
  | succ f ih =>
    intro k j h
    by_cases hq : q k = true
    · rw [firstFrom_yes hq] at h
      obtain rfl : k = j := by simpa using h
      exact ⟨hq, Nat.le_refl _, by omega, fun i h1 h2 => absurd h1 (by omega)⟩
    · have hq' : q k = false := by simpa using hq
      rw [firstFrom_no hq'] at h
      obtain ⟨a, b, c, d⟩ := ih h
      refine ⟨a, by omega, by omega, fun i h1 h2 => ?_⟩
      by_cases hi : i = k
      · rw [hi]; exact hq'
      · exact d i (by omega) h2
theorem firstFrom_none {q : Nat → Bool} {f : Nat} : ∀ {k : Nat}, firstFrom q k f = none → ∀ i, k ≤ i → i < k + f → q i = false := by
  induction f with
  | zero => intro k h i h1 h2; omega
  | succ f ih =>
    intro k h i h1 h2
    by_cases hq : q k = true
    · rw [firstFrom_yes hq] at h; cases h
    · have hq' : q k = false := by simpa using hq
      rw [firstFrom_no hq'] at h
      by_cases hi : i = k
      · rw [hi]; exact hq'
      · exact ih h i (by omega) (by omega)
theorem firstFrom_snoc (q : Nat → Bool) (f : Nat) : ∀ k, firstFrom q k (f + 1) = (firstFrom q k f).or (if q (k + f) then some (k + f) else none) := by
  induction f with
  | zero => intro k; simp [firstFrom]
  | succ f ih =>
    intro k
    by_cases hq : q k = true
    · rw [firstFrom_yes hq, firstFrom_yes hq]; rfl
    · have hq' : q k = false := by simpa using hq
      rw [firstFrom_no hq', firstFrom_no hq', ih, show k + 1 + f = k + (f + 1) from by omega]
/-- One step more than the field has elements finds no logarithm more. -/
def logN (n b a : Nat) : Option Nat := firstFrom (fun k => b ^ k % n == a) 0 n
theorem log_more {n b a : Nat} (hf : fldN n = true) (hb : b < n) : firstFrom (fun k => b ^ k % n == a) 0 (n + 1) = logN n b a := by
  have h2 : 2 ≤ n := (of_decide_eq_true hf).1
  rw [firstFrom_snoc, Nat.zero_add, (field_facts hf hb).fermat]
  unfold logN
  cases h : firstFrom (fun k => b ^ k % n == a) 0 n with
  | some j => rfl
  | none =>
    have := firstFrom_none h 1 (by omega) (by omega)
    simp only [Nat.pow_one, Nat.mod_eq_of_lt hb] at this
    simp [this]
theorem log_some {n b a j : Nat} (h : logN n b a = some j) : b ^ j % n = a ∧ j < n := by
  obtain ⟨h1, _, h2, _⟩ := firstFrom_some h
  exact ⟨by simpa using h1, by omega⟩

/-- The inverse, as the program reckons it. -/
def invI (p a : Int) : Int := a ^ (p.toNat - 2 + if p = 2 then 1 else 0) % p
theorem nat_pow_mod (b m n : Nat) : ((b ^ m % n : Nat) : Int) = (b : Int) ^ m % n := by push_cast; rfl

end Go.Proofs.YtpeaeminjbjlnaaDoor

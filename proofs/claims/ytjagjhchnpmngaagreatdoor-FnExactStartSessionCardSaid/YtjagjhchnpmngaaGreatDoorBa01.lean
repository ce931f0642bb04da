/-
  Plain arithmetic of the prime fields up to 97: no program in sight.
-/
import Derived.Test.YtjagjhchnpmngaaGreatDoorBa00
import Derived.Deep.RegionHeld3
import Derived.Shelf.Abstract
import Derived.Maps.OwnSet
namespace Go.Proofs.YtjagjhchnpmngaaGreatDoor

/-- p is a field, as the program asks it. -/
def fldB (p : Int) : Bool := decide (2 ≤ p ∧ p ≤ 97 ∧ (p % 2 ≠ 0 ∨ p = 2) ∧ (p % 3 ≠ 0 ∨ p = 3) ∧ (p % 5 ≠ 0 ∨ p = 5) ∧ (p % 7 ≠ 0 ∨ p = 7))
/-- a is an element. -/
def elB (p a : Int) : Bool := decide (0 ≤ a ∧ a < p)
theorem fldB_iff {p : Int} : fldB p = true ↔ (2 ≤ p ∧ p ≤ 97 ∧ (p % 2 ≠ 0 ∨ p = 2) ∧ (p % 3 ≠ 0 ∨ p = 3) ∧ (p % 5 ≠ 0 ∨ p = 5) ∧ (p % 7 ≠ 0 ∨ p = 7)) := by simp [fldB]
theorem elB_iff {p a : Int} : elB p a = true ↔ (0 ≤ a ∧ a < p) := by simp [elB]
theorem fldB_bd {p : Int} (h : fldB p = true) : 2 ≤ p ∧ p ≤ 97 := by have := fldB_iff.1 h; omega
def okE (p : Int) (zs : List Int) : Bool := fldB p && zs.all (elB p)
def fldN (p : Nat) : Bool := decide (2 ≤ p ∧ p ≤ 97 ∧ (p % 2 ≠ 0 ∨ p = 2) ∧ (p % 3 ≠ 0 ∨ p = 3) ∧ (p % 5 ≠ 0 ∨ p = 5) ∧ (p % 7 ≠ 0 ∨ p = 7))
theorem fldB_nat (n : Nat) : fldB n = fldN n := by unfold fldB fldN; exact decide_eq_decide.2 (by omega)
theorem all_range {n : Nat} {f : Nat → Bool} (h : (List.range n).all f = true) {k : Nat} (hk : k < n) : f k = true := List.all_eq_true.1 h k (List.mem_range.2 hk)
/-! ### trial division -/
theorem fld_no_all : (List.range 98).all (fun p => (List.range 10).all fun k => !(decide (2 ≤ p ∧ 2 ≤ k ∧ k * k ≤ p ∧ p % k = 0)) || !fldN p) = true := by decide +kernel
theorem fld_yes_all : (List.range 98).all (fun p => (List.range 11).all fun k => !(decide (2 ≤ p ∧ 2 ≤ k ∧ p < k * k) && (List.range k).all fun j => decide (j < 2) || decide (p % j ≠ 0)) || fldN p) = true := by decide +kernel
theorem fld_no {p k : Int} (h1 : 2 ≤ p) (h2 : p ≤ 97) (h3 : 2 ≤ k) (h4 : k * k ≤ p) (h5 : p % k = 0) : fldB p = false := by
  obtain ⟨n, rfl⟩ := Int.eq_ofNat_of_zero_le (show 0 ≤ p by omega)
  obtain ⟨m, rfl⟩ := Int.eq_ofNat_of_zero_le (show 0 ≤ k by omega)
  have hm : m < 10 := by
    rcases Nat.lt_or_ge m 10 with h | h
    · exact h
    · have : (10 : Int) * 10 ≤ m * m := Int.mul_le_mul (by omega) (by omega) (by omega) (by omega)
      omega
  have := all_range (all_range fld_no_all (k := n) (by omega)) hm
  have e : decide (2 ≤ n ∧ 2 ≤ m ∧ m * m ≤ n ∧ n % m = 0) = true := by
    refine decide_eq_true ⟨by omega, by omega, by exact_mod_cast h4, by exact_mod_cast h5⟩
  rw [fldB_nat]
  simpa [e] using this
theorem fld_yes {p k : Int} (h1 : 2 ≤ p) (h2 : p ≤ 97) (h3 : 2 ≤ k) (hk : k ≤ 10) (h4 : p < k * k) (h5 : ∀ j : Int, 2 ≤ j → j < k → p % j ≠ 0) : fldB p = true := by
  obtain ⟨n, rfl⟩ := Int.eq_ofNat_of_zero_le (show 0 ≤ p by omega)
  obtain ⟨m, rfl⟩ := Int.eq_ofNat_of_zero_le (show 0 ≤ k by omega)
  have := all_range (all_range fld_yes_all (k := n) (by omega)) (show m < 11 by omega)
  have e : (decide (2 ≤ n ∧ 2 ≤ m ∧ n < m * m) && (List.range m).all fun j => decide (j < 2) || decide (n % j ≠ 0)) = true := by
    rw [Bool.and_eq_true]
    refine ⟨decide_eq_true ⟨by omega, by omega, by exact_mod_cast h4⟩, List.all_eq_true.2 fun j hj => ?_⟩
    rw [List.mem_range] at hj
    by_cases h : j < 2
    · simp [h]
    · have := h5 j (by omega) (by omega)
      have h' : n % j ≠ 0 := by intro e; apply this; exact_mod_cast congrArg Nat.cast e
      simp [h']
  rw [fldB_nat]
  change (!(decide (2 ≤ n ∧ 2 ≤ m ∧ n < m * m) && (List.range m).all fun j => decide (j < 2) || decide (n % j ≠ 0)) || fldN n) = true at this
  rw [e] at this
  simpa using this
/-! ### powers, inverses, orders -/
/-- The order by the loop's own steps; 0 where the steps run out. -/
def ordFrom (n b : Nat) : Nat → Nat → Nat → Nat
  | _, _, 0 => 0
  | x, k, f + 1 => if x = 1 then k else ordFrom n b (x * b % n) (k + 1) f
def ordN (n b : Nat) : Nat := ordFrom n b b 1 100
/-- The least primitive root. -/
def primN (n : Nat) : Nat := ((List.range n).find? fun g => decide (1 ≤ g) && ordN n g == n - 1).getD 0
def fieldOk (n : Nat) : Bool := (List.range n).all fun b => b ^ n % n == b && (b == 0 || (b * (b ^ (n - 2 + if n = 2 then 1 else 0) % n) % n == 1 && decide (1 ≤ ordN n b ∧ ordN n b ≤ n - 1) && (n - 1) % ordN n b == 0 && b ^ ordN n b % n == 1))
theorem field_all : (List.range 98).all (fun n => !fldN n || fieldOk n) = true := by decide +kernel
theorem prim_all : (List.range 98).all (fun n => !fldN n || (decide (1 ≤ primN n ∧ primN n < n) && ordN n (primN n) == n - 1 && (List.range (primN n)).all fun g => g == 0 || ordN n g != n - 1)) = true := by decide +kernel
structure FieldFacts (n b : Nat) : Prop where
  fermat : b ^ n % n = b
  inv : b ≠ 0 → b * (b ^ (n - 2 + if n = 2 then 1 else 0) % n) % n = 1
  ord1 : b ≠ 0 → 1 ≤ ordN n b
  ord2 : b ≠ 0 → ordN n b ≤ n - 1
  ordd : b ≠ 0 → (n - 1) % ordN n b = 0
  ordp : b ≠ 0 → b ^ ordN n b % n = 1
theorem field_facts {n b : Nat} (hf : fldN n = true) (hb : b < n) : FieldFacts n b := by
  have hn : n < 98 := by have := of_decide_eq_true hf; omega
  have h := all_range field_all hn
  have h2 : fieldOk n = true := by simpa [hf] using h
  have h3 := all_range h2 hb
  simp only [Bool.and_eq_true, Bool.or_eq_true, beq_iff_eq, decide_eq_true_eq] at h3
  obtain ⟨h4, h5⟩ := h3
  refine ⟨h4, ?_, ?_, ?_, ?_, ?_⟩ <;> intro h0 <;> rcases h5 with h5 | ⟨⟨⟨h6, h7, h8⟩, h9⟩, h10⟩
  all_goals first | exact absurd h5 h0 | assumption
structure PrimFacts (n : Nat) : Prop where
  lo : 1 ≤ primN n
  hi : primN n < n
  ord : ordN n (primN n) = n - 1
  least : ∀ g, 1 ≤ g → g < primN n → ordN n g ≠ n - 1
theorem prim_facts {n : Nat} (hf : fldN n = true) : PrimFacts n := by
  have hn : n < 98 := by have := of_decide_eq_true hf; omega
  have h := all_range prim_all hn
  simp only [hf, Bool.not_true, Bool.false_or, Bool.and_eq_true, beq_iff_eq, decide_eq_true_eq] at h
  obtain ⟨⟨⟨h1, h2⟩, h3⟩, h4⟩ := h
  refine ⟨h1, h2, h3, fun g g1 g2 => ?_⟩
  have := all_range h4 g2
  simp only [Bool.or_eq_true, beq_iff_eq, bne_iff_ne] at this
  omega
/-! ### sums and products modulo p -/
theorem emod_mul_l (a b p : Int) : (a % p) * b % p = a * b % p := by rw [Int.mul_emod, Int.emod_emod_of_dvd _ (Int.dvd_refl p), ← Int.mul_emod]
theorem emod_mul_r (a b p : Int) : a * (b % p) % p = a * b % p := by rw [Int.mul_comm, emod_mul_l, Int.mul_comm]
theorem emod_pow (a p : Int) (n : Nat) : (a % p) ^ n % p = a ^ n % p := by
  induction n with
  | zero => simp
  | succ n ih => rw [Int.pow_succ, emod_mul_r, ← emod_mul_l, ih, emod_mul_l, ← Int.pow_succ]
theorem emod_congr_r {a b c p : Int} (h : b % p = c % p) : a * b % p = a * c % p := by rw [← emod_mul_r, h, emod_mul_r]
theorem sq_pow (x : Int) (k : Nat) : (x * x) ^ k = x ^ (2 * k) := by
  induction k with
  | zero => simp
  | succ k ih => rw [Int.pow_succ, ih, show 2 * (k + 1) = 2 * k + 1 + 1 from by omega, Int.pow_succ, Int.pow_succ]; simp only [Int.mul_assoc]
theorem pw_even (o x p : Int) (m : Nat) (h : m % 2 = 0) : o * (x * x % p) ^ (m / 2) % p = o * x ^ m % p := by
  rw [emod_congr_r (emod_pow _ _ _), sq_pow, show 2 * (m / 2) = m from by omega]
theorem pw_odd (o x p : Int) (m : Nat) (h : m % 2 = 1) : (o * x % p) * (x * x % p) ^ (m / 2) % p = o * x ^ m % p := by
  rw [emod_mul_l, emod_congr_r (emod_pow _ _ _), sq_pow, Int.mul_assoc, ← Int.pow_succ', show 2 * (m / 2) + 1 = m from by omega]
/-! ### the first index of which q holds -/
def firstFrom (q : Nat → Bool) : Nat → Nat → Option Nat
  | _, 0 => none
  | k, f + 1 => if q k then some k else firstFrom q (k + 1) f
theorem firstFrom_yes {q : Nat → Bool} {k f : Nat} (h : q k = true) : firstFrom q k (f + 1) = some k := by simp [firstFrom, h]
theorem firstFrom_no {q : Nat → Bool} {k f : Nat} (h : q k = false) : firstFrom q k (f + 1) = firstFrom q (k + 1) f := by simp [firstFrom, h]
theorem firstFrom_some {q : Nat → Bool} {f : Nat} : ∀ {k j : Nat}, firstFrom q k f = some j → q j = true ∧ k ≤ j ∧ j < k + f ∧ ∀ i, k ≤ i → i < j → q i = false := by
  induction f with
  | zero => intro k j h; simp [firstFrom] at h
  | succ f ih =>
    intro k j h
    by_cases hq : q k = true
    · rw [firstFrom_yes hq] at h
      obtain rfl : k = j := by simpa using h
      exact ⟨hq, Nat.le_refl _, by omega, fun i h1 h2 => absurd h1 (by omega)⟩
    · have hq' : q k = false := by simpa using hq
      rw [firstFrom_no hq'] at h
      obtain ⟨a, b, c, d⟩ := ih h
      refine ⟨a, by omega, by omega, fun i h1 h2 => ?_⟩
      by_cases hi : i = k
      · rw [hi]; exact hq'
      · exact d i (by omega) h2
theorem firstFrom_none {q : Nat → Bool} {f : Nat} : ∀ {k : Nat}, firstFrom q k f = none → ∀ i, k ≤ i → i < k + f → q i = false := by
  induction f with
  | zero => intro k h i h1 h2; omega
  | succ f ih =>
    intro k h i h1 h2
    by_cases hq : q k = true
    · rw [firstFrom_yes hq] at h; cases h
    · have hq' : q k = false := by simpa using hq
      rw [firstFrom_no hq'] at h
      by_cases hi : i = k
      · rw [hi]; exact hq'
      · exact ih h i (by omega) (by omega)
theorem firstFrom_snoc (q : Nat → Bool) (f : Nat) : ∀ k, firstFrom q k (f + 1) = (firstFrom q k f).or (if q (k + f) then some (k + f) else none) := by
  induction f with
  | zero => intro k; simp [firstFrom]
  | succ f ih =>
    intro k
    by_cases hq : q k = true
    · rw [firstFrom_yes hq, firstFrom_yes hq]; rfl
    · have hq' : q k = false := by simpa using hq
      rw [firstFrom_no hq', firstFrom_no hq', ih, show k + 1 + f = k + (f + 1) from by omega]
/-- One step more than the field has elements finds no logarithm more. -/
def logN (n b a : Nat) : Option Nat := firstFrom (fun k => b ^ k % n == a) 0 n
theorem log_more {n b a : Nat} (hf : fldN n = true) (hb : b < n) : firstFrom (fun k => b ^ k % n == a) 0 (n + 1) = logN n b a := by
  have h2 : 2 ≤ n := (of_decide_eq_true hf).1
  rw [firstFrom_snoc, Nat.zero_add, (field_facts hf hb).fermat]
  unfold logN
  cases h : firstFrom (fun k => b ^ k % n == a) 0 n with
  | some j => rfl
  | none =>
    have := firstFrom_none h 1 (by omega) (by omega)
    simp only [Nat.pow_one, Nat.mod_eq_of_lt hb] at this
    simp [this]
theorem log_some {n b a j : Nat} (h : logN n b a = some j) : b ^ j % n = a ∧ j < n := by
  obtain ⟨h1, _, h2, _⟩ := firstFrom_some h
  exact ⟨by simpa using h1, by omega⟩
/-- The inverse, as the program reckons it. -/
def invI (p a : Int) : Int := a ^ (p.toNat - 2 + if p = 2 then 1 else 0) % p
theorem nat_pow_mod (b m n : Nat) : ((b ^ m % n : Nat) : Int) = (b : Int) ^ m % n := by push_cast; rfl
end Go.Proofs.YtjagjhchnpmngaaGreatDoor

/-
  The laws' own helpers on lists of integers: size, copy, comparison, marks. Conditions: lengths are small.
-/
namespace Go.Proofs.YtjagjhchnpmngaaGreatDoor
open Go.RowKit
set_option linter.unusedVariables false
set_option maxRecDepth 100000

theorem wrap_id {x : Int} (h0 : -9223372036854775808 ≤ x) (h1 : x ≤ 9223372036854775807) : IntKind.i64.wrap x = x := by
  rw [IntKind.wrap_i64]; omega
theorem fill_set {zs : List Int} {n k : Nat} (hl : zs.length = n) (hk : k < n) : (zs.take k ++ List.replicate (n - k) (0 : Int)).set k (zs.getD k 0) = zs.take (k + 1) ++ List.replicate (n - (k + 1)) 0 := by
  have h1 : (zs.take k).length = k := by rw [List.length_take]; omega
  have h2 : n - k = (n - (k + 1)) + 1 := by omega
  rw [List.set_append_right _ _ (by omega), h1, Nat.sub_self, h2, List.replicate_succ, List.set_cons_zero]
  rw [List.take_succ_eq_append_getElem (by omega), List.getD_eq_getElem?_getD, List.getElem?_eq_getElem (by omega), List.append_assoc]
  rfl
theorem IntsV.atD {w : World} {a : Option Addr} {n cap : Nat} {zs : List Int} (h : IntsV w (.slice a n cap) zs) {i : Nat} (hi : i < zs.length) :
    ∃ b o, a = some ⟨b, o, none⟩ ∧ b < w.heap.size ∧ w.cell? ⟨b, o + i, none⟩ = some (.int .i64 (zs.getD i 0)) := by
  obtain ⟨a', cap', he, h⟩ := h
  cases he
  obtain ⟨d, ha, hs, hd, hz⟩ := h (by intro h0; rw [h0] at hi; simp at hi)
  obtain ⟨db, dof, ds⟩ := d
  simp only at hs
  subst hs
  refine ⟨db, dof, ha, hd, ?_⟩
  rw [List.getD_eq_getElem?_getD, List.getElem?_eq_getElem hi]
  exact hz i hi
theorem OwnInts.cellQ {B g n cap : Nat} {w : World} {zs : List Int} (h : OwnInts B w (.slice (some ⟨g, 0, none⟩) n cap) zs) (hn : n = zs.length) {j : Nat} (hj : j < n) : ∃ q, w.cell? ⟨g, j, none⟩ = some (.int .i64 q) :=
  ⟨_, h.cell hn (by rw [← hn]; exact hj)⟩
theorem IntsV.shape {w : World} {v : Value} {zs : List Int} (h : IntsV w v zs) : ∃ a cap, v = .slice a zs.length cap := by
  obtain ⟨a, cap, rfl, _⟩ := h
  exact ⟨a, cap, rfl⟩
end Go.Proofs.YtjagjhchnpmngaaGreatDoor

/-
  Fields, bounds and lists of bounded numbers, in the program and in the reference. Conditions: the table of small primes holds what its text lays; lengths are small.
-/
namespace Go.Proofs.YtjagjhchnpmngaaGreatDoor
open Go.RowKit
set_option linter.unusedVariables false
set_option maxRecDepth 100000

/-- The table of small primes. -/
structure Tab (w : World) : Prop where
  c0 : w.cell? ⟨0, 0, none⟩ = some (.int .i64 2)
  c1 : w.cell? ⟨0, 1, none⟩ = some (.int .i64 3)
  c2 : w.cell? ⟨0, 2, none⟩ = some (.int .i64 5)
  c3 : w.cell? ⟨0, 3, none⟩ = some (.int .i64 7)
  lt : 0 < w.heap.size
theorem Tab.carry {w w' : World} (h : Tab w) (hw : ∀ k, k < w.heap.size → w'.heap[k]? = w.heap[k]?) (hs : w.heap.size ≤ w'.heap.size) : Tab w' := by
  have e := hw 0 h.lt
  exact ⟨(World.cell?_of_block (a := ⟨0, 0, none⟩) e).trans h.c0, (World.cell?_of_block (a := ⟨0, 1, none⟩) e).trans h.c1, (World.cell?_of_block (a := ⟨0, 2, none⟩) e).trans h.c2, (World.cell?_of_block (a := ⟨0, 3, none⟩) e).trans h.c3, Nat.lt_of_lt_of_le h.lt hs⟩
theorem Tab.grown {w w' : World} (h : Tab w) (hg : w.grownBy w' none) : Tab w' := h.carry (fun k hk => hg.block k hk (by simp)) hg.size
theorem Tab.alloc {w : World} (h : Tab w) (o : Obj) : Tab (w.alloc o) := h.carry (fun k hk => alloc_heap_old w o k hk) (by simp)
theorem isElement_any (p a : Int) (w : World) : Calls Tryz.prog 44 #[.int .i64 p, .int .i64 a] w fun e w' => e = .returned (.bool (elB p a)) ∧ w = w' := by
  by_cases h0 : 0 ≤ a <;> by_cases h1 : a < p
  all_goals
    go_enter Tryz.func44, Tryz.ntmps44
    go_wp2
    go_ret
    exact ⟨by simp [elB, h0, h1], rfl⟩
theorem l1In_any (n lo hi : Int) (w : World) : Calls Tryz.prog 34 #[.int .i64 n, .int .i64 lo, .int .i64 hi] w fun e w' => e = .returned (.bool (decide (lo ≤ n ∧ n ≤ hi))) ∧ w = w' := by
  by_cases h0 : lo ≤ n <;> by_cases h1 : n ≤ hi
  all_goals
    go_enter Tryz.func34, Tryz.ntmps34
    go_wp2
    go_ret
    exact ⟨by simp [h0, h1], rfl⟩
def okTo (p : Int) : Nat → Prop
  | 0 => True
  | 1 => p % 2 ≠ 0 ∨ p = 2
  | 2 => (p % 2 ≠ 0 ∨ p = 2) ∧ (p % 3 ≠ 0 ∨ p = 3)
  | 3 => (p % 2 ≠ 0 ∨ p = 2) ∧ (p % 3 ≠ 0 ∨ p = 3) ∧ (p % 5 ≠ 0 ∨ p = 5)
  | _ => (p % 2 ≠ 0 ∨ p = 2) ∧ (p % 3 ≠ 0 ∨ p = 3) ∧ (p % 5 ≠ 0 ∨ p = 5) ∧ (p % 7 ≠ 0 ∨ p = 7)
theorem isField_in (p : Int) (w : World) (ht : Tab w) (h0 : 2 ≤ p) (h1 : p ≤ 97) : Calls Tryz.prog 43 #[.int .i64 p] w fun e w' => e = .returned (.bool (fldB p)) ∧ w = w' := by
  obtain ⟨c0, c1, c2, c3, _⟩ := ht
  have i0 : ∀ w, (Instr.index 93 (.agg #[.int .i64 2, .int .i64 3, .int .i64 5, .int .i64 7]) (.int .i64 0)).run Tryz.prog w = .ok (.int .i64 2) w := fun _ => by kernel_rfl
  have i1 : ∀ w, (Instr.index 93 (.agg #[.int .i64 2, .int .i64 3, .int .i64 5, .int .i64 7]) (.int .i64 1)).run Tryz.prog w = .ok (.int .i64 3) w := fun _ => by kernel_rfl
  have i2 : ∀ w, (Instr.index 93 (.agg #[.int .i64 2, .int .i64 3, .int .i64 5, .int .i64 7]) (.int .i64 2)).run Tryz.prog w = .ok (.int .i64 5) w := fun _ => by kernel_rfl
  have i3 : ∀ w, (Instr.index 93 (.agg #[.int .i64 2, .int .i64 3, .int .i64 5, .int .i64 7]) (.int .i64 3)).run Tryz.prog w = .ok (.int .i64 7) w := fun _ => by kernel_rfl
  have m2 := Int.emod_nonneg p (show (2 : Int) ≠ 0 by omega)
  have m3 := Int.emod_nonneg p (show (3 : Int) ≠ 0 by omega)
  have m5 := Int.emod_nonneg p (show (5 : Int) ≠ 0 by omega)
  have m7 := Int.emod_nonneg p (show (7 : Int) ≠ 0 by omega)
  go_enter Tryz.func43, Tryz.ntmps43
  go_wp2
  go_loop [12] (fun i => ∃ k : Nat, k ≤ 4 ∧ i = .int .i64 k ∧ okTo p k) (fun i => 4 - (intOf i).toNat)
  case atStart => exact ⟨0, by omega, rfl, trivial⟩
  case round =>
    obtain ⟨k, hk, rfl, ho⟩ := hrel
    have HO := Lib.hid ho
    clear ho
    match k, hk with
    | 0, _ =>
      by_cases hd : p % 2 = 0
      · by_cases he : p = 2
        · obtain rfl := he
          go_wp2
          go_round
          case rel => exact ⟨1, by omega, by go_num, Or.inr rfl⟩
          case measure => simp [intOf]
        · have hdb : (p % 2 == 0) = true := by simp [hd]
          have heb : (p != 2) = true := by simp [he]
          have hfin : fldB p = false := by simp [fldB, hd, he]
          clear hd
          go_wp2
          go_ret
          exact ⟨by simp, rfl⟩
      · have hdb : (p % 2 == 0) = false := by simp [hd]
        have HD := Lib.hid hd
        clear hd
        go_wp2
        go_round
        case rel => exact ⟨1, by omega, by go_num, Or.inl HD.out⟩
        case measure => simp [intOf]
    | 1, _ =>
      by_cases hd : p % 3 = 0
      · by_cases he : p = 3
        · obtain rfl := he
          go_wp2
          go_round
          case rel => exact ⟨2, by omega, by go_num, HO.out, Or.inr rfl⟩
          case measure => simp [intOf]
        · have hdb : (p % 3 == 0) = true := by simp [hd]
          have heb : (p != 3) = true := by simp [he]
          have hfin : fldB p = false := by simp [fldB, hd, he]
          clear hd
          go_wp2
          go_ret
          exact ⟨by simp, rfl⟩
      · have hdb : (p % 3 == 0) = false := by simp [hd]
        have HD := Lib.hid hd
        clear hd
        go_wp2
        go_round
        case rel => exact ⟨2, by omega, by go_num, HO.out, Or.inl HD.out⟩
        case measure => simp [intOf]
    | 2, _ =>
      by_cases hd : p % 5 = 0
      · by_cases he : p = 5
        · obtain rfl := he
          go_wp2
          go_round
          case rel => exact ⟨3, by omega, by go_num, HO.out.1, HO.out.2, Or.inr rfl⟩
          case measure => simp [intOf]
        · have hdb : (p % 5 == 0) = true := by simp [hd]
          have heb : (p != 5) = true := by simp [he]
          have hfin : fldB p = false := by simp [fldB, hd, he]
          clear hd
          go_wp2
          go_ret
          exact ⟨by simp, rfl⟩
      · have hdb : (p % 5 == 0) = false := by simp [hd]
        have HD := Lib.hid hd
        clear hd
        go_wp2
        go_round
        case rel => exact ⟨3, by omega, by go_num, HO.out.1, HO.out.2, Or.inl HD.out⟩
        case measure => simp [intOf]
    | 3, _ =>
      by_cases hd : p % 7 = 0
      · by_cases he : p = 7
        · obtain rfl := he
          go_wp2
          go_round
          case rel => exact ⟨4, by omega, by go_num, HO.out.1, HO.out.2.1, HO.out.2.2, Or.inr rfl⟩
          case measure => simp [intOf]
        · have hdb : (p % 7 == 0) = true := by simp [hd]
          have heb : (p != 7) = true := by simp [he]
          have hfin : fldB p = false := by simp [fldB, hd, he]
          clear hd
          go_wp2
          go_ret
          exact ⟨by simp, rfl⟩
      · have hdb : (p % 7 == 0) = false := by simp [hd]
        have HD := Lib.hid hd
        clear hd
        go_wp2
        go_round
        case rel => exact ⟨4, by omega, by go_num, HO.out.1, HO.out.2.1, HO.out.2.2, Or.inl HD.out⟩
        case measure => simp [intOf]
    | 4, _ =>
      have hfin : fldB p = true := fldB_iff.2 ⟨h0, h1, HO.out⟩
      go_wp2
      go_ret
      exact ⟨by simp, rfl⟩
theorem isField_any (p : Int) (w : World) (ht : Tab w) : Calls Tryz.prog 43 #[.int .i64 p] w fun e w' => e = .returned (.bool (fldB p)) ∧ w = w' := by
  by_cases h2 : p < 2
  · have hf : fldB p = false := by simp [fldB]; omega
    have HF := Lib.hid hf
    clear hf
    clear ht
    go_enter Tryz.func43, Tryz.ntmps43
    go_wp2
    go_ret
    exact ⟨by rw [HF.out]; rfl, rfl⟩
  · by_cases h : 97 < p
    · have hf : fldB p = false := by simp [fldB]; omega
      have HF := Lib.hid hf
      clear hf
      clear ht
      go_enter Tryz.func43, Tryz.ntmps43
      go_wp2
      go_ret
      exact ⟨by rw [HF.out]; rfl, rfl⟩
    · exact isField_in p w ht (by omega) (by omega)
theorem fdGood_any (p : Int) (w : World) : Calls Tryz.prog 33 #[.int .i64 p] w fun e w' => e = .returned (.bool (fldB p)) ∧ w = w' := by
  by_cases hin : 2 ≤ p ∧ p ≤ 97
  · have hd : decide (2 ≤ p ∧ p ≤ 97) = true := by simpa using hin
    obtain ⟨g0, g1⟩ := hin
    go_enter Tryz.func33, Tryz.ntmps33
    go_wp2_with (go_at_call 34; refine (l1In_any _ _ _ _).mono ?_; rintro e w' ⟨rfl, rfl⟩)
    go_loop [3] (fun k => ∃ k' : Nat, k = .int .i64 k' ∧ 2 ≤ k' ∧ k' ≤ 10 ∧ ∀ j : Int, 2 ≤ j → j < k' → p % j ≠ 0) (fun k => 200 - (intOf k).toNat)
    case atStart => exact ⟨2, rfl, by omega, by omega, fun j h1 h2 => by omega⟩
    case round =>
      obtain ⟨k, rfl, hk2, hk10, hr⟩ := hrel
      have HR := Lib.hid hr
      clear hr
      have hkk : ((k : Int) * k) = ((k * k : Nat) : Int) := by push_cast; rfl
      have hkk2 : k * k ≤ 100 := Nat.mul_le_mul hk10 hk10
      have HKK := Lib.hid hkk
      clear hkk
      have hq0 : (0 : Int) ≤ (k : Int) * k := by rw [HKK.out]; omega
      have hq1 : (k : Int) * k ≤ 100 := by rw [HKK.out]; omega
      have e0 := Int.emod_nonneg p (show (k : Int) ≠ 0 by omega)
      by_cases hle : (k : Int) * k ≤ p
      · by_cases hd0 : p % (k : Int) = 0
        · have hb : (p % (k : Int) == 0) = true := by rw [beq_iff_eq]; exact hd0
          have hfin : fldB p = false := fld_no g0 g1 (by omega) hle hd0
          have HF := Lib.hid hfin
          clear hfin hd0
          go_wp2
          go_ret
          exact ⟨by rw [HF.out]; rfl, rfl⟩
        · have hb : (p % (k : Int) == 0) = false := by rw [beq_eq_false_iff_ne]; exact hd0
          have HD := Lib.hid hd0
          clear hd0
          have hk9 : k < 10 := by
            rcases Nat.lt_or_ge k 10 with h | h
            · exact h
            · obtain rfl : k = 10 := by omega
              omega
          go_wp2
          go_round
          case rel => exact ⟨k + 1, by go_num, by omega, by omega, fun j h1 h2 => by
            by_cases hj : j = k
            · subst hj; exact HD.out
            · exact HR.out j h1 (by omega)⟩
          case measure => simp [intOf]; omega
      · have hfin : fldB p = true := fld_yes g0 g1 (k := k) (by omega) (by omega) (by omega) HR.out
        have HF := Lib.hid hfin
        clear hfin
        go_wp2
        go_ret
        exact ⟨by rw [HF.out]; rfl, rfl⟩
  · have hd : decide (2 ≤ p ∧ p ≤ 97) = false := by simpa using hin
    have hfin : fldB p = false := by
      unfold fldB
      rw [decide_eq_false_iff_not]
      exact fun h => hin ⟨h.1, h.2.1⟩
    have HF := Lib.hid hfin
    clear hfin hin
    go_enter Tryz.func33, Tryz.ntmps33
    go_wp2_with (go_at_call 34; refine (l1In_any _ _ _ _).mono ?_; rintro e w' ⟨rfl, rfl⟩)
    go_ret
    exact ⟨by rw [HF.out]; rfl, rfl⟩
theorem IntsV.at {w : World} {a : Option Addr} {n cap : Nat} {zs : List Int} (h : IntsV w (.slice a n cap) zs) {i : Nat} (hi : i < zs.length) :
    ∃ d : Addr, a = some d ∧ d.spot = none ∧ d.block < w.heap.size ∧ w.cell? ⟨d.block, d.off + i, none⟩ = some (.int .i64 zs[i]) := by
  obtain ⟨a', cap', he, h⟩ := h
  cases he
  obtain ⟨d, ha, hs, hd, hz⟩ := h (by intro h0; rw [h0] at hi; simp at hi)
  exact ⟨d, ha, hs, hd, hz i hi⟩
theorem within_any (n lo hi : Int) (w : World) : Calls Tryz.prog 77 #[.int .i64 n, .int .i64 lo, .int .i64 hi] w fun e w' => e = .returned (.bool (decide (lo ≤ n ∧ n ≤ hi))) ∧ w = w' := by
  by_cases h0 : lo ≤ n <;> by_cases h1 : n ≤ hi
  all_goals
    go_enter Tryz.func77, Tryz.ntmps77
    go_wp2
    go_ret
    exact ⟨by simp [h0, h1], rfl⟩
theorem l1All_any (lo hi : Int) (v : Value) (zs : List Int) (w : World) (hv : IntsV w v zs) (hl : zs.length ≤ 1000000) :
    Calls Tryz.prog 85 #[v, .int .i64 lo, .int .i64 hi] w fun e w' => e = .returned (.bool (zs.all fun n => decide (lo ≤ n ∧ n ≤ hi))) ∧ w = w' := by
  have HV := Lib.hid hv
  obtain ⟨a, c, rfl, hx⟩ := hv
  clear hx
  generalize hlen : zs.length = l at *
  have HL := Lib.hid hlen
  clear hlen
  generalize hbb : (zs.all fun n => decide (lo ≤ n ∧ n ≤ hi)) = bb
  have HBB := Lib.hid hbb
  clear hbb
  go_enter Tryz.func85, Tryz.ntmps85
  go_wp2
  go_loop [11] (fun i => ∃ k : Nat, k ≤ l ∧ i = .int .i64 k ∧ ∀ j (h : j < zs.length), j < k → decide (lo ≤ zs[j] ∧ zs[j] ≤ hi) = true) (fun i => l - (intOf i).toNat)
  case atStart => exact ⟨0, by omega, rfl, fun _ _ h => absurd h (by omega)⟩
  case round =>
    obtain ⟨k, hk, rfl, ho⟩ := hrel
    have HO := Lib.hid ho
    clear ho
    by_cases hlt : k < l
    · have hkl : k < zs.length := by rw [HL.out]; exact hlt
      obtain ⟨d, rfl, hs, hd, hc⟩ := HV.out.at hkl
      obtain ⟨db, dof, _⟩ := d
      simp only at hs hc
      subst hs
      generalize hz : zs[k] = z at *
      have HZ := Lib.hid hz
      clear hz hd
      have A := Lib.hid (l1In_any z lo hi w)
      cases he : decide (lo ≤ z ∧ z ≤ hi)
      · rw [he] at A
        have hfin : (zs.all fun n => decide (lo ≤ n ∧ n ≤ hi)) = false := by
          refine List.all_eq_false.2 ⟨zs[k], List.getElem_mem _, ?_⟩
          rw [HZ.out, he]
          simp
        have HF := Lib.hid hfin
        clear hfin he
        go_wp2_with (go_at_call 34; with_reducible refine A.out.mono ?_; rintro e w' ⟨rfl, rfl⟩)
        go_ret
        exact ⟨by rw [← HBB.out, HF.out]; rfl, rfl⟩
      · rw [he] at A
        have HE := Lib.hid he
        clear he
        go_wp2_with (go_at_call 34; with_reducible refine A.out.mono ?_; rintro e w' ⟨rfl, rfl⟩)
        go_round
        case rel => exact ⟨k + 1, by omega, by go_num, fun j h hj => by
          by_cases hjk : j = k
          · subst hjk; rw [HZ.out]; exact HE.out
          · exact HO.out j h (by omega)⟩
        case measure => simp [intOf]; omega
    · have hfin : (zs.all fun n => decide (lo ≤ n ∧ n ≤ hi)) = true := by
        refine List.all_eq_true.2 fun x hx => ?_
        obtain ⟨j, hj, rfl⟩ := List.getElem_of_mem hx
        exact HO.out j hj (by have := HL.out; omega)
      have HF := Lib.hid hfin
      clear hfin
      go_wp2
      go_ret
      exact ⟨by rw [← HBB.out, HF.out]; rfl, rfl⟩
end Go.Proofs.YtjagjhchnpmngaaGreatDoor

/-
  The laws' own helpers on lists of integers: comparison and marks. Conditions: lengths are small.
-/
namespace Go.Proofs.YtjagjhchnpmngaaGreatDoor
open Go.RowKit
set_option linter.unusedVariables false
set_option maxRecDepth 100000

theorem eqIntS_any (v1 v2 : Value) (x y : List Int) (w : World) (h1 : IntsV w v1 x) (h2 : IntsV w v2 y) (l1 : x.length ≤ 1000000000) (l2 : y.length ≤ 1000000000) :
    Calls Tryz.prog 52 #[v1, v2] w fun e w' => e = .returned (.bool (decide (x = y))) ∧ w.grownBy w' none := by
  have H1 := Lib.hid h1; have H2 := Lib.hid h2
  obtain ⟨a1, c1, rfl⟩ := h1.shape
  obtain ⟨a2, c2, rfl⟩ := h2.shape
  clear h1 h2
  by_cases hl : x.length = y.length
  · generalize hlx : x.length = l at *
    have HLX := Lib.hid hlx; have HLY := Lib.hid hl
    rw [← HLY.out]
    clear hlx hl
    go_enter Tryz.func52, Tryz.ntmps52
    go_wp2
    go_loopw [5] (fun i wr => ∃ k : Nat, k ≤ l ∧ i = .int .i64 k ∧ (∀ j, j < k → x.getD j 0 = y.getD j 0) ∧ w.grownBy wr none) (fun i _ => l - (intOf i).toNat)
    case atStart => exact ⟨0, by omega, rfl, fun _ h => absurd h (by omega), grownBy_refl _ _⟩
    case round =>
      obtain ⟨k, hk, rfl, ho, hg⟩ := hrel
      have HO := Lib.hid ho; have HG := Lib.hid hg
      clear ho hg
      by_cases hlt : k < l
      · obtain ⟨b1, o1, rfl, hb1, hc1⟩ := (H1.out.carry HG.out).atD (i := k) (by rw [HLX.out]; exact hlt)
        obtain ⟨b2, o2, rfl, hb2, hc2⟩ := (H2.out.carry HG.out).atD (i := k) (by rw [← HLY.out]; exact hlt)
        generalize hzx : x.getD k 0 = zx at hc1
        generalize hzy : y.getD k 0 = zy at hc2
        have HZX := Lib.hid hzx; have HZY := Lib.hid hzy
        clear hzx hzy hb1 hb2
        by_cases he : zx = zy
        · subst he
          go_wp2
          go_quiet (fail)
          go_wp2
          go_roundw
          case rel => exact ⟨k + 1, by omega, by go_num, fun j hj => by
            by_cases hjk : j = k
            · subst hjk; rw [HZX.out, HZY.out]
            · exact HO.out j (by omega), ⟨HG.out.os, HG.out.tape, HG.out.output, HG.out.size, HG.out.block⟩⟩
          case measure => simp [intOf]; omega
        · have hb : (zx != zy) = true := by rw [bne_iff_ne]; exact he
          have hfin : decide (x = y) = false := by
            rw [decide_eq_false_iff_not]
            intro h
            subst h
            exact he (HZX.out.symm.trans HZY.out)
          have HF := Lib.hid hfin
          clear hfin he
          go_wp2
          go_quiet (fail)
          go_wp2
          go_ret
          exact ⟨by rw [HF.out]; rfl, ⟨HG.out.os, HG.out.tape, HG.out.output, HG.out.size, HG.out.block⟩⟩
      · have hfin : decide (x = y) = true := by
          rw [decide_eq_true_iff]
          refine List.ext_getElem (by rw [HLX.out, HLY.out]) fun j h h' => ?_
          have := HO.out j (by have := HLX.out; omega)
          rwa [List.getD_eq_getElem?_getD, List.getElem?_eq_getElem h, List.getD_eq_getElem?_getD, List.getElem?_eq_getElem h'] at this
        have HF := Lib.hid hfin
        clear hfin
        go_wp2
        go_ret
        exact ⟨by rw [HF.out]; rfl, HG.out⟩
  · have hfin : decide (x = y) = false := by
      rw [decide_eq_false_iff_not]
      intro h
      exact hl (by rw [h])
    have hb : ((x.length : Int) != y.length) = true := by rw [bne_iff_ne]; omega
    have HF := Lib.hid hfin
    clear hfin hl
    go_enter Tryz.func52, Tryz.ntmps52
    go_wp2
    go_ret
    exact ⟨by rw [HF.out]; rfl, grownBy_refl _ _⟩
/-- k, k + 1, .. -/
def cntI (k : Int) (n : Nat) : List Int := (List.range n).map fun (i : Nat) => k + (i : Int)
theorem cntI_len (k : Int) (n : Nat) : (cntI k n).length = n := by simp [cntI]
theorem cntI_at (k : Int) {n i : Nat} (h : i < n) : (cntI k n).getD i 0 = k + i := by
  unfold cntI
  rw [List.getD_eq_getElem?_getD, List.getElem?_map, List.getElem?_range h]
  rfl
theorem cntI_succ (k : Int) (n : Nat) : cntI k (n + 1) = cntI k n ++ [k + n] := by simp [cntI, List.range_succ]
theorem mark_set {zs : List Int} {n j : Nat} {k : Int} (hl : zs.length = n) (hj : j < n) : (cntI k j ++ zs.drop j).set j (k + j) = cntI k (j + 1) ++ zs.drop (j + 1) := by
  rw [List.set_append_right _ _ (by rw [cntI_len]; omega), cntI_len, Nat.sub_self, List.drop_eq_getElem_cons (by omega), List.set_cons_zero, cntI_succ]
  simp
theorem markIntS_any (a : Option Addr) (n c : Nat) (zs : List Int) (k : Int) (w : World) (l : List Asrt) (hs : Sep w (OI (.slice a n c) zs :: l)) (hn : n = zs.length) (hl : n ≤ 2000000) (h0 : 0 ≤ k) (h1 : k ≤ 100000000) :
    Calls Tryz.prog 56 #[.slice a n c, .int .i64 k] w fun e w' => e = .returned (.int .i64 (k + n)) ∧ Sep w' (OI (.slice a n c) (cntI k n) :: l) := by
  have HS := Lib.hid hs; have HL := Lib.hid hn.symm
  clear hs hn
  go_enter Tryz.func56, Tryz.ntmps56
  go_wp2
  go_loopw [1, 5] (fun kv i wr => ∃ j : Nat, j ≤ n ∧ i = .int .i64 j ∧ kv = .int .i64 (k + j) ∧ Sep wr (OI (.slice a n c) (cntI k j ++ zs.drop j) :: l)) (fun _ i _ => n - (intOf i).toNat)
  case atStart => exact ⟨0, by omega, rfl, by simp, by simpa [cntI] using HS.out⟩
  case round =>
    obtain ⟨j, hj, rfl, rfl, hs⟩ := hrel
    have HSX := Lib.hid hs
    clear hs
    by_cases hlt : j < n
    · have hll : n = (cntI k j ++ zs.drop j).length := by rw [List.length_append, cntI_len, List.length_drop, HL.out]; omega
      obtain ⟨g, cap, he, _, _, _⟩ := HSX.out.hd.parts (by intro h; have := congrArg List.length h; rw [← hll, List.length_nil] at this; omega)
      rw [← hll] at he
      cases he
      have hf := HSX.out.hd.free hll j
      obtain ⟨q, hc⟩ := HSX.out.hd.cellQ hll (j := j) hlt
      have hset := HSX.out.setI hll j (k + j)
      rw [mark_set HL.out hlt] at hset
      have HSET := Lib.hid hset
      have hw := wrap_id (x := k + j + 1) (by omega) (by omega)
      have hw2 := wrap_id (x := (j : Int) + 1) (by omega) (by omega)
      clear hll hset
      go_wp2
      go_roundw
      case rel => exact ⟨j + 1, by omega, by go_num, by congr 1; omega, HSET.out⟩
      case measure => simp [intOf]; omega
    · have hjn : j = n := by omega
      subst hjn
      clear hlt
      go_wp2
      go_ret
      have := HSX.out
      rw [List.drop_of_length_le (by rw [HL.out]; omega), List.append_nil] at this
      exact ⟨rfl, this⟩
theorem heldIntS_any (a : Option Addr) (n c : Nat) (k : Int) (w : World) (hv : IntsV w (.slice a n c) (cntI k n)) (hl : n ≤ 2000000) (h0 : 0 ≤ k) (h1 : k ≤ 100000000) :
    Calls Tryz.prog 58 #[.slice a n c, .int .i64 k] w fun e w' => e = .returned (.int .i64 (k + n)) ∧ w = w' := by
  have HV := Lib.hid hv
  clear hv
  go_enter Tryz.func58, Tryz.ntmps58
  go_wp2
  go_loop [1, 5] (fun kv i => ∃ j : Nat, j ≤ n ∧ i = .int .i64 j ∧ kv = .int .i64 (k + j)) (fun _ i => n - (intOf i).toNat)
  case atStart => exact ⟨0, by omega, rfl, by simp⟩
  case round =>
    obtain ⟨j, hj, rfl, rfl⟩ := hrel
    by_cases hlt : j < n
    · obtain ⟨b, o, rfl, hb, hc⟩ := HV.out.atD (i := j) (by rw [cntI_len]; exact hlt)
      rw [cntI_at k hlt] at hc
      have hw := wrap_id (x := k + j + 1) (by omega) (by omega)
      go_wp2
      go_round
      case rel => exact ⟨j + 1, by omega, by go_num, by congr 1; omega⟩
      case measure => simp [intOf]; omega
    · have hjn : j = n := by omega
      subst hjn
      clear hlt
      go_wp2
      go_ret
      exact ⟨rfl, rfl⟩
end Go.Proofs.YtjagjhchnpmngaaGreatDoor

/-
  The laws' own helpers on gates. Conditions: lengths are small.
-/
namespace Go.Proofs.YtjagjhchnpmngaaGreatDoor
open Go.RowKit
set_option linter.unusedVariables false
set_option maxRecDepth 100000

theorem gr1 (w : World) (a : Obj) : w.grownBy (w.alloc a) none := World.grownBy_alloc w a none
theorem gr2 (w : World) (a b : Obj) : w.grownBy ((w.alloc a).alloc b) none := grownBy_trans (gr1 w a) (gr1 _ b)
theorem gr3 (w : World) (a b c : Obj) : w.grownBy (((w.alloc a).alloc b).alloc c) none := grownBy_trans (gr2 w a b) (gr1 _ c)
end Go.Proofs.YtjagjhchnpmngaaGreatDoor

/-
  Gates in the program and in the reference: their operands. Conditions: lengths are small.
-/
namespace Go.Proofs.YtjagjhchnpmngaaGreatDoor
open Go.RowKit
set_option linter.unusedVariables false
set_option maxRecDepth 100000

end Go.Proofs.YtjagjhchnpmngaaGreatDoor

/-
  slices.IndexFunc and slices.ContainsFunc on integers, at whatever predicate that writes nothing old; 0, .., n-1. Conditions: lengths are small.
-/
namespace Go.Proofs.YtjagjhchnpmngaaGreatDoor
open Go.RowKit
set_option linter.unusedVariables false
set_option maxRecDepth 100000

theorem getD_mem' {zs : List Int} {k : Nat} (h : k < zs.length) : zs.getD k 0 ∈ zs := by
  rw [List.getD_eq_getElem?_getD, List.getElem?_eq_getElem h]
  exact List.getElem_mem _
/-! ### 0, .., n - 1 -/
def upL (n : Nat) : List Int := (List.range n).map fun (i : Nat) => (i : Int)
theorem upL_len (n : Nat) : (upL n).length = n := by simp [upL]
theorem upL_succ (n : Nat) : upL (n + 1) = upL n ++ [(n : Int)] := by simp [upL, List.range_succ]
theorem up_set {n k : Nat} (hk : k < n) : (upL k ++ List.replicate (n - k) (0 : Int)).set k (k : Int) = upL (k + 1) ++ List.replicate (n - (k + 1)) 0 := by
  rw [List.set_append_right _ _ (by rw [upL_len]; omega), upL_len, Nat.sub_self, show n - k = (n - (k + 1)) + 1 by omega, List.replicate_succ, List.set_cons_zero, upL_succ]
  simp
theorem zeros_full (n : Nat) (w : World) (hl : n ≤ 1000000) :
    Calls Tryz.prog 98 #[.int .i64 n] w fun e w' => ∃ g c, e = .returned (.slice (some ⟨g, 0, none⟩) n c) ∧ Sep w' [OI (.slice (some ⟨g, 0, none⟩) n c) (List.replicate n 0), KeepA w] := by
  obtain ⟨i0, hi, hz0, hz1, hz2⟩ := info_parts info_int
  have HI := Lib.hid hi; have HZ0 := Lib.hid hz0; have HZ1 := Lib.hid hz1; have HZ2 := Lib.hid hz2
  clear hi hz0 hz1 hz2
  go_enter Tryz.func98, Tryz.ntmps98
  go_wp2_with (
    at_make
    refine wpList_make_full _ rfl _ _ 28 rfl w.heap.size 3 i0 (.int .i64 0) 1 Tryz.underlying28 HI.out HZ0.out HZ1.out _ _ _ _ n rfl rfl rfl rfl (by rw [HZ2.out]; omega) (by unfold maxLen; omega) (Nat.le_refl _) ?_
    intro w1 hown' hgr'
    have hs0 : Sep w1 [OI (.slice (some ⟨w.heap.size, 0, none⟩) n n) (List.replicate n 0), KeepA w] := (Sep.start w).newI hgr' (by
      rw [madeCells_int] at hown'
      unfold OwnInts
      rw [List.length_replicate]
      exact hown')
    have HS := Lib.hid hs0
    clear hs0 hown' hgr')
  go_ret
  exact ⟨_, _, rfl, HS.out⟩
theorem upTo_any (n : Nat) (w : World) (hl : n ≤ 1000000) :
    Calls Tryz.prog 76 #[.int .i64 n] w fun e w' => ∃ g c, e = .returned (.slice (some ⟨g, 0, none⟩) n c) ∧ Sep w' [OI (.slice (some ⟨g, 0, none⟩) n c) (upL n), KeepA w] := by
  have HZ := Lib.hid (zeros_full n w hl)
  go_enter Tryz.func76, Tryz.ntmps76
  go_wp2_with (
    go_at_call 98
    refine HZ.out.mono ?_
    rintro e w2 ⟨g, c, rfl, hs⟩
    have HS := Lib.hid hs
    clear hs)
  go_loopw [4, 9] (fun _ i wr => ∃ k : Nat, k ≤ n ∧ i = .int .i64 k ∧ Sep wr [OI (.slice (some ⟨g, 0, none⟩) n c) (upL k ++ List.replicate (n - k) 0), KeepA w]) (fun _ i _ => n - (intOf i).toNat)
  case atStart => exact ⟨0, by omega, rfl, by simpa [upL] using HS.out⟩
  case round =>
    obtain ⟨k, hk, rfl, hs⟩ := hrel
    have HSX := Lib.hid hs
    clear hs
    by_cases hlt : k < n
    · have hll : n = (upL k ++ List.replicate (n - k) (0 : Int)).length := by rw [List.length_append, upL_len, List.length_replicate]; omega
      have hf := HSX.out.hd.free hll k
      obtain ⟨q, hc0⟩ := HSX.out.hd.cellQ hll (j := k) hlt
      have hset := HSX.out.setI hll k (k : Int)
      rw [up_set hlt] at hset
      have HSET := Lib.hid hset
      clear hll hset
      go_wp2
      go_roundw
      case rel => exact ⟨k + 1, by omega, by go_num, HSET.out⟩
      case measure => simp [intOf]; omega
    · have hkn : k = n := by omega
      subst hkn
      clear hlt
      go_wp2
      go_ret
      have := HSX.out
      rw [Nat.sub_self, List.replicate_zero, List.append_nil] at this
      exact ⟨_, _, rfl, this⟩
end Go.Proofs.YtjagjhchnpmngaaGreatDoor

/-
  Maps from integers to bools that the call has made: which keys are there, and what they hold. Conditions: none.
-/
namespace Go.Proofs.YtjagjhchnpmngaaGreatDoor
open Go.RowKit Go.Maps
set_option linter.unusedVariables false
set_option maxRecDepth 100000

/-- Block b is a map that holds 'true' at just those i at which op does. -/
def MapIs (w : World) (b : Nat) (op : List Bool) : Prop :=
  ∃ D, w.ownsMap Tryz.prog 3 (plainElem (H := Unit) Tryz.prog 4) b (nOpen op) D ∧ size D = nOpen op ∧
    ∀ i : Nat, has D (.int .i64 i) = op.getD i false ∧ D.atKey (.int .i64 i) (.lit (.bool false)) = .lit (.bool (op.getD i false))
theorem tight {w : World} {b n : Nat} {D : DataW Unit} (h : w.ownsMap Tryz.prog 3 (plainElem Tryz.prog 4) b n D) : w.ownsMap Tryz.prog 3 (plainElem Tryz.prog 4) b (size D) D := by
  obtain ⟨es, clock, hb, F, hs, rfl⟩ := h
  exact ⟨es, clock, hb, F, by rw [size_eq, length_sorted]; simp, rfl⟩
theorem MapIs.of {w : World} {b n : Nat} {D : DataW Unit} {op : List Bool} (h : w.ownsMap Tryz.prog 3 (plainElem Tryz.prog 4) b n D) (hs : size D = nOpen op) (hv : ∀ i : Nat, has D (.int .i64 i) = op.getD i false ∧ D.atKey (.int .i64 i) (.lit (.bool false)) = .lit (.bool (op.getD i false))) : MapIs w b op :=
  ⟨D, hs ▸ tight h, hs, hv⟩
theorem MapIs.lt {w : World} {b : Nat} {op : List Bool} (h : MapIs w b op) : b < w.heap.size := by
  obtain ⟨D, h, _⟩ := h
  exact h.lt
theorem MapIs.only {w w' : World} {b : Nat} {op : List Bool} (h : MapIs w b op) (ho : Only (fun k => ¬ k = b) w w') : MapIs w' b op := by
  obtain ⟨D, h, h2⟩ := h
  have hlt := h.lt
  obtain ⟨es, clock, hb, F, hs, hD⟩ := h
  exact ⟨D, ⟨es, clock, (ho.block b hlt fun h => h rfl).trans hb, F, hs, hD⟩, h2⟩
theorem MapIs.grown {w w' : World} {b : Nat} {op : List Bool} (h : MapIs w b op) (hg : w.grownBy w' none) : MapIs w' b op := h.only (Only.of_grown hg (by simp))
theorem nOpen_false (n : Nat) : nOpen (List.replicate n false) = 0 := by
  unfold nOpen
  rw [List.countP_eq_zero]
  intro x hx
  rw [List.eq_of_mem_replicate hx]
  simp
theorem getD_false (n i : Nat) : (List.replicate n false).getD i false = false := by
  rw [List.getD_eq_getElem?_getD, List.getElem?_replicate]
  split <;> rfl
theorem MapIs.made (w : World) (n : Nat) : MapIs (w.alloc (.map #[] 0)) w.heap.size (List.replicate n false) :=
  MapIs.of (World.ownsMap_made w _ _ _) (by rw [nOpen_false]; rfl) fun i => by
    rw [getD_false]
    exact ⟨rfl, atKey_of_not_has rfl _⟩
section
variable {ops : Array Oper} {rest : List Oper} {o : Oper} {a : Act} {Q : Exit → Act → World → Prop} {w : World} {b i : Nat} {op : List Bool}
end
end Go.Proofs.YtjagjhchnpmngaaGreatDoor

/-
  Silent gates in plain Lean: the greatest set that stays silent; gates folded to zeros. Conditions: none.
-/
namespace Go.Proofs.YtjagjhchnpmngaaGreatDoor
open Go.RowKit
set_option linter.unusedVariables false

def LeB (m m' : List Bool) : Prop := ∀ i, m.getD i false = true → m'.getD i false = true
/-- How many are marked. -/
def nT (m : List Bool) : Nat := m.countP (fun b => b)
def z2 : Gt := ⟨2, 0, 0, 0⟩
end Go.Proofs.YtjagjhchnpmngaaGreatDoor

/-
  The laws' own helpers on lists of gates: comparison and marks. Conditions: lengths are small.
-/
namespace Go.Proofs.YtjagjhchnpmngaaGreatDoor
open Go.RowKit
set_option linter.unusedVariables false
set_option maxRecDepth 100000

theorem wrap64_id {x : Int} (h0 : -9223372036854775808 ≤ x) (h1 : x ≤ 9223372036854775807) : wrap64 x = x := by
  unfold wrap64
  omega
end Go.Proofs.YtjagjhchnpmngaaGreatDoor

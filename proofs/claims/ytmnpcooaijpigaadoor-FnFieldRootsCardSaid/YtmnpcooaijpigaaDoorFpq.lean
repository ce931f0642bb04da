/-
  Plain facts on square roots and quadratic roots modulo a prime up to 97: no program in sight.
-/
import Derived.Test.YtmnpcooaijpigaaDoorFp
namespace Go.Proofs.YtmnpcooaijpigaaDoor

theorem fld_cancel {n d : Nat} {e : Int} (hf : fldN n = true) (h0 : d ≠ 0) (hd : d < n) (h : (n : Int) ∣ (d : Int) * e) : (n : Int) ∣ e := by
  have hi := (field_facts hf hd).inv h0
  generalize d ^ (n - 2 + if n = 2 then 1 else 0) % n = i at hi
  have hn2 := (of_decide_eq_true hf).1
  have h1 : (n : Int) ∣ 1 - (d : Int) * i := Int.dvd_sub_self_of_emod_eq (by exact_mod_cast hi)
  have h3 := Int.dvd_add (Int.dvd_mul_of_dvd_right (a := n) (b := (i : Int)) h) (Int.dvd_mul_of_dvd_right (a := n) (b := e) h1)
  have e1 : (i : Int) * (d * e) + e * (1 - d * i) = e := by grind
  rwa [e1] at h3

theorem dvd_small {n : Nat} {a : Nat} (ha : a < n) (h : (n : Int) ∣ (a : Int)) : a = 0 := by
  have := Int.emod_eq_zero_of_dvd h
  rw [Int.emod_eq_of_lt (by omega) (by omega)] at this
  omega

/-- The square root's search. -/
def sqrtN (n a : Nat) : Option Nat := firstFrom (fun x => x * x % n == a) 0 n
/-- x is a root. -/
def isRoot (n a b c x : Nat) : Bool := (a * x * x + b * x + c) % n == 0
/-- The roots below k, as integers. -/
def rootsTo (n a b c k : Nat) : List Int := ((List.range k).filter (isRoot n a b c)).map Int.ofNat
theorem rootsTo_zero (n a b c : Nat) : rootsTo n a b c 0 = [] := rfl
theorem rootsTo_yes {n a b c k : Nat} (h : isRoot n a b c k = true) : rootsTo n a b c (k + 1) = rootsTo n a b c k ++ [(k : Int)] := by
  unfold rootsTo
  rw [List.range_succ, List.filter_append, List.map_append]
  simp [h]
theorem rootsTo_no {n a b c k : Nat} (h : isRoot n a b c k = false) : rootsTo n a b c (k + 1) = rootsTo n a b c k := by
  unfold rootsTo
  rw [List.range_succ, List.filter_append, List.map_append]
  simp [h]
theorem rootsTo_len (n a b c k : Nat) : (rootsTo n a b c k).length ≤ k := by
  unfold rootsTo
  rw [List.length_map]
  exact Nat.le_trans (List.length_filter_le _ _) (by simp)
theorem rootsTo_mem {n a b c k : Nat} {v : Int} (h : v ∈ rootsTo n a b c k) : ∃ x : Nat, v = x ∧ x < k ∧ isRoot n a b c x = true := by
  unfold rootsTo at h
  obtain ⟨x, hx, rfl⟩ := List.mem_map.1 h
  obtain ⟨h1, h2⟩ := List.mem_filter.1 hx
  exact ⟨x, rfl, List.mem_range.1 h1, h2⟩

theorem root_dvd {n a b c x : Nat} (h : isRoot n a b c x = true) : (n : Int) ∣ (a : Int) * x * x + b * x + c := by
  unfold isRoot at h
  rw [beq_iff_eq] at h
  refine Int.dvd_of_emod_eq_zero ?_
  exact_mod_cast h

theorem two_roots {n a b c x y : Nat} (hf : fldN n = true) (hxy : x < y) (hy : y < n) (h1 : isRoot n a b c x = true) (h2 : isRoot n a b c y = true) : (n : Int) ∣ (a : Int) * (x + y) + b := by
  refine fld_cancel hf (d := y - x) (by omega) (by omega) ?_
  have := Int.dvd_sub (root_dvd h2) (root_dvd h1)
  have e : ((a : Int) * y * y + b * y + c) - ((a : Int) * x * x + b * x + c) = ((y - x : Nat) : Int) * ((a : Int) * (x + y) + b) := by
    rw [Int.natCast_sub (by omega)]
    grind
  rwa [e] at this

/-- A polynomial of the second degree with three roots is zero. -/
theorem three_roots {n a b c x y z : Nat} (hf : fldN n = true) (ha : a < n) (hb : b < n) (hc : c < n) (hxy : x < y) (hyz : y < z) (hz : z < n) (h1 : isRoot n a b c x = true) (h2 : isRoot n a b c y = true) (h3 : isRoot n a b c z = true) : a = 0 ∧ b = 0 ∧ c = 0 := by
  have d1 := two_roots hf hxy (by omega) h1 h2
  have d2 := two_roots hf (show x < z by omega) hz h1 h3
  have d3 := Int.dvd_sub d2 d1
  have e : ((a : Int) * (x + z) + b) - ((a : Int) * (x + y) + b) = ((z - y : Nat) : Int) * a := by
    rw [Int.natCast_sub (by omega)]
    grind
  rw [e] at d3
  have a0 : a = 0 := dvd_small ha (fld_cancel hf (by omega) (by omega) d3)
  subst a0
  have b0 : b = 0 := dvd_small hb (by simpa using d1)
  subst b0
  have c0 : c = 0 := dvd_small hc (by simpa using root_dvd h1)
  exact ⟨rfl, rfl, c0⟩

theorem roots_few {n a b c : Nat} (hf : fldN n = true) (ha : a < n) (hb : b < n) (hc : c < n) (h : 2 < (rootsTo n a b c n).length) : a = 0 ∧ b = 0 ∧ c = 0 := by
  unfold rootsTo at h
  rw [List.length_map] at h
  have hs : ((List.range n).filter (isRoot n a b c)).Pairwise (· < ·) := List.Pairwise.filter _ List.pairwise_lt_range
  generalize hl : (List.range n).filter (isRoot n a b c) = l at h hs
  have hm : ∀ x ∈ l, x < n ∧ isRoot n a b c x = true := by
    intro x hx
    rw [← hl] at hx
    obtain ⟨h1, h2⟩ := List.mem_filter.1 hx
    exact ⟨List.mem_range.1 h1, h2⟩
  match l, h with
  | x :: y :: z :: _, _ =>
    rw [List.pairwise_cons, List.pairwise_cons] at hs
    have hx := hm x (by simp)
    have hy := hm y (by simp)
    have hz := hm z (by simp)
    exact three_roots hf ha hb hc (hs.1 y (by simp)) (hs.2.1 z (by simp)) hz.1 hx.2 hy.2 hz.2

/-- x^2 - a has a root just where a is a square. -/
theorem sqrt_iff {n a : Nat} (h2 : 2 ≤ n) (ha : a < n) : (rootsTo n 1 0 ((n - a) % n) n = [] ↔ sqrtN n a = none) := by
  have key : ∀ x, isRoot n 1 0 ((n - a) % n) x = (x * x % n == a) := by
    intro x
    unfold isRoot
    rw [Nat.one_mul, Nat.zero_mul, Nat.add_zero, Bool.eq_iff_iff, beq_iff_eq, beq_iff_eq]
    have hx : x * x % n < n := Nat.mod_lt _ (by omega)
    rw [Nat.add_mod, Nat.mod_mod]
    generalize x * x % n = y at hx
    by_cases h0 : a = 0
    · subst h0
      rw [Nat.sub_zero, Nat.mod_self, Nat.add_zero, Nat.mod_eq_of_lt hx]
    · rw [Nat.mod_eq_of_lt (show n - a < n by omega)]
      constructor
      · intro h
        rcases Nat.lt_or_ge (y + (n - a)) n with h3 | h3
        · rw [Nat.mod_eq_of_lt h3] at h; omega
        · rw [Nat.mod_eq_sub_mod h3, Nat.mod_eq_of_lt (by omega)] at h; omega
      · intro h
        subst h
        rw [show y + (n - y) = n from by omega, Nat.mod_self]
  constructor
  · intro h
    cases hs : sqrtN n a with
    | none => rfl
    | some j =>
      obtain ⟨h1, _, h3, _⟩ := firstFrom_some hs
      have hm : (j : Int) ∈ rootsTo n 1 0 ((n - a) % n) n := by
        unfold rootsTo
        exact List.mem_map.2 ⟨j, List.mem_filter.2 ⟨List.mem_range.2 (by omega), by rw [key]; exact h1⟩, rfl⟩
      rw [h] at hm
      cases hm
  · intro h
    rw [List.eq_nil_iff_forall_not_mem]
    intro v hv
    obtain ⟨x, rfl, hx, hr⟩ := rootsTo_mem hv
    rw [key] at hr
    have := firstFrom_none h x (by omega) (by omega)
    rw [this] at hr
    cases hr
theorem sqrt_some {n a j : Nat} (h : sqrtN n a = some j) : j * j % n = a ∧ j < n := by
  obtain ⟨h1, _, h3, _⟩ := firstFrom_some h
  exact ⟨by simpa using h1, by omega⟩

end Go.Proofs.YtmnpcooaijpigaaDoor

/-
  Sharing gates in plain Lean: gates that are alike, classes, their refinement. Conditions: none.
-/
import Derived.Test.YtkamcgonacmieaaDoorNa01
import Derived.Test.YtkamcgonacmieaaDoorNa02
import Derived.Maps.Keyed
import Derived.Maps.OwnSet
import Derived.DeepKeys4
import Derived.ChangeKeys
import Derived.Test.YtkamcgonacmieaaDoorNa05
import Derived.Deep.RegionHeld3
namespace Go.Proofs.YtkamcgonacmieaaDoor
open Go.RowKit
set_option linter.unusedVariables false

/-! ### least representatives -/
section Lo
variable {β : Type} [DecidableEq β]
/-- The least index of the same value. -/
def loN (f : Nat → β) (i : Nat) : Nat := ((List.range i).find? (fun j => decide (f j = f i))).getD i
theorem lo_spec (f : Nat → β) (i : Nat) : loN f i ≤ i ∧ f (loN f i) = f i ∧ ∀ j, f j = f i → loN f i ≤ j := by
  unfold loN
  cases hq : (List.range i).find? (fun j => decide (f j = f i)) with
  | none =>
    rw [List.find?_eq_none] at hq
    refine ⟨Nat.le_refl _, rfl, ?_⟩
    intro j hj
    by_cases h : j < i
    . exact absurd (by simpa using hj) (hq j (List.mem_range.2 h))
    . simpa using Nat.le_of_not_lt h
  | some m =>
    rw [List.find?_eq_some_iff_getElem] at hq
    obtain ⟨h1, j, hj, h2, h3⟩ := hq
    simp only [List.getElem_range] at h2
    subst h2
    simp only [List.length_range] at hj
    simp only [Option.getD_some]
    refine ⟨Nat.le_of_lt hj, by simpa using h1, ?_⟩
    intro m hm
    by_cases h : m < j
    . have := h3 m h
      simp at this
      exact absurd hm this
    . exact Nat.le_of_not_lt h
theorem lo_eq {f : Nat → β} {i m : Nat} (h1 : f m = f i) (h2 : ∀ j, j < m → f j ≠ f i) : loN f i = m := by
  obtain ⟨a, b, c⟩ := lo_spec f i
  have := c m h1
  rcases Nat.lt_or_ge (loN f i) m with h | h
  . exact absurd b (h2 _ h)
  . omega
theorem lo_iff {f : Nat → β} {i j : Nat} : loN f i = loN f j ↔ f i = f j := by
  constructor
  . intro h
    rw [← (lo_spec f i).2.1, h, (lo_spec f j).2.1]
  . intro h
    apply lo_eq
    . rw [(lo_spec f j).2.1, h]
    . intro m hm e
      have := (lo_spec f j).2.2 m (by rw [e, h])
      omega
theorem lo_idem (f : Nat → β) (i : Nat) : loN f (loN f i) = loN f i := lo_iff.2 (lo_spec f i).2.1
/-- How many representatives lie below i. -/
def cntN (f : Nat → β) (i : Nat) : Nat := ((List.range i).filter (fun j => decide (loN f j = j))).length
theorem cnt_up (f : Nat → β) (i : Nat) : cntN f (i + 1) = cntN f i + if loN f i = i then 1 else 0 := by
  unfold cntN
  rw [List.range_succ, List.filter_append, List.length_append]
  by_cases h : loN f i = i <;> simp [h]
theorem cnt_mono (f : Nat → β) {i j : Nat} (h : i ≤ j) : cntN f i ≤ cntN f j := by
  induction j with
  | zero => simp_all
  | succ j ih =>
    rw [cnt_up]
    rcases Nat.lt_or_ge i (j + 1) with h' | h'
    . have := ih (by omega)
      omega
    . have : i = j + 1 := by omega
      subst this
      rw [cnt_up]
      omega
theorem cnt_le (f : Nat → β) (i : Nat) : cntN f i ≤ i := by
  have := List.length_filter_le (fun j => decide (loN f j = j)) (List.range i)
  simpa [cntN] using this
theorem cnt_rep {f : Nat → β} {i j : Nat} (hi : loN f i = i) (h : i < j) : cntN f i < cntN f j := by
  have h1 := cnt_up f i
  rw [if_pos hi] at h1
  have := cnt_mono f (show i + 1 ≤ j by omega)
  omega
theorem cnt_pos (f : Nat → β) {n : Nat} (h : 0 < n) : 1 ≤ cntN f n := by
  have h0 : loN f 0 = 0 := by
    have := (lo_spec f 0).1
    omega
  have := cnt_rep h0 h
  omega
/-- The number of a value, by first occurrence. -/
def numN (f : Nat → β) (i : Nat) : Nat := cntN f (loN f i)
theorem num_iff {f : Nat → β} {i j : Nat} : numN f i = numN f j ↔ f i = f j := by
  unfold numN
  constructor
  . intro h
    rw [← lo_iff]
    rcases Nat.lt_trichotomy (loN f i) (loN f j) with h' | h' | h'
    . have := cnt_rep (lo_idem f i) h'
      omega
    . exact h'
    . have := cnt_rep (lo_idem f j) h'
      omega
  . intro h
    rw [lo_iff.2 h]
theorem num_lt {f : Nat → β} {i n : Nat} (h : i < n) : numN f i < cntN f n := by
  unfold numN
  have := (lo_spec f i).1
  exact cnt_rep (lo_idem f i) (by omega)
end Lo

section Two
variable {β γ : Type} [DecidableEq β] [DecidableEq γ]
theorem lo_congr {f : Nat → β} {g : Nat → γ} {n : Nat} (h : ∀ i j, i < n → j < n → (f i = f j ↔ g i = g j)) {i : Nat} (hi : i < n) : loN f i = loN g i := by
  apply lo_eq
  . rw [h _ _ (by have := (lo_spec g i).1; omega) hi]
    exact (lo_spec g i).2.1
  . intro j hj e
    have hl := (lo_spec g i).1
    rw [h _ _ (by omega) hi] at e
    have := (lo_spec g i).2.2 j e
    omega
theorem cnt_congr {f : Nat → β} {g : Nat → γ} {n : Nat} (h : ∀ i j, i < n → j < n → (f i = f j ↔ g i = g j)) : cntN f n = cntN g n := by
  unfold cntN
  congr 1
  apply List.filter_congr
  intro i hi
  rw [List.mem_range] at hi
  rw [lo_congr h hi]
/-- A finer kernel has all representatives of the coarser. -/
theorem rep_sub {f : Nat → β} {g : Nat → γ} {n : Nat} (h : ∀ i j, i < n → j < n → g i = g j → f i = f j) {i : Nat} (hi : i < n) (hr : loN f i = i) : loN g i = i := by
  apply lo_eq rfl
  intro j hj e
  have := (lo_spec f i).2.2 j (h _ _ (by omega) hi e)
  omega
theorem cnt_sub {f : Nat → β} {g : Nat → γ} {n : Nat} (h : ∀ i j, i < n → j < n → g i = g j → f i = f j) : ∀ m, m ≤ n → cntN f m ≤ cntN g m := by
  intro m
  induction m with
  | zero => simp [cntN]
  | succ m ih =>
    intro hm
    have := ih (by omega)
    rw [cnt_up, cnt_up]
    by_cases hr : loN f m = m
    . rw [if_pos hr, if_pos (rep_sub h (by omega) hr)]
      omega
    . rw [if_neg hr]
      omega
theorem rep_same {f : Nat → β} {g : Nat → γ} {n : Nat} (h : ∀ i j, i < n → j < n → g i = g j → f i = f j) : ∀ m, m ≤ n → cntN f m = cntN g m → ∀ i, i < m → loN g i = i → loN f i = i := by
  intro m
  induction m with
  | zero => intro _ _ i hi; omega
  | succ m ih =>
    intro hm hc i hi hr
    have h1 := cnt_sub h m (by omega)
    rw [cnt_up, cnt_up] at hc
    by_cases hf : loN f m = m
    . have hg := rep_sub h (by omega) hf
      rw [if_pos hf, if_pos hg] at hc
      rcases Nat.lt_or_ge i m with h' | h'
      . exact ih (by omega) (by omega) i h' hr
      . have : i = m := by omega
        subst this; exact hf
    . rw [if_neg hf] at hc
      by_cases hg : loN g m = m
      . rw [if_pos hg] at hc
        omega
      . rw [if_neg hg] at hc
        rcases Nat.lt_or_ge i m with h' | h'
        . exact ih (by omega) (by omega) i h' hr
        . have : i = m := by omega
          subst this; exact absurd hr hg
/-- A finer kernel with as many classes is the same. -/
theorem ker_same {f : Nat → β} {g : Nat → γ} {n : Nat} (h : ∀ i j, i < n → j < n → g i = g j → f i = f j) (hc : cntN f n = cntN g n) : ∀ i j, i < n → j < n → (f i = f j ↔ g i = g j) := by
  have key : ∀ i, i < n → loN g i = loN f i := by
    intro i hi
    have hl := (lo_spec g i).1
    have h1 := rep_same h n (Nat.le_refl _) hc (loN g i) (by omega) (lo_idem g i)
    have h2 : f (loN g i) = f i := h _ _ (by omega) hi (lo_spec g i).2.1
    rw [← lo_iff, h1] at h2
    exact h2
  intro i j hi hj
  refine ⟨fun e => ?_, h i j hi hj⟩
  rw [← lo_iff, key i hi, key j hj, lo_iff]
  exact e
end Two

/-! ### signatures -/
def atL (cl : List Int) (k : Int) : Int := cl.getD k.toNat 0
def sgL (gs : List Gt) (cl : List Int) (i : Nat) : List Int :=
  [cl.getD i 0, (gs.getD i g0).k, (gs.getD i g0).v,
   if (gs.getD i g0).k = 3 then min (atL cl (gs.getD i g0).a) (atL cl (gs.getD i g0).b) else if (gs.getD i g0).k = 4 ∨ (gs.getD i g0).k = 5 then atL cl (gs.getD i g0).a else 0,
   if (gs.getD i g0).k = 3 then max (atL cl (gs.getD i g0).a) (atL cl (gs.getD i g0).b) else 0]
/-- Are two gates alike, as the reference asks it? -/
def likeB (gs : List Gt) (cl : List Int) (i j : Nat) : Bool :=
  if cl.getD i 0 ≠ cl.getD j 0 ∨ (gs.getD i g0).k ≠ (gs.getD j g0).k ∨ (gs.getD i g0).v ≠ (gs.getD j g0).v then false
  else if (gs.getD i g0).k = 3 then
    decide (atL cl (gs.getD i g0).a = atL cl (gs.getD j g0).a ∧ atL cl (gs.getD i g0).b = atL cl (gs.getD j g0).b ∨ atL cl (gs.getD i g0).a = atL cl (gs.getD j g0).b ∧ atL cl (gs.getD i g0).b = atL cl (gs.getD j g0).a)
  else if (gs.getD i g0).k = 4 ∨ (gs.getD i g0).k = 5 then decide (atL cl (gs.getD i g0).a = atL cl (gs.getD j g0).a)
  else true
theorem like_iff (gs : List Gt) (cl : List Int) (i j : Nat) : likeB gs cl i j = true ↔ sgL gs cl i = sgL gs cl j := by
  unfold likeB sgL
  by_cases h : cl.getD i 0 ≠ cl.getD j 0 ∨ (gs.getD i g0).k ≠ (gs.getD j g0).k ∨ (gs.getD i g0).v ≠ (gs.getD j g0).v
  . rw [if_pos h]
    constructor
    . intro e; cases e
    . intro e
      simp only [List.cons.injEq] at e
      rcases h with h | h | h
      . exact absurd e.1 h
      . exact absurd e.2.1 h
      . exact absurd e.2.2.1 h
  . rw [if_neg h]
    have h1 : cl.getD i 0 = cl.getD j 0 := Classical.byContradiction fun e => h (Or.inl e)
    have h2 : (gs.getD i g0).k = (gs.getD j g0).k := Classical.byContradiction fun e => h (Or.inr (Or.inl e))
    have h3 : (gs.getD i g0).v = (gs.getD j g0).v := Classical.byContradiction fun e => h (Or.inr (Or.inr e))
    rw [← h1, ← h2, ← h3]
    by_cases k3 : (gs.getD i g0).k = 3
    . simp only [if_pos k3, decide_eq_true_iff, List.cons.injEq, true_and, and_true]
      constructor <;> intro e <;> omega
    . simp only [if_neg k3]
      by_cases k4 : (gs.getD i g0).k = 4 ∨ (gs.getD i g0).k = 5
      . simp only [if_pos k4, decide_eq_true_iff, List.cons.injEq, true_and, and_true]
      . simp only [if_neg k4]
theorem sg_head {gs : List Gt} {cl : List Int} {i j : Nat} (h : sgL gs cl i = sgL gs cl j) : cl.getD i 0 = cl.getD j 0 := by
  unfold sgL at h
  simp only [List.cons.injEq] at h
  exact h.1

/-- Two lists of classes part the gates alike. -/
def KerEq (n : Nat) (c d : List Int) : Prop := ∀ i j, i < n → j < n → (c.getD i 0 = c.getD j 0 ↔ d.getD i 0 = d.getD j 0)
theorem sg_ker {gs : List Gt} (hg : Gates gs) {c d : List Int} (h : KerEq gs.length c d) {i j : Nat} (hi : i < gs.length) (hj : j < gs.length) : sgL gs c i = sgL gs c j ↔ sgL gs d i = sgL gs d j := by
  have hop : ∀ i, i < gs.length → ∀ x ∈ opsL (gs.getD i g0), x.toNat < gs.length := by
    intro i hi x hx
    have h1 := hg.ops (gs.getD i g0) (by
      rw [List.getD_eq_getElem?_getD, List.getElem?_eq_getElem hi]
      exact List.getElem_mem hi) x hx
    omega
  rw [← like_iff, ← like_iff]
  have e : likeB gs c i j = likeB gs d i j := by
    have a1 := h i j hi hj
    have hh : (c.getD i 0 ≠ c.getD j 0 ∨ (gs.getD i g0).k ≠ (gs.getD j g0).k ∨ (gs.getD i g0).v ≠ (gs.getD j g0).v) ↔ (d.getD i 0 ≠ d.getD j 0 ∨ (gs.getD i g0).k ≠ (gs.getD j g0).k ∨ (gs.getD i g0).v ≠ (gs.getD j g0).v) := or_congr (not_congr a1) Iff.rfl
    unfold likeB
    by_cases h2 : (gs.getD i g0).k = (gs.getD j g0).k
    . by_cases hc : c.getD i 0 ≠ c.getD j 0 ∨ (gs.getD i g0).k ≠ (gs.getD j g0).k ∨ (gs.getD i g0).v ≠ (gs.getD j g0).v
      . rw [if_pos hc, if_pos (hh.1 hc)]
      . rw [if_neg hc, if_neg (fun e => hc (hh.2 e))]
        by_cases k3 : (gs.getD i g0).k = 3
        . rw [if_pos k3, if_pos k3]
          have oi := hop i hi
          have oj := hop j hj
          have ei : opsL (gs.getD i g0) = [(gs.getD i g0).a, (gs.getD i g0).b] := if_pos k3
          have ej : opsL (gs.getD j g0) = [(gs.getD j g0).a, (gs.getD j g0).b] := if_pos (h2 ▸ k3)
          rw [ei] at oi
          rw [ej] at oj
          have ia := oi (gs.getD i g0).a (by simp)
          have ib := oi (gs.getD i g0).b (by simp)
          have ja := oj (gs.getD j g0).a (by simp)
          have jb := oj (gs.getD j g0).b (by simp)
          have b1 := h _ _ ia ja
          have b2 := h _ _ ib jb
          have b3 := h _ _ ia jb
          have b4 := h _ _ ib ja
          unfold atL
          rw [decide_eq_decide, b1, b2, b3, b4]
        . rw [if_neg k3, if_neg k3]
          by_cases k4 : (gs.getD i g0).k = 4 ∨ (gs.getD i g0).k = 5
          . rw [if_pos k4, if_pos k4]
            have oi := hop i hi
            have oj := hop j hj
            have ei : opsL (gs.getD i g0) = [(gs.getD i g0).a] := by unfold opsL; rw [if_neg k3, if_pos k4]
            have ej : opsL (gs.getD j g0) = [(gs.getD j g0).a] := by unfold opsL; rw [if_neg (h2 ▸ k3), if_pos (h2 ▸ k4)]
            rw [ei] at oi
            rw [ej] at oj
            have b1 := h _ _ (oi (gs.getD i g0).a (by simp)) (oj (gs.getD j g0).a (by simp))
            unfold atL
            rw [decide_eq_decide, b1]
          . rw [if_neg k4, if_neg k4]
    . rw [if_pos (Or.inr (Or.inl h2)), if_pos (Or.inr (Or.inl h2))]
  rw [e]

/-! ### classes -/
def stepC (gs : List Gt) (cl : List Int) : List Int := (List.range gs.length).map (fun i => ((loN (sgL gs cl) i : Nat) : Int))
def numC (gs : List Gt) (cl : List Int) : List Int := (List.range gs.length).map (fun i => ((numN (sgL gs cl) i : Nat) : Int))
def clsN (gs : List Gt) : Nat → List Int
  | 0 => List.replicate gs.length 0
  | s + 1 => stepC gs (clsN gs s)
theorem step_at (gs : List Gt) (cl : List Int) {i : Nat} (h : i < gs.length) : (stepC gs cl).getD i 0 = ((loN (sgL gs cl) i : Nat) : Int) := by
  unfold stepC
  rw [List.getD_eq_getElem?_getD, List.getElem?_map, List.getElem?_range h]
  rfl
theorem num_at (gs : List Gt) (cl : List Int) {i : Nat} (h : i < gs.length) : (numC gs cl).getD i 0 = ((numN (sgL gs cl) i : Nat) : Int) := by
  unfold numC
  rw [List.getD_eq_getElem?_getD, List.getElem?_map, List.getElem?_range h]
  rfl
theorem cls_len (gs : List Gt) (s : Nat) : (clsN gs s).length = gs.length := by
  cases s <;> simp [clsN, stepC]
theorem num_len (gs : List Gt) (cl : List Int) : (numC gs cl).length = gs.length := by simp [numC]
theorem step_len (gs : List Gt) (cl : List Int) : (stepC gs cl).length = gs.length := by simp [stepC]
/-- The kernel of the next classes is that of the signatures. -/
theorem step_ker (gs : List Gt) (cl : List Int) {i j : Nat} (hi : i < gs.length) (hj : j < gs.length) : (stepC gs cl).getD i 0 = (stepC gs cl).getD j 0 ↔ sgL gs cl i = sgL gs cl j := by
  rw [step_at gs cl hi, step_at gs cl hj, ← lo_iff (f := sgL gs cl)]
  omega
theorem num_ker (gs : List Gt) (cl : List Int) {i j : Nat} (hi : i < gs.length) (hj : j < gs.length) : (numC gs cl).getD i 0 = (numC gs cl).getD j 0 ↔ sgL gs cl i = sgL gs cl j := by
  rw [num_at gs cl hi, num_at gs cl hj, ← num_iff (f := sgL gs cl)]
  omega
/-- Each class is the least index of its gates. -/
theorem cls_lab (gs : List Gt) (s : Nat) {i : Nat} (hi : i < gs.length) : (clsN gs s).getD i 0 = ((loN (fun k => (clsN gs s).getD k 0) i : Nat) : Int) := by
  cases s with
  | zero =>
    have hz : ∀ k, (clsN gs 0).getD k 0 = 0 := by
      intro k
      unfold clsN
      rw [List.getD_eq_getElem?_getD, List.getElem?_replicate]
      by_cases h : k < gs.length <;> simp [h]
    rw [hz]
    have : loN (fun k => (clsN gs 0).getD k 0) i = 0 := by
      apply lo_eq
      . simp only [hz]
      . intro j hj; omega
    rw [this]; rfl
  | succ s =>
    show (stepC gs (clsN gs s)).getD i 0 = _
    rw [step_at gs _ hi]
    congr 1
    exact lo_congr (n := gs.length) (fun a b ha hb => (step_ker gs (clsN gs s) ha hb).symm) hi
def cntC (gs : List Gt) (cl : List Int) : Nat := cntN (fun k => cl.getD k 0) gs.length
theorem cnt_step (gs : List Gt) (cl : List Int) : cntC gs (stepC gs cl) = cntN (sgL gs cl) gs.length := cnt_congr (n := gs.length) (fun a b ha hb => step_ker gs cl ha hb)
theorem cnt_grow (gs : List Gt) (cl : List Int) : cntC gs cl ≤ cntN (sgL gs cl) gs.length :=
  cnt_sub (n := gs.length) (fun a b ha hb e => sg_head e) gs.length (Nat.le_refl _)
/-- As many classes: the same classes. -/
theorem cls_fix {gs : List Gt} {s : Nat} (h : cntN (sgL gs (clsN gs s)) gs.length = cntC gs (clsN gs s)) : clsN gs (s + 1) = clsN gs s := by
  have hk := ker_same (n := gs.length) (f := fun k => (clsN gs s).getD k 0) (g := sgL gs (clsN gs s)) (fun a b ha hb e => sg_head e) h.symm
  apply List.ext_getElem
  . rw [cls_len, cls_len]
  . intro i h1 h2
    rw [cls_len] at h1
    have e1 : (clsN gs (s + 1)).getD i 0 = (clsN gs s).getD i 0 := by
      rw [cls_lab gs s h1]
      show (stepC gs (clsN gs s)).getD i 0 = _
      rw [step_at gs _ h1]
      congr 1
      exact lo_congr (n := gs.length) (fun a b ha hb => (hk a b ha hb).symm) h1
    rw [List.getD_eq_getElem?_getD, List.getD_eq_getElem?_getD, List.getElem?_eq_getElem (by rw [cls_len]; exact h1), List.getElem?_eq_getElem h2] at e1
    exact e1
theorem fix_cnt {gs : List Gt} {s : Nat} (h : clsN gs (s + 1) = clsN gs s) : cntN (sgL gs (clsN gs s)) gs.length = cntC gs (clsN gs s) := by
  rw [← cnt_step]
  show cntC gs (clsN gs (s + 1)) = _
  rw [h]
theorem cls_stay {gs : List Gt} {s : Nat} (h : clsN gs (s + 1) = clsN gs s) : ∀ m, s ≤ m → clsN gs m = clsN gs s := by
  intro m
  induction m with
  | zero => intro e; have : s = 0 := by omega
            subst this; rfl
  | succ m ih =>
    intro e
    rcases Nat.lt_or_ge m s with h' | h'
    . have : s = m + 1 := by omega
      subst this; rfl
    . show stepC gs (clsN gs m) = _
      rw [ih h']
      exact h
open Classical in
/-- The classes that stay. -/
noncomputable def finC (gs : List Gt) : List Int := if h : ∃ s, clsN gs (s + 1) = clsN gs s then clsN gs (Classical.choose h) else []
theorem finC_of {gs : List Gt} {s : Nat} (h : clsN gs (s + 1) = clsN gs s) : finC gs = clsN gs s := by
  unfold finC
  rw [dif_pos ⟨s, h⟩]
  have hc := Classical.choose_spec (p := fun s => clsN gs (s + 1) = clsN gs s) ⟨s, h⟩
  rcases Nat.le_total s (Classical.choose (p := fun s => clsN gs (s + 1) = clsN gs s) ⟨s, h⟩) with h' | h'
  . exact cls_stay h _ h'
  . exact (cls_stay hc _ h').symm
theorem cnt_up_step {gs : List Gt} {s : Nat} (h : clsN gs (s + 1) ≠ clsN gs s) : cntC gs (clsN gs s) < cntC gs (clsN gs (s + 1)) := by
  have h1 := cnt_grow gs (clsN gs s)
  have h2 : cntC gs (clsN gs (s + 1)) = cntN (sgL gs (clsN gs s)) gs.length := cnt_step gs (clsN gs s)
  rcases Nat.lt_or_ge (cntC gs (clsN gs s)) (cntC gs (clsN gs (s + 1))) with h' | h'
  . exact h'
  . exact absurd (cls_fix (by omega)) h
theorem cntC_le (gs : List Gt) (cl : List Int) : cntC gs cl ≤ gs.length := cnt_le _ _
theorem cntC_zero {gs : List Gt} (h : 1 ≤ gs.length) : cntC gs (clsN gs 0) = 1 := by
  have hz : ∀ k, (clsN gs 0).getD k 0 = 0 := by
    intro k
    unfold clsN
    rw [List.getD_eq_getElem?_getD, List.getElem?_replicate]
    by_cases h : k < gs.length <;> simp [h]
  have h1 : ∀ n, 1 ≤ n → cntN (fun k => (clsN gs 0).getD k 0) n = 1 := by
    intro n
    induction n with
    | zero => intro e; omega
    | succ n ih =>
      intro _
      rw [cnt_up]
      have hl : loN (fun k => (clsN gs 0).getD k 0) n = 0 := by
        apply lo_eq
        . simp only [hz]
        . intro j hj; omega
      rw [hl]
      rcases Nat.eq_zero_or_pos n with h' | h'
      . subst h'; simp [cntN]
      . rw [ih h', if_neg (by omega)]
  exact h1 _ h
/-- The same kernel as the classes after s steps: so after one more, by numbers. -/
theorem num_next {gs : List Gt} (hg : Gates gs) {cl : List Int} {s : Nat} (h : KerEq gs.length cl (clsN gs s)) : KerEq gs.length (numC gs cl) (clsN gs (s + 1)) ∧ cntN (sgL gs cl) gs.length = cntC gs (clsN gs (s + 1)) := by
  constructor
  . intro i j hi hj
    rw [num_ker gs cl hi hj, sg_ker hg h hi hj]
    exact (step_ker gs (clsN gs s) hi hj).symm
  . show _ = cntC gs (stepC gs (clsN gs s))
    rw [cnt_step]
    exact cnt_congr (n := gs.length) (fun a b ha hb => sg_ker hg h ha hb)
/-- The first place of a class. -/
theorem first_fin {gs : List Gt} {cl : List Int} {s : Nat} (h : KerEq gs.length cl (clsN gs s)) {i m : Nat} (hi : i < gs.length) (h1 : m < gs.length) (h2 : cl.getD m 0 = cl.getD i 0) (h3 : ∀ j, j < m → cl.getD j 0 ≠ cl.getD i 0) : (clsN gs s).getD i 0 = (m : Int) := by
  rw [cls_lab gs s hi]
  congr 1
  apply lo_eq
  . exact (h m i h1 hi).1 h2
  . intro j hj e
    exact h3 j hj ((h j i (by omega) hi).2 e)
theorem finC_in {gs : List Gt} {s : Nat} (h : clsN gs (s + 1) = clsN gs s) {i : Nat} (hi : i < gs.length) : 0 ≤ (finC gs).getD i 0 ∧ (finC gs).getD i 0 < gs.length := by
  rw [finC_of h, cls_lab gs s hi]
  have := (lo_spec (fun k => (clsN gs s).getD k 0) i).1
  omega
end Go.Proofs.YtkamcgonacmieaaDoor

/-
  Maps from signatures to ints that the call has made. Conditions: none.
-/
namespace Go.Proofs.YtkamcgonacmieaaDoor
open Go.RowKit Go.Maps
set_option linter.unusedVariables false
set_option maxRecDepth 100000

theorem laid_out : laidOutB Tryd.prog = true := by kernel_rfl
theorem sg_row : (204 : TypeId) < Tryd.prog.types.size := of_decide_eq_true (by kernel_rfl)
theorem sg_wide : (match Tryd.prog.underlying 204 with | some (.array _ _) | some (.struct _) => true | _ => false) = true := by rw [Tryd.underlying204]
theorem sgLaw : Keyed Tryd.prog 204 := Keyed.of_law (deep_law_laid laid_out (m := 2) (by omega) sg_row (by kernel_rfl) sg_wide)
theorem sg_keyType : Tryd.prog.keyType 204 = true := by kernel_rfl
theorem sg_cells : Tryd.prog.cellsOf 204 = 5 := by kernel_rfl
theorem int_cells : Tryd.prog.cellsOf 3 = 1 := by kernel_rfl
theorem sg_types : ∃ m, Tryd.prog.types.size = m + 1 := Nat.exists_eq_succ_of_ne_zero (Nat.ne_of_gt (Nat.lt_of_le_of_lt (Nat.zero_le _) sg_row))
theorem zeroInt (w : World) : (zeroValue 3).run Tryd.prog w = .ok (.int .i64 0) w := by kernel_rfl

def sgK (s : List Int) : Lit := .string (keyBytes (s.map (Lit.int .i64)))
def sgV (s : List Int) : Value := .agg (s.map (Value.int .i64)).toArray
/-- A signature that an int holds. -/
def SgOk (s : List Int) : Prop := s.length = 5 ∧ ∀ x ∈ s, (Lit.int .i64 x).wf = true
theorem sg_key {s : List Int} (h : SgOk s) : keyOf Tryd.prog 204 (sgV s) = some (sgK s) := by
  obtain ⟨h1, h2⟩ := h
  match s, h1 with
  | [a, b, c, d, e], _ =>
    have wa := h2 a (by simp)
    have wb := h2 b (by simp)
    have wc := h2 c (by simp)
    have wd := h2 d (by simp)
    have we := h2 e (by simp)
    unfold sgV sgK
    obtain ⟨m, hm⟩ := sg_types
    unfold keyOf
    simp only [Tryd.underlying204]
    rw [if_pos (by simp [sg_keyType, Value.formed, Tryd.underlying204, sg_cells]), hm]
    unfold Program.keyLits
    simp only [Tryd.underlying204, Value.cells]
    rw [if_pos ⟨by rw [sg_cells]; rfl, by kernel_rfl⟩]
    simp [int_cells, Program.keyLits, Tryd.underlying3, wa, wb, wc, wd, we]
theorem alike_ints : ∀ (l m : List Int), l.length = m.length → Alike (l.map (Lit.int .i64)) (m.map (Lit.int .i64))
  | [], [], _ => trivial
  | _ :: l, _ :: m, h => ⟨rfl, alike_ints l m (by simpa using h)⟩
theorem sg_inj {s t : List Int} (hs : SgOk s) (ht : SgOk t) (e : sgK s = sgK t) : s = t := by
  unfold sgK at e
  simp only [Lit.string.injEq] at e
  have := keyBytes_inj (alike_ints s t (by rw [hs.1, ht.1])) (fun a ha => by
    obtain ⟨x, hx, rfl⟩ := List.mem_map.1 ha
    exact hs.2 x hx) (fun a ha => by
    obtain ⟨x, hx, rfl⟩ := List.mem_map.1 ha
    exact ht.2 x hx) e
  exact (List.map_inj_right (fun x y h => by simpa using h)).1 this
theorem isKey_sg (s : List Int) : WideAt.IsKeyLit (sgK s) := by simp [sgK, WideAt.IsKeyLit]

/-- Block b holds the numbers of the signatures of the first i gates. -/
def SgIs (w : World) (b : Nat) (f : Nat → List Int) (i : Nat) : Prop :=
  ∃ D, w.ownsMap Tryd.prog 204 (plainElem (H := Unit) Tryd.prog 3) b (cntN f i) D ∧ size D = cntN f i ∧
    ∀ k, SgOk (f k) → (has D (sgK (f k)) = decide (∃ j, j < i ∧ f j = f k)) ∧ ((∃ j, j < i ∧ f j = f k) → D.atKey (sgK (f k)) (.lit (.int .i64 0)) = .lit (.int .i64 (numN f k)))
theorem sg_tight {w : World} {b n : Nat} {D : DataW Unit} (h : w.ownsMap Tryd.prog 204 (plainElem Tryd.prog 3) b n D) : w.ownsMap Tryd.prog 204 (plainElem Tryd.prog 3) b (size D) D := by
  obtain ⟨es, clock, hb, F, hs, rfl⟩ := h
  exact ⟨es, clock, hb, F, by rw [size_eq, length_sorted]; simp, rfl⟩
theorem SgIs.lt {w : World} {b : Nat} {f : Nat → List Int} {i : Nat} (h : SgIs w b f i) : b < w.heap.size := by
  obtain ⟨D, h, _⟩ := h
  exact h.lt
theorem SgIs.only {w w' : World} {b : Nat} {f : Nat → List Int} {i : Nat} (h : SgIs w b f i) (ho : Only (fun k => ¬ k = b) w w') : SgIs w' b f i := by
  obtain ⟨D, h, h2⟩ := h
  have hlt := h.lt
  obtain ⟨es, clock, hb, F, hs, hD⟩ := h
  exact ⟨D, ⟨es, clock, (ho.block b hlt fun h => h rfl).trans hb, F, hs, hD⟩, h2⟩
theorem SgIs.grown {w w' : World} {b : Nat} {f : Nat → List Int} {i : Nat} (h : SgIs w b f i) (hg : w.grownBy w' none) : SgIs w' b f i := h.only (Only.of_grown hg (by simp))
theorem SgIs.made (w : World) (f : Nat → List Int) : SgIs (w.alloc (.map #[] 0)) w.heap.size f 0 :=
  ⟨_, World.ownsMap_made w _ _ _, rfl, fun k _ => ⟨by
    rw [decide_eq_false (by rintro ⟨j, hj, _⟩; omega)]
    rfl, fun ⟨j, hj, _⟩ => absurd hj (by omega)⟩⟩
def SgA (b : Nat) (f : Nat → List Int) (i : Nat) : Asrt where
  foot := fun k => k = b
  sees := fun k => k = b
  holds := fun w => SgIs w b f i
  sub := fun _ h => h
  lt := fun w k h hk => by have : k = b := hk; subst this; exact h.lt
  keep := fun w w' h ho => h.only ho
theorem Sep.sgNew {w : World} {l : List Asrt} (h : Sep w l) (f : Nat → List Int) : Sep (w.alloc (.map #[] 0)) (SgA w.heap.size f 0 :: l) :=
  h.new (grownBy_alloc w _ none) (SgIs.made w f) fun k hk => by have : k = w.heap.size := hk; omega
theorem Sep.sgUpd {w w' : World} {b i j : Nat} {f : Nat → List Int} {l : List Asrt} (h : Sep w (SgA b f i :: l)) (hm : SgIs w' b f j) (hg : w.grownBy w' (some b)) : Sep w' (SgA b f j :: l) :=
  h.upd' (A' := SgA b f j) (Only.of_grown hg fun k hk => (Option.some.inj hk).symm) hm fun k hk => Or.inl hk
theorem ex_lo {f : Nat → List Int} {i k : Nat} : (∃ j, j < i ∧ f j = f k) ↔ loN f k < i := by
  constructor
  . rintro ⟨j, h1, h2⟩
    have := (lo_spec f k).2.2 j h2
    omega
  . intro h
    exact ⟨_, h, (lo_spec f k).2.1⟩
/-- A signature that was there: the map serves for one gate more. -/
theorem SgIs.same {w : World} {b i : Nat} {f : Nat → List Int} (h : SgIs w b f i) (hf : loN f i < i) : SgIs w b f (i + 1) := by
  obtain ⟨D, h1, h2, h3⟩ := h
  have hc : cntN f (i + 1) = cntN f i := by rw [cnt_up, if_neg (by omega)]; rfl
  refine ⟨D, hc ▸ h1, hc ▸ h2, fun k hk => ?_⟩
  obtain ⟨a1, a2⟩ := h3 k hk
  have e : (∃ j, j < i + 1 ∧ f j = f k) ↔ ∃ j, j < i ∧ f j = f k := by
    constructor
    . rintro ⟨j, hj, he⟩
      rcases Nat.lt_or_ge j i with h | h
      . exact ⟨j, h, he⟩
      . have : j = i := by omega
        subst this
        exact ⟨loN f j, hf, (lo_spec f j).2.1.trans he⟩
    . rintro ⟨j, hj, he⟩
      exact ⟨j, by omega, he⟩
  refine ⟨by rw [a1]; simp only [e], fun h => a2 (e.1 h)⟩
section
variable {ops : Array Oper} {rest : List Oper} {o : Oper} {a : Act} {Q : Exit → Act → World → Prop} {w : World} {b i : Nat} {f : Nat → List Int}
theorem wpList_sgLook (hg : o.guard = none) (m x : Operand) (hop : o.op = Op.lookup 202 m x true) (hm : a.eval m = .map (some b)) (hx : a.eval x = sgV (f i)) (hok : SgOk (f i)) (H : SgIs w b f i) (c : Int) (t : Bool)
    (ht : decide (loN f i < i) = t) (hK : ∀ c : Int, (t = true → c = numN f i) → wpList Tryd.prog ops Q rest (a.put o.dst (.tuple #[.int .i64 c, .bool t])) w) : wpList Tryd.prog ops Q (o :: rest) a w := by
  obtain ⟨D, hown, hs, hv⟩ := H
  obtain ⟨v1, v2⟩ := hv i hok
  refine wpList_lookup_own_ok_int w hg m x 202 hop 204 3 .i64 sgLaw Tryd.underlying202 Tryd.underlying3 (zeroInt w) b _ D hm hown _ _ hx (sg_key hok) fun c hat _ => ?_
  have e : has D (sgK (f i)) = t := by rw [v1, ← ht, decide_eq_decide]; exact ex_lo
  rw [e]
  refine hK c fun ht' => ?_
  subst ht'
  have := v2 (ex_lo.2 (of_decide_eq_true ht))
  rw [hat] at this
  simpa using this
theorem wpList_sgPut (hg : o.guard = none) (m x v : Operand) (hop : o.op = Op.mapUpdate 202 m x v) (hm : a.eval m = .map (some b)) (hx : a.eval x = sgV (f i)) (hvv : a.eval v = .int .i64 (cntN f i)) (hok : SgOk (f i)) (hoa : ∀ k, SgOk (f k)) (H : SgIs w b f i) (hl : i ≤ 1000000) (hf : ¬ loN f i < i)
    (hK : ∀ w', SgIs w' b f (i + 1) → w.grownBy w' (some b) → wpList Tryd.prog ops Q rest (a.put o.dst undef) w') : wpList Tryd.prog ops Q (o :: rest) a w := by
  obtain ⟨D, hown, hs, hv⟩ := H
  obtain ⟨v1, v2⟩ := hv i hok
  have hlo : loN f i = i := by have := (lo_spec f i).1; omega
  have hnum : numN f i = cntN f i := by unfold numN; rw [hlo]
  have hc1 : cntN f (i + 1) = cntN f i + 1 := by rw [cnt_up, if_pos hlo]
  have hcl := cnt_le f i
  refine wpList_mapUpdate_own w hg m x v 202 hop 204 3 sgLaw Tryd.underlying202 _ b _ D hm hown (by unfold maxLen; omega) _ _ _ hx hvv (sg_key hok) _ [] (plainElem_int Tryd.underlying3 (WalkArith.wf_i64 (by omega))) fun w' h1 h2 => hK w' ?_ h2
  have hno : has D (sgK (f i)) = false := by
    rw [v1, decide_eq_false_iff_not, ex_lo]
    exact hf
  have hsz : size (D.put (sgK (f i)) (.lit (.int .i64 (cntN f i)))) = cntN f (i + 1) := by
    rw [size_put (hown.tidy sgLaw), hno, hs, hc1]
    rfl
  refine ⟨_, hsz ▸ sg_tight h1, hsz, fun k hk => ?_⟩
  obtain ⟨u1, u2⟩ := hv k hk
  by_cases he : f k = f i
  . rw [he, has_put_same hown.isMap (isKey_sg _) _, atKey_put_same hown.isMap (isKey_sg _) _ _]
    refine ⟨(decide_eq_true ⟨i, by omega, rfl⟩).symm, fun _ => ?_⟩
    rw [(num_iff (f := f)).2 he, hnum]
  . have hne : sgK (f i) ≠ sgK (f k) := fun e => he (sg_inj hk hok e.symm)
    have e : (∃ j, j < i + 1 ∧ f j = f k) ↔ ∃ j, j < i ∧ f j = f k := by
      constructor
      . rintro ⟨j, hj, hjk⟩
        rcases Nat.lt_or_ge j i with h | h
        . exact ⟨j, h, hjk⟩
        . have : j = i := by omega
          subst this
          exact absurd hjk.symm he
      . rintro ⟨j, hj, he⟩
        exact ⟨j, by omega, he⟩
    refine ⟨?_, fun h => ?_⟩
    . first
        | rw [has_put_other hne _, u1]; simp only [e]
        | rw [has_put_other hne.symm _, u1]; simp only [e]
    . first
        | rw [atKey_put_other hne _ _]; exact u2 (e.1 h)
        | rw [atKey_put_other hne.symm _ _]; exact u2 (e.1 h)
theorem wpList_sgLen (hg : o.guard = none) (m : Operand) (hop : o.op = Op.call { callee := Callee.builtin Builtin.len, args := #[m], argTypes := #[202] }) (hm : a.eval m = .map (some b)) (H : SgIs w b f i)
    (hK : wpList Tryd.prog ops Q rest (a.put o.dst (.int .i64 (cntN f i))) w) : wpList Tryd.prog ops Q (o :: rest) a w := by
  obtain ⟨D, hown, hs, hv⟩ := H
  exact wpList_len_own w hg m 202 hop 204 3 Tryd.underlying202 _ b _ D hm hown (by rw [hs]; exact hK)
end
end Go.Proofs.YtkamcgonacmieaaDoor

/-
  The signature of a gate, in the program. Conditions: operands are gates.
-/
namespace Go.Proofs.YtkamcgonacmieaaDoor
open Go.RowKit
set_option linter.unusedVariables false
set_option maxRecDepth 100000

theorem bx5 {w : World} {k : Nat} {x y z u v : Value} {t : TypeId} (h : w.heap[k]? = some (.cells #[x, y, z, u, v] t (0, 0))) :
    w.cell? ⟨k, 0, none⟩ = some x ∧ w.cell? ⟨k, 1, none⟩ = some y ∧ w.cell? ⟨k, 2, none⟩ = some z ∧ w.cell? ⟨k, 3, none⟩ = some u ∧ w.cell? ⟨k, 4, none⟩ = some v ∧
      w.frozen? ⟨k, 0, none⟩ = false ∧ w.frozen? ⟨k, 1, none⟩ = false ∧ w.frozen? ⟨k, 2, none⟩ = false ∧ w.frozen? ⟨k, 3, none⟩ = false ∧ w.frozen? ⟨k, 4, none⟩ = false := by
  simp [World.cell?, World.frozen?, h]
set_option maxHeartbeats 40000000 in
theorem signatureOf_any (n : Int) (gv ov cv : Value) (gs : List Gt) (m2 : Nat) (cl : List Int) (k : Nat) (w : World) (hg : RdR gateE w gv gs) (hoS : ∃ a c, ov = .slice a m2 c) (hc : IntsV w cv cl) (hk : k < gs.length) (hcl : cl.length = gs.length) (hl : gs.length ≤ 1000) (hops : ∀ g ∈ gs, ∀ x ∈ opsL g, 0 ≤ x ∧ x < gs.length) :
    Calls Tryd.prog 205 #[cirV n gv ov, .int .i64 k, cv] w fun e w' => e = .returned (sgV (sgL gs cl k)) ∧ w.grownBy w' none := by
  unfold cirV
  have hmem : gs.getD k g0 ∈ gs := getD_mem3 g0 hk
  have hop := hops _ hmem
  obtain ⟨oa, oc, rfl⟩ := hoS
  obtain ⟨ga, gc, rfl⟩ := hg.shape
  have hg3 := gr2 w (.cells #[.int .i64 n, .slice ga gs.length gc, .slice oa m2 oc] 29) (.cells #[.int .i64 0, .int .i64 0, .int .i64 0, .int .i64 0, .int .i64 0] 204)
  obtain ⟨gb, go, rfl, hb, q0, q1, q2, q3⟩ := gate_at rfl rfl (hg.carry hg3) hk
  have hsg : sgL gs cl k = [cl.getD k 0, (gs.getD k g0).k, (gs.getD k g0).v, if (gs.getD k g0).k = 3 then min (atL cl (gs.getD k g0).a) (atL cl (gs.getD k g0).b) else if (gs.getD k g0).k = 4 ∨ (gs.getD k g0).k = 5 then atL cl (gs.getD k g0).a else 0, if (gs.getD k g0).k = 3 then max (atL cl (gs.getD k g0).a) (atL cl (gs.getD k g0).b) else 0] := rfl
  rw [hsg]
  generalize gs.getD k g0 = y at *
  generalize hm : gs.length = m at *
  have hkc : k < cl.length := by omega
  obtain ⟨ca, cc, rfl⟩ := hc.shape
  obtain ⟨cb, co, rfl, _, _⟩ := hc.atD hkc
  have HCL := Lib.hid fun W (h : w.grownBy W none) (i : Nat) (hi : i < m) => (hc.carry h).cellN (i := i) (by omega)
  rw [hcl]
  have HO := Lib.hid hop
  have HOP := Lib.hid fun W => operands_any y W
  obtain ⟨gk, a, b, v⟩ := y
  unfold gtV at HOP
  simp only at HOP HO q0 q1 q2 q3 ⊢
  clear hg hc hmem hsg hops hop hb
  generalize hr3 : (if gk = 3 then min (atL cl a) (atL cl b) else if gk = 4 ∨ gk = 5 then atL cl a else 0) = e3
  generalize hr4 : (if gk = 3 then max (atL cl a) (atL cl b) else 0) = e4
  have HR3 := Lib.hid hr3; have HR4 := Lib.hid hr4
  clear hr3 hr4
  have hs0 := (((Sep.start w).box #[.int .i64 n, .slice (some ⟨gb, go, none⟩) m gc, .slice oa m2 oc] 29).box #[.int .i64 0, .int .i64 0, .int .i64 0, .int .i64 0, .int .i64 0] 204).box #[.int .i64 gk, .int .i64 a, .int .i64 b, .int .i64 v] 130
  have e1 : (w.alloc (.cells #[.int .i64 n, .slice (some ⟨gb, go, none⟩) m gc, .slice oa m2 oc] 29)).heap.size = w.heap.size + 1 := by simp
  have e2 : ((w.alloc (.cells #[.int .i64 n, .slice (some ⟨gb, go, none⟩) m gc, .slice oa m2 oc] 29)).alloc (.cells #[.int .i64 0, .int .i64 0, .int .i64 0, .int .i64 0, .int .i64 0] 204)).heap.size = w.heap.size + 1 + 1 := by simp
  rw [e2, e1] at hs0
  have HS0 := Lib.hid hs0
  clear hs0 e1 e2
  generalize hcz : cl.getD k 0 = z
  have HZ := Lib.hid hcz
  have hck := fun W h => (HCL.out W h k hk)
  rw [hcz] at hck
  clear hcz
  go_enter Tryd.func205, Tryd.ntmps205
  go_upto_region 2 with fail
  go_cut [8] from 15 to 23 (fun t8 wx => ∃ sb : Nat, t8 = .pointer (some ⟨sb, 0, none⟩) ∧ Sep wx [BxA sb #[.int .i64 z, .int .i64 gk, .int .i64 v, .int .i64 0, .int .i64 0] 204, BxA (w.heap.size + 1 + 1) #[.int .i64 gk, .int .i64 a, .int .i64 b, .int .i64 v] 130, BxA (w.heap.size + 1) #[.int .i64 0, .int .i64 0, .int .i64 0, .int .i64 0, .int .i64 0] 204, KeepA w])
  case first =>
    have hs1 := HS0.out
    have HE := Lib.hid (show ∀ W : World, W = (((w.alloc (.cells #[.int .i64 n, .slice (some ⟨gb, go, none⟩) m gc, .slice oa m2 oc] 29)).alloc (.cells #[.int .i64 0, .int .i64 0, .int .i64 0, .int .i64 0, .int .i64 0] 204)).alloc (.cells #[.int .i64 gk, .int .i64 a, .int .i64 b, .int .i64 v] 130)) → W.heap.size = w.heap.size + 1 + 1 + 1 from fun W h => by rw [h]; simp)
    generalize (((w.alloc (.cells #[.int .i64 n, .slice (some ⟨gb, go, none⟩) m gc, .slice oa m2 oc] 29)).alloc (.cells #[.int .i64 0, .int .i64 0, .int .i64 0, .int .i64 0, .int .i64 0] 204)).alloc (.cells #[.int .i64 gk, .int .i64 a, .int .i64 b, .int .i64 v] 130)) = W at *
    have HWS := Lib.hid (HE.out W rfl)
    clear HE
    obtain ⟨x0, x1, x2, x3, x4, x5, x6, x7⟩ := bx4 hs1.dr.hd
    have xc := hck _ hs1.dr.tl.tl.tl.hd
    have ya := fun ob => bx4 ((hs1.al ob).dr.hd)
    have y0 := fun ob => (ya ob).1
    have y3 := fun ob => (ya ob).2.2.2.1
    have yc := fun ob => hck _ ((hs1.al ob).dr.tl.tl.tl.hd)
    clear ya hck HS0
    have HS1 := Lib.hid hs1
    clear hs1
    go_region
    go_wp2_with fail
    go_meet
    exact ⟨_, rfl, (HS1.out.box #[.int .i64 z, .int .i64 gk, .int .i64 v, .int .i64 0, .int .i64 0] 204).dr.under (fun h => h.under (fun h => h.under (fun h => h.tl) (by simp +contextual)) (by simp +contextual)) (by simp +contextual)⟩
  case rest =>
    obtain ⟨sb, rfl, hs⟩ := hcut
    obtain ⟨r0, r1, r2, r3, r4, r5, r6, r7, r8, r9⟩ := bx5 hs.hd
    obtain ⟨x0, x1, x2, x3, x4, x5, x6, x7⟩ := bx4 hs.tl.hd
    have HS := Lib.hid hs
    clear hs hck HS0 q0 q1 q2 q3
    apply ‹∀ (a : Act) (w : World), Code.wp _ _ _ a w → _›
    refine wp_seq_k ?_
    intro KC hKC
    go_cut [9] from 24 to 61 (fun t9 wx => Sep wx [BxA (w.heap.size + 1) #[.int .i64 0, .int .i64 0, .int .i64 0, .int .i64 0, .int .i64 0] 204, BxA sb #[.int .i64 z, .int .i64 gk, .int .i64 v, .int .i64 e3, .int .i64 e4] 204, KeepA w])
    case rest =>
      obtain ⟨o0, o1, o2, o3, o4, o5, o6, o7, o8, o9⟩ := bx5 hcut.hd
      obtain ⟨c0, c1, c2, c3, c4, -⟩ := bx5 hcut.tl.hd
      have hs6 := ((((hcut.setB 0 (.int .i64 z)).setB 1 (.int .i64 gk)).setB 2 (.int .i64 v)).setB 3 (.int .i64 e3)).setB 4 (.int .i64 e4)
      obtain ⟨p0, p1, p2, p3, p4, -⟩ := bx5 hs6.hd
      have HKF := Lib.hid (show w.grownBy _ none from hs6.tl.tl.hd)
      clear hs6 hcut HS r0 r1 r2 r3 r4 r5 r6 r7 r8 r9 x0 x1 x2 x3 x4 x5 x6 x7 HR3 HR4 HCL HO HOP
      go_wp2_with fail
      refine bodyPost_ret_by (v := .agg #[.int .i64 z, .int .i64 gk, .int .i64 v, .int .i64 e3, .int .i64 e4]) ?_ rfl ⟨rfl, HKF.out⟩
      simp [results, go_sem, *]
    case first =>
      by_cases h3 : gk = 3
      · subst h3
        obtain ⟨ra0, ra1⟩ := HO.out a (by simp [opsL])
        obtain ⟨rb0, rb1⟩ := HO.out b (by simp [opsL])
        obtain ⟨ia, rfl⟩ := Int.eq_ofNat_of_zero_le ra0
        obtain ⟨ib, rfl⟩ := Int.eq_ofNat_of_zero_le rb0
        have hla : ia < m := by omega
        have hlb : ib < m := by omega
        have hol : (opsL ⟨3, ia, ib, v⟩).length = 2 := rfl
        generalize (opsL ⟨3, ia, ib, v⟩).length = q at HOP hol
        subst hol
        rw [if_pos rfl, show atL cl (ia : Int) = cl.getD ia 0 from rfl, show atL cl (ib : Int) = cl.getD ib 0 from rfl] at HR3 HR4
        have HCA := Lib.hid fun W h => HCL.out W h ia hla
        have HCB := Lib.hid fun W h => HCL.out W h ib hlb
        clear HCL HO ra0 ra1 rb0 rb1
        generalize cl.getD ia 0 = za at *
        generalize cl.getD ib 0 = zb at *
        go_upto_region 8 with (
          go_at_call 191
          refine (HOP.out _).mono ?_
          rintro e w2 ⟨a', c', rfl, -, hg'⟩
          have hs2a := HS.out.grown hg'
          have hs2 := hs2a.dr
          have xa := HCA.out _ hs2.tl.tl.tl.hd
          have xb := HCB.out _ hs2.tl.tl.tl.hd
          obtain ⟨-, -, -, s3, -, -, -, -, s8, -⟩ := bx5 hs2.hd
          obtain ⟨-, t1, t2, -⟩ := bx4 hs2.tl.hd
          have HS2A := Lib.hid hs2a
          clear hg' hs2 hs2a)
        clear r0 r1 r2 r3 r4 r5 r6 r7 r8 r9 x0 x1 x2 x3 x4 x5 x6 x7 HOP hg3 hkc
        rcases Int.lt_trichotomy za zb with hc | hc | hc
        · have hd1 : ¬ zb < za := by omega
          have hA := (HS2A.out.setB 3 (.int .i64 za)).dr
          obtain ⟨-, -, -, -, a4, -, -, -, -, a9⟩ := bx5 hA.hd
          have xaA := HCA.out _ hA.tl.tl.tl.hd
          have xbA := HCB.out _ hA.tl.tl.tl.hd
          obtain ⟨-, tA1, tA2, -⟩ := bx4 hA.tl.hd
          have HSC := Lib.hid ((((HS2A.out.setB 3 (.int .i64 za)).setB 4 (.int .i64 zb)).dr).s3.under (fun h => h.drop2) (by simp +contextual))
          clear hA
          have HM3 := Lib.hid (show e3 = za by rw [← HR3.out, Int.min_def]; split <;> omega)
          have HM4 := Lib.hid (show e4 = zb by rw [← HR4.out, Int.max_def]; split <;> omega)
          have hB := ((HS2A.out.setB 3 (.int .i64 za)).setB 4 (.int .i64 zb)).dr
          have xaB := HCA.out _ hB.tl.tl.tl.hd
          have xbB := HCB.out _ hB.tl.tl.tl.hd
          obtain ⟨-, tB1, tB2, -⟩ := bx4 hB.tl.hd
          have F2 := Lib.hid (And.intro tB1 (And.intro tB2 (And.intro xaB xbB)))
          clear hB xaB xbB tB1 tB2
          have F0 := Lib.hid (And.intro t1 (And.intro t2 (And.intro xa xb)))
          have F1 := Lib.hid (And.intro tA1 (And.intro tA2 (And.intro xaA xbA)))
          go_region_held3 (fun W => W.cell? ⟨w.heap.size + 1 + 1, 1, none⟩ = some (.int .i64 ia) ∧ W.cell? ⟨w.heap.size + 1 + 1, 2, none⟩ = some (.int .i64 ib) ∧ W.cell? ⟨cb, co + ia, none⟩ = some (.int .i64 za) ∧ W.cell? ⟨cb, co + ib, none⟩ = some (.int .i64 zb))
            (first | with_reducible exact F0.out | with_reducible exact F1.out | with_reducible exact F2.out)
            (first | fail)
          all_goals go_wp2_with fail
          all_goals
            go_meet
            rw [HM3.out, HM4.out]
            exact HSC.out
        · subst hc
          have hA := (HS2A.out.setB 3 (.int .i64 za)).dr
          obtain ⟨-, -, -, -, a4, -, -, -, -, a9⟩ := bx5 hA.hd
          have xaA := HCA.out _ hA.tl.tl.tl.hd
          have xbA := HCB.out _ hA.tl.tl.tl.hd
          obtain ⟨-, tA1, tA2, -⟩ := bx4 hA.tl.hd
          have HSC := Lib.hid ((((HS2A.out.setB 3 (.int .i64 za)).setB 4 (.int .i64 za)).dr).s3.under (fun h => h.drop2) (by simp +contextual))
          clear hA
          have HM3 := Lib.hid (show e3 = za by rw [← HR3.out, Int.min_def]; split <;> omega)
          have HM4 := Lib.hid (show e4 = za by rw [← HR4.out, Int.max_def]; split <;> omega)
          have hB := ((HS2A.out.setB 3 (.int .i64 za)).setB 4 (.int .i64 za)).dr
          have xaB := HCA.out _ hB.tl.tl.tl.hd
          have xbB := HCB.out _ hB.tl.tl.tl.hd
          obtain ⟨-, tB1, tB2, -⟩ := bx4 hB.tl.hd
          have F2 := Lib.hid (And.intro tB1 (And.intro tB2 (And.intro xaB xbB)))
          clear hB xaB xbB tB1 tB2
          have F0 := Lib.hid (And.intro t1 (And.intro t2 (And.intro xa xb)))
          have F1 := Lib.hid (And.intro tA1 (And.intro tA2 (And.intro xaA xbA)))
          go_region_held3 (fun W => W.cell? ⟨w.heap.size + 1 + 1, 1, none⟩ = some (.int .i64 ia) ∧ W.cell? ⟨w.heap.size + 1 + 1, 2, none⟩ = some (.int .i64 ib) ∧ W.cell? ⟨cb, co + ia, none⟩ = some (.int .i64 za) ∧ W.cell? ⟨cb, co + ib, none⟩ = some (.int .i64 za))
            (first | with_reducible exact F0.out | with_reducible exact F1.out | with_reducible exact F2.out)
            (first | fail)
          all_goals go_wp2_with fail
          all_goals
            go_meet
            rw [HM3.out, HM4.out]
            exact HSC.out
        · have hd1 : ¬ za < zb := by omega
          have hA := (HS2A.out.setB 3 (.int .i64 zb)).dr
          obtain ⟨-, -, -, -, a4, -, -, -, -, a9⟩ := bx5 hA.hd
          have xaA := HCA.out _ hA.tl.tl.tl.hd
          have xbA := HCB.out _ hA.tl.tl.tl.hd
          obtain ⟨-, tA1, tA2, -⟩ := bx4 hA.tl.hd
          have HSC := Lib.hid ((((HS2A.out.setB 3 (.int .i64 zb)).setB 4 (.int .i64 za)).dr).s3.under (fun h => h.drop2) (by simp +contextual))
          clear hA
          have HM3 := Lib.hid (show e3 = zb by rw [← HR3.out, Int.min_def]; split <;> omega)
          have HM4 := Lib.hid (show e4 = za by rw [← HR4.out, Int.max_def]; split <;> omega)
          have hB := ((HS2A.out.setB 3 (.int .i64 zb)).setB 4 (.int .i64 za)).dr
          have xaB := HCA.out _ hB.tl.tl.tl.hd
          have xbB := HCB.out _ hB.tl.tl.tl.hd
          obtain ⟨-, tB1, tB2, -⟩ := bx4 hB.tl.hd
          have F2 := Lib.hid (And.intro tB1 (And.intro tB2 (And.intro xaB xbB)))
          clear hB xaB xbB tB1 tB2
          have F0 := Lib.hid (And.intro t1 (And.intro t2 (And.intro xa xb)))
          have F1 := Lib.hid (And.intro tA1 (And.intro tA2 (And.intro xaA xbA)))
          go_region_held3 (fun W => W.cell? ⟨w.heap.size + 1 + 1, 1, none⟩ = some (.int .i64 ia) ∧ W.cell? ⟨w.heap.size + 1 + 1, 2, none⟩ = some (.int .i64 ib) ∧ W.cell? ⟨cb, co + ia, none⟩ = some (.int .i64 za) ∧ W.cell? ⟨cb, co + ib, none⟩ = some (.int .i64 zb))
            (first | with_reducible exact F0.out | with_reducible exact F1.out | with_reducible exact F2.out)
            (first | fail)
          all_goals go_wp2_with fail
          all_goals
            go_meet
            rw [HM3.out, HM4.out]
            exact HSC.out
      · by_cases h4 : gk = 4
        · subst h4
          obtain ⟨ra0, ra1⟩ := HO.out a (by simp [opsL])
          obtain ⟨ia, rfl⟩ := Int.eq_ofNat_of_zero_le ra0
          have hla : ia < m := by omega
          have hol : (opsL ⟨4, ia, b, v⟩).length = 1 := rfl
          generalize (opsL ⟨4, ia, b, v⟩).length = q at HOP hol
          subst hol
          rw [if_neg (by decide)] at HR3 HR4
          rw [if_pos (by decide), show atL cl (ia : Int) = cl.getD ia 0 from rfl] at HR3
          have HCA := Lib.hid fun W h => HCL.out W h ia hla
          clear HCL HO ra0 ra1 h3
          generalize cl.getD ia 0 = za at *
          have HE3 := Lib.hid HR3.out; have HE4 := Lib.hid HR4.out
          clear HR3 HR4
          go_wp2_with (
            go_at_call 191
            refine (HOP.out _).mono ?_
            rintro e w2 ⟨a', c', rfl, -, hg'⟩
            have hs2 := HS.out.grown hg'
            have xa := HCA.out _ hs2.tl.tl.tl.hd
            obtain ⟨s0, s1, s2, s3, s4, s5, s6, s7, s8, s9⟩ := bx5 hs2.hd
            obtain ⟨t0, t1, t2, t3, -⟩ := bx4 hs2.tl.hd
            have HSF := Lib.hid ((hs2.setB 3 (.int .i64 za)).s3.under (fun h => h.drop2) (by simp +contextual))
            clear hg' hs2)
          go_meet
          have h := HSF.out
          rw [← HE3.out, ← HE4.out]
          exact h
        · by_cases h5 : gk = 5
          · subst h5
            clear h4
            obtain ⟨ra0, ra1⟩ := HO.out a (by simp [opsL])
            obtain ⟨ia, rfl⟩ := Int.eq_ofNat_of_zero_le ra0
            have hla : ia < m := by omega
            have hol : (opsL ⟨5, ia, b, v⟩).length = 1 := rfl
            generalize (opsL ⟨5, ia, b, v⟩).length = q at HOP hol
            subst hol
            rw [if_neg (by decide)] at HR3 HR4
            rw [if_pos (by decide), show atL cl (ia : Int) = cl.getD ia 0 from rfl] at HR3
            have HCA := Lib.hid fun W h => HCL.out W h ia hla
            clear HCL HO ra0 ra1 h3
            generalize cl.getD ia 0 = za at *
            have HE3 := Lib.hid HR3.out; have HE4 := Lib.hid HR4.out
            clear HR3 HR4
            go_wp2_with (
              go_at_call 191
              refine (HOP.out _).mono ?_
              rintro e w2 ⟨a', c', rfl, -, hg'⟩
              have hs2 := HS.out.grown hg'
              have xa := HCA.out _ hs2.tl.tl.tl.hd
              obtain ⟨s0, s1, s2, s3, s4, s5, s6, s7, s8, s9⟩ := bx5 hs2.hd
              obtain ⟨t0, t1, t2, t3, -⟩ := bx4 hs2.tl.hd
              have HSF := Lib.hid ((hs2.setB 3 (.int .i64 za)).s3.under (fun h => h.drop2) (by simp +contextual))
              clear hg' hs2)
            go_meet
            have h := HSF.out
            rw [← HE3.out, ← HE4.out]
            exact h
          · have hol : (opsL ⟨gk, a, b, v⟩).length = 0 := by simp [opsL, h3, h4, h5]
            generalize (opsL ⟨gk, a, b, v⟩).length = q at HOP hol
            subst hol
            rw [if_neg h3] at HR3 HR4
            rw [if_neg (by omega)] at HR3
            have HE3 := Lib.hid HR3.out; have HE4 := Lib.hid HR4.out
            clear HR3 HR4 HCL HO h3 h4 h5
            go_wp2_with (
              go_at_call 191
              refine (HOP.out _).mono ?_
              rintro e w2 ⟨a', c', rfl, -, hg'⟩
              have hs2 := HS.out.grown hg'
              have HSF := Lib.hid (hs2.s3.under (fun h => h.drop2) (by simp +contextual))
              clear hg' hs2)
            go_meet
            have h := HSF.out
            rw [← HE3.out, ← HE4.out]
            exact h
end Go.Proofs.YtkamcgonacmieaaDoor

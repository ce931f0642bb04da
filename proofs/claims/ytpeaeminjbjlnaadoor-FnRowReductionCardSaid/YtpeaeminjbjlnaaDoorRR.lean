/-
  What the law of row reduction asks, for lists: the transforming matrix makes the reduced one, its inverse is one at both sides, rank and kernel add up, and kernel times matrix is zero. Plain mathematics. Conditions: the number of elements is a field of the program's kind; rows of one length with elements.
-/
import Derived.Test.YtpeaeminjbjlnaaDoorGe2
import Derived.Test.YtpeaeminjbjlnaaDoorMatFn6
namespace Go.Proofs.YtpeaeminjbjlnaaDoor
open La
set_option linter.unusedVariables false
section rr
variable {p : Nat} [NeZero p]

theorem vec_combTo {n k j : Nat} {x : List Int} {L : List (List Int)} (hp : 1 < p) (hL : RowsOk p n L) (hk : k ≤ L.length) (hj : j < n) :
    vec p (combTo p x L n k) j = S k (fun i => vec p x i * mx p L i j) := by
  induction k with
  | zero =>
    unfold combTo S
    rw [vec_at (by simp; exact hj), List.getElem_replicate]
    exact toF_zero
  | succ k ih =>
    unfold combTo S
    rw [vec_addT _ (by rw [(combTo_ok hp hL k (by omega)).1, (hL _ (getD_mem (show k < L.length by omega))).1]), ih (by omega)]
    rfl
theorem timesL_len (q : Int) (X L : List (List Int)) (n : Nat) : (timesL q X L n).length = X.length := by simp [timesL]
theorem timesL_ok {n : Nat} {X L : List (List Int)} (hp : 1 < p) (hL : RowsOk p n L) : RowsOk p n (timesL p X L n) := by
  intro row hrow
  obtain ⟨x, _, rfl⟩ := List.mem_map.1 hrow
  exact combTo_ok hp hL _ (Nat.le_refl _)
theorem mx_timesL {n i j : Nat} {X L : List (List Int)} (hp : 1 < p) (hL : RowsOk p n L) (hi : i < X.length) (hj : j < n) :
    mx p (timesL p X L n) i j = comb L.length (mx p X i) (mx p L) j := by
  rw [mx_at (by rw [timesL_len]; exact hi)]
  have e : (timesL p X L n)[i]'(by rw [timesL_len]; exact hi) = combTo p X[i] L n L.length := by simp [timesL]
  rw [e, vec_combTo hp hL (Nat.le_refl _) hj, mx_at hi]
  rfl
theorem comb_comb {k m : Nat} (x : Vec p) (A B : Mx p) (j : Nat) : comb m (fun t => comb k x A t) B j = comb k x (fun i => comb m (A i) B) j := by
  unfold comb
  have e : ∀ t, S k (fun i => x i * A i t) * B t j = S k (fun i => x i * (A i t * B t j)) := by
    intro t
    rw [← S_mulr]
    exact S_congr fun i _ => by grind
  simp only [e]
  rw [S_comm]
  exact S_congr fun i _ => by rw [S_mul]
theorem comb_delta {m j : Nat} (hj : j < m) (x : Vec p) {A : Mx p} (hA : ∀ i, i < m → A i j = if i = j then 1 else 0) : comb m x A j = x j := by
  unfold comb
  rw [S_one hj (fun i hi hn => by rw [hA i hi]; simp [hn, fm0]), hA j hj]
  simp [fm1]
theorem comb_delta' {m i : Nat} (hi : i < m) (A : Mx p) (j : Nat) : comb m (fun t => if i = t then 1 else 0) A j = A i j := by
  unfold comb
  rw [S_one hi (fun t ht hn => by simp [Ne.symm hn, f0m])]
  simp [f1m]
theorem comb_congr {m j : Nat} {x y : Vec p} {A B : Mx p} (h : ∀ t, t < m → x t = y t) (hA : ∀ t, t < m → A t j = B t j) : comb m x A j = comb m y B j := by
  unfold comb
  exact S_congr fun t ht => by rw [h t ht, hA t ht]

/-- The inverse at the left is the inverse at the right. -/
theorem right_inverse {m : Nat} {A : List (List Int)} (hf : fldN p = true) (hA : RowsOk p m A) (hl : A.length = m) (hi : Indep m m (mx p A)) :
    ∀ i, i < m → ∀ j, j < m → comb m (mx p A i) (mx p (redTo p A (idL m) m).T) j = if i = j then 1 else 0 := by
  have g := ge hf hA hl
  obtain ⟨hBA, _⟩ := left_inverse hf hA hl hi
  obtain ⟨hCB, _⟩ := left_inverse hf g.okT g.lenT g.inv.indep
  generalize redTo (p : Int) A (idL m) m = s at *
  generalize mx p (redTo (p : Int) s.T (idL m) m).T = C at *
  have hAC : ∀ i, i < m → ∀ j, j < m → mx p A i j = C i j := by
    intro i hi j hj
    rw [← comb_delta' hi (mx p A) j, comb_congr (B := mx p A) (fun t ht => (hCB i hi t ht).symm) (fun _ _ => rfl), comb_comb]
    exact comb_delta hj _ fun t ht => hBA t ht j hj
  intro i hi j hj
  rw [comb_congr (hAC i hi) (fun _ _ => rfl)]
  exact hCB i hi j hj

/-- The transforming matrix makes the reduced one. -/
theorem rr_made {n : Nat} {M : List (List Int)} (hf : fldN p = true) (hM : RowsOk p n M) :
    timesL p (redTo p M (idL M.length) n).T M n = (redTo p M (idL M.length) n).R := by
  have g := ge hf hM rfl
  generalize redTo (p : Int) M (idL M.length) n = s at *
  refine rows_ext (timesL_ok (lt_p hf) hM) g.okR (by rw [timesL_len]; exact g.lenT) g.lenR fun i hi j hj => ?_
  rw [mx_timesL (lt_p hf) hM (by rw [g.lenT]; exact hi) hj, g.inv.made i hi j hj]
theorem rr_back {n : Nat} {M : List (List Int)} (hf : fldN p = true) (hM : RowsOk p n M) :
    (redTo p (redTo p M (idL M.length) n).T (idL M.length) M.length).r = M.length ∧
    timesL p (redTo p M (idL M.length) n).T (redTo p (redTo p M (idL M.length) n).T (idL M.length) M.length).T M.length = idL M.length := by
  have g := ge hf hM rfl
  generalize redTo (p : Int) M (idL M.length) n = s at *
  have hr := indep_rank hf g.okT g.lenT g.inv.indep
  rw [rankL_eq _ _ _ (idL M.length)] at hr
  refine ⟨hr, ?_⟩
  have h2 := right_inverse hf g.okT g.lenT g.inv.indep
  have g2 := ge hf g.okT g.lenT
  generalize redTo (p : Int) s.T (idL M.length) M.length = t at *
  refine rows_ext (timesL_ok (lt_p hf) g2.okT) (idL_ok (lt_p hf)) (by rw [timesL_len]; exact g.lenT) (idL_len _) fun i hi j hj => ?_
  rw [mx_timesL (lt_p hf) g2.okT (by rw [g.lenT]; exact hi) hj, g2.lenT, h2 i hi j hj, mx_idL hi hj]
theorem rr_sum {n : Nat} {M : List (List Int)} (hf : fldN p = true) (hM : RowsOk p n M) : rankL p n M + (kernelL p n M).length = M.length := by
  rw [kernelL_len hf hM]
  have := rank_le hf hM
  omega
/-- Kernel times matrix is zero. -/
theorem rr_zero {n : Nat} {M : List (List Int)} (hf : fldN p = true) (hM : RowsOk p n M) {x : List Int} (hx : x ∈ kernelL p n M) : ∀ z ∈ combTo p x M n M.length, z = 0 := by
  have hsp : ∀ j, j < n → comb M.length (vec p x) (mx p M) j = 0 := by
    rw [← kernelL_span hf hM]
    obtain ⟨i, hi, rfl⟩ := List.getElem_of_mem hx
    have := In.row (n := M.length) (A := mx p (kernelL p n M)) hi
    rw [mx_at hi] at this
    exact this
  have hok := combTo_ok (x := x) (lt_p hf) hM _ (Nat.le_refl _)
  intro z hz
  obtain ⟨j, hj, rfl⟩ := List.getElem_of_mem hz
  have hb := hok.2 _ (List.getElem_mem hj)
  have hjn : j < n := by rw [← hok.1]; exact hj
  refine Classical.byContradiction fun hne => toF_ne hb.1 hb.2 hne ?_
  rw [← vec_at hj, vec_combTo (lt_p hf) hM (Nat.le_refl _) hjn]
  exact hsp j hjn
end rr
end Go.Proofs.YtpeaeminjbjlnaaDoor

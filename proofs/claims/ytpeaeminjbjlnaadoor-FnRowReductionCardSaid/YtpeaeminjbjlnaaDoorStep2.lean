/-
  The steps of the reduction over a state that is kept. Plain laws of the rows that are cleared one by one. Conditions: the elements are small.
-/
import Derived.Test.YtpeaeminjbjlnaaDoorStep
import Derived.Test.YtpeaeminjbjlnaaDoorGe2
namespace Go.Proofs.YtpeaeminjbjlnaaDoor
open Go.RowKit
set_option linter.unusedVariables false

structure Fit (p : Int) (m n n' : Nat) (R T : List (List Int)) : Prop where
  lR : R.length = m
  lT : T.length = m
  oR : RowsOk p n R
  oT : RowsOk p n' T
structure Mid (B N bp br ba : Nat) (p : Int) (v u : Value) (vs0 us0 : List Value) (w0 : World) (R T : List (List Int)) (w : World) : Prop where
  ex : ∃ vs us, Two B w v vs u us R T ∧ (∀ x ∈ vs, x ∈ vs0) ∧ (∀ x ∈ us, x ∈ us0)
  on : Only (Feet v vs0 u us0) w0 w
  cap : Caps w N bp br ba p v u
theorem Feet.mono {v u : Value} {vs vs' us us' : List Value} (h1 : ∀ x ∈ vs', x ∈ vs) (h2 : ∀ x ∈ us', x ∈ us) {k : Nat} (hk : Feet v vs' u us' k) : Feet v vs u us k := by
  rcases hk with hk | hk
  · exact Or.inl (hk.mono h1)
  · exact Or.inr (hk.mono h2)
section
variable {B N bp br ba : Nat} {p : Int} {v u : Value} {vs0 us0 : List Value} {w0 : World} {R T : List (List Int)} {w : World}
theorem Mid.next {vs us vs' us' : List Value} {R' T' : List (List Int)} {w' : World} (h : Mid B N bp br ba p v u vs0 us0 w0 R T w) (h1 : ∀ x ∈ vs, x ∈ vs0) (h2 : ∀ x ∈ us, x ∈ us0) (hN : ∀ k, Feet v vs0 u us0 k → k < N)
    (hp : Two B w' v vs' u us' R' T' ∧ (∀ x ∈ vs', x ∈ vs) ∧ (∀ x ∈ us', x ∈ us) ∧ Only (Feet v vs u us) w w') : Mid B N bp br ba p v u vs0 us0 w0 R' T' w' := by
  obtain ⟨t, s1, s2, o⟩ := hp
  have o' := o.mono (S' := Feet v vs0 u us0) fun k hk => hk.mono h1 h2
  exact ⟨⟨vs', us', t, fun x hx => h1 x (s1 x hx), fun x hx => h2 x (s2 x hx)⟩, h.on.trans o', h.cap.only o' hN⟩
theorem ok_small {n : Nat} {L : List (List Int)} (h : RowsOk p n L) (hp2 : p ≤ 1000) : ∀ row ∈ L, ∀ z ∈ row, 0 ≤ z ∧ z ≤ 1000 := by
  intro row hrow z hz
  have := (h row hrow).2 z hz
  omega
theorem swapL_self {L : List (List Int)} {r : Nat} (hr : r < L.length) : swapL L r r = L := by
  unfold swapL
  rw [List.set_set]
  rw [List.getD_eq_getElem?_getD, List.getElem?_eq_getElem hr, Option.getD_some, List.set_getElem_self]

variable {m n n' : Nat}
theorem mid_swap (r k : Nat) (h : Mid B N bp br ba p v u vs0 us0 w0 R T w) (hf : Fit p m n n' R T) (hN : ∀ k, Feet v vs0 u us0 k → k < N) (hr : r < m) (hk : k < m) (hm : m ≤ 1000) :
    Calls Tryd.prog 254 #[opV 0 r k 0, .pointer (some ⟨bp, 0, none⟩), .pointer (some ⟨br, 0, none⟩), .pointer (some ⟨ba, 0, none⟩)] w fun e w' => e = .returned (.tuple #[]) ∧ Mid B N bp br ba p v u vs0 us0 w0 (swapL R r k) (swapL T r k) w' := by
  obtain ⟨vs, us, t, s1, s2⟩ := h.ex
  have lR := hf.lR
  have lT := hf.lT
  by_cases hne : r = k
  · subst hne
    rw [swapL_self (by omega), swapL_self (by omega)]
    refine (step_same p r v u N bp br ba w h.cap).mono ?_
    rintro e w' ⟨rfl, ho⟩
    refine ⟨rfl, h.next s1 s2 hN ⟨⟨t.mR.only ho fun _ _ h => h, t.mT.only ho fun _ _ h => h, t.ap⟩, fun x h => h, fun x h => h, ho.mono fun _ h => h.elim⟩⟩
  · refine (step_do p 0 r k 0 v u vs us R T (swapL R r k) (swapL T r k) B N bp br ba w h.cap t (fun k hk => hN k (hk.mono s1 s2)) (Or.inr (Or.inr ⟨rfl, by omega⟩)) (fun w1 h1 => ?_) (fun w1 h1 => ?_)).mono ?_
    · exact swap_any p r k 0 v vs R B w1 h1 (by omega) (by omega) hne (by omega)
    · exact swap_any p r k 0 u us T B w1 h1 (by omega) (by omega) hne (by omega)
    · rintro e w' ⟨rfl, vs', us', hx⟩
      exact ⟨rfl, h.next s1 s2 hN hx⟩
theorem mid_div (r : Nat) (by' : Int) (h : Mid B N bp br ba p v u vs0 us0 w0 R T w) (hf : Fit p m n n' R T) (hN : ∀ k, Feet v vs0 u us0 k → k < N) (hr : r < m) (hm : m ≤ 1000) (hn : n ≤ 1000) (hn' : n' ≤ 1000) (hp : 2 ≤ p) (hp2 : p ≤ 1000) (hb : 0 ≤ by' ∧ by' ≤ 1000) :
    Calls Tryd.prog 254 #[opV 1 r 0 by', .pointer (some ⟨bp, 0, none⟩), .pointer (some ⟨br, 0, none⟩), .pointer (some ⟨ba, 0, none⟩)] w fun e w' => e = .returned (.tuple #[]) ∧ Mid B N bp br ba p v u vs0 us0 w0 (divL p R r (invI p by')) (divL p T r (invI p by')) w' := by
  obtain ⟨vs, us, t, s1, s2⟩ := h.ex
  have lR := hf.lR
  have lT := hf.lT
  refine (step_do p 1 r 0 by' v u vs us R T (divL p R r (invI p by')) (divL p T r (invI p by')) B N bp br ba w h.cap t (fun k hk => hN k (hk.mono s1 s2)) (Or.inl rfl) (fun w1 h1 => ?_) (fun w1 h1 => ?_)).mono ?_
  · refine (divide_any p r by' v vs R B w1 h1 (by omega) (by omega) (fun row hrow => by rw [(hf.oR row hrow).1]; omega) hp hp2 hb.1 hb.2 (ok_small hf.oR hp2)).mono ?_
    rintro e w' ⟨rfl, h1, h2⟩
    exact ⟨rfl, vs, h1, fun x h => h, h2⟩
  · refine (divide_any p r by' u us T B w1 h1 (by omega) (by omega) (fun row hrow => by rw [(hf.oT row hrow).1]; omega) hp hp2 hb.1 hb.2 (ok_small hf.oT hp2)).mono ?_
    rintro e w' ⟨rfl, h1, h2⟩
    exact ⟨rfl, us, h1, fun x h => h, h2⟩
  · rintro e w' ⟨rfl, vs', us', hx⟩
    exact ⟨rfl, h.next s1 s2 hN hx⟩
def subL (p : Int) (L : List (List Int)) (r k : Nat) (by' : Int) : List (List Int) := L.set r (addT p (L.getD r []) (-by') (L.getD k []))
theorem mid_sub (r k : Nat) (by' : Int) (h : Mid B N bp br ba p v u vs0 us0 w0 R T w) (hf : Fit p m n n' R T) (hN : ∀ k, Feet v vs0 u us0 k → k < N) (hr : r < m) (hk : k < m) (hne : r ≠ k) (hm : m ≤ 1000) (hn : n ≤ 1000) (hn' : n' ≤ 1000) (hp : 2 ≤ p) (hp2 : p ≤ 1000) (hb : 0 ≤ by' ∧ by' ≤ 1000) :
    Calls Tryd.prog 254 #[opV 2 r k by', .pointer (some ⟨bp, 0, none⟩), .pointer (some ⟨br, 0, none⟩), .pointer (some ⟨ba, 0, none⟩)] w fun e w' => e = .returned (.tuple #[]) ∧ Mid B N bp br ba p v u vs0 us0 w0 (subL p R r k by') (subL p T r k by') w' := by
  obtain ⟨vs, us, t, s1, s2⟩ := h.ex
  have lR := hf.lR
  have lT := hf.lT
  refine (step_do p 2 r k by' v u vs us R T (subL p R r k by') (subL p T r k by') B N bp br ba w h.cap t (fun k hk => hN k (hk.mono s1 s2)) (Or.inr (Or.inl rfl)) (fun w1 h1 => ?_) (fun w1 h1 => ?_)).mono ?_
  · refine (subtract_any p r k by' v vs R B n w1 h1 (by omega) (by omega) hne (by omega) (by omega) (fun row hrow => (hf.oR row hrow).1) hp hp2 hb.1 hb.2 (ok_small hf.oR hp2)).mono ?_
    rintro e w' ⟨rfl, h1, h2⟩
    exact ⟨rfl, vs, h1, fun x h => h, h2⟩
  · refine (subtract_any p r k by' u us T B n' w1 h1 (by omega) (by omega) hne (by omega) (by omega) (fun row hrow => (hf.oT row hrow).1) hp hp2 hb.1 hb.2 (ok_small hf.oT hp2)).mono ?_
    rintro e w' ⟨rfl, h1, h2⟩
    exact ⟨rfl, us, h1, fun x h => h, h2⟩
  · rintro e w' ⟨rfl, vs', us', hx⟩
    exact ⟨rfl, h.next s1 s2 hN hx⟩
/-- reading an element of the rows -/
theorem Mid.elem (h : Mid B N bp br ba p v u vs0 us0 w0 R T w) (hf : Fit p m n n' R T) {i c : Nat} (hi : i < m) (hc : c < n) :
    ∃ g cap gi ci, v = .slice (some ⟨g, 0, none⟩) m cap ∧ w.cell? ⟨g, i, none⟩ = some (.slice (some ⟨gi, 0, none⟩) n ci) ∧ w.cell? ⟨gi, c, none⟩ = some (.int .i64 (at2 R i c)) := by
  obtain ⟨vs, us, t, _, _⟩ := h.ex
  have lR := hf.lR
  obtain ⟨g, cap, rfl, _⟩ := t.mR.head (by intro h; rw [h] at lR; simp at lR; omega)
  have hrow := hf.oR _ (getD_mem (show i < R.length by omega))
  obtain ⟨gi, ci, he, _⟩ := (t.mR.row i).parts (by intro h; rw [h] at hrow; have := hrow.1; simp at this; omega)
  have hc1 := t.mR.cell rfl (j := i) (by omega)
  have hc2 := t.mR.row i
  rw [he] at hc1 hc2
  have hc3 := hc2.cell rfl (j := c) (by rw [hrow.1]; exact hc)
  rw [hrow.1] at hc1
  refine ⟨g, cap, gi, ci, by rw [lR], hc1, ?_⟩
  rw [hc3]
  unfold at2
  rw [getD_lt (by rw [hrow.1]; exact hc)]
end

/-! ### clearing row by row -/
def clearTo (p : Int) (R : List (List Int)) (c r : Nat) (A : List (List Int)) (i : Nat) : List (List Int) := A.mapIdx fun j row => if j < i then clearRow p R c r (A.getD r []) j row else row
theorem clearTo_zero (p : Int) (R A : List (List Int)) (c r : Nat) : clearTo p R c r A 0 = A := by
  unfold clearTo
  refine List.ext_getElem (by simp) fun j h1 h2 => ?_
  simp
theorem clearTo_all (p : Int) (R A : List (List Int)) (c r : Nat) : clearTo p R c r A A.length = clearL p R c r A := by
  unfold clearTo clearL
  refine List.ext_getElem (by simp) fun j h1 h2 => ?_
  have : j < A.length := by simpa using h1
  simp [this]
theorem clearTo_len (p : Int) (R A : List (List Int)) (c r i : Nat) : (clearTo p R c r A i).length = A.length := by simp [clearTo]
theorem clearTo_get (p : Int) (R A : List (List Int)) (c r i j : Nat) : (clearTo p R c r A i).getD j [] = if j < i ∧ j < A.length then clearRow p R c r (A.getD r []) j (A.getD j []) else A.getD j [] := by
  unfold clearTo
  simp only [List.getD_eq_getElem?_getD, List.getElem?_mapIdx]
  rcases Nat.lt_or_ge j A.length with h | h
  · rw [List.getElem?_eq_getElem h]
    by_cases hj : j < i
    · simp [hj, h]
    · simp [hj]
  · rw [List.getElem?_eq_none h]
    simp
    intro _ h'
    omega
theorem clearTo_row (p : Int) (R A : List (List Int)) (c r i : Nat) : (clearTo p R c r A i).getD r [] = A.getD r [] := by
  rw [clearTo_get]
  split
  · unfold clearRow; simp
  · rfl
theorem clearTo_skip {p : Int} {R A : List (List Int)} {c r i : Nat} (h : ¬ (i ≠ r ∧ at2 R i c ≠ 0)) : clearTo p R c r A (i + 1) = clearTo p R c r A i := by
  unfold clearTo
  refine List.ext_getElem (by simp) fun j h1 h2 => ?_
  simp only [List.getElem_mapIdx]
  by_cases hj : j < i
  · rw [if_pos hj, if_pos (by omega)]
  · rw [if_neg hj]
    by_cases hj2 : j = i
    · subst hj2
      rw [if_pos (by omega)]
      unfold clearRow
      rw [if_neg h]
    · rw [if_neg (by omega)]
theorem getD_row {A : List (List Int)} {i : Nat} (hi : i < A.length) : A.getD i [] = A[i] := by
  rw [List.getD_eq_getElem?_getD, List.getElem?_eq_getElem hi]; rfl
theorem clearTo_elem {p : Int} {R A : List (List Int)} {c r i j : Nat} (hj : j < A.length) {h : j < (clearTo p R c r A i).length} : (clearTo p R c r A i)[j] = if j < i then clearRow p R c r (A.getD r []) j A[j] else A[j] := by
  simp [clearTo]
theorem clearTo_do {p : Int} {R A : List (List Int)} {c r i : Nat} (hi : i < A.length) (h : i ≠ r ∧ at2 R i c ≠ 0) : clearTo p R c r A (i + 1) = subL p (clearTo p R c r A i) i r (at2 R i c) := by
  unfold subL
  rw [clearTo_row, clearTo_get, if_neg (by omega)]
  refine List.ext_getElem (by simp [clearTo_len]) fun j h1 h2 => ?_
  have hj1 : j < A.length := by rw [clearTo_len] at h1; exact h1
  rw [List.getElem_set, clearTo_elem hj1]
  by_cases hj2 : i = j
  · subst hj2
    rw [if_pos (by omega), if_pos rfl]
    unfold clearRow
    rw [if_pos h, getD_row hi]
  · rw [if_neg hj2, clearTo_elem hj1]
    by_cases hj : j < i
    · rw [if_pos hj, if_pos (by omega)]
    · rw [if_neg hj, if_neg (by omega)]
theorem clearTo_at {p : Int} {R : List (List Int)} {c r i : Nat} : at2 (clearTo p R c r R i) i c = at2 R i c := by
  unfold at2
  rw [clearTo_get, if_neg (by omega)]
section
variable {p : Nat} [NeZero p]
theorem clearTo_ok {n c r i : Nat} {R A : List (List Int)} (h : RowsOk p n A) (hr : r < A.length) : RowsOk p n (clearTo p R c r A i) := by
  intro row hrow
  unfold clearTo at hrow
  obtain ⟨j, hj, rfl⟩ := List.getElem_of_mem hrow
  rw [List.getElem_mapIdx]
  simp only [List.length_mapIdx] at hj
  split
  · exact clearRow_ok (h _ (getD_mem hr)).1 (h _ (List.getElem_mem hj))
  · exact h _ (List.getElem_mem hj)
end
theorem redTo_stop {q : Int} {R T : List (List Int)} {c : Nat} (hr : (redTo q R T c).R.length ≤ (redTo q R T c).r) : ∀ d, redTo q R T (c + d) = redTo q R T c := by
  intro d
  induction d with
  | zero => rfl
  | succ d ih =>
    have e : c + (d + 1) = (c + d) + 1 := by omega
    rw [e]
    show stepL q (c + d) (redTo q R T (c + d)) = _
    rw [ih]
    unfold stepL pivAt
    have : (redTo q R T c).R.length - (redTo q R T c).r = 0 := by omega
    rw [this]
    rfl

end Go.Proofs.YtpeaeminjbjlnaaDoor

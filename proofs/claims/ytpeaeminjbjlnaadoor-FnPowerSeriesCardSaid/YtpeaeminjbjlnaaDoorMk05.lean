/-
  The steps of the reduction over a state that is kept. Plain laws of the rows that are cleared one by one. Conditions: the elements are small.
-/
import Derived.Test.YtpeaeminjbjlnaaDoorMk04
namespace Go.Proofs.YtpeaeminjbjlnaaDoor
open Go.RowKit
set_option linter.unusedVariables false

structure Fit (p : Int) (m n n' : Nat) (R T : List (List Int)) : Prop where
  lR : R.length = m
  lT : T.length = m
  oR : RowsOk p n R
  oT : RowsOk p n' T
structure Mid (B N bp br ba : Nat) (p : Int) (v u : Value) (vs0 us0 : List Value) (w0 : World) (R T : List (List Int)) (w : World) : Prop where
  ex : ∃ vs us, Two B w v vs u us R T ∧ (∀ x ∈ vs, x ∈ vs0) ∧ (∀ x ∈ us, x ∈ us0)
  on : Only (Feet v vs0 u us0) w0 w
  cap : Caps w N bp br ba p v u
theorem Feet.mono {v u : Value} {vs vs' us us' : List Value} (h1 : ∀ x ∈ vs', x ∈ vs) (h2 : ∀ x ∈ us', x ∈ us) {k : Nat} (hk : Feet v vs' u us' k) : Feet v vs u us k := by
  rcases hk with hk | hk
  · exact Or.inl (hk.mono h1)
  · exact Or.inr (hk.mono h2)
section
variable {B N bp br ba : Nat} {p : Int} {v u : Value} {vs0 us0 : List Value} {w0 : World} {R T : List (List Int)} {w : World}
theorem Mid.next {vs us vs' us' : List Value} {R' T' : List (List Int)} {w' : World} (h : Mid B N bp br ba p v u vs0 us0 w0 R T w) (h1 : ∀ x ∈ vs, x ∈ vs0) (h2 : ∀ x ∈ us, x ∈ us0) (hN : ∀ k, Feet v vs0 u us0 k → k < N)
    (hp : Two B w' v vs' u us' R' T' ∧ (∀ x ∈ vs', x ∈ vs) ∧ (∀ x ∈ us', x ∈ us) ∧ Only (Feet v vs u us) w w') : Mid B N bp br ba p v u vs0 us0 w0 R' T' w' := by
  obtain ⟨t, s1, s2, o⟩ := hp
  have o' := o.mono (S' := Feet v vs0 u us0) fun k hk => hk.mono h1 h2
  exact ⟨⟨vs', us', t, fun x hx => h1 x (s1 x hx), fun x hx => h2 x (s2 x hx)⟩, h.on.trans o', h.cap.only o' hN⟩
theorem ok_small {n : Nat} {L : List (List Int)} (h : RowsOk p n L) (hp2 : p ≤ 1000) : ∀ row ∈ L, ∀ z ∈ row, 0 ≤ z ∧ z ≤ 1000 := by
  intro row hrow z hz
  have := (h row hrow).2 z hz
  omega
theorem swapL_self {L : List (List Int)} {r : Nat} (hr : r < L.length) : swapL L r r = L := by
  unfold swapL
  rw [List.set_set]
  rw [List.getD_eq_getElem?_getD, List.getElem?_eq_getElem hr, Option.getD_some, List.set_getElem_self]

variable {m n n' : Nat}
theorem mid_swap (r k : Nat) (h : Mid B N bp br ba p v u vs0 us0 w0 R T w) (hf : Fit p m n n' R T) (hN : ∀ k, Feet v vs0 u us0 k → k < N) (hr : r < m) (hk : k < m) (hm : m ≤ 1000) :
    Calls Tryd.prog 254 #[opV 0 r k 0, .pointer (some ⟨bp, 0, none⟩), .pointer (some ⟨br, 0, none⟩), .pointer (some ⟨ba, 0, none⟩)] w fun e w' => e = .returned (.tuple #[]) ∧ Mid B N bp br ba p v u vs0 us0 w0 (swapL R r k) (swapL T r k) w' := by
  obtain ⟨vs, us, t, s1, s2⟩ := h.ex
  have lR := hf.lR
  have lT := hf.lT
  by_cases hne : r = k
  · subst hne
    rw [swapL_self (by omega), swapL_self (by omega)]
    refine (step_same p r v u N bp br ba w h.cap).mono ?_
    rintro e w' ⟨rfl, ho⟩
    refine ⟨rfl, h.next s1 s2 hN ⟨⟨t.mR.only ho fun _ _ h => h, t.mT.only ho fun _ _ h => h, t.ap⟩, fun x h => h, fun x h => h, ho.mono fun _ h => h.elim⟩⟩
  · refine (step_do p 0 r k 0 v u vs us R T (swapL R r k) (swapL T r k) B N bp br ba w h.cap t (fun k hk => hN k (hk.mono s1 s2)) (Or.inr (Or.inr ⟨rfl, by omega⟩)) (fun w1 h1 => ?_) (fun w1 h1 => ?_)).mono ?_
    · exact swap_any p r k 0 v vs R B w1 h1 (by omega) (by omega) hne (by omega)
    · exact swap_any p r k 0 u us T B w1 h1 (by omega) (by omega) hne (by omega)
    · rintro e w' ⟨rfl, vs', us', hx⟩
      exact ⟨rfl, h.next s1 s2 hN hx⟩
theorem mid_div (r : Nat) (by' : Int) (h : Mid B N bp br ba p v u vs0 us0 w0 R T w) (hf : Fit p m n n' R T) (hN : ∀ k, Feet v vs0 u us0 k → k < N) (hr : r < m) (hm : m ≤ 1000) (hn : n ≤ 1000) (hn' : n' ≤ 1000) (hp : 2 ≤ p) (hp2 : p ≤ 1000) (hb : 0 ≤ by' ∧ by' ≤ 1000) :
    Calls Tryd.prog 254 #[opV 1 r 0 by', .pointer (some ⟨bp, 0, none⟩), .pointer (some ⟨br, 0, none⟩), .pointer (some ⟨ba, 0, none⟩)] w fun e w' => e = .returned (.tuple #[]) ∧ Mid B N bp br ba p v u vs0 us0 w0 (divL p R r (invI p by')) (divL p T r (invI p by')) w' := by
  obtain ⟨vs, us, t, s1, s2⟩ := h.ex
  have lR := hf.lR
  have lT := hf.lT
  refine (step_do p 1 r 0 by' v u vs us R T (divL p R r (invI p by')) (divL p T r (invI p by')) B N bp br ba w h.cap t (fun k hk => hN k (hk.mono s1 s2)) (Or.inl rfl) (fun w1 h1 => ?_) (fun w1 h1 => ?_)).mono ?_
  · refine (divide_any p r by' v vs R B w1 h1 (by omega) (by omega) (fun row hrow => by rw [(hf.oR row hrow).1]; omega) hp hp2 hb.1 hb.2 (ok_small hf.oR hp2)).mono ?_
    rintro e w' ⟨rfl, h1, h2⟩
    exact ⟨rfl, vs, h1, fun x h => h, h2⟩
  · refine (divide_any p r by' u us T B w1 h1 (by omega) (by omega) (fun row hrow => by rw [(hf.oT row hrow).1]; omega) hp hp2 hb.1 hb.2 (ok_small hf.oT hp2)).mono ?_
    rintro e w' ⟨rfl, h1, h2⟩
    exact ⟨rfl, us, h1, fun x h => h, h2⟩
  · rintro e w' ⟨rfl, vs', us', hx⟩
    exact ⟨rfl, h.next s1 s2 hN hx⟩
def subL (p : Int) (L : List (List Int)) (r k : Nat) (by' : Int) : List (List Int) := L.set r (addT p (L.getD r []) (-by') (L.getD k []))
theorem mid_sub (r k : Nat) (by' : Int) (h : Mid B N bp br ba p v u vs0 us0 w0 R T w) (hf : Fit p m n n' R T) (hN : ∀ k, Feet v vs0 u us0 k → k < N) (hr : r < m) (hk : k < m) (hne : r ≠ k) (hm : m ≤ 1000) (hn : n ≤ 1000) (hn' : n' ≤ 1000) (hp : 2 ≤ p) (hp2 : p ≤ 1000) (hb : 0 ≤ by' ∧ by' ≤ 1000) :
    Calls Tryd.prog 254 #[opV 2 r k by', .pointer (some ⟨bp, 0, none⟩), .pointer (some ⟨br, 0, none⟩), .pointer (some ⟨ba, 0, none⟩)] w fun e w' => e = .returned (.tuple #[]) ∧ Mid B N bp br ba p v u vs0 us0 w0 (subL p R r k by') (subL p T r k by') w' := by
  obtain ⟨vs, us, t, s1, s2⟩ := h.ex
  have lR := hf.lR
  have lT := hf.lT
  refine (step_do p 2 r k by' v u vs us R T (subL p R r k by') (subL p T r k by') B N bp br ba w h.cap t (fun k hk => hN k (hk.mono s1 s2)) (Or.inr (Or.inl rfl)) (fun w1 h1 => ?_) (fun w1 h1 => ?_)).mono ?_
  · refine (subtract_any p r k by' v vs R B n w1 h1 (by omega) (by omega) hne (by omega) (by omega) (fun row hrow => (hf.oR row hrow).1) hp hp2 hb.1 hb.2 (ok_small hf.oR hp2)).mono ?_
    rintro e w' ⟨rfl, h1, h2⟩
    exact ⟨rfl, vs, h1, fun x h => h, h2⟩
  · refine (subtract_any p r k by' u us T B n' w1 h1 (by omega) (by omega) hne (by omega) (by omega) (fun row hrow => (hf.oT row hrow).1) hp hp2 hb.1 hb.2 (ok_small hf.oT hp2)).mono ?_
    rintro e w' ⟨rfl, h1, h2⟩
    exact ⟨rfl, us, h1, fun x h => h, h2⟩
  · rintro e w' ⟨rfl, vs', us', hx⟩
    exact ⟨rfl, h.next s1 s2 hN hx⟩
/-- reading an element of the rows -/
theorem Mid.elem (h : Mid B N bp br ba p v u vs0 us0 w0 R T w) (hf : Fit p m n n' R T) {i c : Nat} (hi : i < m) (hc : c < n) :
    ∃ g cap gi ci, v = .slice (some ⟨g, 0, none⟩) m cap ∧ w.cell? ⟨g, i, none⟩ = some (.slice (some ⟨gi, 0, none⟩) n ci) ∧ w.cell? ⟨gi, c, none⟩ = some (.int .i64 (at2 R i c)) := by
  obtain ⟨vs, us, t, _, _⟩ := h.ex
  have lR := hf.lR
  obtain ⟨g, cap, rfl, _⟩ := t.mR.head (by intro h; rw [h] at lR; simp at lR; omega)
  have hrow := hf.oR _ (getD_mem (show i < R.length by omega))
  obtain ⟨gi, ci, he, _⟩ := (t.mR.row i).parts (by intro h; rw [h] at hrow; have := hrow.1; simp at this; omega)
  have hc1 := t.mR.cell rfl (j := i) (by omega)
  have hc2 := t.mR.row i
  rw [he] at hc1 hc2
  have hc3 := hc2.cell rfl (j := c) (by rw [hrow.1]; exact hc)
  rw [hrow.1] at hc1
  refine ⟨g, cap, gi, ci, by rw [lR], hc1, ?_⟩
  rw [hc3]
  unfold at2
  rw [getD_lt (by rw [hrow.1]; exact hc)]
end

/-! ### clearing row by row -/
def clearTo (p : Int) (R : List (List Int)) (c r : Nat) (A : List (List Int)) (i : Nat) : List (List Int) := A.mapIdx fun j row => if j < i then clearRow p R c r (A.getD r []) j row else row
theorem clearTo_zero (p : Int) (R A : List (List Int)) (c r : Nat) : clearTo p R c r A 0 = A := by
  unfold clearTo
  refine List.ext_getElem (by simp) fun j h1 h2 => ?_
  simp
theorem clearTo_all (p : Int) (R A : List (List Int)) (c r : Nat) : clearTo p R c r A A.length = clearL p R c r A := by
  unfold clearTo clearL
  refine List.ext_getElem (by simp) fun j h1 h2 => ?_
  have : j < A.length := by simpa using h1
  simp [this]
theorem clearTo_len (p : Int) (R A : List (List Int)) (c r i : Nat) : (clearTo p R c r A i).length = A.length := by simp [clearTo]
theorem clearTo_get (p : Int) (R A : List (List Int)) (c r i j : Nat) : (clearTo p R c r A i).getD j [] = if j < i ∧ j < A.length then clearRow p R c r (A.getD r []) j (A.getD j []) else A.getD j [] := by
  unfold clearTo
  simp only [List.getD_eq_getElem?_getD, List.getElem?_mapIdx]
  rcases Nat.lt_or_ge j A.length with h | h
  · rw [List.getElem?_eq_getElem h]
    by_cases hj : j < i
    · simp [hj, h]
    · simp [hj]
  · rw [List.getElem?_eq_none h]
    simp
    intro _ h'
    omega
theorem clearTo_row (p : Int) (R A : List (List Int)) (c r i : Nat) : (clearTo p R c r A i).getD r [] = A.getD r [] := by
  rw [clearTo_get]
  split
  · unfold clearRow; simp
  · rfl
theorem clearTo_skip {p : Int} {R A : List (List Int)} {c r i : Nat} (h : ¬ (i ≠ r ∧ at2 R i c ≠ 0)) : clearTo p R c r A (i + 1) = clearTo p R c r A i := by
  unfold clearTo
  refine List.ext_getElem (by simp) fun j h1 h2 => ?_
  simp only [List.getElem_mapIdx]
  by_cases hj : j < i
  · rw [if_pos hj, if_pos (by omega)]
  · rw [if_neg hj]
    by_cases hj2 : j = i
    · subst hj2
      rw [if_pos (by omega)]
      unfold clearRow
      rw [if_neg h]
    · rw [if_neg (by omega)]
theorem getD_row {A : List (List Int)} {i : Nat} (hi : i < A.length) : A.getD i [] = A[i] := by
  rw [List.getD_eq_getElem?_getD, List.getElem?_eq_getElem hi]; rfl
theorem clearTo_elem {p : Int} {R A : List (List Int)} {c r i j : Nat} (hj : j < A.length) {h : j < (clearTo p R c r A i).length} : (clearTo p R c r A i)[j] = if j < i then clearRow p R c r (A.getD r []) j A[j] else A[j] := by
  simp [clearTo]
theorem clearTo_do {p : Int} {R A : List (List Int)} {c r i : Nat} (hi : i < A.length) (h : i ≠ r ∧ at2 R i c ≠ 0) : clearTo p R c r A (i + 1) = subL p (clearTo p R c r A i) i r (at2 R i c) := by
  unfold subL
  rw [clearTo_row, clearTo_get, if_neg (by omega)]
  refine List.ext_getElem (by simp [clearTo_len]) fun j h1 h2 => ?_
  have hj1 : j < A.length := by rw [clearTo_len] at h1; exact h1
  rw [List.getElem_set, clearTo_elem hj1]
  by_cases hj2 : i = j
  · subst hj2
    rw [if_pos (by omega), if_pos rfl]
    unfold clearRow
    rw [if_pos h, getD_row hi]
  · rw [if_neg hj2, clearTo_elem hj1]
    by_cases hj : j < i
    · rw [if_pos hj, if_pos (by omega)]
    · rw [if_neg hj, if_neg (by omega)]
theorem clearTo_at {p : Int} {R : List (List Int)} {c r i : Nat} : at2 (clearTo p R c r R i) i c = at2 R i c := by
  unfold at2
  rw [clearTo_get, if_neg (by omega)]
section
variable {p : Nat} [NeZero p]
theorem clearTo_ok {n c r i : Nat} {R A : List (List Int)} (h : RowsOk p n A) (hr : r < A.length) : RowsOk p n (clearTo p R c r A i) := by
  intro row hrow
  unfold clearTo at hrow
  obtain ⟨j, hj, rfl⟩ := List.getElem_of_mem hrow
  rw [List.getElem_mapIdx]
  simp only [List.length_mapIdx] at hj
  split
  · exact clearRow_ok (h _ (getD_mem hr)).1 (h _ (List.getElem_mem hj))
  · exact h _ (List.getElem_mem hj)
end
theorem redTo_stop {q : Int} {R T : List (List Int)} {c : Nat} (hr : (redTo q R T c).R.length ≤ (redTo q R T c).r) : ∀ d, redTo q R T (c + d) = redTo q R T c := by
  intro d
  induction d with
  | zero => rfl
  | succ d ih =>
    have e : c + (d + 1) = (c + d) + 1 := by omega
    rw [e]
    show stepL q (c + d) (redTo q R T (c + d)) = _
    rw [ih]
    unfold stepL pivAt
    have : (redTo q R T c).R.length - (redTo q R T c).r = 0 := by omega
    rw [this]
    rfl

end Go.Proofs.YtpeaeminjbjlnaaDoor

/-
  The reduction of a list of rows, another beside it. Conditions: the elements are small.
-/
namespace Go.Proofs.YtpeaeminjbjlnaaDoor
open Go.RowKit
set_option linter.unusedVariables false

theorem caps3 {w : World} {B : Nat} {v u : Value} {vs us : List Value} {R T : List (List Int)} (h2 : Two B w v vs u us R T) (p : Int) (tp tv tu : TypeId) :
    Mid B w.heap.size w.heap.size (w.heap.size + 1) (w.heap.size + 1 + 1) p v u vs us w R T (((w.alloc (.cells #[.int .i64 p] tp)).alloc (.cells #[v] tv)).alloc (.cells #[u] tu)) := by
  have s1 : (w.alloc (.cells #[.int .i64 p] tp)).heap.size = w.heap.size + 1 := by simp
  have s2 : ((w.alloc (.cells #[.int .i64 p] tp)).alloc (.cells #[v] tv)).heap.size = w.heap.size + 2 := by simp
  have s3 : (((w.alloc (.cells #[.int .i64 p] tp)).alloc (.cells #[v] tv)).alloc (.cells #[u] tu)).heap.size = w.heap.size + 3 := by simp
  have g1 := grownBy_alloc w (.cells #[.int .i64 p] tp) none
  have g2 := grownBy_alloc (w.alloc (.cells #[.int .i64 p] tp)) (.cells #[v] tv) none
  have g3 := grownBy_alloc ((w.alloc (.cells #[.int .i64 p] tp)).alloc (.cells #[v] tv)) (.cells #[u] tu) none
  have c1 := box_cell w #[.int .i64 p] tp 0
  have c2 := box_cell (w.alloc (.cells #[.int .i64 p] tp)) #[v] tv 0
  have c3 := box_cell ((w.alloc (.cells #[.int .i64 p] tp)).alloc (.cells #[v] tv)) #[u] tu 0
  generalize w.alloc (.cells #[.int .i64 p] tp) = w1 at *
  generalize w1.alloc (.cells #[v] tv) = w2 at *
  generalize w2.alloc (.cells #[u] tu) = w3 at *
  rw [s1] at c2
  rw [s2] at c3
  have o1 : Only (fun _ => False) w w1 := Only.of_grown g1 (by simp)
  have o2 : Only (fun _ => False) w1 w2 := Only.of_grown g2 (by simp)
  have o3 : Only (fun _ => False) w2 w3 := Only.of_grown g3 (by simp)
  have o := (o1.trans o2).trans o3
  have d2 : w2.cell? ⟨w.heap.size, 0, none⟩ = w1.cell? ⟨w.heap.size, 0, none⟩ := World.cell?_of_block (a := ⟨w.heap.size, 0, none⟩) (o2.block w.heap.size (by omega) (fun h => h))
  have d3 : w3.cell? ⟨w.heap.size, 0, none⟩ = w2.cell? ⟨w.heap.size, 0, none⟩ := World.cell?_of_block (a := ⟨w.heap.size, 0, none⟩) (o3.block w.heap.size (by omega) (fun h => h))
  have d4 : w3.cell? ⟨w.heap.size + 1, 0, none⟩ = w2.cell? ⟨w.heap.size + 1, 0, none⟩ := World.cell?_of_block (a := ⟨w.heap.size + 1, 0, none⟩) (o3.block (w.heap.size + 1) (by omega) (fun h => h))
  refine ⟨⟨vs, us, ⟨h2.mR.only o (fun _ _ h => h), h2.mT.only o (fun _ _ h => h), h2.ap⟩, fun x h => h, fun x h => h⟩, o.mono fun _ h => h.elim, ⟨?_, ?_, ?_, by omega, by omega, by omega, by omega, by omega, by omega⟩⟩
  · rw [d3, d2, c1]; rfl
  · rw [d4, c2]; rfl
  · rw [c3]; rfl

/-- the shape of the rows at a round -/
theorem at_round {p : Nat} [NeZero p] (hfld : fldN p = true) {m n n' k : Nat} {R T : List (List Int)} (hf : Fit p m n n' R T) (hk : k ≤ n) : Fit p m n n' (redTo p R T k).R (redTo p R T k).T ∧ (redTo p R T k).r ≤ m := by
  obtain ⟨h1, _⟩ := red_inv hfld hf.oR hf.oT hf.lR hf.lT k hk
  obtain ⟨piv, he⟩ := h1.elim
  exact ⟨⟨h1.lenR, h1.lenT, h1.okR, h1.okT⟩, he.rm⟩

theorem pivAt_is_none {R : List (List Int)} {c r : Nat} (hr : r ≤ R.length) (h : ∀ l, r ≤ l → l < R.length → at2 R l c = 0) : pivAt R c r = none := by
  cases hp : pivAt R c r with
  | none => rfl
  | some j =>
    obtain ⟨h1, h2, h3⟩ := pivAt_some hr hp
    exact absurd (h j h1 h2) h3
theorem pivAt_is_some {R : List (List Int)} {c r j : Nat} (hr : r ≤ R.length) (h : ∀ l, r ≤ l → l < j → at2 R l c = 0) (h1 : r ≤ j) (h2 : j < R.length) (h3 : at2 R j c ≠ 0) : pivAt R c r = some j := by
  cases hp : pivAt R c r with
  | none => exact absurd (pivAt_none hr hp j h1 h2) h3
  | some i =>
    obtain ⟨a1, a2, a3⟩ := pivAt_some hr hp
    obtain ⟨_, _, _, a4⟩ := firstFrom_some hp
    rcases Nat.lt_trichotomy i j with hij | hij | hij
    · exact absurd (h i a1 hij) a3
    · rw [hij]
    · have := a4 j h1 hij
      simp at this
      exact absurd this h3

theorem fit_swap {p : Nat} [NeZero p] {m n n' : Nat} {R T : List (List Int)} (h : Fit p m n n' R T) {r j : Nat} (hr : r < m) (hj : j < m) : Fit p m n n' (swapL R r j) (swapL T r j) := by
  have l1 := h.lR; have l2 := h.lT
  exact ⟨by rw [swapL_len]; exact l1, by rw [swapL_len]; exact l2, swapL_ok h.oR (by omega) (by omega), swapL_ok h.oT (by omega) (by omega)⟩
theorem fit_div {p : Nat} [NeZero p] {m n n' : Nat} {R T : List (List Int)} (h : Fit p m n n' R T) {r : Nat} (hr : r < m) (y : Int) : Fit p m n n' (divL p R r y) (divL p T r y) := by
  have l1 := h.lR; have l2 := h.lT
  exact ⟨by rw [divL_len]; exact l1, by rw [divL_len]; exact l2, divL_ok h.oR (by omega) y, divL_ok h.oT (by omega) y⟩
theorem fit_clear {p : Nat} [NeZero p] {m n n' : Nat} {R T : List (List Int)} (h : Fit p m n n' R T) {r : Nat} (hr : r < m) (c i : Nat) : Fit p m n n' (clearTo p R c r R i) (clearTo p R c r T i) := by
  have l1 := h.lR; have l2 := h.lT
  exact ⟨by rw [clearTo_len]; exact l1, by rw [clearTo_len]; exact l2, clearTo_ok h.oR (by omega), clearTo_ok h.oT (by omega)⟩

set_option maxRecDepth 100000 in
set_option maxHeartbeats 4000000 in
theorem reduction_any (p : Nat) [NeZero p] (v u : Value) (vs us : List Value) (R T : List (List Int)) (m n n' B : Nat) (w : World) (hfld : fldN p = true) (h2 : Two B w v vs u us R T) (hf : Fit p m n n' R T)
    (hm : m ≤ 1000) (hn : n ≤ 1000) (hn' : n' ≤ 1000) (hp2 : p ≤ 1000) :
    Calls Tryd.prog 120 #[.int .i64 p, v, .int .i64 n, u] w fun e w' => e = .returned (.int .i64 (redTo p R T n).r) ∧
      ∃ vs' us', Two B w' v vs' u us' (redTo p R T n).R (redTo p R T n).T ∧ Only (Feet v vs u us) w w' := by
  have hp1 := lt_p hfld
  have HN := Lib.hid (show ∀ k, Feet v vs u us k → k < w.heap.size from fun k hk => by
    rcases hk with hk | hk
    · exact (h2.mR.lt hk).2
    · exact (h2.mT.lt hk).2)
  have HM := Lib.hid (caps3 h2 p 3 37 37)
  have HAT := Lib.hid (fun k (hk : k ≤ n) => at_round hfld hf hk)
  have HF := Lib.hid hf
  have HP := Lib.hid hfld
  have hshape : ∃ a cap, v = .slice a m cap := by
    obtain ⟨a, c, h, _⟩ := h2.mR.read
    exact ⟨a, c, by rw [h, hf.lR]⟩
  obtain ⟨a, cap, rfl⟩ := hshape
  have hshape : ∃ a cap, u = .slice a m cap := by
    obtain ⟨a, c, h, _⟩ := h2.mT.read
    exact ⟨a, c, by rw [h, hf.lT]⟩
  obtain ⟨ua, ucap, rfl⟩ := hshape
  clear h2 hf hfld
  go_enter Tryd.func120, Tryd.ntmps120
  go_wp2_with fail
  generalize ((w.alloc (.cells #[.int .i64 p] 3)).alloc (.cells #[.slice a m cap] 37)).alloc (.cells #[.slice ua m ucap] 37) = w1 at *
  generalize w.heap.size + 1 + 1 = ba at *
  generalize w.heap.size + 1 = br at *
  generalize w.heap.size = N at *
  go_loopw [9, 11] (fun r c wr => ∃ k : Nat, k ≤ n ∧ c = .int .i64 k ∧ r = .int .i64 (redTo p R T k).r ∧ Mid B N N br ba p (.slice a m cap) (.slice ua m ucap) vs us w (redTo p R T k).R (redTo p R T k).T wr) (fun _ c _ => n - (intOf c).toNat)
  case atStart => exact ⟨0, by omega, rfl, rfl, HM.out⟩
  case round =>
    obtain ⟨k, hk, rfl, rfl, hmid⟩ := hrel
    have HMID := Lib.hid hmid
    obtain ⟨hfit, hrm⟩ := HAT.out k hk
    have HFIT := Lib.hid hfit
    clear hmid hfit
    have hstop : (redTo p R T k).r = m ∨ k = n → redTo p R T n = redTo p R T k := by
      rintro (h | h)
      · have e : n = k + (n - k) := by omega
        rw [e]
        exact redTo_stop (by rw [HFIT.out.lR]; omega) _
      · rw [h]
    have HSTOP := Lib.hid hstop
    have hnext : redTo p R T (k + 1) = stepL p k (redTo p R T k) := rfl
    have HNEXT := Lib.hid hnext
    clear hstop hnext
    generalize hs : redTo p R T k = s at *
    clear hs
    generalize hsr : s.r = r at *
    have HSR := Lib.hid hsr
    clear hsr
    have crr := HMID.out.cap.cr
    by_cases hkn : k < n
    · by_cases hrlt : r < m
      · obtain ⟨g, cap', _, _, hve, _, _⟩ := HMID.out.elem HFIT.out hrlt hkn
        simp only [Value.slice.injEq, true_and] at hve
        obtain ⟨rfl, rfl⟩ := hve
        go_wp2_with fail
        go_loop [12] (fun i => ∃ j : Nat, j ≤ m ∧ i = .int .i64 j ∧ r ≤ j ∧ ∀ l, r ≤ l → l < j → at2 s.R l k = 0) (fun i => m - (intOf i).toNat)
        case atStart => exact ⟨r, hrm, rfl, Nat.le_refl _, fun l h1 h2 => absurd h1 (by omega)⟩
        case round =>
          obtain ⟨j, hjm, rfl, hrj, hz⟩ := hrel
          have HZ := Lib.hid hz
          clear hz
          by_cases hj : j < m
          · obtain ⟨g', cap'', gj, cj, hve, e1, e2⟩ := HMID.out.elem HFIT.out hj hkn
            simp only [Value.slice.injEq, Option.some.injEq, Addr.mk.injEq, and_true, true_and] at hve
            obtain ⟨rfl, rfl⟩ := hve
            generalize hy : at2 s.R j k = y at *
            have HY := Lib.hid hy
            clear hy
            by_cases hy0 : y = 0
            · subst hy0
              go_wp2
              go_round
              case rel => exact ⟨j + 1, by omega, by go_num, by omega, fun l h1 h2 => by
                by_cases hlj : l = j
                · rw [hlj]; exact HY.out
                · exact HZ.out l h1 (by omega)⟩
              case measure => simp [intOf]; omega
            · have hyb : (y == 0) = false := by rw [beq_eq_false_iff_ne]; exact hy0
              have hjb : ((j : Int) == m) = false := by rw [beq_eq_false_iff_ne]; omega
              have S1 := mid_swap r j HMID.out HFIT.out HN.out hrlt hj hm
              unfold opV at S1
              have S1 := Lib.hid S1
              have hfit1 := fit_swap HFIT.out hrlt hj
              have HFIT1 := Lib.hid hfit1
              have hpiv : pivAt s.R k r = some j := pivAt_is_some (by rw [HFIT.out.lR]; exact hrm) HZ.out hrj (by rw [HFIT.out.lR]; exact hj) (by rw [HY.out]; exact hy0)
              have hstep : stepL p k s = stepWith p k j s := by unfold stepL; rw [HSR.out, hpiv]
              have HSTEP := Lib.hid hstep
              clear hstep hpiv hfit1
              have hyb2 : 0 ≤ at2 (swapL s.R r j) r k ∧ at2 (swapL s.R r j) r k < p := at2_ok HFIT1.out.oR
              generalize hR1 : swapL s.R r j = R1 at *
              generalize hT1 : swapL s.T r j = T1 at *
              have HR1 := Lib.hid hR1; have HT1 := Lib.hid hT1
              clear hR1 hT1
              generalize hy2 : at2 R1 r k = y2 at *
              have HY2 := Lib.hid hy2
              clear hy2
              have S2 := fun w2 h => mid_div (B := B) (N := N) (bp := N) (br := br) (ba := ba) (p := p) (v := .slice (some ⟨g, 0, none⟩) m cap) (u := .slice ua m ucap) (vs0 := vs) (us0 := us) (w0 := w) (w := w2) r y2 h HFIT1.out HN.out hrlt hm hn hn' (by omega) (by omega) (by omega)
              unfold opV at S2
              have S2 := Lib.hid S2
              have HFIT2 := Lib.hid (fit_div HFIT1.out hrlt (invI p y2))
              generalize hR2 : divL p R1 r (invI p y2) = R2 at *
              generalize hT2 : divL p T1 r (invI p y2) = T2 at *
              have HR2 := Lib.hid hR2; have HT2 := Lib.hid hT2
              clear hR2 hT2
              go_wp2_with (
                go_at_call 254
                first
                  | (with_reducible refine S1.out.mono ?_
                     rintro e w2 ⟨rfl, hm2⟩
                     have HM2 := Lib.hid hm2
                     have cr2 := hm2.cap.cr
                     obtain ⟨g2, cap2, gr2, cr2', hve, d1, d2⟩ := hm2.elem HFIT1.out hrlt hkn
                     simp only [Value.slice.injEq, Option.some.injEq, Addr.mk.injEq, and_true, true_and] at hve
                     obtain ⟨rfl, rfl⟩ := hve
                     rw [HY2.out] at d2
                     clear hm2)
                  | (with_reducible refine (S2.out _ HM2.out).mono ?_
                     rintro e w3 ⟨rfl, hm3⟩
                     have HM3 := Lib.hid hm3
                     have cr3 := hm3.cap.cr
                     clear hm3))
              go_loopw [65] (fun i wx => ∃ l : Nat, l ≤ m ∧ i = .int .i64 l ∧ Mid B N N br ba p (.slice (some ⟨g, 0, none⟩) m cap) (.slice ua m ucap) vs us w (clearTo p R2 k r R2 l) (clearTo p R2 k r T2 l) wx) (fun i _ => m - (intOf i).toNat)
              case atStart => exact ⟨0, by omega, rfl, by rw [clearTo_zero, clearTo_zero]; exact HM3.out⟩
              case round =>
                obtain ⟨l, hlm, rfl, hmid4⟩ := hrel
                have HM4 := Lib.hid hmid4
                have cr4 := hmid4.cap.cr
                clear hmid4
                by_cases hl : l < m
                · have hfit4 := fit_clear HFIT2.out hrlt k l
                  obtain ⟨g4, cap4, gl4, cl4, hve, d1', d2'⟩ := HM4.out.elem hfit4 hl hkn
                  simp only [Value.slice.injEq, Option.some.injEq, Addr.mk.injEq, and_true, true_and] at hve
                  obtain ⟨rfl, rfl⟩ := hve
                  rw [clearTo_at] at d2'
                  have hzb := at2_ok (i := l) (c := k) HFIT2.out.oR
                  by_cases hlr : l = r
                  · have hb1 : ((l : Int) != r) = false := by rw [bne_eq_false_iff_eq]; omega
                    have hskip : ¬ (l ≠ r ∧ at2 R2 l k ≠ 0) := fun h => h.1 hlr
                    have A1 := Lib.hid (clearTo_skip (p := p) (A := R2) hskip)
                    have A2 := Lib.hid (clearTo_skip (p := p) (A := T2) hskip)
                    clear hskip hfit4
                    go_wp2
                    go_roundw
                    case rel => exact ⟨l + 1, by omega, by go_num, by rw [A1.out, A2.out]; exact HM4.out⟩
                    case measure => simp [intOf]; omega
                  · have hb1 : ((l : Int) != r) = true := by rw [bne_iff_ne]; omega
                    by_cases hz0 : at2 R2 l k = 0
                    · have hskip : ¬ (l ≠ r ∧ at2 R2 l k ≠ 0) := fun h => h.2 hz0
                      have A1 := Lib.hid (clearTo_skip (p := p) (A := R2) hskip)
                      have A2 := Lib.hid (clearTo_skip (p := p) (A := T2) hskip)
                      rw [hz0] at d2'
                      clear hskip hfit4 hz0
                      go_wp2
                      go_roundw
                      case rel => exact ⟨l + 1, by omega, by go_num, by rw [A1.out, A2.out]; exact HM4.out⟩
                      case measure => simp [intOf]; omega
                    · have A1 := Lib.hid (clearTo_do (p := p) (A := R2) (by rw [HFIT2.out.lR]; exact hl) ⟨hlr, hz0⟩)
                      have A2 := Lib.hid (clearTo_do (p := p) (A := T2) (by rw [HFIT2.out.lT]; exact hl) ⟨hlr, hz0⟩)
                      generalize at2 R2 l k = z at *
                      have hb2 : (z != 0) = true := by rw [bne_iff_ne]; exact hz0
                      have S3 := mid_sub l r z HM4.out hfit4 HN.out hl hrlt hlr hm hn hn' (by omega) (by omega) (by omega)
                      unfold opV at S3
                      have S3 := Lib.hid S3
                      clear hfit4
                      go_wp2_with (
                        go_at_call 254
                        with_reducible refine S3.out.mono ?_
                        rintro e w5 ⟨rfl, hm5⟩
                        have HM5 := Lib.hid hm5
                        clear hm5)
                      go_roundw
                      case rel => exact ⟨l + 1, by omega, by go_num, by rw [A1.out, A2.out]; exact HM5.out⟩
                      case measure => simp [intOf]; omega
                · have A1 : clearTo p R2 k r R2 l = clearL p R2 k r R2 := by
                    have e : l = R2.length := by rw [HFIT2.out.lR]; omega
                    rw [e]; exact clearTo_all _ _ _ _ _
                  have A2 : clearTo p R2 k r T2 l = clearL p R2 k r T2 := by
                    have e : l = T2.length := by rw [HFIT2.out.lT]; omega
                    rw [e]; exact clearTo_all _ _ _ _ _
                  have B1 := Lib.hid A1; have B2 := Lib.hid A2
                  clear A1 A2
                  have hfin : stepWith p k j s = ⟨clearL p R2 k r R2, clearL p R2 k r T2, r + 1⟩ := by
                    unfold stepWith
                    simp only [HSR.out, HR1.out, HT1.out, HY2.out, HR2.out, HT2.out]
                  have HFIN := Lib.hid hfin
                  clear hfin
                  go_wp2
                  go_roundw
                  case rel =>
                   exact ⟨k + 1, by omega, by go_num, by rw [HNEXT.out, HSTEP.out, HFIN.out]; go_num, by rw [HNEXT.out, HSTEP.out, HFIN.out]; have := HM4.out; rw [B1.out, B2.out] at this; exact this⟩
                  case measure => simp [intOf]; omega
          · have hpiv : pivAt s.R k r = none := pivAt_is_none (by rw [HFIT.out.lR]; exact hrm) fun l h1 h2 => HZ.out l h1 (by have := HFIT.out.lR; omega)
            have hstep : stepL p k s = s := by unfold stepL; rw [HSR.out, hpiv]
            have HSTEP := Lib.hid hstep
            clear hstep hpiv
            have hjb : ((j : Int) == m) = true := by rw [beq_iff_eq]; omega
            go_wp2
            go_roundw
            case rel => exact ⟨k + 1, by omega, by go_num, by rw [HNEXT.out, HSTEP.out, HSR.out], by rw [HNEXT.out, HSTEP.out]; exact HMID.out⟩
            case measure => simp [intOf]; omega
      · have he := Lib.hid (HSTOP.out (Or.inl (by omega)))
        go_wp2
        go_ret
        obtain ⟨vs', us', t, _⟩ := HMID.out.ex
        exact ⟨by rw [he.out, HSR.out]; rfl, vs', us', by rw [he.out]; exact t, HMID.out.on⟩
    · have he := Lib.hid (HSTOP.out (Or.inr (by omega)))
      go_wp2
      go_ret
      obtain ⟨vs', us', t, _⟩ := HMID.out.ex
      exact ⟨by rw [he.out, HSR.out]; rfl, vs', us', by rw [he.out]; exact t, HMID.out.on⟩

end Go.Proofs.YtpeaeminjbjlnaaDoor

/-
  The functions on matrices: what is a matrix, reduced lists, kernels. Conditions: lengths are small.
-/
namespace Go.Proofs.YtpeaeminjbjlnaaDoor
open Go.RowKit
set_option linter.unusedVariables false

def mxV (cols : Int) (v : Value) : Value := .agg #[.int .i64 cols, v]
def matB (p cols : Int) (L : List (List Int)) : Bool := fldB p && (decide (0 ≤ cols ∧ cols ≤ 24) && (decide (L.length ≤ 24) && rowsB p cols L))
theorem MatV.shape {w : World} {v : Value} {L : List (List Int)} (h : MatV w v L) : ∃ a c, v = .slice a L.length c := by
  obtain ⟨a, c, rfl, _⟩ := h
  exact ⟨a, c, rfl⟩

set_option maxHeartbeats 1000000 in
theorem isMatrix_any (p cols : Int) (v : Value) (L : List (List Int)) (w : World) (ht : Tab w) (hv : MatV w v L) (hl : L.length ≤ 1000000) (hll : ∀ row ∈ L, row.length ≤ 1000000) :
    Calls Tryd.prog 117 #[.int .i64 p, mxV cols v] w fun e w' => e = .returned (.bool (matB p cols L)) ∧ w.grownBy w' none := by
  unfold mxV
  have hgr := fun v => grownBy_alloc w (.cells #[.int .i64 cols, v] 39) none
  have HT := Lib.hid (fun v => isField_any p _ (ht.alloc (.cells #[.int .i64 cols, v] 39)))
  have HA := Lib.hid (areVectors_any p cols v L _ (hv.carry (hgr v)) hl hll)
  have HG := Lib.hid hgr
  obtain ⟨a, c, rfl⟩ := hv.shape
  clear hv hgr ht hll
  generalize hlen : L.length = l at *
  have HL := Lib.hid hlen
  clear hlen
  cases h1 : fldB p
  · have hm : matB p cols L = false := by unfold matB; rw [h1]; rfl
    have HM := Lib.hid hm
    rw [h1] at HT
    clear hm h1
    go_enter Tryd.func117, Tryd.ntmps117
    go_wp2_with (go_at_call 204; refine (HT.out _).mono ?_; rintro e w' ⟨rfl, rfl⟩)
    go_ret
    exact ⟨by rw [HM.out]; rfl, HG.out _⟩
  · by_cases h2 : 0 ≤ cols ∧ cols ≤ 24
    · have h2' : decide (0 ≤ cols ∧ cols ≤ 24) = true := decide_eq_true h2
      by_cases h3 : l ≤ 24
      · have h3' : decide ((l : Int) ≤ 24) = true := decide_eq_true (by omega)
        have hm : matB p cols L = rowsB p cols L := by unfold matB; rw [h1, decide_eq_true h2, HL.out, decide_eq_true h3]; rfl
        have HM := Lib.hid hm
        rw [h1] at HT
        clear hm h1
        generalize rowsB p cols L = b at *
        go_enter Tryd.func117, Tryd.ntmps117
        go_wp2_with (first
          | (go_at_call 204; refine (HT.out _).mono ?_; rintro e w' ⟨rfl, rfl⟩)
          | (go_at_call 125; refine (within_any _ _ _ _).mono ?_; rintro e w' ⟨rfl, rfl⟩)
          | (go_at_call 205; refine HA.out.mono ?_; rintro e w' ⟨rfl, rfl⟩))
        go_ret
        exact ⟨by rw [HM.out]; rfl, HG.out _⟩
      · have h3' : decide ((l : Int) ≤ 24) = false := decide_eq_false (by omega)
        have hm : matB p cols L = false := by unfold matB; rw [h1, decide_eq_true h2, HL.out, decide_eq_false h3]; rfl
        have HM := Lib.hid hm
        rw [h1] at HT
        clear hm h1
        go_enter Tryd.func117, Tryd.ntmps117
        go_wp2_with (first
          | (go_at_call 204; refine (HT.out _).mono ?_; rintro e w' ⟨rfl, rfl⟩)
          | (go_at_call 125; refine (within_any _ _ _ _).mono ?_; rintro e w' ⟨rfl, rfl⟩))
        go_ret
        exact ⟨by rw [HM.out]; rfl, HG.out _⟩
    · have h2' : decide (0 ≤ cols ∧ cols ≤ 24) = false := decide_eq_false h2
      have hm : matB p cols L = false := by unfold matB; rw [h1, decide_eq_false h2]; rfl
      have HM := Lib.hid hm
      rw [h1] at HT
      clear hm h1
      go_enter Tryd.func117, Tryd.ntmps117
      go_wp2_with (first
        | (go_at_call 204; refine (HT.out _).mono ?_; rintro e w' ⟨rfl, rfl⟩)
        | (go_at_call 125; refine (within_any _ _ _ _).mono ?_; rintro e w' ⟨rfl, rfl⟩))
      go_ret
      exact ⟨by rw [HM.out]; rfl, HG.out _⟩

end Go.Proofs.YtpeaeminjbjlnaaDoor

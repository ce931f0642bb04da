/-
  Linear algebra over a field of p elements, on functions: sums, combinations, spans, reduced lists and their uniqueness, elimination. Plain mathematics: no program in sight. Conditions: every element other than 0 has an inverse (InvOk), where it is asked.
-/
namespace Go.Proofs.YtpeaeminjbjlnaaDoor.La
set_option linter.unusedVariables false
variable {p : Nat} [NeZero p]

abbrev Vec (p : Nat) := Nat → Fin p
abbrev Mx (p : Nat) := Nat → Nat → Fin p

theorem f0m (x : Fin p) : 0 * x = 0 := by grind
theorem fm0 (x : Fin p) : x * 0 = 0 := by grind
theorem f1m (x : Fin p) : 1 * x = x := by grind
theorem fm1 (x : Fin p) : x * 1 = x := by grind
theorem fa0 (x : Fin p) : x + 0 = x := by grind
theorem f0a (x : Fin p) : 0 + x = x := by grind

/-! ### sums -/
def S : Nat → (Nat → Fin p) → Fin p
  | 0, _ => 0
  | n + 1, f => S n f + f n
theorem S_congr {n : Nat} {f g : Nat → Fin p} (h : ∀ i, i < n → f i = g i) : S n f = S n g := by
  induction n with
  | zero => rfl
  | succ n ih => simp only [S]; rw [ih (fun i hi => h i (by omega)), h n (by omega)]
theorem S_zero (n : Nat) : S n (fun _ => (0 : Fin p)) = 0 := by
  induction n with
  | zero => rfl
  | succ n ih => simp only [S, ih]; grind
theorem S_zero' {n : Nat} {f : Nat → Fin p} (h : ∀ i, i < n → f i = 0) : S n f = 0 := by
  rw [S_congr h, S_zero]
theorem S_add (n : Nat) (f g : Nat → Fin p) : S n (fun i => f i + g i) = S n f + S n g := by
  induction n with
  | zero => simp [S]
  | succ n ih => simp only [S, ih]; grind
theorem S_sub (n : Nat) (f g : Nat → Fin p) : S n (fun i => f i - g i) = S n f - S n g := by
  induction n with
  | zero => simp [S]
  | succ n ih => simp only [S, ih]; grind
theorem S_mul (n : Nat) (k : Fin p) (f : Nat → Fin p) : S n (fun i => k * f i) = k * S n f := by
  induction n with
  | zero => simp only [S]; grind
  | succ n ih => simp only [S, ih]; grind
theorem S_mulr (n : Nat) (k : Fin p) (f : Nat → Fin p) : S n (fun i => f i * k) = S n f * k := by
  induction n with
  | zero => simp only [S]; grind
  | succ n ih => simp only [S, ih]; grind
theorem S_comm (m n : Nat) (f : Nat → Nat → Fin p) : S m (fun i => S n (fun j => f i j)) = S n (fun j => S m (fun i => f i j)) := by
  induction m with
  | zero => exact (S_zero n).symm
  | succ m ih => simp only [S, ih, S_add]
/-- A sum with one term alone. -/
theorem S_one {n k : Nat} (hk : k < n) {f : Nat → Fin p} (h : ∀ i, i < n → i ≠ k → f i = 0) : S n f = f k := by
  induction n with
  | zero => omega
  | succ n ih =>
    simp only [S]
    by_cases e : k = n
    · subst e
      rw [S_zero' (fun i hi => h i (by omega) (by omega))]
      grind
    · rw [ih (by omega) (fun i hi hn => h i (by omega) hn), h n (by omega) (by omega)]
      grind
theorem S_delta {n k : Nat} (hk : k < n) (c : Fin p) : S n (fun i => if i = k then c else 0) = c := by
  rw [S_one hk (fun i _ hn => by simp [hn])]
  simp
/-- A sum, one term set apart. -/
theorem S_split {n k : Nat} (hk : k < n) (f : Nat → Fin p) : S n f = f k + S n (fun i => if i = k then 0 else f i) := by
  have e : S n f = S n (fun i => (if i = k then f k else 0) + (if i = k then 0 else f i)) := by
    refine S_congr fun i _ => ?_
    by_cases h : i = k
    · subst h; simp
    · simp [h]
  rw [e, S_add, S_one hk (fun i _ hn => by simp [hn])]
  simp
theorem S_append (m n : Nat) (f : Nat → Fin p) : S (m + n) f = S m f + S n (fun i => f (m + i)) := by
  induction n with
  | zero => simp only [S, Nat.add_zero]; grind
  | succ n ih => rw [← Nat.add_assoc]; simp only [S, ih]; grind

/-! ### combinations and spans -/
def comb (m : Nat) (x : Vec p) (A : Mx p) : Vec p := fun j => S m (fun i => x i * A i j)
/-- v is a combination of the rows of A. -/
def In (m n : Nat) (A : Mx p) (v : Vec p) : Prop := ∃ x : Vec p, ∀ j, j < n → v j = comb m x A j
theorem In.congr {m n : Nat} {A : Mx p} {v w : Vec p} (h : In m n A v) (e : ∀ j, j < n → w j = v j) : In m n A w := by
  obtain ⟨x, hx⟩ := h
  exact ⟨x, fun j hj => (e j hj).trans (hx j hj)⟩
theorem In.rows {m n : Nat} {A B : Mx p} {v : Vec p} (h : In m n A v) (e : ∀ i, i < m → ∀ j, j < n → A i j = B i j) : In m n B v := by
  obtain ⟨x, hx⟩ := h
  exact ⟨x, fun j hj => (hx j hj).trans (S_congr fun i hi => by rw [e i hi j hj])⟩
theorem In.zero (m n : Nat) (A : Mx p) : In m n A (fun _ => 0) := ⟨fun _ => 0, fun j _ => (S_zero' fun i _ => by grind).symm⟩
theorem In.add {m n : Nat} {A : Mx p} {v w : Vec p} (h : In m n A v) (k : In m n A w) : In m n A (fun j => v j + w j) := by
  obtain ⟨x, hx⟩ := h
  obtain ⟨y, hy⟩ := k
  refine ⟨fun i => x i + y i, fun j hj => ?_⟩
  dsimp only
  rw [hx j hj, hy j hj]
  unfold comb
  rw [← S_add]
  exact S_congr fun i _ => by grind
theorem In.smul {m n : Nat} {A : Mx p} {v : Vec p} (h : In m n A v) (k : Fin p) : In m n A (fun j => k * v j) := by
  obtain ⟨x, hx⟩ := h
  refine ⟨fun i => k * x i, fun j hj => ?_⟩
  dsimp only
  rw [hx j hj]
  unfold comb
  rw [← S_mul]
  exact S_congr fun i _ => by grind
theorem In.row {m n : Nat} {A : Mx p} {i : Nat} (hi : i < m) : In m n A (A i) := by
  refine ⟨fun k => if k = i then 1 else 0, fun j _ => ?_⟩
  unfold comb
  rw [S_one hi (fun k _ hk => by simp only [hk, if_false]; grind)]
  simp only [if_true]
  grind
theorem In.comb {m m' n : Nat} {A B : Mx p} (h : ∀ i, i < m → In m' n B (A i)) (x : Vec p) : In m' n B (comb m x A) := by
  induction m with
  | zero => exact In.zero _ _ _
  | succ m ih => exact (ih (fun i hi => h i (by omega))).add ((h m (by omega)).smul (x m))
theorem In.trans {m m' n : Nat} {A B : Mx p} {v : Vec p} (hv : In m n A v) (h : ∀ i, i < m → In m' n B (A i)) : In m' n B v := by
  obtain ⟨x, hx⟩ := hv
  exact (In.comb h x).congr hx
/-- What vanishes on each row vanishes on the span. -/
theorem In.dot {m n : Nat} {A : Mx p} {v w : Vec p} (hv : In m n A v) (h : ∀ i, i < m → S n (fun j => A i j * w j) = 0) : S n (fun j => v j * w j) = 0 := by
  obtain ⟨x, hx⟩ := hv
  have e : S n (fun j => v j * w j) = S n (fun j => S m (fun i => x i * (A i j * w j))) := by
    refine S_congr fun j hj => ?_
    rw [hx j hj]
    unfold La.comb
    rw [← S_mulr]
    exact S_congr fun i _ => by grind
  rw [e, S_comm]
  refine S_zero' fun i hi => ?_
  rw [S_mul, h i hi]
  grind
/-- The rows are independent. -/
def Indep (m n : Nat) (A : Mx p) : Prop := ∀ x : Vec p, (∀ j, j < n → comb m x A j = 0) → ∀ i, i < m → x i = 0

/-! ### reduced lists -/
structure RR (r n : Nat) (A : Mx p) (piv : Nat → Nat) : Prop where
  lt : ∀ i, i < r → piv i < n
  inc : ∀ i j, i < j → j < r → piv i < piv j
  one : ∀ i, i < r → A i (piv i) = 1
  col : ∀ i k, i < r → k < r → k ≠ i → A k (piv i) = 0
  left : ∀ i j, i < r → j < piv i → A i j = 0
section rr
variable {r n : Nat} {A : Mx p} {piv : Nat → Nat}
theorem RR.comb_at (h : RR r n A piv) (x : Vec p) {i : Nat} (hi : i < r) : comb r x A (piv i) = x i := by
  unfold comb
  rw [S_one hi (fun k hk hn => by rw [h.col i k hi hk hn]; grind), h.one i hi]
  grind
theorem RR.coords (h : RR r n A piv) {v : Vec p} (hv : In r n A v) : ∀ j, j < n → v j = comb r (fun i => v (piv i)) A j := by
  obtain ⟨x, hx⟩ := hv
  intro j hj
  rw [hx j hj]
  refine S_congr fun i hi => ?_
  dsimp only
  rw [hx (piv i) (h.lt i hi), h.comb_at x hi]
theorem RR.indep (h : RR r n A piv) : Indep r n A := fun x hx i hi => by rw [← h.comb_at x hi]; exact hx _ (h.lt i hi)
/-- The leading index of a vector of the span is a pivot. -/
theorem RR.lead (h : RR r n A piv) {v : Vec p} (hv : In r n A v) {c : Nat} (hc : c < n) (h0 : ∀ j, j < c → v j = 0) (h1 : v c ≠ 0) : ∃ i, i < r ∧ piv i = c := by
  refine Classical.byContradiction fun hno => h1 ?_
  rw [h.coords hv c hc]
  refine S_zero' fun i hi => ?_
  dsimp only
  rcases Nat.lt_or_ge (piv i) c with hlt | hge
  · rw [h0 _ hlt]; grind
  · have : c < piv i := by
      rcases Nat.lt_or_ge c (piv i) with h | h
      · exact h
      · exact absurd ⟨i, hi, by omega⟩ hno
    rw [h.left i c hi this]; grind
end rr

/-- Increasing lists with the same members are equal. -/
theorem inc_eq : ∀ {l l' : List Nat}, l.Pairwise (· < ·) → l'.Pairwise (· < ·) → (∀ x, x ∈ l ↔ x ∈ l') → l = l'
  | [], [], _, _, _ => rfl
  | [], b :: _, _, _, h => absurd ((h b).2 (by simp)) (by simp)
  | a :: _, [], _, _, h => absurd ((h a).1 (by simp)) (by simp)
  | a :: l, b :: l', h1, h2, h => by
    rw [List.pairwise_cons] at h1 h2
    have hab : a = b := by
      have ha := (h a).1 (by simp)
      have hb := (h b).2 (by simp)
      rcases List.mem_cons.1 ha with e | ha
      · exact e
      · rcases List.mem_cons.1 hb with e | hb
        · exact e.symm
        · have := h2.1 a ha
          have := h1.1 b hb
          omega
    subst hab
    refine congrArg _ (inc_eq h1.2 h2.2 fun x => ?_)
    constructor
    · intro hx
      rcases List.mem_cons.1 ((h x).1 (List.mem_cons_of_mem _ hx)) with e | hx'
      · have := h1.1 x hx; omega
      · exact hx'
    · intro hx
      rcases List.mem_cons.1 ((h x).2 (List.mem_cons_of_mem _ hx)) with e | hx'
      · have := h2.1 x hx; omega
      · exact hx'
theorem piv_sorted {r : Nat} {piv : Nat → Nat} (h : ∀ i j, i < j → j < r → piv i < piv j) : ((List.range r).map piv).Pairwise (· < ·) := by
  rw [List.pairwise_map]
  have : (List.range r).Pairwise (fun a b => a < b ∧ b < r) := by
    rw [List.pairwise_iff_getElem]
    intro i j hi hj hij
    simp at hi hj ⊢
    omega
  exact this.imp fun h' => h _ _ h'.1 h'.2

/-- A space has one reduced list. -/
theorem RR.unique {r r' n : Nat} {A B : Mx p} {piv piv' : Nat → Nat} (h : RR r n A piv) (h' : RR r' n B piv') (h10 : (1 : Fin p) ≠ 0)
    (hs : ∀ v, In r n A v ↔ In r' n B v) : r = r' ∧ (∀ i, i < r → piv i = piv' i) ∧ ∀ i, i < r → ∀ j, j < n → A i j = B i j := by
  have key : (List.range r).map piv = (List.range r').map piv' := by
    refine inc_eq (piv_sorted h.inc) (piv_sorted h'.inc) fun x => ?_
    simp only [List.mem_map, List.mem_range]
    constructor
    · rintro ⟨i, hi, rfl⟩
      exact h'.lead ((hs _).1 (In.row hi)) (h.lt i hi) (fun j hj => h.left i j hi hj) (by rw [h.one i hi]; exact h10)
    · rintro ⟨i, hi, rfl⟩
      exact h.lead ((hs _).2 (In.row hi)) (h'.lt i hi) (fun j hj => h'.left i j hi hj) (by rw [h'.one i hi]; exact h10)
  have hr : r = r' := by simpa using congrArg List.length key
  subst hr
  have hp : ∀ i, i < r → piv i = piv' i := by
    intro i hi
    have := congrArg (fun l => l[i]?) key
    simpa [hi] using this
  refine ⟨rfl, hp, fun i hi j hj => ?_⟩
  rw [h'.coords ((hs _).1 (In.row hi)) j hj]
  unfold comb
  rw [S_one hi (fun k hk hn => by dsimp only; rw [← hp k hk, h.col k i hk hi (Ne.symm hn)]; grind)]
  dsimp only
  rw [← hp i hi, h.one i hi]
  grind
end Go.Proofs.YtpeaeminjbjlnaaDoor.La

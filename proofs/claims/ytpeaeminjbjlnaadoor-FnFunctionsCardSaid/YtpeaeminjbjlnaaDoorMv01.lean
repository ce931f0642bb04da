/-
  Linear algebra over a field of p elements, on functions: sums, combinations, spans, reduced lists and their uniqueness, elimination. Plain mathematics: no program in sight. Conditions: every element other than 0 has an inverse (InvOk), where it is asked.
-/
import Derived.Test.YtpeaeminjbjlnaaDoorMv00
namespace Go.Proofs.YtpeaeminjbjlnaaDoor.La
set_option linter.unusedVariables false
variable {p : Nat} [NeZero p]

abbrev Vec (p : Nat) := Nat → Fin p
abbrev Mx (p : Nat) := Nat → Nat → Fin p

theorem f0m (x : Fin p) : 0 * x = 0 := by grind
theorem fm0 (x : Fin p) : x * 0 = 0 := by grind
theorem f1m (x : Fin p) : 1 * x = x := by grind
theorem fm1 (x : Fin p) : x * 1 = x := by grind
theorem fa0 (x : Fin p) : x + 0 = x := by grind
theorem f0a (x : Fin p) : 0 + x = x := by grind

/-! ### sums -/
def S : Nat → (Nat → Fin p) → Fin p
  | 0, _ => 0
  | n + 1, f => S n f + f n
theorem S_congr {n : Nat} {f g : Nat → Fin p} (h : ∀ i, i < n → f i = g i) : S n f = S n g := by
  induction n with
  | zero => rfl
  | succ n ih => simp only [S]; rw [ih (fun i hi => h i (by omega)), h n (by omega)]
theorem S_zero (n : Nat) : S n (fun _ => (0 : Fin p)) = 0 := by
  induction n with
  | zero => rfl
  | succ n ih => simp only [S, ih]; grind
theorem S_zero' {n : Nat} {f : Nat → Fin p} (h : ∀ i, i < n → f i = 0) : S n f = 0 := by
  rw [S_congr h, S_zero]
theorem S_add (n : Nat) (f g : Nat → Fin p) : S n (fun i => f i + g i) = S n f + S n g := by
  induction n with
  | zero => simp [S]
  | succ n ih => simp only [S, ih]; grind
theorem S_sub (n : Nat) (f g : Nat → Fin p) : S n (fun i => f i - g i) = S n f - S n g := by
  induction n with
  | zero => simp [S]
  | succ n ih => simp only [S, ih]; grind
theorem S_mul (n : Nat) (k : Fin p) (f : Nat → Fin p) : S n (fun i => k * f i) = k * S n f := by
  induction n with
  | zero => simp only [S]; grind
  | succ n ih => simp only [S, ih]; grind
theorem S_mulr (n : Nat) (k : Fin p) (f : Nat → Fin p) : S n (fun i => f i * k) = S n f * k := by
  induction n with
  | zero => simp only [S]; grind
  | succ n ih => simp only [S, ih]; grind
theorem S_comm (m n : Nat) (f : Nat → Nat → Fin p) : S m (fun i => S n (fun j => f i j)) = S n (fun j => S m (fun i => f i j)) := by
  induction m with
  | zero => exact (S_zero n).symm
  | succ m ih => simp only [S, ih, S_add]
/-- A sum with one term alone. -/
theorem S_one {n k : Nat} (hk : k < n) {f : Nat → Fin p} (h : ∀ i, i < n → i ≠ k → f i = 0) : S n f = f k := by
  induction n with
  | zero => omega
  | succ n ih =>
    simp only [S]
    by_cases e : k = n
    · subst e
      rw [S_zero' (fun i hi => h i (by omega) (by omega))]
      grind
    · rw [ih (by omega) (fun i hi hn => h i (by omega) hn), h n (by omega) (by omega)]
      grind
theorem S_delta {n k : Nat} (hk : k < n) (c : Fin p) : S n (fun i => if i = k then c else 0) = c := by
  rw [S_one hk (fun i _ hn => by simp [hn])]
  simp
/-- A sum, one term set apart. -/
theorem S_split {n k : Nat} (hk : k < n) (f : Nat → Fin p) : S n f = f k + S n (fun i => if i = k then 0 else f i) := by
  have e : S n f = S n (fun i => (if i = k then f k else 0) + (if i = k then 0 else f i)) := by
    refine S_congr fun i _ => ?_
    by_cases h : i = k
    · subst h; simp
    · simp [h]
  rw [e, S_add, S_one hk (fun i _ hn => by simp [hn])]
  simp
theorem S_append (m n : Nat) (f : Nat → Fin p) : S (m + n) f = S m f + S n (fun i => f (m + i)) := by
  induction n with
  | zero => simp only [S, Nat.add_zero]; grind
  | succ n ih => rw [← Nat.add_assoc]; simp only [S, ih]; grind

/-! ### combinations and spans -/
def comb (m : Nat) (x : Vec p) (A : Mx p) : Vec p := fun j => S m (fun i => x i * A i j)
/-- v is a combination of the rows of A. -/
def In (m n : Nat) (A : Mx p) (v : Vec p) : Prop := ∃ x : Vec p, ∀ j, j < n → v j = comb m x A j
theorem In.congr {m n : Nat} {A : Mx p} {v w : Vec p} (h : In m n A v) (e : ∀ j, j < n → w j = v j) : In m n A w := by
  obtain ⟨x, hx⟩ := h
  exact ⟨x, fun j hj => (e j hj).trans (hx j hj)⟩
theorem In.rows {m n : Nat} {A B : Mx p} {v : Vec p} (h : In m n A v) (e : ∀ i, i < m → ∀ j, j < n → A i j = B i j) : In m n B v := by
  obtain ⟨x, hx⟩ := h
  exact ⟨x, fun j hj => (hx j hj).trans (S_congr fun i hi => by rw [e i hi j hj])⟩
theorem In.zero (m n : Nat) (A : Mx p) : In m n A (fun _ => 0) := ⟨fun _ => 0, fun j _ => (S_zero' fun i _ => by grind).symm⟩
theorem In.add {m n : Nat} {A : Mx p} {v w : Vec p} (h : In m n A v) (k : In m n A w) : In m n A (fun j => v j + w j) := by
  obtain ⟨x, hx⟩ := h
  obtain ⟨y, hy⟩ := k
  refine ⟨fun i => x i + y i, fun j hj => ?_⟩
  dsimp only
  rw [hx j hj, hy j hj]
  unfold comb
  rw [← S_add]
  exact S_congr fun i _ => by grind
theorem In.smul {m n : Nat} {A : Mx p} {v : Vec p} (h : In m n A v) (k : Fin p) : In m n A (fun j => k * v j) := by
  obtain ⟨x, hx⟩ := h
  refine ⟨fun i => k * x i, fun j hj => ?_⟩
  dsimp only
  rw [hx j hj]
  unfold comb
  rw [← S_mul]
  exact S_congr fun i _ => by grind
theorem In.row {m n : Nat} {A : Mx p} {i : Nat} (hi : i < m) : In m n A (A i) := by
  refine ⟨fun k => if k = i then 1 else 0, fun j _ => ?_⟩
  unfold comb
  rw [S_one hi (fun k _ hk => by simp only [hk, if_false]; grind)]
  simp only [if_true]
  grind
theorem In.comb {m m' n : Nat} {A B : Mx p} (h : ∀ i, i < m → In m' n B (A i)) (x : Vec p) : In m' n B (comb m x A) := by
  induction m with
  | zero => exact In.zero _ _ _
  | succ m ih => exact (ih (fun i hi => h i (by omega))).add ((h m (by omega)).smul (x m))
theorem In.trans {m m' n : Nat} {A B : Mx p} {v : Vec p} (hv : In m n A v) (h : ∀ i, i < m → In m' n B (A i)) : In m' n B v := by
  obtain ⟨x, hx⟩ := hv
  exact (In.comb h x).congr hx
/-- What vanishes on each row vanishes on the span. -/
theorem In.dot {m n : Nat} {A : Mx p} {v w : Vec p} (hv : In m n A v) (h : ∀ i, i < m → S n (fun j => A i j * w j) = 0) : S n (fun j => v j * w j) = 0 := by
  obtain ⟨x, hx⟩ := hv
  have e : S n (fun j => v j * w j) = S n (fun j => S m (fun i => x i * (A i j * w j))) := by
    refine S_congr fun j hj => ?_
    rw [hx j hj]
    unfold La.comb
    rw [← S_mulr]
    exact S_congr fun i _ => by grind
  rw [e, S_comm]
  refine S_zero' fun i hi => ?_
  rw [S_mul, h i hi]
  grind
/-- The rows are independent. -/
def Indep (m n : Nat) (A : Mx p) : Prop := ∀ x : Vec p, (∀ j, j < n → comb m x A j = 0) → ∀ i, i < m → x i = 0

/-! ### reduced lists -/
structure RR (r n : Nat) (A : Mx p) (piv : Nat → Nat) : Prop where
  lt : ∀ i, i < r → piv i < n
  inc : ∀ i j, i < j → j < r → piv i < piv j
  one : ∀ i, i < r → A i (piv i) = 1
  col : ∀ i k, i < r → k < r → k ≠ i → A k (piv i) = 0
  left : ∀ i j, i < r → j < piv i → A i j = 0
section rr
variable {r n : Nat} {A : Mx p} {piv : Nat → Nat}
theorem RR.comb_at (h : RR r n A piv) (x : Vec p) {i : Nat} (hi : i < r) : comb r x A (piv i) = x i := by
  unfold comb
  rw [S_one hi (fun k hk hn => by rw [h.col i k hi hk hn]; grind), h.one i hi]
  grind
theorem RR.coords (h : RR r n A piv) {v : Vec p} (hv : In r n A v) : ∀ j, j < n → v j = comb r (fun i => v (piv i)) A j := by
  obtain ⟨x, hx⟩ := hv
  intro j hj
  rw [hx j hj]
  refine S_congr fun i hi => ?_
  dsimp only
  rw [hx (piv i) (h.lt i hi), h.comb_at x hi]
theorem RR.indep (h : RR r n A piv) : Indep r n A := fun x hx i hi => by rw [← h.comb_at x hi]; exact hx _ (h.lt i hi)
/-- The leading index of a vector of the span is a pivot. -/
theorem RR.lead (h : RR r n A piv) {v : Vec p} (hv : In r n A v) {c : Nat} (hc : c < n) (h0 : ∀ j, j < c → v j = 0) (h1 : v c ≠ 0) : ∃ i, i < r ∧ piv i = c := by
  refine Classical.byContradiction fun hno => h1 ?_
  rw [h.coords hv c hc]
  refine S_zero' fun i hi => ?_
  dsimp only
  rcases Nat.lt_or_ge (piv i) c with hlt | hge
  · rw [h0 _ hlt]; grind
  · have : c < piv i := by
      rcases Nat.lt_or_ge c (piv i) with h | h
      · exact h
      · exact absurd ⟨i, hi, by omega⟩ hno
    rw [h.left i c hi this]; grind
end rr

/-- Increasing lists with the same members are equal. -/
theorem inc_eq : ∀ {l l' : List Nat}, l.Pairwise (· < ·) → l'.Pairwise (· < ·) → (∀ x, x ∈ l ↔ x ∈ l') → l = l'
  | [], [], _, _, _ => rfl
  | [], b :: _, _, _, h => absurd ((h b).2 (by simp)) (by simp)
  | a :: _, [], _, _, h => absurd ((h a).1 (by simp)) (by simp)
  | a :: l, b :: l', h1, h2, h => by
    rw [List.pairwise_cons] at h1 h2
    have hab : a = b := by
      have ha := (h a).1 (by simp)
      have hb := (h b).2 (by simp)
      rcases List.mem_cons.1 ha with e | ha
      · exact e
      · rcases List.mem_cons.1 hb with e | hb
        · exact e.symm
        · have := h2.1 a ha
          have := h1.1 b hb
          omega
    subst hab
    refine congrArg _ (inc_eq h1.2 h2.2 fun x => ?_)
    constructor
    · intro hx
      rcases List.mem_cons.1 ((h x).1 (List.mem_cons_of_mem _ hx)) with e | hx'
      · have := h1.1 x hx; omega
      · exact hx'
    · intro hx
      rcases List.mem_cons.1 ((h x).2 (List.mem_cons_of_mem _ hx)) with e | hx'
      · have := h2.1 x hx; omega
      · exact hx'
theorem piv_sorted {r : Nat} {piv : Nat → Nat} (h : ∀ i j, i < j → j < r → piv i < piv j) : ((List.range r).map piv).Pairwise (· < ·) := by
  rw [List.pairwise_map]
  have : (List.range r).Pairwise (fun a b => a < b ∧ b < r) := by
    rw [List.pairwise_iff_getElem]
    intro i j hi hj hij
    simp at hi hj ⊢
    omega
  exact this.imp fun h' => h _ _ h'.1 h'.2

/-- A space has one reduced list. -/
theorem RR.unique {r r' n : Nat} {A B : Mx p} {piv piv' : Nat → Nat} (h : RR r n A piv) (h' : RR r' n B piv') (h10 : (1 : Fin p) ≠ 0)
    (hs : ∀ v, In r n A v ↔ In r' n B v) : r = r' ∧ (∀ i, i < r → piv i = piv' i) ∧ ∀ i, i < r → ∀ j, j < n → A i j = B i j := by
  have key : (List.range r).map piv = (List.range r').map piv' := by
    refine inc_eq (piv_sorted h.inc) (piv_sorted h'.inc) fun x => ?_
    simp only [List.mem_map, List.mem_range]
    constructor
    · rintro ⟨i, hi, rfl⟩
      exact h'.lead ((hs _).1 (In.row hi)) (h.lt i hi) (fun j hj => h.left i j hi hj) (by rw [h.one i hi]; exact h10)
    · rintro ⟨i, hi, rfl⟩
      exact h.lead ((hs _).2 (In.row hi)) (h'.lt i hi) (fun j hj => h'.left i j hi hj) (by rw [h'.one i hi]; exact h10)
  have hr : r = r' := by simpa using congrArg List.length key
  subst hr
  have hp : ∀ i, i < r → piv i = piv' i := by
    intro i hi
    have := congrArg (fun l => l[i]?) key
    simpa [hi] using this
  refine ⟨rfl, hp, fun i hi j hj => ?_⟩
  rw [h'.coords ((hs _).1 (In.row hi)) j hj]
  unfold comb
  rw [S_one hi (fun k hk hn => by dsimp only; rw [← hp k hk, h.col k i hk hi (Ne.symm hn)]; grind)]
  dsimp only
  rw [← hp i hi, h.one i hi]
  grind
end Go.Proofs.YtpeaeminjbjlnaaDoor.La

/-
  Elimination, on functions: the three row operations keep the span, the independence of the transforming rows and what they make; a round clears a column. Plain mathematics. Conditions: as each states.
-/
namespace Go.Proofs.YtpeaeminjbjlnaaDoor.La
set_option linter.unusedVariables false
variable {p : Nat} [NeZero p]

/-- R is made of M by T, whose rows are independent; R and M span the same. -/
structure Inv (m n : Nat) (M R T : Mx p) : Prop where
  made : ∀ i, i < m → ∀ j, j < n → R i j = comb m (T i) M j
  indep : Indep m m T
  span : ∀ v, In m n R v ↔ In m n M v

theorem span_of {m n : Nat} {R R1 : Mx p} (h1 : ∀ i, i < m → In m n R (R1 i)) (h2 : ∀ i, i < m → In m n R1 (R i)) (v : Vec p) : In m n R1 v ↔ In m n R v :=
  ⟨fun h => h.trans h1, fun h => h.trans h2⟩

theorem Inv.start (m n : Nat) (M : Mx p) : Inv m n M M (fun i j => if i = j then 1 else 0) := by
  refine ⟨fun i hi j _ => ?_, fun x hx i hi => ?_, fun v => Iff.rfl⟩
  · unfold comb
    rw [S_one hi (fun k _ hk => by simp [Ne.symm hk, f0m])]
    simp [f1m]
  · have := hx i hi
    unfold comb at this
    rw [S_one hi (fun k _ hk => by simp [hk, fm0])] at this
    simpa [fm1] using this

/-- the transposition of a and b -/
def tw (a b i : Nat) : Nat := if i = a then b else if i = b then a else i
theorem tw_lt {a b i m : Nat} (ha : a < m) (hb : b < m) (hi : i < m) : tw a b i < m := by unfold tw; split <;> (try split) <;> omega
theorem tw_tw (a b i : Nat) : tw a b (tw a b i) = i := by
  unfold tw
  by_cases h1 : i = a
  · by_cases h2 : b = a <;> simp [h1, h2]
  · by_cases h2 : i = b
    · simp [h2]
    · simp [h1, h2]
theorem S_tw {m a b : Nat} (ha : a < m) (hb : b < m) (f : Nat → Fin p) : S m (fun i => f (tw a b i)) = S m f := by
  by_cases hab : a = b
  · subst hab
    refine S_congr fun i _ => ?_
    unfold tw
    by_cases h : i = a
    · simp [h]
    · simp [h]
  · have hr : ∀ g : Nat → Fin p, S m g = g a + (g b + S m (fun i => if i = b then 0 else if i = a then 0 else g i)) := by
      intro g
      rw [S_split ha g, S_split hb (fun i => if i = a then 0 else g i)]
      simp [Ne.symm hab]
    rw [hr, hr f]
    have e : S m (fun i => if i = b then 0 else if i = a then 0 else f (tw a b i)) = S m (fun i => if i = b then 0 else if i = a then 0 else f i) := by
      refine S_congr fun i _ => ?_
      by_cases h1 : i = b
      · simp [h1]
      · by_cases h2 : i = a
        · simp [h2]
        · simp [h1, h2, tw]
    rw [e]
    have e1 : tw a b a = b := by simp [tw]
    have e2 : tw a b b = a := by simp [tw]
    rw [e1, e2]
    grind

theorem Inv.swap {m n a b : Nat} {M R T : Mx p} (h : Inv m n M R T) (ha : a < m) (hb : b < m) : Inv m n M (fun i => R (tw a b i)) (fun i => T (tw a b i)) := by
  refine ⟨fun i hi j hj => h.made _ (tw_lt ha hb hi) j hj, fun x hx i hi => ?_, fun v => ?_⟩
  · have := h.indep (fun i => x (tw a b i)) (fun j hj => by
      have h2 := hx j hj
      unfold comb at h2 ⊢
      rw [← S_tw ha hb] at h2
      rw [← h2]
      exact S_congr fun i _ => by dsimp only; rw [tw_tw]) (tw a b i) (tw_lt ha hb hi)
    simpa [tw_tw] using this
  · rw [← h.span]
    refine span_of (fun i hi => In.row (tw_lt ha hb hi)) (fun i hi => ?_) v
    have := In.row (n := n) (A := fun i => R (tw a b i)) (tw_lt ha hb hi)
    simpa [tw_tw] using this

def scale (a : Nat) (k : Fin p) (A : Mx p) : Mx p := fun i j => if i = a then A i j * k else A i j
theorem Inv.scale {m n a : Nat} {k k' : Fin p} {M R T : Mx p} (h : Inv m n M R T) (ha : a < m) (hk : k * k' = 1) : Inv m n M (scale a k R) (scale a k T) := by
  refine ⟨fun i hi j hj => ?_, fun x hx i hi => ?_, fun v => ?_⟩
  · unfold La.scale
    by_cases e : i = a
    · subst e
      simp only [if_true]
      rw [h.made i hi j hj]
      unfold comb
      rw [← S_mulr]
      refine S_congr fun t _ => ?_
      dsimp only
      grind
    · simp only [e, if_false]
      rw [h.made i hi j hj]
  · have := h.indep (fun i => if i = a then x i * k else x i) (fun j hj => by
      have h2 := hx j hj
      rw [← h2]
      unfold comb La.scale
      refine S_congr fun t _ => ?_
      by_cases e : t = a
      · simp only [e, if_true]; grind
      · simp only [e, if_false]) i hi
    by_cases e : i = a
    · simp only [e, if_true] at this ⊢
      grind
    · simpa only [e, if_false] using this
  · rw [← h.span]
    refine span_of (fun i hi => ?_) (fun i hi => ?_) v
    · by_cases e : i = a
      · subst e
        exact ((In.row hi).smul k).congr fun j _ => by simp only [La.scale, if_true]; grind
      · exact (In.row hi).congr fun j _ => by simp only [La.scale, e, if_false]
    · by_cases e : i = a
      · subst e
        exact ((In.row (A := La.scale i k R) hi).smul k').congr fun j _ => by simp only [La.scale, if_true]; grind
      · exact (In.row (A := La.scale a k R) hi).congr fun j _ => by simp only [La.scale, e, if_false]

def less (i0 r : Nat) (k : Fin p) (A : Mx p) : Mx p := fun i j => if i = i0 then A i j - k * A r j else A i j
theorem Inv.less {m n i0 r : Nat} {k : Fin p} {M R T : Mx p} (h : Inv m n M R T) (hi0 : i0 < m) (hr : r < m) (hne : i0 ≠ r) : Inv m n M (less i0 r k R) (less i0 r k T) := by
  refine ⟨fun i hi j hj => ?_, fun x hx i hi => ?_, fun v => ?_⟩
  · unfold La.less
    by_cases e : i = i0
    · subst e
      simp only [if_true]
      rw [h.made i hi j hj, h.made r hr j hj]
      unfold comb
      rw [← S_mul, ← S_sub]
      refine S_congr fun t _ => ?_
      dsimp only
      grind
    · simp only [e, if_false]
      rw [h.made i hi j hj]
  · have hy := h.indep (fun i => x i + if i = r then - (x i0 * k) else 0) (fun j hj => by
      have h2 := hx j hj
      refine Eq.trans ?_ h2
      have e1 : comb m x (La.less i0 r k T) j = S m (fun i => x i * T i j + if i = i0 then - (x i0 * k * T r j) else 0) := by
        unfold comb La.less
        refine S_congr fun t _ => ?_
        by_cases e : t = i0
        · subst e; simp only [if_true]; grind
        · simp only [e, if_false]; grind
      have e2 : comb m (fun i => x i + if i = r then - (x i0 * k) else 0) T j = S m (fun i => x i * T i j + if i = r then - (x i0 * k * T r j) else 0) := by
        unfold comb
        refine S_congr fun t _ => ?_
        by_cases e : t = r
        · subst e; simp only [if_true]; grind
        · simp only [e, if_false]; grind
      rw [e1, e2, S_add, S_add, S_delta hi0, S_delta hr])
    have h0 : ∀ i, i < m → i ≠ r → x i = 0 := by
      intro i hi hir
      have := hy i hi
      simp only [hir, if_false] at this
      grind
    by_cases e : i = r
    · have h3 := hy r hr
      simp only [if_true] at h3
      rw [h0 i0 hi0 hne] at h3
      rw [e]
      grind
    · exact h0 i hi e
  · rw [← h.span]
    refine span_of (fun i hi => ?_) (fun i hi => ?_) v
    · by_cases e : i = i0
      · subst e
        exact ((In.row hi).add ((In.row hr).smul (-k))).congr fun j _ => by simp only [La.less, if_true]; grind
      · exact (In.row hi).congr fun j _ => by simp only [La.less, e, if_false]
    · by_cases e : i = i0
      · subst e
        exact ((In.row (A := La.less i r k R) hi).add ((In.row (A := La.less i r k R) hr).smul k)).congr fun j _ => by
          simp only [La.less, if_true, Ne.symm hne, if_false]; grind
      · exact (In.row (A := La.less i0 r k R) hi).congr fun j _ => by simp only [La.less, e, if_false]

/-- The rows before t are cleared in the column c by the row r. -/
def clear (t r c : Nat) (R A : Mx p) : Mx p := fun i j => if i < t ∧ i ≠ r then A i j - R i c * A r j else A i j
theorem Inv.congr {m n : Nat} {M R R' T T' : Mx p} (h : Inv m n M R T) (hR : ∀ i, i < m → ∀ j, R i j = R' i j) (hT : ∀ i, i < m → ∀ j, T i j = T' i j) : Inv m n M R' T' := by
  refine ⟨fun i hi j hj => ?_, fun x hx i hi => ?_, fun v => ?_⟩
  · rw [← hR i hi j, h.made i hi j hj]
    exact S_congr fun t ht => by rw [hT i hi t]
  · refine h.indep x (fun j hj => ?_) i hi
    rw [← hx j hj]
    exact S_congr fun t ht => by rw [hT t ht j]
  · rw [← h.span]
    exact ⟨fun h => h.rows fun i hi j _ => (hR i hi j).symm, fun h => h.rows fun i hi j _ => hR i hi j⟩
theorem Inv.clear {m n r c : Nat} {M R T : Mx p} (h : Inv m n M R T) (hr : r < m) : ∀ t, t ≤ m → Inv m n M (clear t r c R R) (clear t r c R T) := by
  intro t
  induction t with
  | zero => intro _; exact h.congr (fun i hi j => by simp [La.clear]) (fun i hi j => by simp [La.clear])
  | succ t ih =>
    intro ht
    have h1 := ih (by omega)
    by_cases e : t = r
    · subst e
      refine h1.congr (fun i hi j => ?_) (fun i hi j => ?_)
      all_goals
        unfold La.clear
        by_cases h2 : i < t
        · simp [h2, show i < t + 1 from by omega]
        · by_cases h3 : i = t
          · simp [h3]
          · simp [h2, show ¬ i < t + 1 from by omega]
    · have h2 := h1.less (k := R t c) (i0 := t) (r := r) (by omega) hr e
      refine h2.congr (fun i hi j => ?_) (fun i hi j => ?_)
      all_goals
        unfold La.less La.clear
        by_cases h3 : i = t
        · subst h3
          simp [e]
        · by_cases h4 : i < t
          · simp [h3, h4, show i < t + 1 from by omega]
          · simp [h3, h4, show ¬ i < t + 1 from by omega]

/-- The columns before c are done: r pivots. -/
structure Elim (m n c r : Nat) (piv : Nat → Nat) (R : Mx p) : Prop where
  rm : r ≤ m
  cn : c ≤ n
  lt : ∀ i, i < r → piv i < c
  inc : ∀ i j, i < j → j < r → piv i < piv j
  one : ∀ i, i < r → R i (piv i) = 1
  col : ∀ i k, i < r → k < m → k ≠ i → R k (piv i) = 0
  left : ∀ i j, i < r → j < piv i → R i j = 0
  low : ∀ k j, r ≤ k → k < m → j < c → R k j = 0
theorem Elim.start (m n : Nat) (piv : Nat → Nat) (R : Mx p) : Elim m n 0 0 piv R :=
  ⟨Nat.zero_le _, Nat.zero_le _, fun _ h => by omega, fun _ _ _ h => by omega, fun _ h => by omega, fun _ _ h => by omega, fun _ _ h => by omega, fun _ _ _ _ h => by omega⟩
theorem Elim.congr {m n c r : Nat} {piv : Nat → Nat} {R R' : Mx p} (h : Elim m n c r piv R) (e : ∀ i, i < m → ∀ j, R i j = R' i j) : Elim m n c r piv R' := by
  have hrm := h.rm
  exact ⟨h.rm, h.cn, h.lt, h.inc, fun i hi => by rw [← e i (by omega)]; exact h.one i hi, fun i k hi hk hn => by rw [← e k hk]; exact h.col i k hi hk hn,
    fun i j hi hj => by rw [← e i (by omega)]; exact h.left i j hi hj, fun k j hk hm hj => by rw [← e k hm]; exact h.low k j hk hm hj⟩
theorem Elim.none {m n c r : Nat} {piv : Nat → Nat} {R : Mx p} (h : Elim m n c r piv R) (hc : c < n) (h0 : ∀ k, r ≤ k → k < m → R k c = 0) : Elim m n (c + 1) r piv R :=
  ⟨h.rm, by omega, fun i hi => by have := h.lt i hi; omega, h.inc, h.one, h.col, h.left, fun k j hk hm hj => by
    by_cases e : j = c
    · subst e; exact h0 k hk hm
    · exact h.low k j hk hm (by omega)⟩
theorem Elim.some {m n c r k : Nat} {y : Fin p} {piv : Nat → Nat} {R : Mx p} (h : Elim m n c r piv R) (hc : c < n) (hk : r ≤ k) (hkm : k < m) (hy : R k c * y = 1) :
    Elim m n (c + 1) (r + 1) (fun i => if i = r then c else piv i) (clear m r c (scale r y fun i => R (tw r k i)) (scale r y fun i => R (tw r k i))) := by
  have hrm : r < m := by omega
  have htw : ∀ i, i < r → tw r k i = i := by
    intro i hi
    unfold tw
    simp [show i ≠ r from by omega, show i ≠ k from by omega]
  have htr : tw r k r = k := by simp [tw]
  have hge : ∀ i, r ≤ i → i < m → r ≤ tw r k i ∧ tw r k i < m := by
    intro i hi him
    unfold tw
    split
    · exact ⟨hk, hkm⟩
    · split
      · exact ⟨Nat.le_refl _, hrm⟩
      · exact ⟨hi, him⟩
  -- the matrix behind the exchange and the division
  generalize hB : (scale r y fun i => R (tw r k i)) = B
  have Brow : ∀ j, B r j = R k j * y := by intro j; rw [← hB]; simp [La.scale, htr]
  have Both : ∀ i j, i ≠ r → B i j = R (tw r k i) j := by intro i j hi; rw [← hB]; simp [La.scale, hi]
  have Brc : B r c = 1 := by rw [Brow]; exact hy
  have Br0 : ∀ j, j < c → B r j = 0 := by intro j hj; rw [Brow, h.low k j hk hkm hj]; grind
  have C : ∀ i j, i < m → clear m r c B B i j = if i = r then B r j else B i j - B i c * B r j := by
    intro i j hi
    unfold La.clear
    by_cases e : i = r
    · simp [e]
    · simp [e, hi]
  refine ⟨by omega, by omega, ?_, ?_, ?_, ?_, ?_, ?_⟩
  · intro i hi
    by_cases e : i = r
    · simp [e]
    · simp only [e, if_false]
      have := h.lt i (by omega)
      omega
  · intro i j hij hj
    by_cases e : j = r
    · have := h.lt i (by omega)
      simp only [e, if_true, show i ≠ r from by omega, if_false]
      omega
    · simp only [e, if_false, show i ≠ r from by omega]
      exact h.inc i j hij (by omega)
  · intro i hi
    rw [C i _ (by omega)]
    by_cases e : i = r
    · subst e; simp only [if_true]; exact Brc
    · simp only [e, if_false]
      have hir : i < r := by omega
      rw [Br0 _ (h.lt i hir), Both i _ e, htw i hir, h.one i hir]
      grind
  · intro i k' hi hk' hne
    rw [C k' _ hk']
    by_cases e : i = r
    · subst e
      simp only [if_true, hne, if_false]
      rw [Brc]
      grind
    · have hir : i < r := by omega
      have hl := h.lt i hir
      simp only [e, if_false]
      by_cases e2 : k' = r
      · simp only [e2, if_true]
        exact Br0 _ hl
      · simp only [e2, if_false]
        rw [Br0 _ hl, Both k' _ e2]
        have hz : R (tw r k k') (piv i) = 0 := by
          rcases Nat.lt_or_ge k' r with h1 | h1
          · rw [htw k' h1]; exact h.col i k' hir hk' hne
          · exact h.low _ _ (hge k' h1 hk').1 (hge k' h1 hk').2 hl
        rw [hz]
        grind
  · intro i j hi hj
    rw [C i j (by omega)]
    by_cases e : i = r
    · simp only [e, if_true] at hj ⊢
      exact Br0 j hj
    · simp only [e, if_false] at hj ⊢
      have hir : i < r := by omega
      have hl := h.lt i hir
      rw [Br0 j (by omega), Both i j e, htw i hir, h.left i j hir hj]
      grind
  · intro k' j hk' hm hj
    rw [C k' j hm]
    have e : k' ≠ r := by omega
    simp only [e, if_false]
    by_cases e2 : j = c
    · subst e2
      rw [Brc]
      grind
    · rw [Br0 j (by omega), Both k' j e, h.low _ j (hge k' (by omega) hm).1 (hge k' (by omega) hm).2 (by omega)]
      grind

/-- Behind the last column the first r rows are a reduced list, and the others vanish. -/
theorem Elim.rr {m n r : Nat} {piv : Nat → Nat} {R : Mx p} (h : Elim m n n r piv R) : RR r n R piv := by
  have := h.rm
  exact ⟨h.lt, h.inc, h.one, fun i k hi hk hn => h.col i k hi (by omega) hn, h.left⟩
theorem In_low {m r n : Nat} {R : Mx p} (hrm : r ≤ m) (h : ∀ k j, r ≤ k → k < m → j < n → R k j = 0) (v : Vec p) : In m n R v ↔ In r n R v := by
  constructor
  · rintro ⟨x, hx⟩
    refine ⟨x, fun j hj => ?_⟩
    rw [hx j hj]
    unfold comb
    rw [show m = r + (m - r) from by omega, S_append, S_zero' (n := m - r) (fun i hi => by rw [h (r + i) j (by omega) (by omega) hj]; grind)]
    grind
  · intro hv
    exact hv.trans fun i hi => In.row (by omega)

end Go.Proofs.YtpeaeminjbjlnaaDoor.La

/-
  Elimination on lists of lists of integers, as the program makes it, and what it gives. Plain mathematics: no program in sight. Conditions: the number of elements is a field of the program's kind.
-/
namespace Go.Proofs.YtpeaeminjbjlnaaDoor
open La
set_option linter.unusedVariables false

/-! ### integers as elements -/
section elements
variable {p : Nat} [NeZero p]
theorem pos_int (p : Nat) [NeZero p] : (0 : Int) < p := by have := Nat.pos_of_ne_zero (NeZero.ne p); omega
def toF (p : Nat) [NeZero p] (x : Int) : Fin p := ⟨(x % p).toNat, by
  have h0 := Int.emod_nonneg x (show (p : Int) ≠ 0 by have := pos_int p; omega)
  have h1 := Int.emod_lt_of_pos x (pos_int p)
  omega⟩
theorem toF_val (x : Int) : ((toF p x).val : Int) = x % p := by
  have h0 := Int.emod_nonneg x (show (p : Int) ≠ 0 by have := pos_int p; omega)
  simp only [toF]
  omega
theorem toF_eq {x y : Int} : toF p x = toF p y ↔ x % p = y % p := by
  constructor
  · intro h; rw [← toF_val, ← toF_val, h]
  · intro h
    apply Fin.ext
    have : ((toF p x).val : Int) = ((toF p y).val : Int) := by rw [toF_val, toF_val, h]
    omega
theorem toF_zero : toF p 0 = 0 := by apply Fin.ext; simp [toF]
theorem toF_one : toF p 1 = 1 := by
  apply Fin.ext
  have : ((toF p 1).val : Int) = ((1 : Fin p).val : Int) := by
    have e : (1 : Fin p).val = 1 % p := rfl
    rw [toF_val, e]
    push_cast
    rfl
  omega
theorem toF_add (x y : Int) : toF p (x + y) = toF p x + toF p y := by
  apply Fin.ext
  have : ((toF p (x + y)).val : Int) = ((toF p x + toF p y).val : Int) := by
    rw [toF_val, Fin.val_add]
    push_cast
    rw [toF_val, toF_val, ← Int.add_emod]
  omega
theorem toF_mul (x y : Int) : toF p (x * y) = toF p x * toF p y := by
  apply Fin.ext
  have : ((toF p (x * y)).val : Int) = ((toF p x * toF p y).val : Int) := by
    rw [toF_val, Fin.val_mul]
    push_cast
    rw [toF_val, toF_val, ← Int.mul_emod]
  omega
theorem toF_neg (x : Int) : toF p (-x) = - toF p x := by
  have h := toF_add (p := p) x (-x)
  rw [Int.add_right_neg, toF_zero] at h
  grind
theorem toF_sub (x y : Int) : toF p (x - y) = toF p x - toF p y := by
  rw [Int.sub_eq_add_neg, toF_add, toF_neg]
  grind
theorem toF_emod (x : Int) : toF p (x % p) = toF p x := by rw [toF_eq, Int.emod_emod_of_dvd _ (Int.dvd_refl _)]
theorem toF_inj {x y : Int} (h0 : 0 ≤ x) (h1 : x < p) (h2 : 0 ≤ y) (h3 : y < p) (h : toF p x = toF p y) : x = y := by
  rw [toF_eq, Int.emod_eq_of_lt h0 h1, Int.emod_eq_of_lt h2 h3] at h
  exact h
theorem toF_ne {x : Int} (h0 : 0 ≤ x) (h1 : x < p) (h : x ≠ 0) : toF p x ≠ 0 := by
  intro e
  rw [← toF_zero] at e
  exact h (toF_inj h0 h1 (by omega) (pos_int p) e)
theorem toF_back (x : Fin p) : toF p (x.val : Int) = x := by
  apply Fin.ext
  have : ((toF p (x.val : Int)).val : Int) = (x.val : Int) := by
    rw [toF_val, Int.emod_eq_of_lt (by omega) (by have := x.isLt; omega)]
  omega
theorem toF_inv {b : Int} (hf : fldN p = true) (h0 : 0 < b) (h1 : b < p) : toF p b * toF p (invI p b) = 1 := by
  obtain ⟨m, rfl⟩ := Int.eq_ofNat_of_zero_le (show 0 ≤ b by omega)
  have h := (field_facts hf (b := m) (by omega)).inv (by omega)
  rw [← toF_mul, ← toF_one, toF_eq]
  have e : invI p m = ((m ^ (p - 2 + if p = 2 then 1 else 0) % p : Nat) : Int) := by
    rw [nat_pow_mod]
    unfold invI
    rw [Int.toNat_natCast]
    by_cases h2 : p = 2
    · subst h2; rfl
    · rw [if_neg h2, if_neg (by omega)]
  rw [e]
  have h2 := (of_decide_eq_true hf).1
  rw [Int.emod_eq_of_lt (show (0 : Int) ≤ 1 by omega) (by omega)]
  exact_mod_cast h
end elements

/-! ### lists as vectors and matrices -/
def VecOk (p : Int) (n : Nat) (v : List Int) : Prop := v.length = n ∧ ∀ x ∈ v, 0 ≤ x ∧ x < p
def RowsOk (p : Int) (n : Nat) (L : List (List Int)) : Prop := ∀ row ∈ L, VecOk p n row
section lists
variable {p : Nat} [NeZero p]
def vec (p : Nat) [NeZero p] (v : List Int) : Vec p := fun j => toF p (v.getD j 0)
def mx (p : Nat) [NeZero p] (L : List (List Int)) : Mx p := fun i => vec p (L.getD i [])
theorem vec_at {v : List Int} {j : Nat} (h : j < v.length) : vec p v j = toF p v[j] := by
  unfold vec; rw [List.getD_eq_getElem?_getD, List.getElem?_eq_getElem h]; rfl
theorem vec_past {v : List Int} {j : Nat} (h : v.length ≤ j) : vec p v j = 0 := by
  unfold vec; rw [List.getD_eq_getElem?_getD, List.getElem?_eq_none h]; exact toF_zero
theorem mx_at {L : List (List Int)} {i : Nat} (h : i < L.length) : mx p L i = vec p L[i] := by
  unfold mx; rw [List.getD_eq_getElem?_getD, List.getElem?_eq_getElem h]; rfl
theorem mx_past {L : List (List Int)} {i j : Nat} (h : L.length ≤ i) : mx p L i j = 0 := by
  unfold mx; rw [List.getD_eq_getElem?_getD, List.getElem?_eq_none h]; exact vec_past (by simp)
theorem vec_ext {n : Nat} {v w : List Int} (hv : VecOk p n v) (hw : VecOk p n w) (h : ∀ j, j < n → vec p v j = vec p w j) : v = w := by
  refine List.ext_getElem (hv.1.trans hw.1.symm) fun j h1 h2 => ?_
  have := h j (by rw [← hv.1]; exact h1)
  rw [vec_at h1, vec_at h2] at this
  have b1 := hv.2 _ (List.getElem_mem h1)
  have b2 := hw.2 _ (List.getElem_mem h2)
  exact toF_inj b1.1 b1.2 b2.1 b2.2 this
theorem rows_ext {m n : Nat} {A B : List (List Int)} (hA : RowsOk p n A) (hB : RowsOk p n B) (hl : A.length = m) (hl' : B.length = m) (h : ∀ i, i < m → ∀ j, j < n → mx p A i j = mx p B i j) : A = B := by
  refine List.ext_getElem (hl.trans hl'.symm) fun i h1 h2 => ?_
  refine vec_ext (hA _ (List.getElem_mem h1)) (hB _ (List.getElem_mem h2)) fun j hj => ?_
  have := h i (by omega) j hj
  rwa [mx_at h1, mx_at h2] at this
end lists

/-- v plus k times w -/
def addT (p : Int) (v : List Int) (k : Int) (w : List Int) : List Int := List.zipWith (fun x a => (x + k * a) % p) v w
def scaleV (p : Int) (v : List Int) (k : Int) : List Int := v.map fun x => x * k % p
def swapL (L : List (List Int)) (a b : Nat) : List (List Int) := (L.set a (L.getD b [])).set b (L.getD a [])
def divL (p : Int) (L : List (List Int)) (r : Nat) (y : Int) : List (List Int) := L.set r (scaleV p (L.getD r []) y)
/-- what stands at row i, column c -/
def at2 (L : List (List Int)) (i c : Nat) : Int := (L.getD i []).getD c 0
def clearRow (p : Int) (R : List (List Int)) (c r : Nat) (piv : List Int) (i : Nat) (row : List Int) : List Int :=
  if i ≠ r ∧ at2 R i c ≠ 0 then addT p row (-(at2 R i c)) piv else row
def clearL (p : Int) (R : List (List Int)) (c r : Nat) (A : List (List Int)) : List (List Int) := A.mapIdx (clearRow p R c r (A.getD r []))
structure St where
  R : List (List Int)
  T : List (List Int)
  r : Nat
def pivAt (R : List (List Int)) (c r : Nat) : Option Nat := firstFrom (fun k => at2 R k c != 0) r (R.length - r)
def stepWith (p : Int) (c k : Nat) (s : St) : St :=
  let R1 := swapL s.R s.r k
  let T1 := swapL s.T s.r k
  let y := invI p (at2 R1 s.r c)
  let R2 := divL p R1 s.r y
  let T2 := divL p T1 s.r y
  ⟨clearL p R2 c s.r R2, clearL p R2 c s.r T2, s.r + 1⟩
def stepL (p : Int) (c : Nat) (s : St) : St :=
  match pivAt s.R c s.r with
  | none => s
  | some k => stepWith p c k s
def redTo (p : Int) (R T : List (List Int)) : Nat → St
  | 0 => ⟨R, T, 0⟩
  | c + 1 => stepL p c (redTo p R T c)
def unitL (n i : Nat) : List Int := (List.replicate n 0).set i 1
def idL (n : Nat) : List (List Int) := (List.range n).map (unitL n)

/-! ### the list operations, as functions -/
section ops
variable {p : Nat} [NeZero p]
theorem vec_addT {v w : List Int} (k : Int) (h : v.length = w.length) (j : Nat) : vec p (addT p v k w) j = vec p v j + toF p k * vec p w j := by
  have hl : (addT p v k w).length = v.length := by simp [addT, h]
  rcases Nat.lt_or_ge j v.length with hj | hj
  · rw [vec_at (by omega), vec_at hj, vec_at (by omega)]
    have e : (addT p v k w)[j]'(by omega) = (v[j] + k * w[j]) % p := by simp [addT]
    rw [e, toF_emod, toF_add, toF_mul]
  · rw [vec_past (by omega), vec_past hj, vec_past (by omega)]
    grind
theorem vec_scaleV (v : List Int) (k : Int) (j : Nat) : vec p (scaleV p v k) j = vec p v j * toF p k := by
  have hl : (scaleV p v k).length = v.length := by simp [scaleV]
  rcases Nat.lt_or_ge j v.length with hj | hj
  · rw [vec_at (by omega), vec_at hj]
    have e : (scaleV p v k)[j]'(by omega) = v[j] * k % p := by simp [scaleV]
    rw [e, toF_emod, toF_mul]
  · rw [vec_past (by omega), vec_past hj]
    grind
theorem addT_ok {n : Nat} {v w : List Int} (k : Int) (hv : v.length = n) (hw : w.length = n) : VecOk p n (addT p v k w) := by
  refine ⟨by simp [addT, hv, hw], fun x hx => ?_⟩
  unfold addT at hx
  obtain ⟨i, hi, rfl⟩ := List.getElem_of_mem hx
  simp only [List.getElem_zipWith]
  exact ⟨Int.emod_nonneg _ (by have := pos_int p; omega), Int.emod_lt_of_pos _ (pos_int p)⟩
theorem scaleV_ok {n : Nat} {v : List Int} (k : Int) (hv : v.length = n) : VecOk p n (scaleV p v k) := by
  refine ⟨by simp [scaleV, hv], fun x hx => ?_⟩
  unfold scaleV at hx
  obtain ⟨y, _, rfl⟩ := List.mem_map.1 hx
  exact ⟨Int.emod_nonneg _ (by have := pos_int p; omega), Int.emod_lt_of_pos _ (pos_int p)⟩

theorem getD_mem {L : List (List Int)} {i : Nat} (h : i < L.length) : L.getD i [] ∈ L := by
  rw [List.getD_eq_getElem?_getD, List.getElem?_eq_getElem h]; exact List.getElem_mem h
omit [NeZero p] in
theorem set_ok {n : Nat} {L : List (List Int)} {v : List Int} (h : RowsOk p n L) (hv : VecOk p n v) (i : Nat) : RowsOk p n (L.set i v) := by
  intro row hrow
  rcases List.mem_or_eq_of_mem_set hrow with h1 | h1
  · exact h row h1
  · rw [h1]; exact hv
theorem swapL_len (L : List (List Int)) (a b : Nat) : (swapL L a b).length = L.length := by simp [swapL]
omit [NeZero p] in
theorem swapL_ok {n a b : Nat} {L : List (List Int)} (h : RowsOk p n L) (ha : a < L.length) (hb : b < L.length) : RowsOk p n (swapL L a b) :=
  set_ok (set_ok h (h _ (getD_mem hb)) _) (h _ (getD_mem ha)) _
theorem swapL_get {a b i : Nat} {L : List (List Int)} (ha : a < L.length) (hb : b < L.length) : (swapL L a b).getD i [] = L.getD (tw a b i) [] := by
  unfold swapL tw
  simp only [List.getD_eq_getElem?_getD, List.getElem?_set, List.length_set]
  by_cases h1 : b = i
  · subst h1
    by_cases h2 : b = a
    · subst h2; simp [hb]
    · simp [hb, h2]
  · by_cases h2 : a = i
    · subst h2; simp [h1, ha]
    · simp [h1, h2, Ne.symm h1, Ne.symm h2]
theorem mx_swapL {a b : Nat} {L : List (List Int)} (ha : a < L.length) (hb : b < L.length) (i : Nat) : mx p (swapL L a b) i = mx p L (tw a b i) := by
  unfold mx
  rw [swapL_get ha hb]
omit [NeZero p] in
theorem divL_len (L : List (List Int)) (r : Nat) (y : Int) : (divL p L r y).length = L.length := by simp [divL]
theorem divL_ok {n r : Nat} {L : List (List Int)} (h : RowsOk p n L) (hr : r < L.length) (y : Int) : RowsOk p n (divL p L r y) :=
  set_ok h (scaleV_ok y (h _ (getD_mem hr)).1) _
theorem mx_divL {r : Nat} {L : List (List Int)} (hr : r < L.length) (y : Int) (i j : Nat) : mx p (divL p L r y) i j = scale r (toF p y) (mx p L) i j := by
  unfold mx divL scale
  by_cases h : i = r
  · subst h
    rw [List.getD_eq_getElem?_getD, List.getElem?_set_self hr]
    simp only [if_true, Option.getD_some]
    exact vec_scaleV _ _ _
  · rw [List.getD_eq_getElem?_getD, List.getElem?_set_ne (Ne.symm h), ← List.getD_eq_getElem?_getD]
    simp only [h, if_false]
omit [NeZero p] in
theorem clearL_len (R A : List (List Int)) (c r : Nat) : (clearL p R c r A).length = A.length := by simp [clearL]
theorem clearRow_ok {n c r i : Nat} {R : List (List Int)} {q row : List Int} (hq : q.length = n) (h : VecOk p n row) : VecOk p n (clearRow p R c r q i row) := by
  unfold clearRow
  split
  · exact addT_ok _ h.1 hq
  · exact h
theorem clearL_ok {n c r : Nat} {R A : List (List Int)} (h : RowsOk p n A) (hr : r < A.length) : RowsOk p n (clearL p R c r A) := by
  intro row hrow
  unfold clearL at hrow
  obtain ⟨i, hi, rfl⟩ := List.getElem_of_mem hrow
  rw [List.getElem_mapIdx]
  simp only [List.length_mapIdx] at hi
  exact clearRow_ok (h _ (getD_mem hr)).1 (h _ (List.getElem_mem hi))
theorem mx_at2 (L : List (List Int)) (i c : Nat) : mx p L i c = toF p (at2 L i c) := rfl
theorem at2_ok {n i c : Nat} {L : List (List Int)} (h : RowsOk p n L) : 0 ≤ at2 L i c ∧ at2 L i c < p := by
  unfold at2
  rcases Nat.lt_or_ge i L.length with hi | hi
  · have hm := h _ (getD_mem hi)
    generalize L.getD i [] = row at hm
    rcases Nat.lt_or_ge c row.length with hc | hc
    · rw [List.getD_eq_getElem?_getD, List.getElem?_eq_getElem hc]
      exact hm.2 _ (List.getElem_mem hc)
    · rw [List.getD_eq_getElem?_getD, List.getElem?_eq_none hc]
      have := pos_int p
      simp only [Option.getD_none]
      omega
  · rw [List.getD_eq_getElem?_getD (l := L), List.getElem?_eq_none hi]
    have := pos_int p
    simp
    omega
theorem mx_clearL {n c r m : Nat} {R A : List (List Int)} (hA : RowsOk p n A) (hm : A.length = m) (hr : r < m) (i : Nat) (hi : i < m) (j : Nat) : mx p (clearL p R c r A) i j = clear m r c (mx p R) (mx p A) i j := by
  have hi' : i < A.length := by omega
  rw [mx_at (by rw [clearL_len]; exact hi')]
  unfold clear
  have e : (clearL p R c r A)[i]'(by rw [clearL_len]; exact hi') = clearRow p R c r (A.getD r []) i A[i] := by simp [clearL]
  rw [e]
  unfold clearRow
  by_cases h1 : i = r
  · simp only [h1, ne_eq, not_true_eq_false, false_and, if_false, and_false]
    rw [mx_at (show r < A.length by omega)]
  · simp only [h1, ne_eq, not_false_eq_true, true_and, hi, if_true, and_true, mx_at2]
    by_cases h2 : at2 R i c = 0
    · simp only [h2, not_true_eq_false, if_false]
      rw [toF_zero, ← mx_at2, mx_at hi']
      grind
    · simp only [h2, not_false_eq_true, if_true]
      rw [vec_addT _ (by rw [(hA _ (List.getElem_mem hi')).1, (hA _ (getD_mem (show r < A.length by omega))).1]), toF_neg, ← mx_at2 A, ← mx_at2 A, mx_at hi']
      have e2 : vec p (A.getD r []) j = mx p A r j := rfl
      rw [e2]
      grind
omit [NeZero p] in
theorem unitL_ok {n i : Nat} (h1 : 1 < p) : VecOk p n (unitL n i) := by
  refine ⟨by simp [unitL], fun x hx => ?_⟩
  rcases List.mem_or_eq_of_mem_set hx with h | h
  · have := List.eq_of_mem_replicate h; omega
  · omega
omit [NeZero p] in
theorem idL_ok {n : Nat} (h1 : 1 < p) : RowsOk p n (idL n) := by
  intro row hrow
  obtain ⟨i, _, rfl⟩ := List.mem_map.1 hrow
  exact unitL_ok h1
theorem idL_len (n : Nat) : (idL n).length = n := by simp [idL]
theorem vec_unitL {n i j : Nat} (hj : j < n) : vec p (unitL n i) j = if i = j then 1 else 0 := by
  rw [vec_at (by simp [unitL]; exact hj)]
  unfold unitL
  rw [List.getElem_set]
  split
  · exact toF_one
  · rw [List.getElem_replicate]; exact toF_zero
theorem mx_idL {n i j : Nat} (hi : i < n) (hj : j < n) : mx p (idL n) i j = if i = j then 1 else 0 := by
  rw [mx_at (by rw [idL_len]; exact hi)]
  have e : (idL n)[i]'(by rw [idL_len]; exact hi) = unitL n i := by simp [idL]
  rw [e, vec_unitL hj]
end ops

end Go.Proofs.YtpeaeminjbjlnaaDoor

/-
  Lists of lists of integers in memory: what can be read, what is the call's own; and the walks that only read them. Conditions: the lists are short.
-/
namespace Go.Proofs.YtpeaeminjbjlnaaDoor
open Go.RowKit
set_option linter.unusedVariables false

/-- A slice of slices of integers that can be read. -/
def MatV (w : World) (v : Value) (rows : List (List Int)) : Prop :=
  ∃ a cap, v = .slice a rows.length cap ∧ (rows ≠ [] → ∃ d, a = some d ∧ d.spot = none ∧ d.block < w.heap.size ∧
    ∀ i (h : i < rows.length), ∃ u, w.cell? ⟨d.block, d.off + i, none⟩ = some u ∧ IntsV w u rows[i])
theorem MatV.carry {w w' : World} {v : Value} {rows : List (List Int)} (h : MatV w v rows) (hg : w.grownBy w' none) : MatV w' v rows := by
  obtain ⟨a, cap, rfl, h⟩ := h
  refine ⟨a, cap, rfl, fun hz => ?_⟩
  obtain ⟨d, ha, hs, hd, hi⟩ := h hz
  refine ⟨d, ha, hs, Nat.lt_of_lt_of_le hd hg.size, fun i hi' => ?_⟩
  obtain ⟨u, hu, hr⟩ := hi i hi'
  exact ⟨u, (World.cell?_of_block (w := w) (a := ⟨d.block, d.off + i, none⟩) (hg.block _ hd (by simp))).trans hu, hr.carry hg⟩
/-- One row: its cell, and its shape. -/
theorem MatV.row {w : World} {a : Option Addr} {n cap : Nat} {rows : List (List Int)} (h : MatV w (.slice a n cap) rows) {i : Nat} (hi : i < rows.length) :
    ∃ (d : Addr) (r : Option Addr) (c : Nat), a = some d ∧ d.spot = none ∧ d.block < w.heap.size ∧ w.cell? ⟨d.block, d.off + i, none⟩ = some (.slice r rows[i].length c) ∧ IntsV w (.slice r rows[i].length c) rows[i] := by
  obtain ⟨a', cap', he, h⟩ := h
  cases he
  obtain ⟨d, ha, hs, hd, hi'⟩ := h (by intro h0; rw [h0] at hi; simp at hi)
  obtain ⟨u, hu, hr⟩ := hi' i hi
  obtain ⟨r, c, rfl, _⟩ := id hr
  exact ⟨d, r, c, ha, hs, hd, hu, hr⟩
theorem IntsV.at {w : World} {a : Option Addr} {n cap : Nat} {zs : List Int} (h : IntsV w (.slice a n cap) zs) {i : Nat} (hi : i < zs.length) :
    ∃ d : Addr, a = some d ∧ d.spot = none ∧ d.block < w.heap.size ∧ w.cell? ⟨d.block, d.off + i, none⟩ = some (.int .i64 zs[i]) := by
  obtain ⟨a', cap', he, h⟩ := h
  cases he
  obtain ⟨d, ha, hs, hd, hz⟩ := h (by intro h0; rw [h0] at hi; simp at hi)
  exact ⟨d, ha, hs, hd, hz i hi⟩

/-! ### checks -/
def vecB (p n : Int) (v : List Int) : Bool := decide ((v.length : Int) = n) && v.all (elB p)
def rowsB (p n : Int) (L : List (List Int)) : Bool := L.all (vecB p n)
theorem vecB_ok {p : Int} {n : Nat} {v : List Int} : vecB p n v = true ↔ VecOk p n v := by
  unfold vecB VecOk
  rw [Bool.and_eq_true, decide_eq_true_eq, List.all_eq_true]
  simp only [elB_iff]
  constructor
  · rintro ⟨h1, h2⟩; exact ⟨by omega, h2⟩
  · rintro ⟨h1, h2⟩; exact ⟨by omega, h2⟩
theorem rowsB_ok {p : Int} {n : Nat} {L : List (List Int)} : rowsB p n L = true ↔ RowsOk p n L := by
  unfold rowsB RowsOk
  rw [List.all_eq_true]
  simp only [vecB_ok]

theorem within_any (n lo hi : Int) (w : World) : Calls Tryd.prog 125 #[.int .i64 n, .int .i64 lo, .int .i64 hi] w fun e w' => e = .returned (.bool (decide (lo ≤ n ∧ n ≤ hi))) ∧ w = w' := by
  by_cases h0 : lo ≤ n <;> by_cases h1 : n ≤ hi
  all_goals
    go_enter Tryd.func125, Tryd.ntmps125
    go_wp2
    go_ret
    exact ⟨by simp [h0, h1], rfl⟩

theorem isVector_any (p n : Int) (v : Value) (zs : List Int) (w : World) (hv : IntsV w v zs) (hl : zs.length ≤ 1000000) :
    Calls Tryd.prog 173 #[.int .i64 p, v, .int .i64 n] w fun e w' => e = .returned (.bool (vecB p n zs)) ∧ w = w' := by
  have HV := Lib.hid hv
  obtain ⟨a, cap, rfl, _⟩ := hv
  generalize hlen : zs.length = l at *
  have HL := Lib.hid hlen
  clear hlen
  by_cases hn : (l : Int) = n
  · subst hn
    go_enter Tryd.func173, Tryd.ntmps173
    go_wp2
    go_loop [15] (fun i => ∃ k : Nat, k ≤ l ∧ i = .int .i64 k ∧ ∀ j (h : j < zs.length), j < k → elB p zs[j] = true) (fun i => l - (intOf i).toNat)
    case atStart => exact ⟨0, by omega, rfl, fun _ _ h => absurd h (by omega)⟩
    case round =>
      obtain ⟨k, hk, rfl, ho⟩ := hrel
      have HO := Lib.hid ho
      clear ho
      by_cases hlt : k < l
      · have hkl : k < zs.length := by rw [HL.out]; exact hlt
        obtain ⟨d, rfl, hs, hd, hcell⟩ := HV.out.at hkl
        obtain ⟨db, dof, _⟩ := d
        simp only at hs hcell
        subst hs
        generalize hzk : zs[k] = z at hcell
        have HK := Lib.hid hzk
        clear hzk hd
        cases he : elB p z
        · have hfin : vecB p l zs = false := by
            unfold vecB
            rw [Bool.and_eq_false_iff]
            refine Or.inr (List.all_eq_false.2 ⟨zs[k], List.getElem_mem _, ?_⟩)
            rw [HK.out, he]
            simp
          have HF := Lib.hid hfin
          clear hfin
          go_wp2_with (go_at_call 114; refine (isElement_any _ _ _).mono ?_; rintro e w' ⟨rfl, rfl⟩)
          go_ret
          exact ⟨by rw [HF.out]; rfl, rfl⟩
        · have HE := Lib.hid he
          go_wp2_with (go_at_call 114; refine (isElement_any _ _ _).mono ?_; rintro e w' ⟨rfl, rfl⟩)
          go_round
          case rel => exact ⟨k + 1, by omega, by go_num, fun j h hj => by
            by_cases hjk : j = k
            · subst hjk; rw [HK.out]; exact HE.out
            · exact HO.out j h (by omega)⟩
          case measure => simp [intOf]; omega
      · have hfin : vecB p l zs = true := by
          unfold vecB
          rw [Bool.and_eq_true]
          refine ⟨decide_eq_true (by rw [HL.out]), List.all_eq_true.2 fun x hx => ?_⟩
          obtain ⟨j, hj, rfl⟩ := List.getElem_of_mem hx
          exact HO.out j hj (by have := HL.out; omega)
        have HF := Lib.hid hfin
        clear hfin
        go_wp2
        go_ret
        exact ⟨by rw [HF.out]; rfl, rfl⟩
  · have hb : ((l : Int) != n) = true := by rw [bne_iff_ne]; exact hn
    have hfin : vecB p n zs = false := by
      unfold vecB
      rw [Bool.and_eq_false_iff]
      exact Or.inl (decide_eq_false (by rw [HL.out]; exact hn))
    have HF := Lib.hid hfin
    clear hfin hn
    go_enter Tryd.func173, Tryd.ntmps173
    go_wp2
    go_ret
    exact ⟨by rw [HF.out]; rfl, rfl⟩

theorem areVectors_any (p n : Int) (v : Value) (rows : List (List Int)) (w : World) (hv : MatV w v rows) (hl : rows.length ≤ 1000000) (hll : ∀ row ∈ rows, row.length ≤ 1000000) :
    Calls Tryd.prog 205 #[.int .i64 p, v, .int .i64 n] w fun e w' => e = .returned (.bool (rowsB p n rows)) ∧ w = w' := by
  have HV := Lib.hid hv
  have HLL := Lib.hid hll
  obtain ⟨a, cap, rfl, hx⟩ := hv
  clear hx
  generalize hlen : rows.length = l at *
  have HL := Lib.hid hlen
  clear hlen hll
  go_enter Tryd.func205, Tryd.ntmps205
  go_wp2
  go_loop [11] (fun i => ∃ k : Nat, k ≤ l ∧ i = .int .i64 k ∧ ∀ j (h : j < rows.length), j < k → vecB p n rows[j] = true) (fun i => l - (intOf i).toNat)
  case atStart => exact ⟨0, by omega, rfl, fun _ _ h => absurd h (by omega)⟩
  case round =>
    obtain ⟨k, hk, rfl, ho⟩ := hrel
    have HO := Lib.hid ho
    clear ho
    by_cases hlt : k < l
    · have hkl : k < rows.length := by rw [HL.out]; exact hlt
      obtain ⟨d, r, c, rfl, hs, hd, hcell, hrow⟩ := HV.out.row hkl
      have hlr := HLL.out rows[k] (List.getElem_mem _)
      obtain ⟨db, dof, _⟩ := d
      simp only at hs hcell
      subst hs
      generalize hzk : rows[k] = z at *
      have HK := Lib.hid hzk
      have HR := Lib.hid (isVector_any p n _ z w hrow hlr)
      clear hzk hd hrow hlr
      generalize z.length = zl at *
      cases he : vecB p n z
      · have hfin : rowsB p n rows = false := by
          unfold rowsB
          refine List.all_eq_false.2 ⟨rows[k], List.getElem_mem _, ?_⟩
          rw [HK.out, he]
          simp
        have HF := Lib.hid hfin
        rw [he] at HR
        clear hfin he
        go_wp2_with (go_at_call 173; refine HR.out.mono ?_; rintro e w' ⟨rfl, rfl⟩)
        go_ret
        exact ⟨by rw [HF.out]; rfl, rfl⟩
      · have HE := Lib.hid he
        rw [he] at HR
        clear he
        go_wp2_with (go_at_call 173; refine HR.out.mono ?_; rintro e w' ⟨rfl, rfl⟩)
        go_round
        case rel => exact ⟨k + 1, by omega, by go_num, fun j h hj => by
          by_cases hjk : j = k
          · subst hjk; rw [HK.out]; exact HE.out
          · exact HO.out j h (by omega)⟩
        case measure => simp [intOf]; omega
    · have hfin : rowsB p n rows = true := by
        unfold rowsB
        refine List.all_eq_true.2 fun x hx => ?_
        obtain ⟨j, hj, rfl⟩ := List.getElem_of_mem hx
        exact HO.out j hj (by have := HL.out; omega)
      have HF := Lib.hid hfin
      clear hfin
      go_wp2
      go_ret
      exact ⟨by rw [HF.out]; rfl, rfl⟩

end Go.Proofs.YtpeaeminjbjlnaaDoor

/-
  More walks of chapter 1: powers, inverses, orders, logarithms. Conditions: as each states.
-/
namespace Go.Proofs.YtpeaeminjbjlnaaDoor
open Go.RowKit
set_option linter.unusedVariables false

theorem power_any (p a n : Int) (w : World) (hp : 1 ≤ p) (hp2 : p ≤ 1000) (ha : 0 ≤ a) (ha2 : a ≤ 1000) (hn : 0 ≤ n) (hn2 : n ≤ 1000000) :
    Calls Tryd.prog 249 #[.int .i64 p, .int .i64 a, .int .i64 n] w fun e w' => e = .returned (.int .i64 (a ^ n.toNat % p)) ∧ w = w' := by
  have hm0 := Int.emod_nonneg (1 : Int) (show p ≠ 0 by omega)
  have hm1 := Int.emod_lt_of_pos (1 : Int) (show 0 < p by omega)
  go_enter Tryd.func249, Tryd.ntmps249
  go_wp2
  go_loop [1, 2, 7] (fun x m o => ∃ (x' o' : Int) (m' : Nat), x = .int .i64 x' ∧ m = .int .i64 m' ∧ o = .int .i64 o' ∧ 0 ≤ o' ∧ o' < p ∧ 0 ≤ x' ∧ x' ≤ 1000 ∧ m' ≤ 1000000 ∧ o' * x' ^ m' % p = a ^ n.toNat % p) (fun _ m _ => (intOf m).toNat)
  case atStart =>
    obtain ⟨n', rfl⟩ := Int.eq_ofNat_of_zero_le hn
    exact ⟨a, 1 % p, n', rfl, rfl, rfl, hm0, hm1, ha, ha2, by omega, by rw [emod_mul_l, Int.one_mul, Int.toNat_natCast]⟩
  case round =>
    obtain ⟨x, o, m, rfl, rfl, rfl, ho0, ho1, hx0, hx1, hm, hr⟩ := hrel
    have HR := Lib.hid hr
    have hxx : 0 ≤ x * x := Int.mul_nonneg hx0 hx0
    have hxx2 : x * x ≤ 1000 * 1000 := Int.mul_le_mul hx1 hx1 hx0 (by omega)
    have hox : 0 ≤ o * x := Int.mul_nonneg ho0 hx0
    have hox2 : o * x ≤ 1000 * 1000 := Int.mul_le_mul (by omega) hx1 hx0 (by omega)
    have e0 := Int.emod_nonneg (x * x) (show p ≠ 0 by omega)
    have e1 := Int.emod_lt_of_pos (x * x) (show 0 < p by omega)
    have e2 := Int.emod_nonneg (o * x) (show p ≠ 0 by omega)
    have e3 := Int.emod_lt_of_pos (o * x) (show 0 < p by omega)
    clear hr
    by_cases h0 : m = 0
    · subst h0
      have hfin : a ^ n.toNat % p = o := by
        have := HR.out
        rw [← this, Int.pow_zero, Int.mul_one, Int.emod_eq_of_lt ho0 ho1]
      have HF := Lib.hid hfin
      clear hfin
      go_wp2
      go_ret
      exact ⟨by rw [HF.out]; rfl, rfl⟩
    · have h0' : 0 < m := by omega
      by_cases hodd : m % 2 = 1
      · have hb : ((m : Int) % 2 == 1) = true := by rw [beq_iff_eq]; omega
        have HO := Lib.hid hodd
        clear hodd h0
        go_wp2
        go_round
        case rel => exact ⟨x * x % p, o * x % p, m / 2, rfl, by go_num, rfl, e2, e3, e0, by omega, by omega, by rw [pw_odd _ _ _ _ HO.out, HR.out]⟩
        case measure => simp [intOf]; omega
      · have hb : ((m : Int) % 2 == 1) = false := by rw [beq_eq_false_iff_ne]; omega
        have he : m % 2 = 0 := by omega
        have HO := Lib.hid he
        clear hodd he h0
        go_wp2
        go_round
        case rel => exact ⟨x * x % p, o, m / 2, rfl, by go_num, rfl, ho0, ho1, e0, by omega, by omega, by rw [pw_even _ _ _ _ HO.out, HR.out]⟩
        case measure => simp [intOf]; omega

theorem inverse_any (p a : Int) (w : World) (hp : 2 ≤ p) (hp2 : p ≤ 1000) (ha : 0 ≤ a) (ha2 : a ≤ 1000) :
    Calls Tryd.prog 110 #[.int .i64 p, .int .i64 a] w fun e w' => e = .returned (.int .i64 (invI p a)) ∧ w = w' := by
  by_cases h2 : p = 2
  · subst h2
    go_enter Tryd.func110, Tryd.ntmps110
    go_wp2_with (first | (go_at_call 250; refine (bit_any true _).mono ?_; rintro e w' ⟨rfl, rfl⟩) | (go_at_call 249; refine (power_any _ _ _ _ (by omega) (by omega) ha ha2 (by omega) (by omega)).mono ?_; rintro e w' ⟨rfl, rfl⟩))
    go_ret
    exact ⟨rfl, rfl⟩
  · have hb : (p == 2) = false := by rw [beq_eq_false_iff_ne]; exact h2
    have hfin : invI p a = a ^ (p - 2).toNat % p := by
      unfold invI
      rw [if_neg h2, show p.toNat - 2 + 0 = (p - 2).toNat from by omega]
    have HF := Lib.hid hfin
    clear hfin h2
    go_enter Tryd.func110, Tryd.ntmps110
    go_wp2_with (first | (go_at_call 250; refine (bit_any false _).mono ?_; rintro e w' ⟨rfl, rfl⟩) | (go_at_call 249; refine (power_any _ _ _ _ (by omega) (by omega) ha ha2 (by omega) (by omega)).mono ?_; rintro e w' ⟨rfl, rfl⟩))
    go_ret
    exact ⟨by rw [HF.out]; rfl, rfl⟩

/-! ### the reference's test of a field -/
theorem fdGood_any (p : Int) (w : World) (h0 : -1000 ≤ p) (h1 : p ≤ 1000) : Calls Tryd.prog 206 #[.int .i64 p] w fun e w' => e = .returned (.bool (fldB p)) ∧ w = w' := by
  by_cases hin : 2 ≤ p ∧ p ≤ 97
  · have hd : decide (2 ≤ p ∧ p ≤ 97) = true := by simpa using hin
    obtain ⟨g0, g1⟩ := hin
    go_enter Tryd.func206, Tryd.ntmps206
    go_wp2_with (go_at_call 137; refine (l1In_any _ _ _ _).mono ?_; rintro e w' ⟨rfl, rfl⟩)
    go_loop [3] (fun k => ∃ k' : Nat, k = .int .i64 k' ∧ 2 ≤ k' ∧ k' ≤ 10 ∧ ∀ j : Int, 2 ≤ j → j < k' → p % j ≠ 0) (fun k => 200 - (intOf k).toNat)
    case atStart => exact ⟨2, rfl, by omega, by omega, fun j h1 h2 => by omega⟩
    case round =>
      obtain ⟨k, rfl, hk2, hk10, hr⟩ := hrel
      have HR := Lib.hid hr
      clear hr
      have hkk : ((k : Int) * k) = ((k * k : Nat) : Int) := by push_cast; rfl
      have hkk2 : k * k ≤ 100 := Nat.mul_le_mul hk10 hk10
      have HKK := Lib.hid hkk
      clear hkk
      have hq0 : (0 : Int) ≤ (k : Int) * k := by rw [HKK.out]; omega
      have hq1 : (k : Int) * k ≤ 100 := by rw [HKK.out]; omega
      have e0 := Int.emod_nonneg p (show (k : Int) ≠ 0 by omega)
      by_cases hle : (k : Int) * k ≤ p
      · by_cases hd0 : p % (k : Int) = 0
        · have hb : (p % (k : Int) == 0) = true := by rw [beq_iff_eq]; exact hd0
          have hfin : fldB p = false := fld_no g0 g1 (by omega) hle hd0
          have HF := Lib.hid hfin
          clear hfin hd0
          go_wp2
          go_ret
          exact ⟨by rw [HF.out]; rfl, rfl⟩
        · have hb : (p % (k : Int) == 0) = false := by rw [beq_eq_false_iff_ne]; exact hd0
          have HD := Lib.hid hd0
          clear hd0
          have hk9 : k < 10 := by
            rcases Nat.lt_or_ge k 10 with h | h
            · exact h
            · obtain rfl : k = 10 := by omega
              omega
          go_wp2
          go_round
          case rel => exact ⟨k + 1, by go_num, by omega, by omega, fun j h1 h2 => by
            by_cases hj : j = k
            · subst hj; exact HD.out
            · exact HR.out j h1 (by omega)⟩
          case measure => simp [intOf]; omega
      · have hfin : fldB p = true := fld_yes g0 g1 (k := k) (by omega) (by omega) (by omega) HR.out
        have HF := Lib.hid hfin
        clear hfin
        go_wp2
        go_ret
        exact ⟨by rw [HF.out]; rfl, rfl⟩
  · have hd : decide (2 ≤ p ∧ p ≤ 97) = false := by simpa using hin
    have hfin : fldB p = false := by
      unfold fldB
      rw [decide_eq_false_iff_not]
      exact fun h => hin ⟨h.1, h.2.1⟩
    have HF := Lib.hid hfin
    clear hfin hin
    go_enter Tryd.func206, Tryd.ntmps206
    go_wp2_with (go_at_call 137; refine (l1In_any _ _ _ _).mono ?_; rintro e w' ⟨rfl, rfl⟩)
    go_ret
    exact ⟨by rw [HF.out]; rfl, rfl⟩

end Go.Proofs.YtpeaeminjbjlnaaDoor

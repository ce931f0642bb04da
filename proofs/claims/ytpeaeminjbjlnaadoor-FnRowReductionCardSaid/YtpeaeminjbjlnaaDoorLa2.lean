/-
  Elimination, on functions: the three row operations keep the span, the independence of the transforming rows and what they make; a round clears a column. Plain mathematics. Conditions: as each states.
-/
import Derived.Test.YtpeaeminjbjlnaaDoorLa
namespace Go.Proofs.YtpeaeminjbjlnaaDoor.La
set_option linter.unusedVariables false
variable {p : Nat} [NeZero p]

/-- R is made of M by T, whose rows are independent; R and M span the same. -/
structure Inv (m n : Nat) (M R T : Mx p) : Prop where
  made : ∀ i, i < m → ∀ j, j < n → R i j = comb m (T i) M j
  indep : Indep m m T
  span : ∀ v, In m n R v ↔ In m n M v

theorem span_of {m n : Nat} {R R1 : Mx p} (h1 : ∀ i, i < m → In m n R (R1 i)) (h2 : ∀ i, i < m → In m n R1 (R i)) (v : Vec p) : In m n R1 v ↔ In m n R v :=
  ⟨fun h => h.trans h1, fun h => h.trans h2⟩

theorem Inv.start (m n : Nat) (M : Mx p) : Inv m n M M (fun i j => if i = j then 1 else 0) := by
  refine ⟨fun i hi j _ => ?_, fun x hx i hi => ?_, fun v => Iff.rfl⟩
  · unfold comb
    rw [S_one hi (fun k _ hk => by simp [Ne.symm hk, f0m])]
    simp [f1m]
  · have := hx i hi
    unfold comb at this
    rw [S_one hi (fun k _ hk => by simp [hk, fm0])] at this
    simpa [fm1] using this

/-- the transposition of a and b -/
def tw (a b i : Nat) : Nat := if i = a then b else if i = b then a else i
theorem tw_lt {a b i m : Nat} (ha : a < m) (hb : b < m) (hi : i < m) : tw a b i < m := by unfold tw; split <;> (try split) <;> omega
theorem tw_tw (a b i : Nat) : tw a b (tw a b i) = i := by
  unfold tw
  by_cases h1 : i = a
  · by_cases h2 : b = a <;> simp [h1, h2]
  · by_cases h2 : i = b
    · simp [h2]
    · simp [h1, h2]
theorem S_tw {m a b : Nat} (ha : a < m) (hb : b < m) (f : Nat → Fin p) : S m (fun i => f (tw a b i)) = S m f := by
  by_cases hab : a = b
  · subst hab
    refine S_congr fun i _ => ?_
    unfold tw
    by_cases h : i = a
    · simp [h]
    · simp [h]
  · have hr : ∀ g : Nat → Fin p, S m g = g a + (g b + S m (fun i => if i = b then 0 else if i = a then 0 else g i)) := by
      intro g
      rw [S_split ha g, S_split hb (fun i => if i = a then 0 else g i)]
      simp [Ne.symm hab]
    rw [hr, hr f]
    have e : S m (fun i => if i = b then 0 else if i = a then 0 else f (tw a b i)) = S m (fun i => if i = b then 0 else if i = a then 0 else f i) := by
      refine S_congr fun i _ => ?_
      by_cases h1 : i = b
      · simp [h1]
      · by_cases h2 : i = a
        · simp [h2]
        · simp [h1, h2, tw]
    rw [e]
    have e1 : tw a b a = b := by simp [tw]
    have e2 : tw a b b = a := by simp [tw]
    rw [e1, e2]
    grind

theorem Inv.swap {m n a b : Nat} {M R T : Mx p} (h : Inv m n M R T) (ha : a < m) (hb : b < m) : Inv m n M (fun i => R (tw a b i)) (fun i => T (tw a b i)) := by
  refine ⟨fun i hi j hj => h.made _ (tw_lt ha hb hi) j hj, fun x hx i hi => ?_, fun v => ?_⟩
  · have := h.indep (fun i => x (tw a b i)) (fun j hj => by
      have h2 := hx j hj
      unfold comb at h2 ⊢
      rw [← S_tw ha hb] at h2
      rw [← h2]
      exact S_congr fun i _ => by dsimp only; rw [tw_tw]) (tw a b i) (tw_lt ha hb hi)
    simpa [tw_tw] using this
  · rw [← h.span]
    refine span_of (fun i hi => In.row (tw_lt ha hb hi)) (fun i hi => ?_) v
    have := In.row (n := n) (A := fun i => R (tw a b i)) (tw_lt ha hb hi)
    simpa [tw_tw] using this

def scale (a : Nat) (k : Fin p) (A : Mx p) : Mx p := fun i j => if i = a then A i j * k else A i j
theorem Inv.scale {m n a : Nat} {k k' : Fin p} {M R T : Mx p} (h : Inv m n M R T) (ha : a < m) (hk : k * k' = 1) : Inv m n M (scale a k R) (scale a k T) := by
  refine ⟨fun i hi j hj => ?_, fun x hx i hi => ?_, fun v => ?_⟩
  · unfold La.scale
    by_cases e : i = a
    · subst e
      simp only [if_true]
      rw [h.made i hi j hj]
      unfold comb
      rw [← S_mulr]
      refine S_congr fun t _ => ?_
      dsimp only
      grind
    · simp only [e, if_false]
      rw [h.made i hi j hj]
  · have := h.indep (fun i => if i = a then x i * k else x i) (fun j hj => by
      have h2 := hx j hj
      rw [← h2]
      unfold comb La.scale
      refine S_congr fun t _ => ?_
      by_cases e : t = a
      · simp only [e, if_true]; grind
      · simp only [e, if_false]) i hi
    by_cases e : i = a
    · simp only [e, if_true] at this ⊢
      grind
    · simpa only [e, if_false] using this
  · rw [← h.span]
    refine span_of (fun i hi => ?_) (fun i hi => ?_) v
    · by_cases e : i = a
      · subst e
        exact ((In.row hi).smul k).congr fun j _ => by simp only [La.scale, if_true]; grind
      · exact (In.row hi).congr fun j _ => by simp only [La.scale, e, if_false]
    · by_cases e : i = a
      · subst e
        exact ((In.row (A := La.scale i k R) hi).smul k').congr fun j _ => by simp only [La.scale, if_true]; grind
      · exact (In.row (A := La.scale a k R) hi).congr fun j _ => by simp only [La.scale, e, if_false]

def less (i0 r : Nat) (k : Fin p) (A : Mx p) : Mx p := fun i j => if i = i0 then A i j - k * A r j else A i j
theorem Inv.less {m n i0 r : Nat} {k : Fin p} {M R T : Mx p} (h : Inv m n M R T) (hi0 : i0 < m) (hr : r < m) (hne : i0 ≠ r) : Inv m n M (less i0 r k R) (less i0 r k T) := by
  refine ⟨fun i hi j hj => ?_, fun x hx i hi => ?_, fun v => ?_⟩
  · unfold La.less
    by_cases e : i = i0
    · subst e
      simp only [if_true]
      rw [h.made i hi j hj, h.made r hr j hj]
      unfold comb
      rw [← S_mul, ← S_sub]
      refine S_congr fun t _ => ?_
      dsimp only
      grind
    · simp only [e, if_false]
      rw [h.made i hi j hj]
  · have hy := h.indep (fun i => x i + if i = r then - (x i0 * k) else 0) (fun j hj => by
      have h2 := hx j hj
      refine Eq.trans ?_ h2
      have e1 : comb m x (La.less i0 r k T) j = S m (fun i => x i * T i j + if i = i0 then - (x i0 * k * T r j) else 0) := by
        unfold comb La.less
        refine S_congr fun t _ => ?_
        by_cases e : t = i0
        · subst e; simp only [if_true]; grind
        · simp only [e, if_false]; grind
      have e2 : comb m (fun i => x i + if i = r then - (x i0 * k) else 0) T j = S m (fun i => x i * T i j + if i = r then - (x i0 * k * T r j) else 0) := by
        unfold comb
        refine S_congr fun t _ => ?_
        by_cases e : t = r
        · subst e; simp only [if_true]; grind
        · simp only [e, if_false]; grind
      rw [e1, e2, S_add, S_add, S_delta hi0, S_delta hr])
    have h0 : ∀ i, i < m → i ≠ r → x i = 0 := by
      intro i hi hir
      have := hy i hi
      simp only [hir, if_false] at this
      grind
    by_cases e : i = r
    · have h3 := hy r hr
      simp only [if_true] at h3
      rw [h0 i0 hi0 hne] at h3
      rw [e]
      grind
    · exact h0 i hi e
  · rw [← h.span]
    refine span_of (fun i hi => ?_) (fun i hi => ?_) v
    · by_cases e : i = i0
      · subst e
        exact ((In.row hi).add ((In.row hr).smul (-k))).congr fun j _ => by simp only [La.less, if_true]; grind
      · exact (In.row hi).congr fun j _ => by simp only [La.less, e, if_false]
    · by_cases e : i = i0
      · subst e
        exact ((In.row (A := La.less i r k R) hi).add ((In.row (A := La.less i r k R) hr).smul k)).congr fun j _ => by
          simp only [La.less, if_true, Ne.symm hne, if_false]; grind
      · exact (In.row (A := La.less i0 r k R) hi).congr fun j _ => by simp only [La.less, e, if_false]

/-- The rows before t are cleared in the column c by the row r. -/
def clear (t r c : Nat) (R A : Mx p) : Mx p := fun i j => if i < t ∧ i ≠ r then A i j - R i c * A r j else A i j
theorem Inv.congr {m n : Nat} {M R R' T T' : Mx p} (h : Inv m n M R T) (hR : ∀ i, i < m → ∀ j, R i j = R' i j) (hT : ∀ i, i < m → ∀ j, T i j = T' i j) : Inv m n M R' T' := by
  refine ⟨fun i hi j hj => ?_, fun x hx i hi => ?_, fun v => ?_⟩
  · rw [← hR i hi j, h.made i hi j hj]
    exact S_congr fun t ht => by rw [hT i hi t]
  · refine h.indep x (fun j hj => ?_) i hi
    rw [← hx j hj]
    exact S_congr fun t ht => by rw [hT t ht j]
  · rw [← h.span]
    exact ⟨fun h => h.rows fun i hi j _ => (hR i hi j).symm, fun h => h.rows fun i hi j _ => hR i hi j⟩
theorem Inv.clear {m n r c : Nat} {M R T : Mx p} (h : Inv m n M R T) (hr : r < m) : ∀ t, t ≤ m → Inv m n M (clear t r c R R) (clear t r c R T) := by
  intro t
  induction t with
  | zero => intro _; exact h.congr (fun i hi j => by simp [La.clear]) (fun i hi j => by simp [La.clear])
  | succ t ih =>
    intro ht
    have h1 := ih (by omega)
    by_cases e : t = r
    · subst e
      refine h1.congr (fun i hi j => ?_) (fun i hi j => ?_)
      all_goals
        unfold La.clear
        by_cases h2 : i < t
        · simp [h2, show i < t + 1 from by omega]
        · by_cases h3 : i = t
          · simp [h3]
          · simp [h2, show ¬ i < t + 1 from by omega]
    · have h2 := h1.less (k := R t c) (i0 := t) (r := r) (by omega) hr e
      refine h2.congr (fun i hi j => ?_) (fun i hi j => ?_)
      all_goals
        unfold La.less La.clear
        by_cases h3 : i = t
        · subst h3
          simp [e]
        · by_cases h4 : i < t
          · simp [h3, h4, show i < t + 1 from by omega]
          · simp [h3, h4, show ¬ i < t + 1 from by omega]

/-- The columns before c are done: r pivots. -/
structure Elim (m n c r : Nat) (piv : Nat → Nat) (R : Mx p) : Prop where
  rm : r ≤ m
  cn : c ≤ n
  lt : ∀ i, i < r → piv i < c
  inc : ∀ i j, i < j → j < r → piv i < piv j
  one : ∀ i, i < r → R i (piv i) = 1
  col : ∀ i k, i < r → k < m → k ≠ i → R k (piv i) = 0
  left : ∀ i j, i < r → j < piv i → R i j = 0
  low : ∀ k j, r ≤ k → k < m → j < c → R k j = 0
theorem Elim.start (m n : Nat) (piv : Nat → Nat) (R : Mx p) : Elim m n 0 0 piv R :=
  ⟨Nat.zero_le _, Nat.zero_le _, fun _ h => by omega, fun _ _ _ h => by omega, fun _ h => by omega, fun _ _ h => by omega, fun _ _ h => by omega, fun _ _ _ _ h => by omega⟩
theorem Elim.congr {m n c r : Nat} {piv : Nat → Nat} {R R' : Mx p} (h : Elim m n c r piv R) (e : ∀ i, i < m → ∀ j, R i j = R' i j) : Elim m n c r piv R' := by
  have hrm := h.rm
  exact ⟨h.rm, h.cn, h.lt, h.inc, fun i hi => by rw [← e i (by omega)]; exact h.one i hi, fun i k hi hk hn => by rw [← e k hk]; exact h.col i k hi hk hn,
    fun i j hi hj => by rw [← e i (by omega)]; exact h.left i j hi hj, fun k j hk hm hj => by rw [← e k hm]; exact h.low k j hk hm hj⟩
theorem Elim.none {m n c r : Nat} {piv : Nat → Nat} {R : Mx p} (h : Elim m n c r piv R) (hc : c < n) (h0 : ∀ k, r ≤ k → k < m → R k c = 0) : Elim m n (c + 1) r piv R :=
  ⟨h.rm, by omega, fun i hi => by have := h.lt i hi; omega, h.inc, h.one, h.col, h.left, fun k j hk hm hj => by
    by_cases e : j = c
    · subst e; exact h0 k hk hm
    · exact h.low k j hk hm (by omega)⟩
theorem Elim.some {m n c r k : Nat} {y : Fin p} {piv : Nat → Nat} {R : Mx p} (h : Elim m n c r piv R) (hc : c < n) (hk : r ≤ k) (hkm : k < m) (hy : R k c * y = 1) :
    Elim m n (c + 1) (r + 1) (fun i => if i = r then c else piv i) (clear m r c (scale r y fun i => R (tw r k i)) (scale r y fun i => R (tw r k i))) := by
  have hrm : r < m := by omega
  have htw : ∀ i, i < r → tw r k i = i := by
    intro i hi
    unfold tw
    simp [show i ≠ r from by omega, show i ≠ k from by omega]
  have htr : tw r k r = k := by simp [tw]
  have hge : ∀ i, r ≤ i → i < m → r ≤ tw r k i ∧ tw r k i < m := by
    intro i hi him
    unfold tw
    split
    · exact ⟨hk, hkm⟩
    · split
      · exact ⟨Nat.le_refl _, hrm⟩
      · exact ⟨hi, him⟩
  -- the matrix behind the exchange and the division
  generalize hB : (scale r y fun i => R (tw r k i)) = B
  have Brow : ∀ j, B r j = R k j * y := by intro j; rw [← hB]; simp [La.scale, htr]
  have Both : ∀ i j, i ≠ r → B i j = R (tw r k i) j := by intro i j hi; rw [← hB]; simp [La.scale, hi]
  have Brc : B r c = 1 := by rw [Brow]; exact hy
  have Br0 : ∀ j, j < c → B r j = 0 := by intro j hj; rw [Brow, h.low k j hk hkm hj]; grind
  have C : ∀ i j, i < m → clear m r c B B i j = if i = r then B r j else B i j - B i c * B r j := by
    intro i j hi
    unfold La.clear
    by_cases e : i = r
    · simp [e]
    · simp [e, hi]
  refine ⟨by omega, by omega, ?_, ?_, ?_, ?_, ?_, ?_⟩
  · intro i hi
    by_cases e : i = r
    · simp [e]
    · simp only [e, if_false]
      have := h.lt i (by omega)
      omega
  · intro i j hij hj
    by_cases e : j = r
    · have := h.lt i (by omega)
      simp only [e, if_true, show i ≠ r from by omega, if_false]
      omega
    · simp only [e, if_false, show i ≠ r from by omega]
      exact h.inc i j hij (by omega)
  · intro i hi
    rw [C i _ (by omega)]
    by_cases e : i = r
    · subst e; simp only [if_true]; exact Brc
    · simp only [e, if_false]
      have hir : i < r := by omega
      rw [Br0 _ (h.lt i hir), Both i _ e, htw i hir, h.one i hir]
      grind
  · intro i k' hi hk' hne
    rw [C k' _ hk']
    by_cases e : i = r
    · subst e
      simp only [if_true, hne, if_false]
      rw [Brc]
      grind
    · have hir : i < r := by omega
      have hl := h.lt i hir
      simp only [e, if_false]
      by_cases e2 : k' = r
      · simp only [e2, if_true]
        exact Br0 _ hl
      · simp only [e2, if_false]
        rw [Br0 _ hl, Both k' _ e2]
        have hz : R (tw r k k') (piv i) = 0 := by
          rcases Nat.lt_or_ge k' r with h1 | h1
          · rw [htw k' h1]; exact h.col i k' hir hk' hne
          · exact h.low _ _ (hge k' h1 hk').1 (hge k' h1 hk').2 hl
        rw [hz]
        grind
  · intro i j hi hj
    rw [C i j (by omega)]
    by_cases e : i = r
    · simp only [e, if_true] at hj ⊢
      exact Br0 j hj
    · simp only [e, if_false] at hj ⊢
      have hir : i < r := by omega
      have hl := h.lt i hir
      rw [Br0 j (by omega), Both i j e, htw i hir, h.left i j hir hj]
      grind
  · intro k' j hk' hm hj
    rw [C k' j hm]
    have e : k' ≠ r := by omega
    simp only [e, if_false]
    by_cases e2 : j = c
    · subst e2
      rw [Brc]
      grind
    · rw [Br0 j (by omega), Both k' j e, h.low _ j (hge k' (by omega) hm).1 (hge k' (by omega) hm).2 (by omega)]
      grind

/-- Behind the last column the first r rows are a reduced list, and the others vanish. -/
theorem Elim.rr {m n r : Nat} {piv : Nat → Nat} {R : Mx p} (h : Elim m n n r piv R) : RR r n R piv := by
  have := h.rm
  exact ⟨h.lt, h.inc, h.one, fun i k hi hk hn => h.col i k hi (by omega) hn, h.left⟩
theorem In_low {m r n : Nat} {R : Mx p} (hrm : r ≤ m) (h : ∀ k j, r ≤ k → k < m → j < n → R k j = 0) (v : Vec p) : In m n R v ↔ In r n R v := by
  constructor
  · rintro ⟨x, hx⟩
    refine ⟨x, fun j hj => ?_⟩
    rw [hx j hj]
    unfold comb
    rw [show m = r + (m - r) from by omega, S_append, S_zero' (n := m - r) (fun i hi => by rw [h (r + i) j (by omega) (by omega) hj]; grind)]
    grind
  · intro hv
    exact hv.trans fun i hi => In.row (by omega)

end Go.Proofs.YtpeaeminjbjlnaaDoor.La

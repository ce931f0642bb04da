/-
  What elimination gives: reduced lists, their uniqueness, ranks, kernels, inverses; on lists of lists of integers. Plain mathematics. Conditions: the number of elements is a field of the program's kind; rows of one length.
-/
import Derived.Test.YtpeaeminjbjlnaaDoorGe
namespace Go.Proofs.YtpeaeminjbjlnaaDoor
open La
set_option linter.unusedVariables false
variable {p : Nat} [NeZero p]

theorem one_ne (hf : fldN p = true) : (1 : Fin p) ≠ 0 := by
  have h2 := (of_decide_eq_true hf).1
  rw [← toF_one]
  exact toF_ne (by omega) (by omega) (by omega)
omit [NeZero p] in
theorem lt_p (hf : fldN p = true) : 1 < p := (of_decide_eq_true hf).1

/-! ### one round -/
theorem pivAt_none {R : List (List Int)} {c r : Nat} (hr : r ≤ R.length) (h : pivAt R c r = none) : ∀ k, r ≤ k → k < R.length → at2 R k c = 0 := by
  intro k hk hm
  have := firstFrom_none h k hk (by omega)
  simpa using this
theorem pivAt_some {R : List (List Int)} {c r k : Nat} (hr : r ≤ R.length) (h : pivAt R c r = some k) : r ≤ k ∧ k < R.length ∧ at2 R k c ≠ 0 := by
  obtain ⟨h1, h2, h3, _⟩ := firstFrom_some h
  exact ⟨h2, by omega, by simpa using h1⟩

structure GInv (p m n m' c : Nat) [NeZero p] (s : St) : Prop where
  lenR : s.R.length = m
  lenT : s.T.length = m
  okR : RowsOk p n s.R
  okT : RowsOk p m' s.T
  elim : ∃ piv, Elim m n c s.r piv (mx p s.R)

theorem stepWith_R {m n m' c k : Nat} {s : St} {piv : Nat → Nat} (hf : fldN p = true) (h : GInv p m n m' c s) (hc : c < n) (hk : s.r ≤ k) (hkm : k < m) (hy : at2 s.R k c ≠ 0)
    (he : Elim m n c s.r piv (mx p s.R)) :
    GInv p m n m' (c + 1) (stepWith p c k s) ∧ ∀ M T0 : Mx p, Inv m n M (mx p s.R) (mx p s.T) → Inv m n M (mx p (stepWith p c k s).R) (mx p (stepWith p c k s).T) := by
  have hrm : s.r < m := by omega
  have lR := h.lenR
  have lT := h.lenT
  have l1 := swapL_len s.R s.r k
  have l2 := swapL_len s.T s.r k
  have o1 := swapL_ok h.okR (a := s.r) (b := k) (by omega) (by omega)
  have o2 := swapL_ok h.okT (a := s.r) (b := k) (by omega) (by omega)
  generalize hy' : invI p (at2 (swapL s.R s.r k) s.r c) = y
  have hat : at2 (swapL s.R s.r k) s.r c = at2 s.R k c := by
    unfold at2
    rw [swapL_get (by omega) (by omega)]
    simp [tw]
  have hinv : mx p s.R k c * toF p y = 1 := by
    have hb := at2_ok (i := k) (c := c) h.okR
    rw [mx_at2, ← hy', hat]
    exact toF_inv hf (by omega) hb.2
  have l3 := divL_len (p := p) (swapL s.R s.r k) s.r y
  have l4 := divL_len (p := p) (swapL s.T s.r k) s.r y
  have o3 := divL_ok o1 (r := s.r) (by omega) y
  have o4 := divL_ok o2 (r := s.r) (by omega) y
  have e : stepWith p c k s = ⟨clearL p (divL p (swapL s.R s.r k) s.r y) c s.r (divL p (swapL s.R s.r k) s.r y), clearL p (divL p (swapL s.R s.r k) s.r y) c s.r (divL p (swapL s.T s.r k) s.r y), s.r + 1⟩ := by
    unfold stepWith
    simp only [hy']
  have eR : ∀ i j, mx p (divL p (swapL s.R s.r k) s.r y) i j = scale s.r (toF p y) (fun i => mx p s.R (tw s.r k i)) i j := by
    intro i j
    rw [mx_divL (by omega)]
    unfold La.scale
    rw [mx_swapL (by omega) (by omega)]
  have eT : ∀ i j, mx p (divL p (swapL s.T s.r k) s.r y) i j = scale s.r (toF p y) (fun i => mx p s.T (tw s.r k i)) i j := by
    intro i j
    rw [mx_divL (by omega)]
    unfold La.scale
    rw [mx_swapL (by omega) (by omega)]
  have fR : ∀ i, i < m → ∀ j, mx p (stepWith p c k s).R i j = clear m s.r c (scale s.r (toF p y) fun i => mx p s.R (tw s.r k i)) (scale s.r (toF p y) fun i => mx p s.R (tw s.r k i)) i j := by
    intro i hi j
    rw [e]
    rw [mx_clearL o3 (by omega) hrm i hi]
    unfold La.clear
    simp only [eR]
  have fT : ∀ i, i < m → ∀ j, mx p (stepWith p c k s).T i j = clear m s.r c (scale s.r (toF p y) fun i => mx p s.R (tw s.r k i)) (scale s.r (toF p y) fun i => mx p s.T (tw s.r k i)) i j := by
    intro i hi j
    rw [e]
    rw [mx_clearL o4 (by omega) hrm i hi]
    unfold La.clear
    simp only [eR, eT]
  refine ⟨⟨?_, ?_, ?_, ?_, ?_⟩, fun M T0 hI => ?_⟩
  · rw [e]; simp only [clearL_len]; omega
  · rw [e]; simp only [clearL_len]; omega
  · rw [e]; exact clearL_ok o3 (by omega)
  · rw [e]; exact clearL_ok o4 (by omega)
  · refine ⟨fun i => if i = s.r then c else piv i, ?_⟩
    have := he.some hc hk hkm hinv
    have hr : (stepWith (p : Int) c k s).r = s.r + 1 := rfl
    rw [hr]
    exact this.congr fun i hi j => (fR i hi j).symm
  · have h1 := (hI.swap (a := s.r) (b := k) hrm hkm).scale hrm (k := toF p y) (k' := mx p s.R k c) (by rw [← hinv]; grind)
    have h2 := h1.clear (c := c) hrm m (Nat.le_refl _)
    exact h2.congr (fun i hi j => (fR i hi j).symm) (fun i hi j => (fT i hi j).symm)

theorem step_inv {m n m' c : Nat} {s : St} (hf : fldN p = true) (h : GInv p m n m' c s) (hc : c < n) :
    GInv p m n m' (c + 1) (stepL p c s) ∧ ∀ M : Mx p, Inv m n M (mx p s.R) (mx p s.T) → Inv m n M (mx p (stepL p c s).R) (mx p (stepL p c s).T) := by
  obtain ⟨piv, he⟩ := h.elim
  have hrm := he.rm
  have lR := h.lenR
  unfold stepL
  cases hp : pivAt s.R c s.r with
  | none =>
    have h0 := pivAt_none (by omega) hp
    refine ⟨⟨h.lenR, h.lenT, h.okR, h.okT, piv, he.none hc fun k hk hm => ?_⟩, fun M hI => hI⟩
    rw [mx_at2, h0 k hk (by omega), toF_zero]
  | some k =>
    obtain ⟨h1, h2, h3⟩ := pivAt_some (by omega) hp
    have := stepWith_R hf h hc h1 (by omega) h3 he
    exact ⟨this.1, fun M hI => this.2 M M hI⟩

theorem red_inv {m n m' : Nat} {R T : List (List Int)} (hf : fldN p = true) (hR : RowsOk p n R) (hT : RowsOk p m' T) (lR : R.length = m) (lT : T.length = m) :
    ∀ c, c ≤ n → GInv p m n m' c (redTo p R T c) ∧ ∀ M : Mx p, Inv m n M (mx p R) (mx p T) → Inv m n M (mx p (redTo p R T c).R) (mx p (redTo p R T c).T) := by
  intro c
  induction c with
  | zero => intro _; exact ⟨⟨lR, lT, hR, hT, fun _ => 0, Elim.start _ _ _ _⟩, fun M h => h⟩
  | succ c ih =>
    intro hc
    obtain ⟨h1, h2⟩ := ih (by omega)
    have := step_inv hf h1 (by omega)
    exact ⟨this.1, fun M hI => this.2 M (h2 M hI)⟩

omit [NeZero p] in
/-- What is reduced does not hang on what is made beside it. -/
theorem redTo_R (q : Int) (R T T' : List (List Int)) : ∀ c, (redTo q R T c).R = (redTo q R T' c).R ∧ (redTo q R T c).r = (redTo q R T' c).r := by
  intro c
  induction c with
  | zero => exact ⟨rfl, rfl⟩
  | succ c ih =>
    obtain ⟨h1, h2⟩ := ih
    simp only [redTo]
    generalize redTo q R T c = s at h1 h2
    generalize redTo q R T' c = s' at h1 h2
    obtain ⟨sR, sT, sr⟩ := s
    obtain ⟨sR', sT', sr'⟩ := s'
    simp only at h1 h2
    subst h1 h2
    unfold stepL
    simp only
    cases pivAt sR c sr with
    | none => exact ⟨rfl, rfl⟩
    | some k => exact ⟨rfl, rfl⟩

/-! ### reduced lists -/
def IsRed (p n : Nat) [NeZero p] (L : List (List Int)) : Prop := RowsOk p n L ∧ ∃ piv, RR L.length n (mx p L) piv
def Spn (p n : Nat) [NeZero p] (L : List (List Int)) (v : Vec p) : Prop := In L.length n (mx p L) v
theorem red_unique {n : Nat} {L L' : List (List Int)} (hf : fldN p = true) (h : IsRed p n L) (h' : IsRed p n L') (hs : ∀ v, Spn p n L v ↔ Spn p n L' v) : L = L' := by
  obtain ⟨o, piv, hr⟩ := h
  obtain ⟨o', piv', hr'⟩ := h'
  obtain ⟨h1, _, h3⟩ := hr.unique hr' (one_ne hf) hs
  exact rows_ext o o' rfl h1.symm h3

def reducedL (p : Int) (n : Nat) (M : List (List Int)) : List (List Int) :=
  let s := redTo p M (List.replicate M.length []) n
  s.R.take s.r
def rankL (p : Int) (n : Nat) (M : List (List Int)) : Nat := (redTo p M (List.replicate M.length []) n).r
def kernelL (p : Int) (n : Nat) (M : List (List Int)) : List (List Int) :=
  let s := redTo p M (idL M.length) n
  reducedL p M.length (s.T.drop s.r)

theorem id_inv {m n : Nat} (M : Mx p) : Inv m n M M (mx p (idL m)) :=
  ⟨fun i hi j hj => by
      rw [(Inv.start m n M).made i hi j hj]
      exact S_congr fun t ht => by rw [mx_idL hi ht],
    fun x hx => (Inv.start m n M).indep x fun j hj => by
      refine Eq.trans ?_ (hx j hj)
      exact S_congr fun t ht => by rw [mx_idL ht hj],
    fun v => Iff.rfl⟩

/-- All that elimination with the identity beside it gives. -/
structure Ge (p m n : Nat) [NeZero p] (M : List (List Int)) (s : St) : Prop where
  lenR : s.R.length = m
  lenT : s.T.length = m
  okR : RowsOk p n s.R
  okT : RowsOk p m s.T
  rm : s.r ≤ m
  rr : ∃ piv, RR s.r n (mx p s.R) piv ∧ ∀ i k, i < s.r → k < m → k ≠ i → mx p s.R k (piv i) = 0
  low : ∀ k j, s.r ≤ k → k < m → j < n → mx p s.R k j = 0
  inv : Inv m n (mx p M) (mx p s.R) (mx p s.T)
theorem ge {m n : Nat} {M : List (List Int)} (hf : fldN p = true) (hM : RowsOk p n M) (hm : M.length = m) : Ge p m n M (redTo p M (idL m) n) := by
  obtain ⟨h, hI⟩ := red_inv hf hM (idL_ok (lt_p hf)) hm (idL_len m) n (Nat.le_refl _)
  obtain ⟨piv, he⟩ := h.elim
  exact ⟨h.lenR, h.lenT, h.okR, h.okT, he.rm, ⟨piv, he.rr, he.col⟩, he.low, hI _ (id_inv _)⟩

omit [NeZero p] in
theorem take_ok {n k : Nat} {L : List (List Int)} (h : RowsOk p n L) : RowsOk p n (L.take k) := fun row hr => h row (List.mem_of_mem_take hr)
omit [NeZero p] in
theorem drop_ok {n k : Nat} {L : List (List Int)} (h : RowsOk p n L) : RowsOk p n (L.drop k) := fun row hr => h row (List.mem_of_mem_drop hr)
theorem mx_take {L : List (List Int)} {k i : Nat} (hi : i < k) : mx p (L.take k) i = mx p L i := by
  unfold mx
  simp only [List.getD_eq_getElem?_getD]
  rw [List.getElem?_take, if_pos hi]
theorem mx_drop {L : List (List Int)} {k : Nat} (i : Nat) : mx p (L.drop k) i = mx p L (k + i) := by
  unfold mx
  simp only [List.getD_eq_getElem?_getD]
  rw [List.getElem?_drop]

theorem La.RR.congr' {r n : Nat} {A B : Mx p} {piv : Nat → Nat} (h : RR r n A piv) (e : ∀ i, i < r → A i = B i) : RR r n B piv :=
  ⟨h.lt, h.inc, fun i hi => by rw [← e i hi]; exact h.one i hi, fun i k hi hk hn => by rw [← e k hk]; exact h.col i k hi hk hn, fun i j hi hj => by rw [← e i hi]; exact h.left i j hi hj⟩

theorem reducedL_eq (q : Int) (n : Nat) (M T : List (List Int)) : reducedL q n M = (redTo q M T n).R.take (redTo q M T n).r := by
  unfold reducedL
  obtain ⟨h1, h2⟩ := redTo_R q M (List.replicate M.length []) T n
  simp only [h1, h2]
theorem rankL_eq (q : Int) (n : Nat) (M T : List (List Int)) : rankL q n M = (redTo q M T n).r := (redTo_R q M (List.replicate M.length []) T n).2

theorem reducedL_len {n : Nat} {M : List (List Int)} (hf : fldN p = true) (hM : RowsOk p n M) : (reducedL p n M).length = rankL p n M := by
  have g := ge hf hM rfl
  rw [reducedL_eq _ _ _ (idL M.length), rankL_eq _ _ _ (idL M.length), List.length_take, g.lenR]
  have := g.rm
  omega
theorem rank_le {n : Nat} {M : List (List Int)} (hf : fldN p = true) (hM : RowsOk p n M) : rankL p n M ≤ M.length := by
  rw [rankL_eq _ _ _ (idL M.length)]
  exact (ge hf hM rfl).rm
theorem reducedL_red {n : Nat} {M : List (List Int)} (hf : fldN p = true) (hM : RowsOk p n M) : IsRed p n (reducedL p n M) := by
  have g := ge hf hM rfl
  have hl := reducedL_len hf hM
  rw [rankL_eq _ _ _ (idL M.length)] at hl
  refine ⟨?_, ?_⟩
  · rw [reducedL_eq _ _ _ (idL M.length)]; exact take_ok g.okR
  · obtain ⟨piv, hr, _⟩ := g.rr
    refine ⟨piv, ?_⟩
    rw [hl]
    refine hr.congr' fun i hi => ?_
    rw [reducedL_eq _ _ _ (idL M.length), mx_take hi]

theorem reducedL_span {n : Nat} {M : List (List Int)} (hf : fldN p = true) (hM : RowsOk p n M) (v : Vec p) : Spn p n (reducedL p n M) v ↔ Spn p n M v := by
  have g := ge hf hM rfl
  have hl := reducedL_len hf hM
  rw [rankL_eq _ _ _ (idL M.length)] at hl
  unfold Spn
  rw [hl, ← g.inv.span, In_low g.rm g.low]
  constructor
  · intro h
    exact h.rows fun i hi j _ => by rw [reducedL_eq _ _ _ (idL M.length), mx_take hi]
  · intro h
    exact h.rows fun i hi j _ => by rw [reducedL_eq _ _ _ (idL M.length), mx_take hi]
theorem reducedL_self {n : Nat} {L : List (List Int)} (hf : fldN p = true) (h : IsRed p n L) : reducedL p n L = L :=
  red_unique hf (reducedL_red hf h.1) h fun v => reducedL_span hf h.1 v

/-! ### independent rows -/
theorem indep_rank {m n : Nat} {A : List (List Int)} (hf : fldN p = true) (hA : RowsOk p n A) (hl : A.length = m) (hi : Indep m n (mx p A)) : rankL p n A = m := by
  have g := ge hf hA hl
  rw [rankL_eq _ _ _ (idL m)]
  have hrm := g.rm
  rcases Nat.lt_or_ge (redTo p A (idL m) n).r m with h | h
  · exfalso
    generalize redTo (p : Int) A (idL m) n = s at g hrm h
    have h0 : ∀ j, j < m → mx p s.T s.r j = 0 := by
      refine hi (mx p s.T s.r) fun j hj => ?_
      rw [← g.inv.made s.r h j hj]
      exact g.low s.r j (Nat.le_refl _) h hj
    have h1 := g.inv.indep (fun i => if i = s.r then 1 else 0) (fun j hj => by
      unfold comb
      rw [S_one h (fun k _ hk => by simp [hk, f0m])]
      simp only [if_true, f1m]
      exact h0 j hj) s.r h
    simp only [if_true] at h1
    exact one_ne hf h1
  · omega

theorem red_indep {n : Nat} {L : List (List Int)} (h : IsRed p n L) : Indep L.length n (mx p L) := by
  obtain ⟨_, piv, hr⟩ := h
  exact hr.indep

/-! ### kernels -/
theorem kernelL_red {n : Nat} {M : List (List Int)} (hf : fldN p = true) (hM : RowsOk p n M) : IsRed p M.length (kernelL p n M) :=
  reducedL_red hf (drop_ok (ge hf hM rfl).okT)
theorem kernel_tail {m n : Nat} {M : List (List Int)} {s : St} (g : Ge p m n M s) : Indep (m - s.r) m (mx p (s.T.drop s.r)) := by
  intro x hx i hi
  have hrm := g.rm
  have := g.inv.indep (fun k => if k < s.r then 0 else x (k - s.r)) (fun j hj => by
    refine Eq.trans ?_ (hx j hj)
    unfold comb
    rw [show m = s.r + (m - s.r) from by omega, S_append, S_zero' (n := s.r) (fun i hi => by simp [hi, f0m]), show s.r + (m - s.r) - s.r = m - s.r from by omega, f0a]
    refine S_congr fun i _ => ?_
    have h1 : ¬ s.r + i < s.r := by omega
    simp only [h1, if_false, show s.r + i - s.r = i from by omega]
    rw [mx_drop]) (s.r + i) (by omega)
  have h1 : ¬ s.r + i < s.r := by omega
  simpa [h1, show s.r + i - s.r = i from by omega] using this
theorem kernelL_len {n : Nat} {M : List (List Int)} (hf : fldN p = true) (hM : RowsOk p n M) : (kernelL p n M).length = M.length - rankL p n M := by
  have g := ge hf hM rfl
  unfold kernelL
  simp only
  rw [reducedL_len hf (drop_ok g.okT)]
  have hl : ((redTo p M (idL M.length) n).T.drop (redTo p M (idL M.length) n).r).length = M.length - (redTo p M (idL M.length) n).r := by rw [List.length_drop, g.lenT]
  rw [indep_rank hf (drop_ok g.okT) hl (kernel_tail g), ← rankL_eq _ _ _ (idL M.length)]

/-- Square independent rows have an inverse at their left. -/
theorem left_inverse {m : Nat} {A : List (List Int)} (hf : fldN p = true) (hA : RowsOk p m A) (hl : A.length = m) (hi : Indep m m (mx p A)) :
    (∀ i, i < m → ∀ j, j < m → comb m (mx p (redTo p A (idL m) m).T i) (mx p A) j = if i = j then 1 else 0) ∧ rankL p m A = m := by
  have hr := indep_rank hf hA hl hi
  refine ⟨fun i hi' j hj => ?_, hr⟩
  have g := ge hf hA hl
  rw [rankL_eq _ _ _ (idL m)] at hr
  generalize redTo (p : Int) A (idL m) m = s at g hr
  obtain ⟨piv, h, hcol⟩ := g.rr
  rw [← g.inv.made i hi' j hj]
  rw [hr] at h hcol
  have hp : ∀ i, i < m → piv i = i := by
    have hge : ∀ i, i < m → i ≤ piv i := by
      intro i
      induction i with
      | zero => intro _; omega
      | succ i ih =>
        intro hi
        have h1 := ih (by omega)
        have h2 := h.inc i (i + 1) (by omega) hi
        omega
    have hle : ∀ d i, i + d + 1 = m → piv i ≤ i := by
      intro d
      induction d with
      | zero => intro i hi; have := h.lt i (by omega); omega
      | succ d ih =>
        intro i hi
        have h1 := ih (i + 1) (by omega)
        have h2 := h.inc i (i + 1) (by omega) (by omega)
        omega
    intro i hi
    have h1 := hge i hi
    have h2 := hle (m - i - 1) i (by omega)
    omega
  by_cases e : i = j
  · subst e
    have := h.one i hi'
    rw [hp i hi'] at this
    simp [this]
  · have := hcol j i hj hi' e
    rw [hp j hj] at this
    simp [this, e]

/-- x with x M = 0: the span of the kernel. -/
theorem kernelL_span {n : Nat} {M : List (List Int)} (hf : fldN p = true) (hM : RowsOk p n M) (x : Vec p) :
    Spn p M.length (kernelL p n M) x ↔ ∀ j, j < n → comb M.length x (mx p M) j = 0 := by
  have g := ge hf hM rfl
  have hsp := reducedL_span hf (drop_ok (k := (redTo p M (idL M.length) n).r) g.okT) x
  have hli := left_inverse hf g.okT g.lenT g.inv.indep
  have e0 : kernelL p n M = reducedL p M.length ((redTo p M (idL M.length) n).T.drop (redTo p M (idL M.length) n).r) := rfl
  rw [e0, hsp]
  generalize redTo (p : Int) M (idL M.length) n = s at *
  have hrm := g.rm
  unfold Spn
  rw [List.length_drop, g.lenT]
  have low : ∀ i, i < M.length - s.r → ∀ j, j < n → comb M.length (mx p (s.T.drop s.r) i) (mx p M) j = 0 := by
    intro i hi j hj
    rw [mx_drop, ← g.inv.made (s.r + i) (by omega) j hj]
    exact g.low _ j (by omega) (by omega) hj
  constructor
  · rintro ⟨y, hy⟩ j hj
    have e1 : comb M.length x (mx p M) j = S M.length (fun t => S (M.length - s.r) (fun i => y i * (mx p (s.T.drop s.r) i t * mx p M t j))) := by
      unfold comb
      refine S_congr fun t ht => ?_
      rw [hy t ht]
      unfold comb
      rw [← S_mulr]
      exact S_congr fun i _ => by grind
    rw [e1, S_comm]
    refine S_zero' fun i hi => ?_
    rw [S_mul]
    have := low i hi j hj
    unfold comb at this
    rw [this, fm0]
  · intro h0
    -- x = (x C) T with C the inverse of T
    let C := mx p (redTo p s.T (idL M.length) M.length).T
    let y : Vec p := fun t => S M.length (fun i => x i * C i t)
    have hx : ∀ j, j < M.length → x j = comb M.length y (mx p s.T) j := by
      intro j hj
      have e1 : comb M.length y (mx p s.T) j = S M.length (fun i => x i * comb M.length (C i) (mx p s.T) j) := by
        unfold comb
        have e2 : ∀ t, y t * mx p s.T t j = S M.length (fun i => x i * (C i t * mx p s.T t j)) := by
          intro t
          show S M.length (fun i => x i * C i t) * mx p s.T t j = _
          rw [← S_mulr]
          exact S_congr fun i _ => by grind
        simp only [e2]
        rw [S_comm]
        exact S_congr fun i _ => by rw [S_mul]
      rw [e1, S_one hj (fun i hi hn => by rw [hli.1 i hi j hj]; simp [hn, fm0]), hli.1 j hj j hj]
      simp [fm1]
    have hyR : ∀ j, j < n → comb M.length y (mx p s.R) j = 0 := by
      intro j hj
      rw [← h0 j hj]
      have e1 : comb M.length x (mx p M) j = S M.length (fun t => S M.length (fun i => y i * (mx p s.T i t * mx p M t j))) := by
        unfold comb
        refine S_congr fun t ht => ?_
        rw [hx t ht]
        unfold comb
        rw [← S_mulr]
        exact S_congr fun i _ => by grind
      rw [e1, S_comm]
      unfold comb
      refine S_congr fun i hi => ?_
      rw [S_mul, g.inv.made i hi j hj]
      rfl
    obtain ⟨piv, hr, hcol⟩ := g.rr
    have hy0 : ∀ i, i < s.r → y i = 0 := by
      intro i hi
      have h1 := hyR (piv i) (hr.lt i hi)
      unfold comb at h1
      rw [S_one (show i < M.length by omega) (fun k hk hn => by rw [hcol i k hi hk hn, fm0]), hr.one i hi, fm1] at h1
      exact h1
    refine ⟨fun i => y (s.r + i), fun j hj => ?_⟩
    rw [hx j hj]
    unfold comb
    have : ∀ k, k = M.length - s.r → S M.length (fun i => y i * mx p s.T i j) = S k (fun i => y (s.r + i) * mx p (s.T.drop s.r) i j) := by
      intro k hk
      rw [show M.length = s.r + k from by omega, S_append, S_zero' (n := s.r) (fun i hi => by rw [hy0 i hi, f0m]), f0a]
      exact S_congr fun i _ => by rw [mx_drop]
    exact this _ rfl

end Go.Proofs.YtpeaeminjbjlnaaDoor

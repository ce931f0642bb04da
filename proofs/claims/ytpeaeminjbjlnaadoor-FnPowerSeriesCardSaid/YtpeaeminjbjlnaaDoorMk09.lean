/-
  Small helping facts. Conditions: as each says.
-/
import Derived.Test.YtpeaeminjbjlnaaDoorMk08
import Derived.Test.YtpeaeminjbjlnaaDoorMk02
import Derived.Test.YtpeaeminjbjlnaaDoorMk04
import Derived.Test.YtpeaeminjbjlnaaDoorMk07
namespace Go.Proofs.YtpeaeminjbjlnaaDoor
open Go.RowKit
set_option linter.unusedVariables false

/-- short lists of short rows -/
def Small (n : Nat) (L : List (List Int)) : Prop := L.length ≤ n ∧ ∀ row ∈ L, row.length ≤ n
theorem getD_setI {zs : List Int} {k t : Nat} {x : Int} (h : k < zs.length) : (zs.set k x).getD t 0 = if t = k then x else zs.getD t 0 := by
  rw [List.getD_eq_getElem?_getD, List.getElem?_set]
  split
  · next e => subst e; simp
  · next e => rw [if_neg (Ne.symm e), List.getD_eq_getElem?_getD]
theorem ext_getD {x y : List Int} (h : x.length = y.length) (e : ∀ t, t < x.length → x.getD t 0 = y.getD t 0) : x = y := by
  refine List.ext_getElem h fun t h1 h2 => ?_
  have := e t h1
  rwa [List.getD_eq_getElem?_getD, List.getElem?_eq_getElem h1, List.getD_eq_getElem?_getD, List.getElem?_eq_getElem h2, Option.getD_some, Option.getD_some] at this
theorem gdrw (a : World) : a.grownBy a.drew none := ⟨rfl, rfl, rfl, Nat.le_refl _, fun _ _ _ => rfl⟩
theorem bx_one {w : World} {k : Nat} {x : Value} {t : TypeId} (h : w.heap[k]? = some (.cells #[x] t (0, 0))) : w.cell? ⟨k, 0, none⟩ = some x := cell_blk h 0
theorem nil_mat' (w : World) : MatV w (.slice none 0 0) [] := ⟨none, 0, rfl, fun h => absurd rfl h⟩
theorem mat_bd {p cols : Int} {M : List (List Int)} (h : matB p cols M = true) : 0 ≤ cols ∧ cols ≤ 24 ∧ M.length ≤ 24 := by
  unfold matB at h
  simp only [Bool.and_eq_true, decide_eq_true_eq] at h
  obtain ⟨_, h1, h2, _⟩ := h
  exact ⟨h1.1, h1.2, h2⟩
theorem prime_fld {p : Int} (h : p ∈ [(2 : Int), 3, 5, 7, 2, 3, 5, 11, 13, 97]) : ∃ q : Nat, p = q ∧ 2 ≤ q ∧ q ≤ 97 ∧ fldN q = true := by
  simp only [List.mem_cons, List.mem_nil_iff, or_false] at h
  rcases h with rfl | rfl | rfl | rfl | rfl | rfl | rfl | rfl | rfl | rfl
  · exact ⟨2, rfl, by decide, by decide, by decide⟩
  · exact ⟨3, rfl, by decide, by decide, by decide⟩
  · exact ⟨5, rfl, by decide, by decide, by decide⟩
  · exact ⟨7, rfl, by decide, by decide, by decide⟩
  · exact ⟨2, rfl, by decide, by decide, by decide⟩
  · exact ⟨3, rfl, by decide, by decide, by decide⟩
  · exact ⟨5, rfl, by decide, by decide, by decide⟩
  · exact ⟨11, rfl, by decide, by decide, by decide⟩
  · exact ⟨13, rfl, by decide, by decide, by decide⟩
  · exact ⟨97, rfl, by decide, by decide, by decide⟩
/-- the rows' places -/
theorem row_names {B g m c cn : Nat} {w : World} {vs : List Value} {L : List (List Int)} (h : OwnM B w (.slice (some ⟨g, 0, none⟩) m c) vs L) (hr : ∀ row ∈ L, row.length = cn) (hc : 0 < cn) :
    ∃ G C : Nat → Nat, ∀ i, i < L.length → vs.getD i nilS = .slice (some ⟨G i, 0, none⟩) cn (C i) := by
  have key : ∀ i, ∃ gc : Nat × Nat, i < L.length → vs.getD i nilS = .slice (some ⟨gc.1, 0, none⟩) cn gc.2 := by
    intro i
    by_cases hi : i < L.length
    · have hl := hr _ (getD_mem hi)
      obtain ⟨gi, ci, he, _⟩ := (h.row i).parts (by intro h0; rw [h0] at hl; simp at hl; omega)
      rw [hl] at he
      exact ⟨(gi, ci), fun _ => he⟩
    · exact ⟨(0, 0), fun h => absurd h hi⟩
  obtain ⟨F, hF⟩ := Classical.axiomOfChoice key
  exact ⟨fun i => (F i).1, fun i => (F i).2, hF⟩
theorem heads {W : World} {g l oc sz : Nat} {vs : List Value} {L : List (List Int)} {rest : List Asrt} {G C : Nat → Nat} (h : Sep W (OM (.slice (some ⟨g, 0, none⟩) l oc) vs L :: rest)) (hl : L.length = l)
    (hGC : ∀ i, i < l → vs.getD i nilS = .slice (some ⟨G i, 0, none⟩) sz (C i)) : ∀ i, i < l → W.cell? ⟨g, i, none⟩ = some (.slice (some ⟨G i, 0, none⟩) sz (C i)) := fun i hi => by
  rw [h.hd.cell hl.symm (by omega), hGC i hi]
theorem bend_elem {W : World} {g l oc sz : Nat} {vs : List Value} {L : List (List Int)} {rest : List Asrt} {G C : Nat → Nat} (h : Sep W (OM (.slice (some ⟨g, 0, none⟩) l oc) vs L :: rest)) (hl : L.length = l)
    (hGC : ∀ i, i < l → vs.getD i nilS = .slice (some ⟨G i, 0, none⟩) sz (C i)) (hr : ∀ row ∈ L, row.length = sz) {k j : Nat} (hk : k < l) (hj : j < sz) :
    ∃ old, W.cell? ⟨G k, j, none⟩ = some (.int .i64 old) ∧ W.frozen? ⟨G k, j, none⟩ = false ∧ ∀ x, Sep (W.setCell ⟨G k, j, none⟩ (.int .i64 x)) (OM (.slice (some ⟨g, 0, none⟩) l oc) vs (L.set k ((L.getD k []).set j x)) :: rest) := by
  have hlr := hr _ (getD_mem (show k < L.length by omega))
  obtain ⟨gi, ci, _, f1, f2, f3, f4⟩ := h.setM hl.symm (show k < L.length by omega) (show j < (L.getD k []).length by omega)
  rw [heads h hl hGC k hk] at f1
  simp only [Option.some.injEq, Value.slice.injEq, Addr.mk.injEq, and_true] at f1
  obtain ⟨rfl, _, _⟩ := f1
  exact ⟨_, f2, f3, f4⟩
end Go.Proofs.YtpeaeminjbjlnaaDoor

/-
  What the law of row reduction asks, for lists: the transforming matrix makes the reduced one, its inverse is one at both sides, rank and kernel add up, and kernel times matrix is zero. Plain mathematics. Conditions: the number of elements is a field of the program's kind; rows of one length with elements.
-/
namespace Go.Proofs.YtpeaeminjbjlnaaDoor
open La
set_option linter.unusedVariables false
section rr
variable {p : Nat} [NeZero p]

theorem vec_combTo {n k j : Nat} {x : List Int} {L : List (List Int)} (hp : 1 < p) (hL : RowsOk p n L) (hk : k ≤ L.length) (hj : j < n) :
    vec p (combTo p x L n k) j = S k (fun i => vec p x i * mx p L i j) := by
  induction k with
  | zero =>
    unfold combTo S
    rw [vec_at (by simp; exact hj), List.getElem_replicate]
    exact toF_zero
  | succ k ih =>
    unfold combTo S
    rw [vec_addT _ (by rw [(combTo_ok hp hL k (by omega)).1, (hL _ (getD_mem (show k < L.length by omega))).1]), ih (by omega)]
    rfl
theorem timesL_len (q : Int) (X L : List (List Int)) (n : Nat) : (timesL q X L n).length = X.length := by simp [timesL]
theorem timesL_ok {n : Nat} {X L : List (List Int)} (hp : 1 < p) (hL : RowsOk p n L) : RowsOk p n (timesL p X L n) := by
  intro row hrow
  obtain ⟨x, _, rfl⟩ := List.mem_map.1 hrow
  exact combTo_ok hp hL _ (Nat.le_refl _)
theorem mx_timesL {n i j : Nat} {X L : List (List Int)} (hp : 1 < p) (hL : RowsOk p n L) (hi : i < X.length) (hj : j < n) :
    mx p (timesL p X L n) i j = comb L.length (mx p X i) (mx p L) j := by
  rw [mx_at (by rw [timesL_len]; exact hi)]
  have e : (timesL p X L n)[i]'(by rw [timesL_len]; exact hi) = combTo p X[i] L n L.length := by simp [timesL]
  rw [e, vec_combTo hp hL (Nat.le_refl _) hj, mx_at hi]
  rfl
theorem comb_comb {k m : Nat} (x : Vec p) (A B : Mx p) (j : Nat) : comb m (fun t => comb k x A t) B j = comb k x (fun i => comb m (A i) B) j := by
  unfold comb
  have e : ∀ t, S k (fun i => x i * A i t) * B t j = S k (fun i => x i * (A i t * B t j)) := by
    intro t
    rw [← S_mulr]
    exact S_congr fun i _ => by grind
  simp only [e]
  rw [S_comm]
  exact S_congr fun i _ => by rw [S_mul]
theorem comb_delta {m j : Nat} (hj : j < m) (x : Vec p) {A : Mx p} (hA : ∀ i, i < m → A i j = if i = j then 1 else 0) : comb m x A j = x j := by
  unfold comb
  rw [S_one hj (fun i hi hn => by rw [hA i hi]; simp [hn, fm0]), hA j hj]
  simp [fm1]
theorem comb_delta' {m i : Nat} (hi : i < m) (A : Mx p) (j : Nat) : comb m (fun t => if i = t then 1 else 0) A j = A i j := by
  unfold comb
  rw [S_one hi (fun t ht hn => by simp [Ne.symm hn, f0m])]
  simp [f1m]
theorem comb_congr {m j : Nat} {x y : Vec p} {A B : Mx p} (h : ∀ t, t < m → x t = y t) (hA : ∀ t, t < m → A t j = B t j) : comb m x A j = comb m y B j := by
  unfold comb
  exact S_congr fun t ht => by rw [h t ht, hA t ht]

/-- The inverse at the left is the inverse at the right. -/
theorem right_inverse {m : Nat} {A : List (List Int)} (hf : fldN p = true) (hA : RowsOk p m A) (hl : A.length = m) (hi : Indep m m (mx p A)) :
    ∀ i, i < m → ∀ j, j < m → comb m (mx p A i) (mx p (redTo p A (idL m) m).T) j = if i = j then 1 else 0 := by
  have g := ge hf hA hl
  obtain ⟨hBA, _⟩ := left_inverse hf hA hl hi
  obtain ⟨hCB, _⟩ := left_inverse hf g.okT g.lenT g.inv.indep
  generalize redTo (p : Int) A (idL m) m = s at *
  generalize mx p (redTo (p : Int) s.T (idL m) m).T = C at *
  have hAC : ∀ i, i < m → ∀ j, j < m → mx p A i j = C i j := by
    intro i hi j hj
    rw [← comb_delta' hi (mx p A) j, comb_congr (B := mx p A) (fun t ht => (hCB i hi t ht).symm) (fun _ _ => rfl), comb_comb]
    exact comb_delta hj _ fun t ht => hBA t ht j hj
  intro i hi j hj
  rw [comb_congr (hAC i hi) (fun _ _ => rfl)]
  exact hCB i hi j hj

/-- The transforming matrix makes the reduced one. -/
theorem rr_made {n : Nat} {M : List (List Int)} (hf : fldN p = true) (hM : RowsOk p n M) :
    timesL p (redTo p M (idL M.length) n).T M n = (redTo p M (idL M.length) n).R := by
  have g := ge hf hM rfl
  generalize redTo (p : Int) M (idL M.length) n = s at *
  refine rows_ext (timesL_ok (lt_p hf) hM) g.okR (by rw [timesL_len]; exact g.lenT) g.lenR fun i hi j hj => ?_
  rw [mx_timesL (lt_p hf) hM (by rw [g.lenT]; exact hi) hj, g.inv.made i hi j hj]
theorem rr_back {n : Nat} {M : List (List Int)} (hf : fldN p = true) (hM : RowsOk p n M) :
    (redTo p (redTo p M (idL M.length) n).T (idL M.length) M.length).r = M.length ∧
    timesL p (redTo p M (idL M.length) n).T (redTo p (redTo p M (idL M.length) n).T (idL M.length) M.length).T M.length = idL M.length := by
  have g := ge hf hM rfl
  generalize redTo (p : Int) M (idL M.length) n = s at *
  have hr := indep_rank hf g.okT g.lenT g.inv.indep
  rw [rankL_eq _ _ _ (idL M.length)] at hr
  refine ⟨hr, ?_⟩
  have h2 := right_inverse hf g.okT g.lenT g.inv.indep
  have g2 := ge hf g.okT g.lenT
  generalize redTo (p : Int) s.T (idL M.length) M.length = t at *
  refine rows_ext (timesL_ok (lt_p hf) g2.okT) (idL_ok (lt_p hf)) (by rw [timesL_len]; exact g.lenT) (idL_len _) fun i hi j hj => ?_
  rw [mx_timesL (lt_p hf) g2.okT (by rw [g.lenT]; exact hi) hj, g2.lenT, h2 i hi j hj, mx_idL hi hj]
theorem rr_sum {n : Nat} {M : List (List Int)} (hf : fldN p = true) (hM : RowsOk p n M) : rankL p n M + (kernelL p n M).length = M.length := by
  rw [kernelL_len hf hM]
  have := rank_le hf hM
  omega
/-- Kernel times matrix is zero. -/
theorem rr_zero {n : Nat} {M : List (List Int)} (hf : fldN p = true) (hM : RowsOk p n M) {x : List Int} (hx : x ∈ kernelL p n M) : ∀ z ∈ combTo p x M n M.length, z = 0 := by
  have hsp : ∀ j, j < n → comb M.length (vec p x) (mx p M) j = 0 := by
    rw [← kernelL_span hf hM]
    obtain ⟨i, hi, rfl⟩ := List.getElem_of_mem hx
    have := In.row (n := M.length) (A := mx p (kernelL p n M)) hi
    rw [mx_at hi] at this
    exact this
  have hok := combTo_ok (x := x) (lt_p hf) hM _ (Nat.le_refl _)
  intro z hz
  obtain ⟨j, hj, rfl⟩ := List.getElem_of_mem hz
  have hb := hok.2 _ (List.getElem_mem hj)
  have hjn : j < n := by rw [← hok.1]; exact hj
  refine Classical.byContradiction fun hne => toF_ne hb.1 hb.2 hne ?_
  rw [← vec_at hj, vec_combTo (lt_p hf) hM (Nat.le_refl _) hjn]
  exact hsp j hjn
end rr
end Go.Proofs.YtpeaeminjbjlnaaDoor

/-
  Determinants: expansion along the first column; row operations; products. Plain mathematics. Conditions: the number of elements is a field of the program's kind; rows of one length with elements.
-/
namespace Go.Proofs.YtpeaeminjbjlnaaDoor
open La
set_option linter.unusedVariables false
section det
variable {p : Nat} [NeZero p]

def minor (i : Nat) (A : Mx p) : Mx p := fun r c => A (if r < i then r else r + 1) (c + 1)
def sgn : Nat → Fin p
  | 0 => 1
  | i + 1 => - sgn i
def Ldet : Nat → Mx p → Fin p
  | 0, _ => 1
  | n + 1, A => S (n + 1) fun i => sgn i * A i 0 * Ldet n (minor i A)
def updR (k : Nat) (v : Vec p) (A : Mx p) : Mx p := fun i => if i = k then v else A i
theorem Ldet_congr : ∀ (n : Nat) {A B : Mx p}, (∀ i, i < n → ∀ j, j < n → A i j = B i j) → Ldet n A = Ldet n B := by
  intro n
  induction n with
  | zero => intro A B _; rfl
  | succ n ih =>
    intro A B h
    unfold Ldet
    refine S_congr fun i hi => ?_
    rw [h i hi 0 (by omega), ih (A := minor i A) (B := minor i B) fun r hr c hc => ?_]
    unfold minor
    refine h _ ?_ _ (by omega)
    split <;> omega
omit [NeZero p] in
theorem minor_upd_same (k : Nat) (v : Vec p) (A : Mx p) : minor k (updR k v A) = minor k A := by
  funext r c
  unfold minor updR
  rw [if_neg (by split <;> omega)]
omit [NeZero p] in
theorem minor_upd {i k : Nat} (h : i ≠ k) (v : Vec p) (A : Mx p) : minor i (updR k v A) = updR (if k < i then k else k - 1) (fun c => v (c + 1)) (minor i A) := by
  funext r c
  unfold minor updR
  have e : ((if r < i then r else r + 1) = k) ↔ (r = if k < i then k else k - 1) := by split <;> split <;> omega
  by_cases hr : (if r < i then r else r + 1) = k
  · rw [if_pos hr, if_pos (e.1 hr)]
  · rw [if_neg hr, if_neg (fun h' => hr (e.2 h'))]
theorem Ldet_lin : ∀ (n : Nat) {k : Nat} (hk : k < n) (a b : Fin p) (u v : Vec p) (A : Mx p), Ldet n (updR k (fun j => a * u j + b * v j) A) = a * Ldet n (updR k u A) + b * Ldet n (updR k v A) := by
  intro n
  induction n with
  | zero => intro k hk; omega
  | succ n ih =>
    intro k hk a b u v A
    unfold Ldet
    rw [← S_mul, ← S_mul, ← S_add]
    refine S_congr fun i hi => ?_
    by_cases h : i = k
    · subst h
      rw [minor_upd_same, minor_upd_same, minor_upd_same]
      simp only [updR, if_true]
      grind
    · rw [minor_upd h, minor_upd h, minor_upd h, ih (by split <;> omega)]
      simp only [updR, if_neg h]
      grind
theorem S_pair {n k : Nat} (hk : k + 1 < n) {f : Nat → Fin p} (h : ∀ i, i < n → i ≠ k → i ≠ k + 1 → f i = 0) (h2 : f k + f (k + 1) = 0) : S n f = 0 := by
  rw [S_split (show k < n by omega), S_one hk]
  · rw [if_neg (by omega)]; exact h2
  · intro i hi hn
    by_cases e : i = k
    · rw [if_pos e]
    · rw [if_neg e]; exact h i hi e hn
theorem Ldet_adj : ∀ (n : Nat) {k : Nat} (hk : k + 1 < n) {A : Mx p}, A k = A (k + 1) → Ldet n A = 0 := by
  intro n
  induction n with
  | zero => intro k hk; omega
  | succ n ih =>
    intro k hk A h
    unfold Ldet
    refine S_pair hk (fun i hi h1 h2 => ?_) ?_
    · have : Ldet n (minor i A) = 0 := by
        by_cases hik : i < k
        · refine ih (k := k - 1) (by omega) ?_
          funext c
          unfold minor
          rw [if_neg (by omega), if_neg (by omega), show k - 1 + 1 = k by omega, h]
        · refine ih (k := k) (by omega) ?_
          funext c
          unfold minor
          rw [if_pos (by omega), if_pos (by omega), h]
      rw [this]
      grind
    · have : minor k A = minor (k + 1) A := by
        funext r c
        unfold minor
        by_cases h1 : r < k
        · rw [if_pos h1, if_pos (by omega)]
        · by_cases h2 : r = k
          · subst h2; rw [if_neg h1, if_pos (by omega), h]
          · rw [if_neg h1, if_neg (by omega)]
      rw [← this, ← h]
      simp only [sgn]
      grind
omit [NeZero p] in
theorem upd_upd {i j : Nat} (h : i ≠ j) (u v : Vec p) (A : Mx p) : updR i u (updR j v A) = updR j v (updR i u A) := by
  funext r
  unfold updR
  by_cases h1 : r = i
  · rw [if_pos h1, if_neg (by omega), if_pos h1]
  · rw [if_neg h1]
    by_cases h2 : r = j
    · rw [if_pos h2, if_pos h2]
    · rw [if_neg h2, if_neg h2, if_neg h1]
/-- Exchanging two rows turns the sign, where equal rows give zero. -/
theorem swap_of_alt {n i j : Nat} (hi : i < n) (hj : j < n) (hij : i ≠ j) (alt : ∀ A : Mx p, A i = A j → Ldet n A = 0) (A : Mx p) : Ldet n (fun r => A (tw i j r)) = - Ldet n A := by
  have e1 : ∀ u v : Vec p, Ldet n (updR i (fun c => 1 * u c + 1 * v c) (updR j (fun c => 1 * u c + 1 * v c) A)) = 0 := fun u v => alt _ (by
    unfold updR
    rw [if_pos rfl, if_neg (Ne.symm hij), if_pos rfl])
  have e2 : ∀ u : Vec p, Ldet n (updR i u (updR j u A)) = 0 := fun u => alt _ (by
    unfold updR
    rw [if_pos rfl, if_neg (Ne.symm hij), if_pos rfl])
  have h := e1 (A i) (A j)
  rw [Ldet_lin n hi] at h
  rw [upd_upd hij, upd_upd hij, Ldet_lin n hj, Ldet_lin n hj, upd_upd (Ne.symm hij), upd_upd (Ne.symm hij), upd_upd (Ne.symm hij), upd_upd (Ne.symm hij), e2, e2] at h
  have a1 : updR i (A i) (updR j (A j) A) = A := by
    funext r
    unfold updR
    by_cases h1 : r = i
    · rw [if_pos h1, h1]
    · rw [if_neg h1]
      by_cases h2 : r = j
      · rw [if_pos h2, h2]
      · rw [if_neg h2]
  have a2 : updR i (A j) (updR j (A i) A) = fun r => A (tw i j r) := by
    funext r
    unfold updR tw
    by_cases h1 : r = i
    · rw [if_pos h1, if_pos h1]
    · rw [if_neg h1, if_neg h1]
      by_cases h2 : r = j
      · rw [if_pos h2, if_pos h2]
      · rw [if_neg h2, if_neg h2]
  rw [a1, a2] at h
  grind
theorem Ldet_alt_lt {n : Nat} : ∀ d {i : Nat} (hj : i + d + 1 < n) (A : Mx p), A i = A (i + d + 1) → Ldet n A = 0 := by
  intro d
  induction d with
  | zero => intro i hj A h; exact Ldet_adj n hj h
  | succ d ih =>
    intro i hj A h
    have hs := swap_of_alt (p := p) (n := n) (i := i + d + 1) (j := i + d + 1 + 1) (by omega) (by omega) (by omega) (fun B hB => Ldet_adj n (by omega) hB) A
    have h0 := ih (i := i) (by omega) (fun r => A (tw (i + d + 1) (i + d + 1 + 1) r)) (by
      have t1 : tw (i + d + 1) (i + d + 1 + 1) i = i := by unfold tw; rw [if_neg (by omega), if_neg (by omega)]
      have t2 : tw (i + d + 1) (i + d + 1 + 1) (i + d + 1) = i + d + 1 + 1 := by unfold tw; rw [if_pos rfl]
      show A (tw _ _ i) = A (tw _ _ (i + d + 1))
      rw [t1, t2]
      exact h)
    rw [hs] at h0
    grind
theorem Ldet_alt {n i j : Nat} (hi : i < n) (hj : j < n) (hij : i ≠ j) {A : Mx p} (h : A i = A j) : Ldet n A = 0 := by
  rcases Nat.lt_or_gt_of_ne hij with h1 | h1
  · obtain ⟨d, rfl⟩ : ∃ d, j = i + d + 1 := ⟨j - i - 1, by omega⟩
    exact Ldet_alt_lt d hj A h
  · obtain ⟨d, rfl⟩ : ∃ d, i = j + d + 1 := ⟨i - j - 1, by omega⟩
    exact Ldet_alt_lt d hi A h.symm
theorem Ldet_swap {n i j : Nat} (hi : i < n) (hj : j < n) (hij : i ≠ j) (A : Mx p) : Ldet n (fun r => A (tw i j r)) = - Ldet n A := swap_of_alt hi hj hij (fun _ h => Ldet_alt hi hj hij h) A
omit [NeZero p] in
theorem upd_self (k : Nat) (A : Mx p) : updR k (A k) A = A := by
  funext r
  unfold updR
  by_cases h : r = k
  · rw [if_pos h, h]
  · rw [if_neg h]
theorem Ldet_scale {n r : Nat} (hr : r < n) (y : Fin p) (A : Mx p) : Ldet n (scale r y A) = A r r * 0 + y * Ldet n A := by
  have e : scale r y A = updR r (fun j => y * A r j + 0 * A r j) A := by
    funext i j
    unfold La.scale updR
    by_cases h : i = r
    · subst h; simp only [if_true]; grind
    · simp only [h, if_false]
  rw [e, Ldet_lin n hr, upd_self]
  grind
theorem Ldet_less {n i r : Nat} (hi : i < n) (hr : r < n) (hn : i ≠ r) (k : Fin p) (A : Mx p) : Ldet n (La.less i r k A) = Ldet n A := by
  have e : La.less i r k A = updR i (fun j => 1 * A i j + (-k) * A r j) A := by
    funext t j
    unfold La.less updR
    by_cases h : t = i
    · subst h; simp only [if_true]; grind
    · simp only [h, if_false]
  rw [e, Ldet_lin n hi, upd_self, Ldet_alt hi hr hn (A := updR i (A r) A) (by
    unfold updR
    rw [if_pos rfl, if_neg (Ne.symm hn)])]
  grind
theorem Ldet_zero_row {n r : Nat} (hr : r < n) {A : Mx p} (h : ∀ j, j < n → A r j = 0) : Ldet n A = 0 := by
  have e : Ldet n A = Ldet n (updR r (fun j => 0 * A r j + 0 * A r j) A) := by
    refine Ldet_congr n fun i hi j hj => ?_
    unfold updR
    by_cases h1 : i = r
    · rw [if_pos h1, h1, h j hj]; grind
    · rw [if_neg h1]
  rw [e, Ldet_lin n hr]
  grind
theorem Ldet_zero_col {n : Nat} {A : Mx p} (h : ∀ i, i < n + 1 → A i 0 = 0) : Ldet (n + 1) A = 0 := by
  unfold Ldet
  refine S_zero' fun i hi => ?_
  rw [h i hi]
  grind
theorem Ldet_first {n : Nat} {A : Mx p} (h : ∀ i, 0 < i → i < n + 1 → A i 0 = 0) : Ldet (n + 1) A = A 0 0 * Ldet n (fun i j => A (i + 1) (j + 1)) := by
  show S (n + 1) (fun i => sgn i * A i 0 * Ldet n (minor i A)) = _
  rw [S_one (show 0 < n + 1 by omega) (fun i hi hn => by rw [h i (by omega) hi]; grind)]
  have : minor 0 A = fun i j => A (i + 1) (j + 1) := by
    funext r c
    unfold minor
    rw [if_neg (by omega)]
  rw [this]
  simp only [sgn]
  grind
theorem Ldet_id : ∀ n, Ldet n (fun i j => if i = j then (1 : Fin p) else 0) = 1 := by
  intro n
  induction n with
  | zero => rfl
  | succ n ih =>
    rw [Ldet_first (fun i h0 hi => by rw [if_neg (by omega)]), if_pos rfl, show (fun i j => if i + 1 = j + 1 then (1 : Fin p) else 0) = (fun i j => if i = j then (1 : Fin p) else 0) from funext fun i => funext fun j => by simp, ih]
    grind
theorem Ldet_clear {n r c : Nat} (hr : r < n) (R : Mx p) : ∀ t, t ≤ n → ∀ A : Mx p, Ldet n (La.clear t r c R A) = Ldet n A := by
  intro t
  induction t with
  | zero => intro _ A; exact Ldet_congr n fun i hi j hj => by simp [La.clear]
  | succ t ih =>
    intro ht A
    by_cases e : t = r
    · subst e
      rw [← ih (by omega) A]
      refine Ldet_congr n fun i hi j hj => ?_
      unfold La.clear
      by_cases h2 : i < t
      · simp [h2, show i < t + 1 from by omega]
      · by_cases h3 : i = t
        · simp [h3]
        · simp [h2, show ¬ i < t + 1 from by omega]
    · rw [← ih (by omega) A, ← Ldet_less (i := t) (r := r) (by omega) hr e (R t c) (La.clear t r c R A)]
      refine Ldet_congr n fun i hi j hj => ?_
      unfold La.less La.clear
      by_cases h3 : i = t
      · subst h3
        simp [e]
      · by_cases h4 : i < t
        · simp [h3, h4, show i < t + 1 from by omega]
        · simp [h3, h4, show ¬ i < t + 1 from by omega]

/-! ### products -/
def prodM (m : Nat) (A B : Mx p) : Mx p := fun i => comb m (A i) B
theorem prod_clear {m t r c : Nat} (R A B : Mx p) : prodM m (La.clear t r c R A) B = La.clear t r c R (prodM m A B) := by
  funext i j
  unfold prodM La.clear
  by_cases h : i < t ∧ i ≠ r
  · simp only [h, if_true, ne_eq, not_false_eq_true, and_self]
    unfold comb
    rw [← S_mul, ← S_sub]
    exact S_congr fun k _ => by grind
  · simp only [h, if_false]
theorem prod_scale {m r : Nat} (y : Fin p) (A B : Mx p) : prodM m (scale r y A) B = scale r y (prodM m A B) := by
  funext i j
  unfold prodM La.scale
  by_cases h : i = r
  · simp only [h, if_true]
    unfold comb
    rw [← S_mulr]
    exact S_congr fun k _ => by grind
  · simp only [h, if_false]
/-- what the steps of a reduction do to determinants of products -/
structure DetTo (m : Nat) (M R : Mx p) : Prop where
  ex : ∃ s, ∀ B : Mx p, Ldet m (prodM m M B) = s * Ldet m (prodM m R B)
theorem DetTo.refl (m : Nat) (M : Mx p) : DetTo m M M := ⟨1, fun B => by grind⟩
theorem DetTo.congr {m : Nat} {M R R' : Mx p} (h : DetTo m M R) (e : ∀ i, i < m → ∀ j, j < m → R i j = R' i j) : DetTo m M R' := by
  obtain ⟨s, hs⟩ := h.ex
  refine ⟨s, fun B => ?_⟩
  rw [hs B]
  congr 1
  refine Ldet_congr m fun i hi j hj => ?_
  exact comb_congr (fun t ht => e i hi t ht) fun _ _ => rfl
theorem DetTo.step {m r k c : Nat} {M R : Mx p} {y z : Fin p} (h : DetTo m M R) (hr : r < m) (hk : k < m) (hy : z * y = 1) :
    DetTo m M (La.clear m r c (scale r y fun i => R (tw r k i)) (scale r y fun i => R (tw r k i))) := by
  obtain ⟨s, hs⟩ := h.ex
  by_cases hrk : r = k
  · refine ⟨s * z, fun B => ?_⟩
    rw [prod_clear, Ldet_clear hr _ m (Nat.le_refl _), prod_scale, Ldet_scale hr, hs B]
    have : prodM m (fun i => R (tw r k i)) B = prodM m R B := by
      funext i
      unfold prodM tw
      subst hrk
      show comb m (R (if i = r then r else if i = r then r else i)) B = _
      by_cases h1 : i = r
      · rw [if_pos h1, h1]
      · rw [if_neg h1, if_neg h1]
    rw [this]
    grind
  · refine ⟨- (s * z), fun B => ?_⟩
    rw [prod_clear, Ldet_clear hr _ m (Nat.le_refl _), prod_scale, Ldet_scale hr, hs B]
    have : prodM m (fun i => R (tw r k i)) B = fun i => prodM m R B (tw r k i) := rfl
    rw [this, Ldet_swap hr hk hrk]
    grind
end det
end Go.Proofs.YtpeaeminjbjlnaaDoor

/-
  Determinants by elimination, as the program goes. Plain mathematics. Conditions: the number of elements is a field of the program's kind; square rows with elements.
-/
namespace Go.Proofs.YtpeaeminjbjlnaaDoor
open La
set_option linter.unusedVariables false
section det2
variable {q : Nat} [NeZero q]

def subM (c : Nat) (R : Mx q) : Mx q := fun i j => R (c + i) (c + j)
/-- the state of the elimination ahead of column c -/
structure DetS (q n : Nat) [NeZero q] (A : Mx q) (c : Nat) (R : List (List Int)) (out : Int) : Prop where
  len : R.length = n
  ok : RowsOk q n R
  lo : 0 ≤ out
  hi : out < q
  det : Ldet n A = toF q out * Ldet (n - c) (subM c (mx q R))
theorem DetS.start {n : Nat} {A : List (List Int)} (hq : 2 ≤ q) (hl : A.length = n) (hA : RowsOk q n A) : DetS q n (mx q A) 0 A 1 := by
  refine ⟨hl, hA, by omega, by omega, ?_⟩
  rw [toF_one, Nat.sub_zero]
  have : subM 0 (mx q A) = mx q A := by
    funext i j
    unfold subM
    rw [Nat.zero_add, Nat.zero_add]
  rw [this]
  grind
theorem DetS.zero {n c : Nat} {A : Mx q} {R : List (List Int)} {out : Int} (h : DetS q n A c R out) (hc : c < n) (hz : ∀ i, c ≤ i → i < n → at2 R i c = 0) : Ldet n A = 0 := by
  obtain ⟨m, hm⟩ : ∃ m, n - c = m + 1 := ⟨n - c - 1, by omega⟩
  rw [h.det, hm, Ldet_zero_col fun i hi => ?_]
  · grind
  · unfold subM
    rw [Nat.add_zero, mx_at2, hz (c + i) (by omega) (by omega), toF_zero]
theorem DetS.fin {n : Nat} {A : Mx q} {R : List (List Int)} {out : Int} (h : DetS q n A n R out) : Ldet n A = toF q out := by
  rw [h.det, Nat.sub_self]
  simp only [Ldet]
  grind
omit [NeZero q] in
theorem swap_ok {n a b : Nat} {R : List (List Int)} (h : RowsOk q n R) (ha : a < R.length) (hb : b < R.length) : RowsOk q n (swapL R a b) := by
  intro row hr
  unfold swapL at hr
  rcases List.mem_or_eq_of_mem_set hr with h1 | h1
  · rcases List.mem_or_eq_of_mem_set h1 with h2 | h2
    · exact h row h2
    · rw [h2]; exact h _ (getD_mem hb)
  · rw [h1]; exact h _ (getD_mem ha)
theorem DetS.swap {n c k : Nat} {A : Mx q} {R : List (List Int)} {out : Int} (h : DetS q n A c R out) (hc : c < k) (hk : k < n) : DetS q n A c (swapL R k c) ((-out) % q) := by
  have hl := h.len
  have hq : (q : Int) ≠ 0 := by have := h.lo; have := h.hi; omega
  refine ⟨by rw [show (swapL R k c).length = R.length by simp [swapL]]; exact hl, swap_ok h.ok (by omega) (by omega), Int.emod_nonneg _ hq, Int.emod_lt_of_pos _ (by have := h.lo; have := h.hi; omega), ?_⟩
  have e : subM c (mx q (swapL R k c)) = fun i => subM c (mx q R) (tw (k - c) 0 i) := by
    funext i j
    unfold subM
    rw [mx_swapL (by omega) (by omega)]
    unfold tw
    by_cases h1 : i = k - c
    · rw [if_pos (show c + i = k by omega), if_pos h1, Nat.add_zero]
    · rw [if_neg (show ¬ c + i = k by omega), if_neg h1]
      by_cases h2 : i = 0
      · rw [if_pos (show c + i = c by omega), if_pos h2, show c + (k - c) = k by omega]
      · rw [if_neg (show ¬ c + i = c by omega), if_neg h2]
  rw [e, Ldet_swap (show k - c < n - c by omega) (show 0 < n - c by omega) (by omega), toF_emod, toF_neg, h.det]
  grind

def elimTo (p : Int) (R : List (List Int)) (c : Nat) (y : Int) (i : Nat) : List (List Int) :=
  (List.range R.length).map fun t => if c < t ∧ t < i then addT p (R.getD t []) (-(at2 R t c) * y) (R.getD c []) else R.getD t []
theorem elim_len (p : Int) (R : List (List Int)) (c : Nat) (y : Int) (i : Nat) : (elimTo p R c y i).length = R.length := by simp [elimTo]
theorem elim_at {p : Int} {R : List (List Int)} {c i t : Nat} {y : Int} (ht : t < R.length) : (elimTo p R c y i).getD t [] = if c < t ∧ t < i then addT p (R.getD t []) (-(at2 R t c) * y) (R.getD c []) else R.getD t [] := by
  unfold elimTo
  rw [List.getD_eq_getElem?_getD, List.getElem?_map, List.getElem?_range ht]
  rfl
theorem elim_start (p : Int) (R : List (List Int)) (c : Nat) (y : Int) : elimTo p R c y (c + 1) = R := by
  refine List.ext_getElem (elim_len _ _ _ _ _) fun t h1 h2 => ?_
  have := elim_at (p := p) (c := c) (i := c + 1) (y := y) h2
  rw [if_neg (by omega), List.getD_eq_getElem?_getD, List.getElem?_eq_getElem h1, List.getD_eq_getElem?_getD, List.getElem?_eq_getElem h2, Option.getD_some, Option.getD_some] at this
  exact this
theorem elim_step {p : Int} {R : List (List Int)} {c i : Nat} {y : Int} (hc : c < i) (hi : i < R.length) : (elimTo p R c y i).set i (addT p (R.getD i []) (-(at2 R i c) * y) (R.getD c [])) = elimTo p R c y (i + 1) := by
  refine List.ext_getElem (by rw [List.length_set, elim_len, elim_len]) fun t h1 h2 => ?_
  rw [List.length_set, elim_len] at h1
  have a1 := elim_at (p := p) (c := c) (i := i) (y := y) h1
  have a2 := elim_at (p := p) (c := c) (i := i + 1) (y := y) h1
  rw [List.getD_eq_getElem?_getD, List.getElem?_eq_getElem (by rw [elim_len]; exact h1), Option.getD_some] at a1 a2
  rw [List.getElem_set, a2]
  by_cases h : i = t
  · subst h
    rw [if_pos rfl, if_pos ⟨hc, by omega⟩]
  · rw [if_neg h, a1]
    by_cases h3 : c < t ∧ t < i
    · rw [if_pos h3, if_pos ⟨h3.1, by omega⟩]
    · rw [if_neg h3, if_neg (by omega)]
theorem elim_ok {n c i : Nat} {R : List (List Int)} {y : Int} (h : RowsOk q n R) (hc : c < R.length) : RowsOk q n (elimTo q R c y i) := by
  intro row hr
  unfold elimTo at hr
  obtain ⟨t, ht, rfl⟩ := List.mem_map.1 hr
  rw [List.mem_range] at ht
  split
  · exact addT_ok _ (h _ (getD_mem ht)).1 (h _ (getD_mem hc)).1
  · exact h _ (getD_mem ht)
theorem DetS.pivot {n c : Nat} {A : Mx q} {R : List (List Int)} {out : Int} (h : DetS q n A c R out) (hf : fldN q = true) (hc : c < n) (hd : at2 R c c ≠ 0) : DetS q n A (c + 1) (elimTo q R c (invI q (at2 R c c)) n) (out * at2 R c c % q) := by
  have hl := h.len
  have hq : (q : Int) ≠ 0 := by have := h.lo; have := h.hi; omega
  have hb := at2_ok (i := c) (c := c) h.ok
  have hinv := toF_inv hf (b := at2 R c c) (by omega) hb.2
  refine ⟨by rw [elim_len]; exact hl, elim_ok h.ok (by omega), Int.emod_nonneg _ hq, Int.emod_lt_of_pos _ (by have := h.lo; have := h.hi; omega), ?_⟩
  obtain ⟨m, hm⟩ : ∃ m, n - c = m + 1 := ⟨n - c - 1, by omega⟩
  have hm2 : n - (c + 1) = m := by omega
  have hdet := h.det
  rw [hm] at hdet
  rw [hm2, hdet, toF_emod, toF_mul]
  have h00 : subM c (mx q R) 0 0 = toF q (at2 R c c) := by unfold subM; rw [Nat.add_zero, mx_at2]
  rw [← Ldet_clear (r := 0) (c := 0) (show 0 < m + 1 by omega) (fun i _ => subM c (mx q R) i 0 * toF q (invI q (at2 R c c))) (m + 1) (Nat.le_refl _) (subM c (mx q R))]
  rw [Ldet_first fun i hi hi2 => ?_]
  · have e0 : La.clear (m + 1) 0 0 (fun i _ => subM c (mx q R) i 0 * toF q (invI q (at2 R c c))) (subM c (mx q R)) 0 0 = toF q (at2 R c c) := by
      unfold La.clear
      rw [if_neg (by omega), h00]
    rw [e0]
    have e1 : Ldet m (fun i j => La.clear (m + 1) 0 0 (fun i _ => subM c (mx q R) i 0 * toF q (invI q (at2 R c c))) (subM c (mx q R)) (i + 1) (j + 1)) = Ldet m (subM (c + 1) (mx q (elimTo q R c (invI q (at2 R c c)) n))) := by
      refine Ldet_congr m fun i hi j hj => ?_
      unfold La.clear
      rw [if_pos (by omega)]
      unfold subM
      show mx q R (c + (i + 1)) (c + (j + 1)) - (mx q R (c + (i + 1)) (c + 0) * toF q (invI (q : Int) (at2 R c c))) * mx q R (c + 0) (c + (j + 1)) = _
      have ht : c + 1 + i < R.length := by omega
      show _ = vec q ((elimTo q R c (invI q (at2 R c c)) n).getD (c + 1 + i) []) (c + 1 + j)
      rw [elim_at ht, if_pos (by omega), vec_addT _ (by rw [(h.ok _ (getD_mem ht)).1, (h.ok _ (getD_mem (show c < R.length by omega))).1]), toF_mul, toF_neg]
      rw [show c + (i + 1) = c + 1 + i by omega, show c + (j + 1) = c + 1 + j by omega, Nat.add_zero]
      show vec q (R.getD (c + 1 + i) []) (c + 1 + j) - mx q R (c + 1 + i) c * toF q (invI q (at2 R c c)) * vec q (R.getD c []) (c + 1 + j) = _
      rw [mx_at2]
      grind
    rw [e1]
    grind
  · unfold La.clear
    rw [if_pos ⟨hi2, by omega⟩, h00]
    grind
end det2
end Go.Proofs.YtpeaeminjbjlnaaDoor

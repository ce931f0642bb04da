/-
  A row with zeros behind it, and two of them compared. Conditions: the rows have at most 48 elements.
-/
import Derived.Test.YtghfifpicklonaaDoorYu04
import Derived.Test.YtghfifpicklonaaDoorYu02
import Derived.Laws.CopyOwn
import Derived.Laws.Rows
import Derived.Laws.Tables
import Derived.Laws.StructEq
import Derived.Great.Walk
import Derived.Great.BuildSlice
import Derived.ChangeKeysEq
import Derived.Test.YtghfifpicklonaaDoorYu03
import Derived.BigQuiet
import Derived.Deep.RegionHeld3
import Derived.Deep.RegionWith
import Derived.StillTailTactics
import Derived.Deep.CutRange
namespace Go.Proofs.YtghfifpicklonaaDoor
open Go.RowKit
set_option linter.unusedVariables false

theorem info_int1 : (Tryd.prog.info? 3).map (·.size) = some 1 := by kernel_rfl
/-- a row with zeros behind it, 48 cells in all -/
def padZ (zs : List Int) : List Value := (zs ++ List.replicate (48 - zs.length) 0).map (Value.int .i64)
def padC (zs : List Int) : Array Value := (padZ zs).toArray
theorem padZ_len {zs : List Int} (h : zs.length ≤ 48) : (padZ zs).length = 48 := by simp [padZ]; omega
theorem padC_size {zs : List Int} (h : zs.length ≤ 48) : (padC zs).size = 48 := by simp [padC, padZ_len h]
theorem padC_one (zs : List Int) : (padC zs).all (·.oneCell') = true := by
  rw [Array.all_eq_true_iff_forall_mem]
  intro v hv
  simp only [padC, padZ, List.mem_toArray, List.mem_map] at hv
  obtain ⟨z, _, rfl⟩ := hv
  rfl
theorem pad_splice {zs : List Int} (h : zs.length ≤ 48) : splice (padZ []) 0 (zs.map (Value.int .i64)) = padZ zs := by
  unfold splice padZ
  have e : (zs.map (Value.int .i64)).length = zs.length := List.length_map ..
  rw [List.take_zero, List.nil_append, List.map_append, e, List.map_nil, List.nil_append, List.length_nil, Nat.zero_add, Nat.sub_zero, ← List.map_drop, List.drop_replicate, List.map_append]
theorem cells_int1 : Tryd.prog.cellsOf 3 = 1 := by kernel_rfl
theorem plain_int : Tryd.prog.plainKey 3 = true := by kernel_rfl
theorem padC_at {zs : List Int} (h : zs.length ≤ 48) {i : Nat} (hi : i < 48) : (padC zs)[i]? = some (.int .i64 (zs.getD i 0)) := by
  unfold padC padZ
  rw [List.getElem?_toArray, List.getElem?_map, List.getElem?_append]
  split
  · next h1 => rw [List.getElem?_eq_getElem h1, getD_ltL h1]; rfl
  · next h1 =>
    rw [List.getElem?_replicate, if_pos (by omega), List.getD_eq_getElem?_getD, List.getElem?_eq_none (by omega)]
    rfl
theorem pad_items {x y : List Int} (hx : x.length ≤ 48) (hy : y.length ≤ 48) (w : World) : ∀ is : List Nat, (∀ i ∈ is, i < 48) →
    (Op.eqItems 9999 3 1 (padC x) (padC y) is).run Tryd.prog w = .ok (is.all fun i => x.getD i 0 == y.getD i 0) w
  | [], _ => rfl
  | i :: is, h => by
    have hi := h i (by simp)
    have ih := pad_items hx hy w is fun j hj => h j (by simp [hj])
    have e1 := run_part_plain (P := Tryd.prog) w plain_int (off := i * 1) (xs := padC x) (by rw [Nat.mul_one]; exact padC_at hx hi)
    have e2 := run_part_plain (P := Tryd.prog) w plain_int (off := i * 1) (xs := padC y) (by rw [Nat.mul_one]; exact padC_at hy hi)
    have e3 := run_equalIn_int (P := Tryd.prog) w 9998 3 .i64 .i64 (x.getD i 0) (y.getD i 0) Tryd.underlying3
    simp only [Op.eqItems, Sem.run_bind, e1, e2, e3, Result.andThen_ok, List.all_cons]
    cases hb : x.getD i 0 == y.getD i 0
    · simp
    · simp [ih]
end Go.Proofs.YtghfifpicklonaaDoor

/-
  What the law of row reduction asks, for lists: the transforming matrix makes the reduced one, its inverse is one at both sides, rank and kernel add up, and kernel times matrix is zero. Plain mathematics. Conditions: the number of elements is a field of the program's kind; rows of one length with elements.
-/
namespace Go.Proofs.YtghfifpicklonaaDoor
open La
set_option linter.unusedVariables false
section rr
variable {p : Nat} [NeZero p]

theorem vec_combTo {n k j : Nat} {x : List Int} {L : List (List Int)} (hp : 1 < p) (hL : RowsOk p n L) (hk : k ≤ L.length) (hj : j < n) :
    vec p (combTo p x L n k) j = S k (fun i => vec p x i * mx p L i j) := by
  induction k with
  | zero =>
    unfold combTo S
    rw [vec_at (by simp; exact hj), List.getElem_replicate]
    exact toF_zero
  | succ k ih =>
    unfold combTo S
    rw [vec_addT _ (by rw [(combTo_ok hp hL k (by omega)).1, (hL _ (getD_memL (show k < L.length by omega))).1]), ih (by omega)]
    rfl
theorem timesL_len (q : Int) (X L : List (List Int)) (n : Nat) : (timesL q X L n).length = X.length := by simp [timesL]
theorem timesL_ok {n : Nat} {X L : List (List Int)} (hp : 1 < p) (hL : RowsOk p n L) : RowsOk p n (timesL p X L n) := by
  intro row hrow
  obtain ⟨x, _, rfl⟩ := List.mem_map.1 hrow
  exact combTo_ok hp hL _ (Nat.le_refl _)
theorem mx_timesL {n i j : Nat} {X L : List (List Int)} (hp : 1 < p) (hL : RowsOk p n L) (hi : i < X.length) (hj : j < n) :
    mx p (timesL p X L n) i j = comb L.length (mx p X i) (mx p L) j := by
  rw [mx_at (by rw [timesL_len]; exact hi)]
  have e : (timesL p X L n)[i]'(by rw [timesL_len]; exact hi) = combTo p X[i] L n L.length := by simp [timesL]
  rw [e, vec_combTo hp hL (Nat.le_refl _) hj, mx_at hi]
  rfl
theorem comb_comb {k m : Nat} (x : Vec p) (A B : Mx p) (j : Nat) : comb m (fun t => comb k x A t) B j = comb k x (fun i => comb m (A i) B) j := by
  unfold comb
  have e : ∀ t, S k (fun i => x i * A i t) * B t j = S k (fun i => x i * (A i t * B t j)) := by
    intro t
    rw [← S_mulr]
    exact S_congr fun i _ => by grind
  simp only [e]
  rw [S_comm]
  exact S_congr fun i _ => by rw [S_mul]
theorem comb_delta {m j : Nat} (hj : j < m) (x : Vec p) {A : Mx p} (hA : ∀ i, i < m → A i j = if i = j then 1 else 0) : comb m x A j = x j := by
  unfold comb
  rw [S_one hj (fun i hi hn => by rw [hA i hi]; simp [hn, fm0]), hA j hj]
  simp [fm1]
theorem comb_delta' {m i : Nat} (hi : i < m) (A : Mx p) (j : Nat) : comb m (fun t => if i = t then 1 else 0) A j = A i j := by
  unfold comb
  rw [S_one hi (fun t ht hn => by simp [Ne.symm hn, f0m])]
  simp [f1m]
theorem comb_congr {m j : Nat} {x y : Vec p} {A B : Mx p} (h : ∀ t, t < m → x t = y t) (hA : ∀ t, t < m → A t j = B t j) : comb m x A j = comb m y B j := by
  unfold comb
  exact S_congr fun t ht => by rw [h t ht, hA t ht]
/-- The inverse at the left is the inverse at the right. -/
theorem right_inverse {m : Nat} {A : List (List Int)} (hf : fldN p = true) (hA : RowsOk p m A) (hl : A.length = m) (hi : Indep m m (mx p A)) :
    ∀ i, i < m → ∀ j, j < m → comb m (mx p A i) (mx p (redTo p A (idL m) m).T) j = if i = j then 1 else 0 := by
  have g := ge hf hA hl
  obtain ⟨hBA, _⟩ := left_inverse hf hA hl hi
  obtain ⟨hCB, _⟩ := left_inverse hf g.okT g.lenT g.inv.indep
  generalize redTo (p : Int) A (idL m) m = s at *
  generalize mx p (redTo (p : Int) s.T (idL m) m).T = C at *
  have hAC : ∀ i, i < m → ∀ j, j < m → mx p A i j = C i j := by
    intro i hi j hj
    rw [← comb_delta' hi (mx p A) j, comb_congr (B := mx p A) (fun t ht => (hCB i hi t ht).symm) (fun _ _ => rfl), comb_comb]
    exact comb_delta hj _ fun t ht => hBA t ht j hj
  intro i hi j hj
  rw [comb_congr (hAC i hi) (fun _ _ => rfl)]
  exact hCB i hi j hj
/-- The transforming matrix makes the reduced one. -/
theorem rr_made {n : Nat} {M : List (List Int)} (hf : fldN p = true) (hM : RowsOk p n M) :
    timesL p (redTo p M (idL M.length) n).T M n = (redTo p M (idL M.length) n).R := by
  have g := ge hf hM rfl
  generalize redTo (p : Int) M (idL M.length) n = s at *
  refine rows_ext (timesL_ok (lt_p hf) hM) g.okR (by rw [timesL_len]; exact g.lenT) g.lenR fun i hi j hj => ?_
  rw [mx_timesL (lt_p hf) hM (by rw [g.lenT]; exact hi) hj, g.inv.made i hi j hj]
theorem rr_back {n : Nat} {M : List (List Int)} (hf : fldN p = true) (hM : RowsOk p n M) :
    (redTo p (redTo p M (idL M.length) n).T (idL M.length) M.length).r = M.length ∧
    timesL p (redTo p M (idL M.length) n).T (redTo p (redTo p M (idL M.length) n).T (idL M.length) M.length).T M.length = idL M.length := by
  have g := ge hf hM rfl
  generalize redTo (p : Int) M (idL M.length) n = s at *
  have hr := indep_rank hf g.okT g.lenT g.inv.indep
  rw [rankL_eq _ _ _ (idL M.length)] at hr
  refine ⟨hr, ?_⟩
  have h2 := right_inverse hf g.okT g.lenT g.inv.indep
  have g2 := ge hf g.okT g.lenT
  generalize redTo (p : Int) s.T (idL M.length) M.length = t at *
  refine rows_ext (timesL_ok (lt_p hf) g2.okT) (idL_ok (lt_p hf)) (by rw [timesL_len]; exact g.lenT) (idL_len _) fun i hi j hj => ?_
  rw [mx_timesL (lt_p hf) g2.okT (by rw [g.lenT]; exact hi) hj, g2.lenT, h2 i hi j hj, mx_idL hi hj]
theorem rr_sum {n : Nat} {M : List (List Int)} (hf : fldN p = true) (hM : RowsOk p n M) : rankL p n M + (kernelL p n M).length = M.length := by
  rw [kernelL_len hf hM]
  have := rank_le hf hM
  omega
/-- Kernel times matrix is zero. -/
theorem rr_zero {n : Nat} {M : List (List Int)} (hf : fldN p = true) (hM : RowsOk p n M) {x : List Int} (hx : x ∈ kernelL p n M) : ∀ z ∈ combTo p x M n M.length, z = 0 := by
  have hsp : ∀ j, j < n → comb M.length (vec p x) (mx p M) j = 0 := by
    rw [← kernelL_span hf hM]
    obtain ⟨i, hi, rfl⟩ := List.getElem_of_mem hx
    have := In.row (n := M.length) (A := mx p (kernelL p n M)) hi
    rw [mx_at hi] at this
    exact this
  have hok := combTo_ok (x := x) (lt_p hf) hM _ (Nat.le_refl _)
  intro z hz
  obtain ⟨j, hj, rfl⟩ := List.getElem_of_mem hz
  have hb := hok.2 _ (List.getElem_mem hj)
  have hjn : j < n := by rw [← hok.1]; exact hj
  refine Classical.byContradiction fun hne => toF_ne hb.1 hb.2 hne ?_
  rw [← vec_at hj, vec_combTo (lt_p hf) hM (Nat.le_refl _) hjn]
  exact hsp j hjn
end rr
end Go.Proofs.YtghfifpicklonaaDoor

/-
  Orthogonal lists, null rows, coordinates and separators, for lists of lists of integers. Plain mathematics. Conditions: the number of elements is a field of the program's kind; rows of one length with elements.
-/
namespace Go.Proofs.YtghfifpicklonaaDoor
open La
set_option linter.unusedVariables false
section orth
variable {p : Nat} [NeZero p]

def transL (L : List (List Int)) (n : Nat) : List (List Int) := (List.range n).map fun j => L.map fun row => row.getD j 0
def orthL (p : Int) (L : List (List Int)) (n : Nat) : List (List Int) := kernelL p L.length (transL L n)
theorem transL_len (L : List (List Int)) (n : Nat) : (transL L n).length = n := by simp [transL]
omit [NeZero p] in
theorem transL_ok {n : Nat} {L : List (List Int)} (h : RowsOk p n L) : RowsOk p L.length (transL L n) := by
  intro row hrow
  obtain ⟨j, hj, rfl⟩ := List.mem_map.1 hrow
  refine ⟨by simp, fun x hx => ?_⟩
  obtain ⟨r, hr, rfl⟩ := List.mem_map.1 hx
  have := h r hr
  rw [getD_ltL (by rw [this.1]; exact List.mem_range.1 hj)]
  exact this.2 _ (List.getElem_mem _)
theorem mx_transL {n i j : Nat} {L : List (List Int)} (hj : j < n) (hi : i < L.length) : mx p (transL L n) j i = mx p L i j := by
  rw [mx_at (by rw [transL_len]; exact hj)]
  have e : (transL L n)[j]'(by rw [transL_len]; exact hj) = L.map fun row => row.getD j 0 := by simp [transL]
  rw [e, vec_at (by simpa using hi)]
  simp only [List.getElem_map]
  rw [mx_at hi]
  rfl
def Perp (p n : Nat) [NeZero p] (L : List (List Int)) (w : Vec p) : Prop := ∀ i, i < L.length → S n (fun j => w j * mx p L i j) = 0
theorem orth_span {n : Nat} {L : List (List Int)} (hf : fldN p = true) (h : RowsOk p n L) (w : Vec p) : Spn p n (orthL p L n) w ↔ Perp p n L w := by
  have := kernelL_span hf (transL_ok h) w
  rw [transL_len] at this
  unfold orthL
  rw [this]
  unfold Perp comb
  constructor
  · intro h1 i hi
    rw [← h1 i hi]
    exact S_congr fun j hj => by rw [mx_transL hj hi]
  · intro h1 i hi
    rw [← h1 i hi]
    exact S_congr fun j hj => by rw [mx_transL hj hi]
theorem orth_red {n : Nat} {L : List (List Int)} (hf : fldN p = true) (h : RowsOk p n L) : IsRed p n (orthL p L n) := by
  have := kernelL_red hf (transL_ok h)
  rw [transL_len] at this
  exact this
theorem perp_span {n : Nat} {L M : List (List Int)} {w : Vec p} (hs : ∀ v, Spn p n L v → Spn p n M v) (h : Perp p n M w) : Perp p n L w := by
  intro i hi
  have h1 := hs (mx p L i) (In.row hi)
  have h2 := In.dot h1 (w := w) fun k hk => by
    rw [← h k hk]
    exact S_congr fun j _ => by grind
  rw [← h2]
  exact S_congr fun j _ => by grind
/-! ### null rows -/
def leadL (v : List Int) : Nat := v.findIdx fun x => x != 0
theorem lead_piv {n i : Nat} {piv : Nat → Nat} {m : List (List Int)} (hf : fldN p = true) (hok : RowsOk p n m) (h : RR m.length n (mx p m) piv) (hi : i < m.length) : leadL (m.getD i []) = piv i := by
  have hr := hok _ (getD_memL hi)
  have hp := h.lt i hi
  have e : ∀ j, mx p m i j = toF p ((m.getD i []).getD j 0) := fun j => rfl
  have h1 := h.one i hi
  rw [e] at h1
  have h2 := fun j hj => h.left i j hi hj
  simp only [e] at h2
  generalize m.getD i [] = r at *
  unfold leadL
  rw [List.findIdx_eq (by rw [hr.1]; exact hp)]
  refine ⟨?_, fun j hj => ?_⟩
  · rw [bne_iff_ne, ← getD_ltL (by rw [hr.1]; exact hp)]
    intro h0
    rw [h0, toF_zero] at h1
    exact one_ne hf h1.symm
  · have hjl : j < r.length := by rw [hr.1]; omega
    rw [bne_eq_false_iff_eq, ← getD_ltL hjl]
    have hb := hr.2 _ (List.getElem_mem hjl)
    rw [← getD_ltL hjl] at hb
    exact Classical.byContradiction fun hne => toF_ne hb.1 hb.2 hne (h2 j hj)
def nullTo (p : Int) (n : Nat) (m : List (List Int)) (j : Nat) : Nat → List Int
  | 0 => unitL n j
  | i + 1 => (nullTo p n m j i).set (leadL (m.getD i [])) ((p - at2 m i j) % p)
def isLead (m : List (List Int)) (j : Nat) : Bool := m.any fun r => leadL r == j
def nullRows (p : Int) (n : Nat) (m : List (List Int)) : List (List Int) := ((List.range n).filter fun j => !isLead m j).map fun j => nullTo p n m j m.length
def spNullL (p : Int) (n : Nat) (L : List (List Int)) : List (List Int) := reducedL p n (nullRows p n (reducedL p n L))
omit [NeZero p] in
theorem nullTo_ok {n j : Nat} {m : List (List Int)} (hp : 1 < p) : ∀ i, VecOk p n (nullTo p n m j i) := by
  intro i
  induction i with
  | zero => exact unitL_ok hp
  | succ i ih =>
    refine ⟨by simp only [nullTo]; rw [List.length_set]; exact ih.1, fun x hx => ?_⟩
    simp only [nullTo] at hx
    rcases List.mem_or_eq_of_mem_set hx with h | h
    · exact ih.2 x h
    · rw [h]
      exact ⟨Int.emod_nonneg _ (by omega), Int.emod_lt_of_pos _ (by omega)⟩
omit [NeZero p] in
theorem nullRows_ok {n : Nat} {m : List (List Int)} (hp : 1 < p) : RowsOk p n (nullRows p n m) := by
  intro row hrow
  obtain ⟨j, _, rfl⟩ := List.mem_map.1 hrow
  exact nullTo_ok hp _
theorem isLead_iff {n j : Nat} {piv : Nat → Nat} {m : List (List Int)} (hf : fldN p = true) (hok : RowsOk p n m) (h : RR m.length n (mx p m) piv) : isLead m j = true ↔ ∃ i, i < m.length ∧ piv i = j := by
  unfold isLead
  rw [List.any_eq_true]
  constructor
  · rintro ⟨r, hr, hj⟩
    obtain ⟨i, hi, rfl⟩ := List.getElem_of_mem hr
    refine ⟨i, hi, ?_⟩
    have := lead_piv hf hok h hi
    rw [List.getD_eq_getElem?_getD, List.getElem?_eq_getElem hi, Option.getD_some] at this
    rw [← this]
    exact beq_iff_eq.1 hj
  · rintro ⟨i, hi, hj⟩
    refine ⟨m.getD i [], getD_memL hi, ?_⟩
    rw [lead_piv hf hok h hi, hj]
    exact beq_self_eq_true _
theorem toF_p : toF p (p : Int) = 0 := by
  rw [← toF_zero, toF_eq, Int.emod_self, Int.zero_emod]
theorem piv_inj {n r : Nat} {A : Mx p} {piv : Nat → Nat} (h : RR r n A piv) {i k : Nat} (hi : i < r) (hk : k < r) (e : piv i = piv k) : i = k := by
  rcases Nat.lt_trichotomy i k with h1 | h1 | h1
  · have := h.inc i k h1 hk; omega
  · exact h1
  · have := h.inc k i h1 hi; omega
theorem nullTo_at {n j : Nat} {piv : Nat → Nat} {m : List (List Int)} (hf : fldN p = true) (hok : RowsOk p n m) (h : RR m.length n (mx p m) piv) :
    ∀ i, i ≤ m.length → (∀ k, k < i → vec p (nullTo p n m j i) (piv k) = - mx p m k j) ∧ ∀ c, c < n → (∀ k, k < i → piv k ≠ c) → vec p (nullTo p n m j i) c = if j = c then 1 else 0 := by
  intro i
  induction i with
  | zero => intro _; exact ⟨fun k hk => by omega, fun c hc _ => vec_unitL hc⟩
  | succ i ih =>
    intro hi
    obtain ⟨h1, h2⟩ := ih (by omega)
    have hl := lead_piv hf hok h (show i < m.length by omega)
    have hlen := (nullTo_ok (p := p) (n := n) (j := j) (m := m) (lt_p hf) i).1
    have hlt := h.lt i (by omega)
    refine ⟨fun k hk => ?_, fun c hc hne => ?_⟩
    · unfold vec
      simp only [nullTo]
      rw [hl]
      by_cases hki : k = i
      · subst hki
        rw [getD_set_self (by omega), toF_emod, toF_sub, toF_p, ← mx_at2]
        grind
      · have : piv i ≠ piv k := fun e => hki (piv_inj h (by omega) (by omega) e.symm)
        rw [getD_set_ne this]
        exact h1 k (by omega)
    · unfold vec
      simp only [nullTo]
      rw [hl, getD_set_ne (hne i (by omega))]
      exact h2 c hc fun k hk => hne k (by omega)
theorem null_mem {n j : Nat} {m : List (List Int)} (hj : j < n) (h : isLead m j = false) : Spn p n (nullRows p n m) (vec p (nullTo p n m j m.length)) := by
  have hm : nullTo p n m j m.length ∈ nullRows p n m := List.mem_map.2 ⟨j, List.mem_filter.2 ⟨List.mem_range.2 hj, by rw [h]; rfl⟩, rfl⟩
  obtain ⟨i, hi, he⟩ := List.getElem_of_mem hm
  have := In.row (n := n) (A := mx p (nullRows p n m)) hi
  rw [mx_at hi, he] at this
  exact this
/-- a null row's product with any vector -/
theorem null_dot {n j : Nat} {piv : Nat → Nat} {m : List (List Int)} (hf : fldN p = true) (hok : RowsOk p n m) (h : RR m.length n (mx p m) piv) (hj : j < n) (hnl : isLead m j = false) (w : Vec p) :
    S n (fun c => vec p (nullTo p n m j m.length) c * w c) = w j - comb m.length (fun i => w (piv i)) (mx p m) j := by
  obtain ⟨h1, h2⟩ := nullTo_at (j := j) hf hok h m.length (Nat.le_refl _)
  have hnp : ∀ k, k < m.length → piv k ≠ j := by
    intro k hk e
    have := (isLead_iff hf hok h).2 ⟨k, hk, e⟩
    rw [hnl] at this
    cases this
  have e : ∀ c, c < n → vec p (nullTo p n m j m.length) c * w c = (if c = j then w j else 0) - S m.length (fun k => if c = piv k then w (piv k) * mx p m k j else 0) := by
    intro c hc
    by_cases hp : ∃ k, k < m.length ∧ piv k = c
    · obtain ⟨k, hk, rfl⟩ := hp
      rw [h1 k hk, if_neg (hnp k hk), S_one hk (fun i hi hn => by rw [if_neg fun e => hn (piv_inj h hi hk e.symm)]), if_pos rfl]
      grind
    · rw [h2 c hc fun k hk e => hp ⟨k, hk, e⟩, S_zero' fun k hk => by rw [if_neg fun e => hp ⟨k, hk, e.symm⟩]]
      by_cases hcj : c = j
      · subst hcj; simp only [if_true]; grind
      · rw [if_neg hcj, if_neg (Ne.symm hcj)]; grind
  rw [S_congr e, S_sub, S_delta hj, S_comm]
  congr 1
  refine S_congr fun k hk => ?_
  rw [S_delta (h.lt k hk)]
theorem null_span {n : Nat} {m : List (List Int)} (hf : fldN p = true) (hr : IsRed p n m) (w : Vec p) : Spn p n (nullRows p n m) w ↔ Perp p n m w := by
  obtain ⟨hok, piv, h⟩ := hr
  constructor
  · intro hs i hi
    refine In.dot hs fun k hk => ?_
    have hm : (nullRows p n m)[k] ∈ nullRows p n m := List.getElem_mem hk
    rw [mx_at hk]
    obtain ⟨j, hj, he⟩ := List.mem_map.1 hm
    rw [← he]
    obtain ⟨hj1, hj2⟩ := List.mem_filter.1 hj
    have hj3 := List.mem_range.1 hj1
    rw [null_dot hf hok h hj3 (by simpa using hj2)]
    have e : comb m.length (fun k => mx p m i (piv k)) (mx p m) j = mx p m i j := by
      unfold comb
      rw [S_one hi (fun k hk hn => by show mx p m i (piv k) * mx p m k j = 0; rw [h.col k i hk hi (Ne.symm hn), f0m])]
      show mx p m i (piv i) * mx p m i j = mx p m i j
      rw [h.one i hi, f1m]
    rw [e]
    grind
  · intro hw
    have hin : In n n (fun j => if isLead m j = true then (fun _ => 0) else vec p (nullTo p n m j m.length)) w := by
      refine ⟨w, fun c hc => ?_⟩
      unfold comb
      by_cases hp : ∃ k, k < m.length ∧ piv k = c
      · obtain ⟨k, hk, rfl⟩ := hp
        have e : ∀ j, j < n → w j * (if isLead m j = true then (fun _ => 0) else vec p (nullTo p n m j m.length)) (piv k) = (if j = piv k then w (piv k) else 0) - w j * mx p m k j := by
          intro j hj
          by_cases hl : isLead m j = true
          · rw [if_pos hl]
            obtain ⟨i, hi, rfl⟩ := (isLead_iff hf hok h).1 hl
            by_cases hik : i = k
            · subst hik
              rw [if_pos rfl, h.one i hi]
              grind
            · rw [if_neg fun e => hik (piv_inj h hi hk e), h.col i k hi hk (Ne.symm hik)]
              grind
          · rw [if_neg hl, (nullTo_at hf hok h m.length (Nat.le_refl _)).1 k hk, if_neg fun e => hl ((isLead_iff hf hok h).2 ⟨k, hk, e.symm⟩)]
            grind
        rw [S_congr e, S_sub, S_delta hc, hw k hk]
        grind
      · rw [S_one hc]
        · have hl : ¬ isLead m c = true := fun e => hp ((isLead_iff hf hok h).1 e)
          dsimp only
          rw [if_neg hl, (nullTo_at hf hok h m.length (Nat.le_refl _)).2 c hc fun k hk e => hp ⟨k, hk, e⟩, if_pos rfl]
          grind
        · intro j hj hne
          dsimp only
          by_cases hl : isLead m j = true
          · rw [if_pos hl]; grind
          · rw [if_neg hl, (nullTo_at hf hok h m.length (Nat.le_refl _)).2 c hc fun k hk e => hp ⟨k, hk, e⟩, if_neg hne]
            grind
    refine hin.trans fun j hj => ?_
    by_cases hl : isLead m j = true
    · rw [if_pos hl]; exact In.zero _ _ _
    · rw [if_neg hl]; exact null_mem hj (by simpa using hl)
/-- The specification's null space is the program's orthogonal one. -/
theorem spNull_eq {n : Nat} {L : List (List Int)} (hf : fldN p = true) (hL : RowsOk p n L) : spNullL p n L = orthL p L n := by
  have hr := reducedL_red hf hL
  have hs := reducedL_span hf hL
  refine red_unique hf (reducedL_red hf (nullRows_ok (lt_p hf))) (orth_red hf hL) fun v => ?_
  unfold spNullL
  rw [reducedL_span hf (nullRows_ok (lt_p hf)), null_span hf hr, orth_span hf hL]
  exact ⟨fun h => perp_span (fun v hv => (hs v).2 hv) h, fun h => perp_span (fun v hv => (hs v).1 hv) h⟩
/-! ### coordinates -/
def coordsL (m : List (List Int)) (v : List Int) : List Int := m.map fun b => v.getD (leadL b) 0
theorem vec_coordsL {n i : Nat} {piv : Nat → Nat} {m : List (List Int)} (hf : fldN p = true) (hok : RowsOk p n m) (h : RR m.length n (mx p m) piv) (v : List Int) (hi : i < m.length) : vec p (coordsL m v) i = vec p v (piv i) := by
  rw [vec_at (by simp [coordsL]; exact hi)]
  have := lead_piv hf hok h hi
  rw [List.getD_eq_getElem?_getD, List.getElem?_eq_getElem hi, Option.getD_some] at this
  simp only [coordsL, List.getElem_map]
  rw [this]
  rfl
def hasB (p : Int) (n : Nat) (m : List (List Int)) (v : List Int) : Bool := combTo p (coordsL m v) m n m.length == v
theorem hasB_iff {n : Nat} {m : List (List Int)} {v : List Int} (hf : fldN p = true) (hr : IsRed p n m) (hv : VecOk p n v) : hasB p n m v = true ↔ Spn p n m (vec p v) := by
  obtain ⟨hok, piv, h⟩ := hr
  have e : ∀ j, j < n → vec p (combTo p (coordsL m v) m n m.length) j = comb m.length (fun i => vec p v (piv i)) (mx p m) j := by
    intro j hj
    rw [vec_combTo (lt_p hf) hok (Nat.le_refl _) hj]
    exact S_congr fun i hi => by rw [vec_coordsL hf hok h v hi]
  unfold hasB
  rw [beq_iff_eq]
  constructor
  · intro he
    refine ⟨fun i => vec p v (piv i), fun j hj => ?_⟩
    rw [← e j hj, he]
  · intro hs
    refine vec_ext (combTo_ok (lt_p hf) hok _ (Nat.le_refl _)) hv fun j hj => ?_
    rw [e j hj]
    exact (h.coords hs j hj).symm
/-- A vector outside has a separator in the orthogonal list; one inside has none. -/
theorem sep_exists {n : Nat} {m : List (List Int)} {v : Vec p} (hf : fldN p = true) (hr : IsRed p n m) :
    Spn p n m v ↔ ∀ w ∈ orthL p m n, S n (fun j => vec p w j * v j) = 0 := by
  have hor := orth_span hf hr.1
  constructor
  · intro hv w hw
    obtain ⟨i, hi, rfl⟩ := List.getElem_of_mem hw
    have h1 : Spn p n (orthL p m n) (mx p (orthL p m n) i) := In.row hi
    rw [hor, mx_at hi] at h1
    have h2 := In.dot hv (w := vec p (orthL p m n)[i]) fun k hk => by
      rw [← h1 k hk]
      exact S_congr fun j _ => by grind
    rw [← h2]
    exact S_congr fun j _ => by grind
  · intro h0
    have hr' := hr
    obtain ⟨hok, piv, h⟩ := hr'
    refine ⟨fun i => v (piv i), fun c hc => ?_⟩
    by_cases hl : isLead m c = true
    · obtain ⟨i, hi, rfl⟩ := (isLead_iff hf hok h).1 hl
      rw [h.comb_at _ hi]
    · have h1 := null_dot hf hok h hc (by simpa using hl) v
      have h2 : Spn p n (orthL p m n) (vec p (nullTo p n m c m.length)) := by
        rw [hor, ← null_span hf hr]
        exact null_mem hc (by simpa using hl)
      have h3 := In.dot h2 (w := v) fun k hk => by
        rw [mx_at hk]
        exact h0 _ (List.getElem_mem hk)
      rw [h3] at h1
      grind
end orth
end Go.Proofs.YtghfifpicklonaaDoor

/-
  Leading indices and products of vectors. Conditions: lengths and elements are small.
-/
namespace Go.Proofs.YtghfifpicklonaaDoor
open Go.RowKit
set_option linter.unusedVariables false

theorem leadL_at {zs : List Int} {k : Nat} (hk : k < zs.length) (h0 : ∀ j (h : j < zs.length), j < k → zs[j] = 0) (h1 : zs[k] ≠ 0) : leadL zs = k := by
  unfold leadL
  rw [List.findIdx_eq hk]
  exact ⟨by rw [bne_iff_ne]; exact h1, fun j hj => by rw [bne_eq_false_iff_eq]; exact h0 j (by omega) hj⟩
theorem leadL_end {zs : List Int} (h0 : ∀ j (h : j < zs.length), zs[j] = 0) : leadL zs = zs.length := by
  unfold leadL
  rw [List.findIdx_eq_length]
  intro x hx
  obtain ⟨j, hj, rfl⟩ := List.getElem_of_mem hx
  rw [bne_eq_false_iff_eq]
  exact h0 j hj
def dotTo (v u : List Int) : Nat → Int
  | 0 => 0
  | k + 1 => dotTo v u k + v.getD k 0 * u.getD k 0
theorem dotTo_bd {v u : List Int} (hv : ∀ z ∈ v, 0 ≤ z ∧ z ≤ 1000) (hu : ∀ z ∈ u, 0 ≤ z ∧ z ≤ 1000) (hl : v.length = u.length) : ∀ k, k ≤ v.length → 0 ≤ dotTo v u k ∧ dotTo v u k ≤ 1000000 * k := by
  intro k
  induction k with
  | zero => intro _; exact ⟨Int.le_refl _, by simp [dotTo]⟩
  | succ k ih =>
    intro hk
    obtain ⟨h1, h2⟩ := ih (by omega)
    have b1 := hv _ (List.getElem_mem (show k < v.length by omega))
    have b2 := hu _ (List.getElem_mem (show k < u.length by omega))
    have b3 := mul_bd2 (A := 1000) (B := 1000) ⟨by omega, b1.2⟩ b2 (by omega) (by omega)
    have b4 := Int.mul_nonneg b1.1 b2.1
    unfold dotTo
    rw [getD_ltL (show k < v.length by omega), getD_ltL (show k < u.length by omega)]
    push_cast
    omega
def zeroB (zs : List Int) : Bool := leadL zs == zs.length
theorem spLead_any (v : Value) (zs : List Int) (w : World) (hv : IntsV w v zs) (hl : zs.length ≤ 1000000) :
    Calls Tryd.prog 87 #[v] w fun e w' => e = .returned (.int .i64 (leadL zs)) ∧ w = w' := by
  have HV := Lib.hid hv
  obtain ⟨a, cap, rfl, hx⟩ := hv
  clear hx
  generalize hlen : zs.length = l at *
  have HL := Lib.hid hlen
  clear hlen
  generalize hle : leadL zs = le at *
  have HLE := Lib.hid hle
  clear hle
  go_enter Tryd.func87, Tryd.ntmps87
  go_wp2
  go_loop [3] (fun i => ∃ k : Nat, k ≤ l ∧ i = .int .i64 k ∧ ∀ j (h : j < zs.length), j < k → zs[j] = 0) (fun i => l - (intOf i).toNat)
  case atStart => exact ⟨0, by omega, rfl, fun _ _ h => absurd h (by omega)⟩
  case round =>
    obtain ⟨k, hk, rfl, ho⟩ := hrel
    have HO := Lib.hid ho
    clear ho
    by_cases hlt : k < l
    · have hkl : k < zs.length := by rw [HL.out]; exact hlt
      obtain ⟨d, rfl, hs, hd, hcell⟩ := HV.out.at hkl
      obtain ⟨db, dof, _⟩ := d
      simp only at hs hcell
      subst hs
      have HAT := Lib.hid (fun h => leadL_at hkl HO.out h)
      generalize hzk : zs[k] = z at *
      have HK := Lib.hid hzk
      clear hzk hd
      by_cases hz : z = 0
      · subst hz
        go_wp2
        go_round
        case rel => exact ⟨k + 1, by omega, by go_num, fun j h hj => by
          by_cases hjk : j = k
          · subst hjk; exact HK.out
          · exact HO.out j h (by omega)⟩
        case measure => simp [intOf]; omega
      · have hzb : (z == 0) = false := beq_eq_false_iff_ne.2 hz
        have he := HAT.out hz
        rw [HLE.out] at he
        have HE := Lib.hid he
        clear he
        go_wp2
        go_ret
        exact ⟨by rw [HE.out]; rfl, rfl⟩
    · have he := leadL_end fun j h => HO.out j h (by have := HL.out; omega)
      rw [HLE.out, HL.out] at he
      have HE := Lib.hid he
      clear he
      have hkl : k = l := by omega
      subst hkl
      go_wp2
      go_ret
      exact ⟨by rw [HE.out]; rfl, rfl⟩
end Go.Proofs.YtghfifpicklonaaDoor

/-
  Sums, meets and orthogonals of reduced lists. Plain mathematics. Conditions: the number of elements is a field of the program's kind; rows of one length with elements.
-/
namespace Go.Proofs.YtghfifpicklonaaDoor
open La
set_option linter.unusedVariables false
section span
variable {p : Nat} [NeZero p]

def sumL (p : Int) (n : Nat) (A C : List (List Int)) : List (List Int) := reducedL p n (A ++ C)
/-- the rows that meet in A and in C, before they are reduced -/
def meetRows (p : Int) (n : Nat) (A C : List (List Int)) : List (List Int) := (kernelL p n (A ++ C)).map fun x => combTo p (x.take A.length) A n A.length
def meetL (p : Int) (n : Nat) (A C : List (List Int)) : List (List Int) := reducedL p n (meetRows p n A C)
omit [NeZero p] in
theorem app_ok {n : Nat} {A C : List (List Int)} (hA : RowsOk p n A) (hC : RowsOk p n C) : RowsOk p n (A ++ C) := by
  intro r hr
  rcases List.mem_append.1 hr with h | h
  · exact hA r h
  · exact hC r h
theorem mx_left {A C : List (List Int)} {i : Nat} (hi : i < A.length) : mx p (A ++ C) i = mx p A i := by
  unfold mx
  rw [List.getD_eq_getElem?_getD, List.getElem?_append_left hi, ← List.getD_eq_getElem?_getD]
theorem mx_right {A C : List (List Int)} (i : Nat) : mx p (A ++ C) (A.length + i) = mx p C i := by
  unfold mx
  rw [List.getD_eq_getElem?_getD, List.getElem?_append_right (by omega), show A.length + i - A.length = i by omega, ← List.getD_eq_getElem?_getD]
theorem comb_app {A C : List (List Int)} (x : Vec p) (j : Nat) : comb (A ++ C).length x (mx p (A ++ C)) j = comb A.length x (mx p A) j + comb C.length (fun i => x (A.length + i)) (mx p C) j := by
  unfold comb
  rw [List.length_append, S_append]
  congr 1
  · exact S_congr fun i hi => by rw [mx_left hi]
  · exact S_congr fun i _ => by rw [mx_right]
theorem span_left {n : Nat} {A C : List (List Int)} {v : Vec p} (h : Spn p n A v) : Spn p n (A ++ C) v := by
  refine In.trans h fun i hi => ?_
  rw [← mx_left (C := C) hi]
  exact In.row (by rw [List.length_append]; omega)
theorem span_right {n : Nat} {A C : List (List Int)} {v : Vec p} (h : Spn p n C v) : Spn p n (A ++ C) v := by
  refine In.trans h fun i hi => ?_
  rw [← mx_right (A := A) i]
  exact In.row (by rw [List.length_append]; omega)
theorem span_app {n : Nat} {A C : List (List Int)} {v : Vec p} : Spn p n (A ++ C) v ↔ ∃ a c : Vec p, Spn p n A a ∧ Spn p n C c ∧ ∀ j, j < n → v j = a j + c j := by
  constructor
  · rintro ⟨x, hx⟩
    refine ⟨comb A.length x (mx p A), comb C.length (fun i => x (A.length + i)) (mx p C), ⟨x, fun _ _ => rfl⟩, ⟨fun i => x (A.length + i), fun _ _ => rfl⟩, fun j hj => ?_⟩
    rw [hx j hj, comb_app]
  · rintro ⟨a, c, ha, hc, h⟩
    exact ((span_left ha).add (span_right hc)).congr h
theorem perp_app {n : Nat} {A C : List (List Int)} {w : Vec p} : Perp p n (A ++ C) w ↔ Perp p n A w ∧ Perp p n C w := by
  constructor
  · intro h
    refine ⟨fun i hi => ?_, fun i hi => ?_⟩
    · rw [← mx_left (C := C) hi]
      exact h i (by rw [List.length_append]; omega)
    · rw [← mx_right (A := A) i]
      exact h (A.length + i) (by rw [List.length_append]; omega)
  · rintro ⟨h1, h2⟩ i hi
    rw [List.length_append] at hi
    rcases Nat.lt_or_ge i A.length with h | h
    · rw [mx_left h]; exact h1 i h
    · obtain ⟨k, rfl⟩ : ∃ k, i = A.length + k := ⟨i - A.length, by omega⟩
      rw [mx_right]
      exact h2 k (by omega)
theorem vec_take {x : List Int} {k i : Nat} (hi : i < k) : vec p (x.take k) i = vec p x i := by
  unfold vec
  simp only [List.getD_eq_getElem?_getD]
  rw [List.getElem?_take, if_pos hi]
theorem meetRows_ok {n : Nat} {A C : List (List Int)} (hp : 1 < p) (hA : RowsOk p n A) : RowsOk p n (meetRows p n A C) := by
  intro r hr
  obtain ⟨x, _, rfl⟩ := List.mem_map.1 hr
  exact combTo_ok hp hA _ (Nat.le_refl _)
theorem mx_meetRows {n : Nat} {A C : List (List Int)} (hp : 1 < p) (hA : RowsOk p n A) {i j : Nat} (hi : i < (kernelL p n (A ++ C)).length) (hj : j < n) : mx p (meetRows p n A C) i j = comb A.length (mx p (kernelL p n (A ++ C)) i) (mx p A) j := by
  rw [mx_at (by unfold meetRows; rw [List.length_map]; exact hi), mx_at hi]
  simp only [meetRows, List.getElem_map]
  rw [vec_combTo hp hA (Nat.le_refl _) hj]
  exact S_congr fun k hk => by rw [vec_take hk]
theorem comb_neg (m : Nat) (x : Vec p) (A : Mx p) (j : Nat) : comb m (fun i => - x i) A j = - comb m x A j := by
  unfold comb
  have e : ∀ i, (- x i) * A i j = (-1) * (x i * A i j) := fun i => by grind
  simp only [e]
  rw [S_mul]
  grind
/-- The meet's span. -/
theorem meetRows_span {n : Nat} {A C : List (List Int)} (hf : fldN p = true) (hA : RowsOk p n A) (hC : RowsOk p n C) (v : Vec p) : Spn p n (meetRows p n A C) v ↔ Spn p n A v ∧ Spn p n C v := by
  have hk := kernelL_span hf (app_ok hA hC)
  have hlen : (meetRows p n A C).length = (kernelL p n (A ++ C)).length := by simp [meetRows]
  constructor
  · intro h
    refine ⟨In.trans h fun i hi => ?_, In.trans h fun i hi => ?_⟩
    · rw [hlen] at hi
      exact ⟨mx p (kernelL p n (A ++ C)) i, fun j hj => mx_meetRows (lt_p hf) hA hi hj⟩
    · rw [hlen] at hi
      have h1 := (hk (mx p (kernelL p n (A ++ C)) i)).1 (In.row hi)
      refine ⟨fun k => - mx p (kernelL p n (A ++ C)) i (A.length + k), fun j hj => ?_⟩
      have h2 := h1 j hj
      rw [comb_app] at h2
      rw [mx_meetRows (lt_p hf) hA hi hj, comb_neg]
      grind
  · rintro ⟨⟨a, ha⟩, ⟨c, hc⟩⟩
    let x : Vec p := fun i => if i < A.length then a i else - c (i - A.length)
    have hx : Spn p (A ++ C).length (kernelL p n (A ++ C)) x := by
      rw [hk]
      intro j hj
      rw [comb_app]
      have e1 : comb A.length x (mx p A) j = v j := by
        rw [ha j hj]
        exact S_congr fun i hi => by simp only [x, hi, if_true]
      have e2 : comb C.length (fun i => x (A.length + i)) (mx p C) j = - v j := by
        rw [hc j hj, ← comb_neg]
        exact S_congr fun i hi => by simp only [x, show ¬ A.length + i < A.length by omega, if_false, show A.length + i - A.length = i by omega]
      rw [e1, e2]
      grind
    obtain ⟨y, hy⟩ := hx
    refine ⟨y, fun j hj => ?_⟩
    rw [hlen]
    have e : comb (kernelL p n (A ++ C)).length y (mx p (meetRows p n A C)) j = comb (kernelL p n (A ++ C)).length y (fun i => comb A.length (mx p (kernelL p n (A ++ C)) i) (mx p A)) j :=
      S_congr fun i hi => by rw [mx_meetRows (lt_p hf) hA hi hj]
    rw [e, ← comb_comb, ha j hj]
    refine S_congr fun i hi => ?_
    show _ = comb (kernelL p n (A ++ C)).length y (mx p (kernelL p n (A ++ C))) i * _
    rw [← hy i (by rw [List.length_append]; omega)]
    simp only [x, hi, if_true]
theorem meet_span {n : Nat} {A C : List (List Int)} (hf : fldN p = true) (hA : RowsOk p n A) (hC : RowsOk p n C) (v : Vec p) : Spn p n (meetL p n A C) v ↔ Spn p n A v ∧ Spn p n C v := by
  unfold meetL
  rw [reducedL_span hf (meetRows_ok (lt_p hf) hA), meetRows_span hf hA hC]
theorem meet_red {n : Nat} {A C : List (List Int)} (hf : fldN p = true) (hA : RowsOk p n A) : IsRed p n (meetL p n A C) := reducedL_red hf (meetRows_ok (lt_p hf) hA)
theorem sum_red {n : Nat} {A C : List (List Int)} (hf : fldN p = true) (hA : RowsOk p n A) (hC : RowsOk p n C) : IsRed p n (sumL p n A C) := reducedL_red hf (app_ok hA hC)
/-- Dimensions add up. -/
theorem dims {n : Nat} {A C : List (List Int)} (hf : fldN p = true) (hA : IsRed p n A) (hC : IsRed p n C) : (sumL p n A C).length + (meetL p n A C).length = A.length + C.length := by
  have hok := app_ok hA.1 hC.1
  have h1 : (sumL p n A C).length = rankL p n (A ++ C) := reducedL_len hf hok
  have h2 := kernelL_len hf hok
  have h3 := rank_le hf hok
  have hlen : (meetRows p n A C).length = (kernelL p n (A ++ C)).length := by simp [meetRows]
  have hind : Indep (kernelL p n (A ++ C)).length n (mx p (meetRows p n A C)) := by
    intro y hy
    have hk := red_indep (kernelL_red hf hok)
    have hsp := kernelL_span hf hok
    generalize hK : kernelL p n (A ++ C) = K at *
    have e1 : ∀ j, j < n → comb A.length (comb K.length y (mx p K)) (mx p A) j = 0 := by
      intro j hj
      rw [← hy j hj, comb_comb]
      refine S_congr fun i hi => ?_
      rw [mx_meetRows (lt_p hf) hA.1 (by rw [hK]; exact hi) hj, hK]
    have a0 := red_indep hA _ e1
    have hin : Spn p (A ++ C).length K (comb K.length y (mx p K)) := ⟨y, fun _ _ => rfl⟩
    have e2 : ∀ j, j < n → comb C.length (fun i => comb K.length y (mx p K) (A.length + i)) (mx p C) j = 0 := by
      intro j hj
      have h4 := (hsp _).1 hin j hj
      rw [comb_app, e1 j hj] at h4
      grind
    have c0 := red_indep hC _ e2
    refine hk y fun j hj => ?_
    rw [List.length_append] at hj
    rcases Nat.lt_or_ge j A.length with h | h
    · exact a0 j h
    · obtain ⟨k, rfl⟩ : ∃ k, j = A.length + k := ⟨j - A.length, by omega⟩
      exact c0 k (by omega)
  have h5 : (meetL p n A C).length = (kernelL p n (A ++ C)).length := by
    unfold meetL
    rw [reducedL_len hf (meetRows_ok (lt_p hf) hA.1), indep_rank hf (meetRows_ok (lt_p hf) hA.1) hlen hind]
  rw [h1, h5, h2]
  rw [List.length_append] at *
  omega
/-- Orthogonals exchange sums and meets; twice orthogonal is the list itself. -/
theorem orth_orth {n : Nat} {A : List (List Int)} (hf : fldN p = true) (hA : IsRed p n A) : orthL p (orthL p A n) n = A := by
  have ho := orth_red hf hA.1
  refine red_unique hf (orth_red hf ho.1) hA fun v => ?_
  rw [orth_span hf ho.1, sep_exists hf hA]
  unfold Perp
  constructor
  · intro h w hw
    obtain ⟨i, hi, rfl⟩ := List.getElem_of_mem hw
    rw [← h i hi]
    exact S_congr fun j _ => by rw [mx_at hi]; grind
  · intro h i hi
    rw [← h _ (List.getElem_mem hi)]
    exact S_congr fun j _ => by rw [mx_at hi]; grind
theorem orth_meet {n : Nat} {A C : List (List Int)} (hf : fldN p = true) (hA : RowsOk p n A) (hC : RowsOk p n C) : meetL p n (orthL p A n) (orthL p C n) = orthL p (sumL p n A C) n := by
  have h1 := orth_red hf hA
  have h2 := orth_red hf hC
  have hs := sum_red hf hA hC
  have hsp := reducedL_span hf (app_ok hA hC)
  refine red_unique hf (meet_red hf h1.1) (orth_red hf hs.1) fun v => ?_
  rw [meet_span hf h1.1 h2.1, orth_span hf hA, orth_span hf hC, orth_span hf hs.1, ← perp_app]
  exact ⟨fun h => perp_span (fun v hv => (hsp v).1 hv) h, fun h => perp_span (fun v hv => (hsp v).2 hv) h⟩
end span
end Go.Proofs.YtghfifpicklonaaDoor

/-
  Coordinates found by elimination, and separators. Plain mathematics. Conditions: the number of elements is a field of the program's kind; the list of rows is reduced.
-/
namespace Go.Proofs.YtghfifpicklonaaDoor
open La
set_option linter.unusedVariables false

def restTo (p : Int) (m : List (List Int)) (v : List Int) : Nat → List Int
  | 0 => v
  | k + 1 => addT p (restTo p m v k) (-((restTo p m v k).getD (leadL (m.getD k [])) 0)) (m.getD k [])
section coord
variable {p : Nat} [NeZero p]
theorem rest_ok {n : Nat} {m : List (List Int)} {v : List Int} (hm : RowsOk p n m) (hv : VecOk p n v) : ∀ k, k ≤ m.length → VecOk p n (restTo p m v k) := by
  intro k
  induction k with
  | zero => intro _; exact hv
  | succ k ih =>
    intro hk
    exact addT_ok _ (ih (by omega)).1 (hm _ (getD_memL (show k < m.length by omega))).1
theorem vec_rest {n : Nat} {m : List (List Int)} {v : List Int} {piv : Nat → Nat} (hf : fldN p = true) (hm : RowsOk p n m) (h : RR m.length n (mx p m) piv) (hv : VecOk p n v) :
    ∀ k, k ≤ m.length → (∀ j, vec p (restTo p m v k) j = vec p v j - S k (fun i => vec p v (piv i) * mx p m i j)) ∧ ∀ i, i < k → (restTo p m v i).getD (leadL (m.getD i [])) 0 = v.getD (leadL (m.getD i [])) 0 := by
  intro k
  induction k with
  | zero => intro _; exact ⟨fun j => by simp only [restTo, S]; grind, fun i hi => by omega⟩
  | succ k ih =>
    intro hk
    obtain ⟨h1, h2⟩ := ih (by omega)
    have hl := lead_piv hf hm h (show k < m.length by omega)
    have hpl := h.lt k (by omega)
    have ok := rest_ok hm hv k (by omega)
    have e : (restTo p m v k).getD (leadL (m.getD k [])) 0 = v.getD (leadL (m.getD k [])) 0 := by
      rw [hl]
      have b1 := ok.2 _ (List.getElem_mem (show piv k < (restTo p m v k).length by rw [ok.1]; exact hpl))
      have b2 := hv.2 _ (List.getElem_mem (show piv k < v.length by rw [hv.1]; exact hpl))
      rw [← getD_ltL (by rw [ok.1]; exact hpl)] at b1
      rw [← getD_ltL (by rw [hv.1]; exact hpl)] at b2
      refine toF_inj b1.1 b1.2 b2.1 b2.2 ?_
      have h3 := h1 (piv k)
      rw [S_zero' fun i hi => by rw [h.col k i (by omega) (by omega) (by omega), fm0]] at h3
      have h4 : vec p (restTo p m v k) (piv k) = vec p v (piv k) := by rw [h3]; grind
      exact h4
    refine ⟨fun j => ?_, fun i hi => ?_⟩
    · simp only [restTo]
      rw [vec_addT _ (by rw [ok.1, (hm _ (getD_memL (show k < m.length by omega))).1]), h1 j, e, hl, toF_neg]
      simp only [S]
      show _ + -(vec p v (piv k)) * mx p m k j = _
      grind
    · rcases Nat.lt_or_ge i k with hi' | hi'
      · exact h2 i hi'
      · obtain rfl : i = k := by omega
        exact e
/-- What the elimination finds, and whether nothing is left. -/
theorem rest_has {n : Nat} {m : List (List Int)} {v : List Int} (hf : fldN p = true) (hr : IsRed p n m) (hv : VecOk p n v) : zeroB (restTo p m v m.length) = hasB p n m v := by
  have hi := hasB_iff hf hr hv
  obtain ⟨hm, piv, h⟩ := hr
  obtain ⟨h1, _⟩ := vec_rest hf hm h hv m.length (Nat.le_refl _)
  have ok := rest_ok hm hv m.length (Nat.le_refl _)
  have key : zeroB (restTo p m v m.length) = true ↔ Spn p n m (vec p v) := by
    constructor
    · intro hz
      refine ⟨fun i => vec p v (piv i), fun j hj => ?_⟩
      have h2 := h1 j
      have hz' : (restTo p m v m.length).getD j 0 = 0 := by
        unfold zeroB at hz
        rw [beq_iff_eq] at hz
        unfold leadL at hz
        rw [List.findIdx_eq_length] at hz
        rw [getD_ltL (by rw [ok.1]; exact hj)]
        have := hz _ (List.getElem_mem (show j < (restTo p m v m.length).length by rw [ok.1]; exact hj))
        rwa [bne_eq_false_iff_eq] at this
      have : vec p (restTo p m v m.length) j = 0 := by unfold vec; rw [hz', toF_zero]
      rw [this] at h2
      unfold comb
      grind
    · intro hs
      have h2 := h.coords hs
      unfold zeroB
      rw [beq_iff_eq]
      refine leadL_end fun j hj => ?_
      rw [ok.1] at hj
      have h3 := h1 j
      have h4 : vec p (restTo p m v m.length) j = 0 := by
        rw [h3, h2 j hj]
        unfold comb
        grind
      have b1 := ok.2 _ (List.getElem_mem (show j < (restTo p m v m.length).length by rw [ok.1]; exact hj))
      rw [vec_at (by rw [ok.1]; exact hj)] at h4
      exact Classical.byContradiction fun hne => toF_ne b1.1 b1.2 hne h4
  rw [Bool.eq_iff_iff, key, hi]
theorem rest_coord {n : Nat} {m : List (List Int)} {v : List Int} (hf : fldN p = true) (hr : IsRed p n m) (hv : VecOk p n v) {i : Nat} (hi : i < m.length) : (restTo p m v i).getD (leadL (m.getD i [])) 0 = v.getD (leadL (m.getD i [])) 0 := by
  obtain ⟨hm, piv, h⟩ := hr
  exact (vec_rest hf hm h hv m.length (Nat.le_refl _)).2 i hi
theorem lead_lt {n : Nat} {m : List (List Int)} (hf : fldN p = true) (hr : IsRed p n m) {i : Nat} (hi : i < m.length) : leadL (m.getD i []) < n := by
  obtain ⟨hm, piv, h⟩ := hr
  rw [lead_piv hf hm h hi]
  exact h.lt i hi
/-! ### products -/
theorem toF_dotTo (x y : List Int) : ∀ k, toF p (dotTo x y k) = S k (fun j => vec p x j * vec p y j) := by
  intro k
  induction k with
  | zero => simp only [dotTo, S]; exact toF_zero
  | succ k ih =>
    simp only [dotTo, S]
    rw [toF_add, toF_mul, ih]
    rfl
def dotP (p : Int) (x y : List Int) : Int := dotTo x y x.length % p
theorem dotP_bd (x y : List Int) : 0 ≤ dotP p x y ∧ dotP p x y < p := ⟨Int.emod_nonneg _ (by have := pos_int p; omega), Int.emod_lt_of_pos _ (pos_int p)⟩
theorem toF_dotP (x y : List Int) : toF p (dotP p x y) = S x.length (fun j => vec p x j * vec p y j) := by
  unfold dotP
  rw [toF_emod, toF_dotTo]
theorem dotP_zero {x y : List Int} : dotP p x y = 0 ↔ S x.length (fun j => vec p x j * vec p y j) = 0 := by
  rw [← toF_dotP]
  have b := dotP_bd (p := p) x y
  constructor
  · intro h; rw [h, toF_zero]
  · intro h; exact Classical.byContradiction fun hne => toF_ne b.1 b.2 hne h
def sepOf (p : Int) (W : List (List Int)) (v : List Int) : Option (List Int) := (W.find? fun w => dotP p w v != 0).map fun w => scaleV p w (invI p (dotP p w v))
theorem sep_none {n : Nat} {m : List (List Int)} {v : List Int} (hf : fldN p = true) (hr : IsRed p n m) (hv : VecOk p n v) : sepOf p (orthL p m n) v = none ↔ hasB p n m v = true := by
  rw [hasB_iff hf hr hv, sep_exists hf hr]
  unfold sepOf
  rw [Option.map_eq_none_iff, List.find?_eq_none]
  have ho := (orth_red hf hr.1).1
  constructor
  · intro h w hw
    have h1 := h w hw
    simp only [bne_iff_ne, ne_eq, Decidable.not_not] at h1
    rw [dotP_zero, (ho w hw).1] at h1
    exact h1
  · intro h w hw
    have h1 := h w hw
    rw [← (ho w hw).1, ← dotP_zero] at h1
    rw [h1]
    simp
theorem sep_some {n : Nat} {m : List (List Int)} {v w : List Int} (hf : fldN p = true) (hr : IsRed p n m) (hv : VecOk p n v) (h : sepOf p (orthL p m n) v = some w) : VecOk p n w ∧ dotP p w v = 1 ∧ ∀ b ∈ m, dotP p w b = 0 := by
  unfold sepOf at h
  rw [Option.map_eq_some_iff] at h
  obtain ⟨u, hu, rfl⟩ := h
  have hne := List.find?_some hu
  have hmem := List.mem_of_find?_eq_some hu
  rw [bne_iff_ne] at hne
  have ho := (orth_red hf hr.1).1 u hmem
  have b := dotP_bd (p := p) u v
  have hinv := toF_inv hf (b := dotP p u v) (by omega) b.2
  have hok := scaleV_ok (p := p) (invI p (dotP p u v)) ho.1
  have hdot : ∀ y : List Int, toF p (dotP p (scaleV p u (invI p (dotP p u v))) y) = toF p (dotP p u y) * toF p (invI p (dotP p u v)) := by
    intro y
    rw [toF_dotP, toF_dotP, hok.1, ho.1, ← S_mulr]
    exact S_congr fun j _ => by rw [vec_scaleV]; grind
  refine ⟨hok, ?_, fun b hb => ?_⟩
  · have b2 := dotP_bd (p := p) (scaleV p u (invI p (dotP p u v))) v
    have := lt_p hf
    refine toF_inj b2.1 b2.2 (by omega) (by omega) ?_
    rw [hdot, hinv, toF_one]
  · have b2 := dotP_bd (p := p) (scaleV p u (invI p (dotP p u v))) b
    have h1 : Spn p n (orthL p m n) (vec p u) := by
      obtain ⟨i, hi, rfl⟩ := List.getElem_of_mem hmem
      have := In.row (n := n) (A := mx p (orthL p m n)) hi
      rwa [mx_at hi] at this
    rw [orth_span hf hr.1] at h1
    obtain ⟨i, hi, rfl⟩ := List.getElem_of_mem hb
    have h2 := h1 i hi
    rw [mx_at hi, ← ho.1, ← dotP_zero] at h2
    refine Classical.byContradiction fun hne => toF_ne b2.1 b2.2 hne ?_
    rw [hdot, h2, toF_zero, f0m]
end coord

/-- the sum that is taken element by element -/
def colTo (p : Int) (k : List Int) (m : List (List Int)) (j : Nat) : Nat → Int
  | 0 => 0
  | i + 1 => (colTo p k m j i + k.getD i 0 * at2 m i j) % p
theorem col_comb {p : Int} {n : Nat} {k : List Int} {m : List (List Int)} (hm : ∀ row ∈ m, row.length = n) {j : Nat} (hj : j < n) : ∀ i, i ≤ m.length → (combTo p k m n i).length = n ∧ (combTo p k m n i).getD j 0 = colTo p k m j i := by
  intro i
  induction i with
  | zero => intro _; exact ⟨by simp [combTo], by simp only [combTo, colTo]; rw [getD_ltL (by simpa using hj)]; simp⟩
  | succ i ih =>
    intro hi
    obtain ⟨h1, h2⟩ := ih (by omega)
    have hr := hm _ (getD_memL (show i < m.length by omega))
    refine ⟨by simp only [combTo, addT, List.length_zipWith]; omega, ?_⟩
    simp only [combTo, colTo]
    rw [addT_getD (by rw [h1, hr]) (by rw [h1]; exact hj), h2]
    rfl
end Go.Proofs.YtghfifpicklonaaDoor

/-
  Reduced lists and spaces, checked; spans. Conditions: the sizes are small.
-/
namespace Go.Proofs.YtghfifpicklonaaDoor
open Go.RowKit
set_option linter.unusedVariables false

def redB (p n : Int) (L : List (List Int)) : Bool := decide ((L.length : Int) ≤ n) && (rowsB p n L && (reducedL p n.toNat L == L))
end Go.Proofs.YtghfifpicklonaaDoor

/-
  Spaces checked and spanned. Conditions: the sizes are small.
-/
namespace Go.Proofs.YtghfifpicklonaaDoor
open Go.RowKit
set_option linter.unusedVariables false

/-- what a box of two cells gives the walk -/
theorem bx {w : World} {k : Nat} {x y : Value} {t : TypeId} (h : w.heap[k]? = some (.cells #[x, y] t (0, 0))) :
    w.cell? ⟨k, 0, none⟩ = some x ∧ w.cell? ⟨k, 1, none⟩ = some y ∧ w.frozen? ⟨k, 0, none⟩ = false ∧ w.frozen? ⟨k, 1, none⟩ = false :=
  ⟨cell_blk h 0, cell_blk h 1, free_blk h 0, free_blk h 1⟩
theorem bx_on {w w' : World} {k : Nat} {o : Obj} (h : w.heap[k]? = some o) (hg : w.grownBy w' none) : w'.heap[k]? = some o := (hg.block k (lt_of_blk h) (by simp)).trans h
theorem Pre.only {B : Nat} {S : Nat → Prop} {w w' : World} {v : Value} {L : List (List Int)} (h : Pre B w v L) (ho : Only S w w') (hS : ∀ k, S k → k < B) : Pre B w' v L := by
  obtain ⟨a, m, c, c', vs, R, h1, h2, h3, h4⟩ := h
  exact ⟨a, m, c, c', vs, R, h1, h2.only ho fun k hk hk' => by have := (h2.lt hk).1; have := hS k hk'; omega, h3, h4⟩
theorem Pre.shape {B : Nat} {w : World} {v : Value} {L : List (List Int)} (h : Pre B w v L) : ∃ a c, v = .slice a L.length c := by
  obtain ⟨a, m, c, c', vs, R, h1, _⟩ := h
  exact ⟨a, c', h1⟩
/-- a result's box of two cells is written, nothing old is -/
theorem box_end {w w1 : World} (x y : Value) (hg : w.grownBy w1 none) (hs : w.heap.size < w1.heap.size) : w.grownBy ((w1.setCell ⟨w.heap.size, 0, none⟩ x).setCell ⟨w.heap.size, 1, none⟩ y) none :=
  grown_of_below ((Below.grown (Below.refl _ w) hg (Nat.le_refl _) (by simp)).trans ((one_set (w := w1) w.heap.size x y).below hg.size fun q hq => by omega))
def spaceB (p n : Int) (L : List (List Int)) : Bool := fldB p && (decide (0 ≤ n ∧ n ≤ 24) && redB p n L)
theorem spaceB_parts {p n : Int} {L : List (List Int)} (h : spaceB p n L = true) : fldB p = true ∧ 0 ≤ n ∧ n ≤ 24 ∧ (L.length : Int) ≤ n ∧ rowsB p n L = true ∧ reducedL p n.toNat L = L := by
  unfold spaceB redB at h
  simp only [Bool.and_eq_true, decide_eq_true_eq, beq_iff_eq] at h
  obtain ⟨h1, ⟨h2, h3⟩, h4, h5, h6⟩ := h
  exact ⟨h1, h2, h3, h4, h5, h6⟩
/-- what a space is, in numbers of the program's kind -/
theorem spaceB_nat {p n : Int} {L : List (List Int)} (h : spaceB p n L = true) : ∃ (q : Nat) (_ : NeZero q) (m : Nat), p = q ∧ n = m ∧ fldN q = true ∧ q ≤ 97 ∧ m ≤ 24 ∧ L.length ≤ m ∧ IsRed q m L ∧ RowsOk q m L := by
  obtain ⟨h1, h2, h3, h4, h5, h6⟩ := spaceB_parts h
  obtain ⟨b1, b2⟩ := fldB_bd h1
  obtain ⟨q, rfl⟩ := Int.eq_ofNat_of_zero_le (show 0 ≤ p by omega)
  obtain ⟨m, rfl⟩ := Int.eq_ofNat_of_zero_le h2
  haveI : NeZero q := ⟨by omega⟩
  rw [fldB_nat] at h1
  have hok := rowsB_ok.1 h5
  have hr := reducedL_red h1 hok
  rw [Int.toNat_natCast] at h6
  rw [h6] at hr
  exact ⟨q, inferInstance, m, rfl, rfl, h1, by omega, by omega, by omega, hr, hok⟩
def spanB (p n : Int) (L : List (List Int)) : Bool := fldB p && (decide (0 ≤ n ∧ n ≤ 24) && (decide (L.length ≤ 48) && rowsB p n L))
end Go.Proofs.YtghfifpicklonaaDoor

/-
  The specification's row operations: a row multiplied, a multiple of a row subtracted. Conditions: the elements are small.
-/
namespace Go.Proofs.YtghfifpicklonaaDoor
open Go.RowKit
set_option linter.unusedVariables false

theorem less_eq (p k a s : Int) : (a + p - k * s % p) % p = (a + -k * s) % p := by
  have h := Int.emod_add_mul_ediv (k * s) p
  have e : a + -k * s = (a + p - k * s % p) + p * (-(k * s / p) - 1) := by grind
  rw [e, Int.add_mul_emod_self_left]
end Go.Proofs.YtghfifpicklonaaDoor

/-
  The specification's copies, zero and identity matrices. Conditions: lengths are small.
-/
namespace Go.Proofs.YtghfifpicklonaaDoor
open Go.RowKit
set_option linter.unusedVariables false

theorem l1Own_anyL (u : Value) (ys : List Int) (w : World) (hu : IntsV w u ys) (hl : ys.length ≤ 1000000) :
    Calls Tryd.prog 84 #[u] w fun e w' => ∃ v, e = .returned v ∧ OwnInts w.heap.size w' v ys ∧ w.grownBy w' none := by
  have HU := Lib.hid hu
  obtain ⟨ua, ucap, rfl, hx⟩ := hu
  clear hx
  go_enter Tryd.func84, Tryd.ntmps84
  go_wp2_with (at_builtin; go_loud (refine app_ints rfl _ _ rfl rfl rfl (HU.out.carry (grownBy_alloc _ _ _)) (OwnInts.empty (Nat.le_refl _) rfl) (by simp) (by simp; omega) ?_); intro v' w1 hown' hbel')
  have H1 := Lib.hid hown'; have H2 := Lib.hid hbel'
  clear hown' hbel'
  go_wp2
  go_ret
  exact ⟨v', rfl, by have := H1.out; simpa using this, grown_of_below (((Below.refl _ _).alloc (Nat.le_refl _) _).trans H2.out)⟩
theorem nils_own {B n : Nat} {w : World} {v : Value} (h : w.ownsRow B 27 1 v n (List.replicate n nilS)) : OwnM B w v (List.replicate n nilS) (List.replicate n []) := by
  have g1 : ∀ i, (List.replicate n nilS).getD i nilS = nilS := by
    intro i
    rw [List.getD_eq_getElem?_getD]
    rcases Nat.lt_or_ge i n with hi | hi
    · rw [List.getElem?_replicate, if_pos hi]; rfl
    · rw [List.getElem?_eq_none (by simpa using hi)]; rfl
  have g2 : ∀ i, (List.replicate n ([] : List Int)).getD i [] = [] := by
    intro i
    rw [List.getD_eq_getElem?_getD]
    rcases Nat.lt_or_ge i n with hi | hi
    · rw [List.getElem?_replicate, if_pos hi]; rfl
    · rw [List.getElem?_eq_none (by simpa using hi)]; rfl
  refine ⟨by simp, by rw [List.length_replicate]; exact h, fun i => ?_, fun i j _ k hk => ?_⟩
  · rw [g1, g2]; exact OwnInts.nil B w
  · rw [g1] at hk; exact absurd hk nil_hits
def zeroCells (n : Nat) : Array Value := madeCells (Value.int .i64 0).cells (n * 1)
theorem make_row (n : Nat) (hn : n ≤ 1000000) (w : World) : (Instr.makeSlice 27 (.int .i64 n) (.int .i64 n)).run Tryd.prog w = .ok (.slice (some ⟨w.heap.size, 0, none⟩) n n) (w.alloc (.cells (zeroCells n) 3)) := by
  obtain ⟨i0, hi, hz0, hz1, hz2⟩ := info_parts info_int
  have h := run_make (P := Tryd.prog) w 27 3 i0 (.int .i64 0) Tryd.underlying27 hi hz0 .i64 .i64 n n (by omega) (Int.le_refl _) (by rw [hz2]; omega) (by omega)
  rw [hz1] at h
  simp only [Int.toNat_natCast] at h
  exact h
theorem row_made {B : Nat} (n : Nat) (hn : n ≤ 1000000) (w : World) (hB : B ≤ w.heap.size) : OwnInts B (w.alloc (.cells (zeroCells n) 3)) (.slice (some ⟨w.heap.size, 0, none⟩) n n) (List.replicate n 0) := by
  have h := World.ownsRow_lit (e := 3) (base := B) (size := 1) w (zeroCells n) n hB (by unfold maxLen; omega) (size_madeCells _ _)
  unfold zeroCells at h
  rw [madeCells_int] at h
  unfold OwnInts zeroCells
  rw [List.length_replicate]
  exact h
theorem unit_step {n k : Nat} (hk : k < n) : (List.replicate n (0 : Int)).set k 1 = unitL n k := rfl
theorem copy_start (w : World) (c1 : Array Value) (n : Int) :
    let w0 := ((w.alloc (.cells c1 44)).alloc (.cells #[.int .i64 0, .slice none 0 0] 44)).alloc (.cells #[.int .i64 n, .slice none 0 0] 44)
    w0.heap[w.heap.size]? = some (.cells c1 44 (0, 0)) ∧ w0.heap[w.heap.size + 1]? = some (.cells #[.int .i64 0, .slice none 0 0] 44 (0, 0)) ∧
    w0.heap[w.heap.size + 1 + 1]? = some (.cells #[.int .i64 n, .slice none 0 0] 44 (0, 0)) ∧ OwnM (w.heap.size + 1 + 1) w0 (.slice none 0 0) [] [] ∧ w.grownBy w0 none ∧ w0.heap.size = w.heap.size + 1 + 1 + 1 := by
  intro w0
  have hb := blk3 w (.cells c1 44) (.cells #[.int .i64 0, .slice none 0 0] 44) (.cells #[.int .i64 n, .slice none 0 0] 44) (grownBy_refl _ none)
  exact ⟨hb.1, hb.2.1, hb.2.2.1, OwnM.start (World.ownsRow_nil _ _ _ _), ((grownBy_alloc _ _ none).trans (grownBy_alloc _ _ none)).trans (grownBy_alloc _ _ none), by simp [w0]⟩
end Go.Proofs.YtghfifpicklonaaDoor

/-
  Transposed lists, orthogonal lists, coordinates. Conditions: the sizes are small.
-/
namespace Go.Proofs.YtghfifpicklonaaDoor
open Go.RowKit
set_option linter.unusedVariables false

def colL (L : List (List Int)) (j : Nat) : List Int := L.map fun row => row.getD j 0
theorem colL_getD {L : List (List Int)} {i j : Nat} (hi : i < L.length) : (colL L j).getD i 0 = at2 L i j := by
  unfold colL at2
  rw [List.getD_eq_getElem?_getD, List.getElem?_map, List.getElem?_eq_getElem hi, List.getD_eq_getElem?_getD (l := L), List.getElem?_eq_getElem hi]
  rfl
theorem rep_getD {α : Type} {n j : Nat} (x d : α) (h : j < n) : (List.replicate n x).getD j d = x := by
  rw [List.getD_eq_getElem?_getD, List.getElem?_replicate, if_pos h]; rfl
end Go.Proofs.YtghfifpicklonaaDoor

/-
  Coordinates in a reduced list, and who asks for them. Conditions: the sizes are small.
-/
namespace Go.Proofs.YtghfifpicklonaaDoor
open Go.RowKit
set_option linter.unusedVariables false

theorem take_snocD {α : Type} {l : List α} {k : Nat} (d : α) (h : k < l.length) : l.take (k + 1) = l.take k ++ [l.getD k d] := by
  rw [List.take_succ_eq_append_getElem h, List.getD_eq_getElem?_getD, List.getElem?_eq_getElem h]; rfl
theorem coordsL_at {m : List (List Int)} {v : List Int} {k : Nat} (h : k < m.length) : (coordsL m v).getD k 0 = v.getD (leadL (m.getD k [])) 0 := by
  unfold coordsL
  rw [List.getD_eq_getElem?_getD, List.getElem?_map, List.getElem?_eq_getElem h, List.getD_eq_getElem?_getD (l := m), List.getElem?_eq_getElem h]
  rfl
/-- a row of a list that was there when the call began, at a later world -/
theorem MatV.rowD {w : World} {v : Value} {L : List (List Int)} (h : MatV w v L) {i : Nat} (hi : i < L.length) :
    ∃ (b o cap ml : Nat) (r : Option Addr) (c : Nat), v = .slice (some ⟨b, o, none⟩) ml cap ∧ w.cell? ⟨b, o + i, none⟩ = some (.slice r (L.getD i []).length c) ∧ IntsV w (.slice r (L.getD i []).length c) (L.getD i []) := by
  obtain ⟨a, c, rfl⟩ := h.shape
  obtain ⟨d, r, rc, rfl, hs, hd, hc, hr⟩ := h.row hi
  obtain ⟨b, o, _⟩ := d
  simp only at hs hc
  subst hs
  have e : L.getD i [] = L[i] := by rw [List.getD_eq_getElem?_getD, List.getElem?_eq_getElem hi]; rfl
  rw [e]
  exact ⟨b, o, c, _, r, rc, rfl, hc, hr⟩
theorem MatV.rowK {w wr : World} {v : Value} {L : List (List Int)} (h : MatV w v L) (hg : w.grownBy wr none) {i : Nat} (hi : i < L.length) :
    ∃ (b o cap ml : Nat) (r : Option Addr) (c : Nat), v = .slice (some ⟨b, o, none⟩) ml cap ∧ wr.cell? ⟨b, o + i, none⟩ = some (.slice r (L.getD i []).length c) ∧ IntsV w (.slice r (L.getD i []).length c) (L.getD i []) := by
  obtain ⟨a, c, rfl⟩ := h.shape
  obtain ⟨d, r, rc, rfl, hs, hd, hc, hr⟩ := h.row hi
  obtain ⟨b, o, _⟩ := d
  simp only at hs hc
  subst hs
  have e : L.getD i [] = L[i] := by rw [List.getD_eq_getElem?_getD, List.getElem?_eq_getElem hi]; rfl
  rw [e]
  exact ⟨b, o, c, _, r, rc, rfl, (World.cell?_of_block (w := w) (a := ⟨b, o + i, none⟩) (hg.block _ hd (by simp))).trans hc, hr⟩
theorem Sep.updI {w w' : World} {l : List Asrt} {v : Value} {zs zs' : List Int} {B : Nat} (h : Sep w (OI v zs :: l)) (ho : Only (Hits v) w w') (hi : OwnInts B w' v zs') : Sep w' (OI v zs' :: l) :=
  h.upd' (A' := OI v zs') ho (hi.rebase fun _ _ => Nat.zero_le _) fun _ hk => Or.inl hk
theorem Sep.updM {w w' : World} {l : List Asrt} {v : Value} {vs vs' : List Value} {L L' : List (List Int)} {B : Nat} (h : Sep w (OM v vs L :: l)) (ho : Only (Foot v vs) w w') (hi : OwnM B w' v vs' L') (hf : ∀ x ∈ vs', x ∈ vs) : Sep w' (OM v vs' L' :: l) :=
  h.upd' (A' := OM v vs' L') ho (hi.rebase fun _ _ => Nat.zero_le _) fun k hk => Or.inl (Foot.mono hf hk)
theorem IntsV.blk_lt {w : World} {u : Value} {y : List Int} (h : IntsV w u y) (hy : y ≠ []) {k : Nat} (hk : Value.blk' u = some k) : k < w.heap.size := by
  obtain ⟨a, c, rfl, h⟩ := h
  obtain ⟨d, rfl, _, hd, _⟩ := h hy
  simp only [Value.blk', Option.some.injEq] at hk
  omega
theorem coordsL_bd {p : Int} {m : List (List Int)} {x : List Int} {n : Nat} (hx : VecOk p n x) (hld : ∀ i, i < m.length → leadL (m.getD i []) < n) : ∀ z ∈ coordsL m x, 0 ≤ z ∧ z < p := by
  intro z hz
  obtain ⟨i, hi, rfl⟩ := List.getElem_of_mem hz
  have hi' : i < m.length := by simpa [coordsL] using hi
  rw [← getD_ltL hi, coordsL_at hi', getD_ltL (by rw [hx.1]; exact hld i hi')]
  exact hx.2 _ (List.getElem_mem _)
end Go.Proofs.YtghfifpicklonaaDoor

/-
  Two rows of a list change places. Conditions: as each says.
-/
namespace Go.Proofs.YtghfifpicklonaaDoor
open Go.RowKit
set_option linter.unusedVariables false

theorem swapL_comm {L : List (List Int)} (a b : Nat) : swapL L a b = swapL L b a := by
  unfold swapL
  by_cases h : a = b
  · subst h; rfl
  · rw [List.set_comm _ _ h]
/-- what the three assignments that exchange two rows read and leave -/
theorem Sep.swapM {w : World} {l : List Asrt} {g n cap : Nat} {vs : List Value} {L : List (List Int)} (h : Sep w (OM (.slice (some ⟨g, 0, none⟩) n cap) vs L :: l)) (hn : n = L.length) {r j : Nat} (hr : r < L.length) (hj : j < L.length) :
    w.cell? ⟨g, r, none⟩ = some (vs.getD r nilS) ∧ w.cell? ⟨g, j, none⟩ = some (vs.getD j nilS) ∧ w.frozen? ⟨g, r, none⟩ = false ∧ w.frozen? ⟨g, j, none⟩ = false ∧
      ∃ vs', Sep ((w.setCell ⟨g, r, none⟩ (vs.getD j nilS)).setCell ⟨g, j, none⟩ (vs.getD r nilS)) (OM (.slice (some ⟨g, 0, none⟩) n cap) vs' (swapL L r j) :: l) := by
  subst hn
  have hlen := h.hd.len
  refine ⟨h.hd.cell rfl hr, h.hd.cell rfl hj, h.hd.free rfl r, h.hd.free rfl j, ?_⟩
  have o1 := h.hd.out
  rw [hlen] at o1
  have s1 := World.ownsRow.stored o1 r (vs.getD j nilS)
  have n1 : Only (· = g) w _ := Only.of_grown s1.2 fun k hk => by simp at hk; exact hk.symm
  have s2 := World.ownsRow.stored s1.1 j (vs.getD r nilS)
  have n2 : Only (· = g) _ _ := Only.of_grown s2.2 fun k hk => by simp at hk; exact hk.symm
  have nn := n1.trans n2
  have S1 : ∀ k, k = g → ∀ i, ¬ Hits (vs.getD i nilS) k := by
    intro k hk i hi
    subst hk
    exact apart_types h.hd.out (h.hd.row i) (by decide) _ rfl hi
  by_cases hne : j = r
  · subst hne
    rw [swapL_self hr]
    have e : (vs.set j (vs.getD j nilS)).set j (vs.getD j nilS) = vs := by
      rw [List.set_set]
      refine List.ext_getElem (by simp) fun i h1 h2 => ?_
      rw [List.getElem_set]
      split
      · next hi => subst hi; rw [List.getD_eq_getElem?_getD, List.getElem?_eq_getElem h2]; rfl
      · rfl
    refine ⟨vs, h.updM (nn.mono fun k hk => by rw [hk]; exact Or.inl rfl) (B := 0) ⟨hlen, ?_, fun i => (h.hd.row i).only nn fun q hq hq' => S1 q hq' i hq, h.hd.ap⟩ fun x hx => hx⟩
    have := s2.1
    rw [e] at this
    rw [hlen]
    exact this
  · obtain ⟨m1, b1⟩ := h.hd.swapped hj hr hne nn S1 (by rw [hlen]; exact s2.1)
    rw [swapL_comm] at m1
    exact ⟨_, h.updM (nn.mono fun k hk => by rw [hk]; exact Or.inl rfl) m1 b1⟩
/-- the same with the rows' lengths -/
theorem Sep.swapR {w : World} {l : List Asrt} {g n cap c : Nat} {p : Int} {vs : List Value} {L : List (List Int)} (h : Sep w (OM (.slice (some ⟨g, 0, none⟩) n cap) vs L :: l)) (hn : n = L.length) (hok : RowsOk p c L) {r j : Nat} (hr : r < L.length) (hj : j < L.length) :
    ∃ ar cr aj cj, w.cell? ⟨g, r, none⟩ = some (.slice ar c cr) ∧ w.cell? ⟨g, j, none⟩ = some (.slice aj c cj) ∧ w.frozen? ⟨g, r, none⟩ = false ∧ w.frozen? ⟨g, j, none⟩ = false ∧ (∃ vx, (w.setCell ⟨g, r, none⟩ (.slice aj c cj)).cell? ⟨g, j, none⟩ = some vx) ∧
      ∃ vs', Sep ((w.setCell ⟨g, r, none⟩ (.slice aj c cj)).setCell ⟨g, j, none⟩ (.slice ar c cr)) (OM (.slice (some ⟨g, 0, none⟩) n cap) vs' (swapL L r j) :: l) := by
  obtain ⟨h1, h2, h3, h4, h5⟩ := h.swapM hn hr hj
  obtain ⟨ar, cr, er⟩ := own_shape (h.hd.row r)
  obtain ⟨aj, cj, ej⟩ := own_shape (h.hd.row j)
  rw [(hok _ (getD_memL hr)).1] at er
  rw [(hok _ (getD_memL hj)).1] at ej
  rw [er] at h1 h5
  rw [ej] at h2 h5
  exact ⟨ar, cr, aj, cj, h1, h2, h3, h4, cell?_setCell_some h2, h5⟩
/-- what the assignments that exchange two rows read and leave, with the rows' lengths -/
theorem Sep.swapN {w : World} {l : List Asrt} {g n cap c : Nat} {vs : List Value} {L : List (List Int)} (h : Sep w (OM (.slice (some ⟨g, 0, none⟩) n cap) vs L :: l)) (hn : n = L.length) (hr' : ∀ row ∈ L, row.length = c) {r j : Nat} (hr : r < L.length) (hj : j < L.length) :
    ∃ ar cr aj cj, w.cell? ⟨g, r, none⟩ = some (.slice ar c cr) ∧ w.cell? ⟨g, j, none⟩ = some (.slice aj c cj) ∧ w.frozen? ⟨g, r, none⟩ = false ∧ w.frozen? ⟨g, j, none⟩ = false ∧
      ∃ vs', Sep ((w.setCell ⟨g, r, none⟩ (.slice aj c cj)).setCell ⟨g, j, none⟩ (.slice ar c cr)) (OM (.slice (some ⟨g, 0, none⟩) n cap) vs' (swapL L r j) :: l) := by
  obtain ⟨h1, h2, h3, h4, h5⟩ := h.swapM hn hr hj
  obtain ⟨ar, cr, er⟩ := own_shape (h.hd.row r)
  obtain ⟨aj, cj, ej⟩ := own_shape (h.hd.row j)
  rw [hr' _ (getD_memL hr)] at er
  rw [hr' _ (getD_memL hj)] at ej
  rw [er] at h1 h5
  rw [ej] at h2 h5
  exact ⟨ar, cr, aj, cj, h1, h2, h3, h4, h5⟩
end Go.Proofs.YtghfifpicklonaaDoor

/-
  The specification's reduction of lists. Conditions: the sizes are small.
-/
namespace Go.Proofs.YtghfifpicklonaaDoor
open Go.RowKit
set_option linter.unusedVariables false

theorem redTo_full {p : Int} {R T : List (List Int)} {n k : Nat} (hk : k ≤ n) (h : (redTo p R T k).r = (redTo p R T k).R.length) : redTo p R T n = redTo p R T k := by
  induction n with
  | zero => rw [show k = 0 by omega]
  | succ n ih =>
    by_cases e : k = n + 1
    · rw [e]
    · have ih := ih (by omega)
      show stepL p n (redTo p R T n) = _
      rw [ih]
      unfold stepL
      rw [pivAt_is_none (by omega) (fun l h1 h2 => by omega)]
theorem calls_flip {f : FuncId} {args : Array Value} {w : World} {v : Value} (h : Calls Tryd.prog f args w fun e w' => e = .returned v ∧ w = w') : Calls Tryd.prog f args w fun e w' => e = .returned v ∧ w' = w :=
  h.mono fun _ _ h => ⟨h.1, h.2.symm⟩
theorem set_getD_self {L : List (List Int)} {r : Nat} : L.set r (L.getD r []) = L := by
  refine List.ext_getElem (by simp) fun i h1 h2 => ?_
  rw [List.getElem_set]
  split
  · next hi => subst hi; rw [List.getD_eq_getElem?_getD, List.getElem?_eq_getElem h2]; rfl
  · rfl
theorem getM {w : World} {l : List Asrt} {g n cap c : Nat} {p : Int} {vs : List Value} {L : List (List Int)} (h : Sep w (OM (.slice (some ⟨g, 0, none⟩) n cap) vs L :: l)) (hn : n = L.length) (hok : RowsOk p c L) {i j : Nat} (hi : i < L.length) (hj : j < c) :
    ∃ gi ci, gi ≠ g ∧ w.cell? ⟨g, i, none⟩ = some (.slice (some ⟨gi, 0, none⟩) c ci) ∧ w.cell? ⟨gi, j, none⟩ = some (.int .i64 (at2 L i j)) ∧ w.frozen? ⟨gi, j, none⟩ = false ∧ (0 ≤ at2 L i j ∧ at2 L i j < p) ∧
      ∀ x, Sep (w.setCell ⟨gi, j, none⟩ (.int .i64 x)) (OM (.slice (some ⟨g, 0, none⟩) n cap) vs (L.set i ((L.getD i []).set j x)) :: l) := by
  have hr := hok _ (getD_memL hi)
  obtain ⟨gi, ci, h1, h2, h3, h4, h5⟩ := h.setM hn hi (j := j) (by rw [hr.1]; exact hj)
  rw [hr.1] at h2
  refine ⟨gi, ci, h1, h2, h3, h4, ?_, h5⟩
  unfold at2
  rw [getD_ltL (by rw [hr.1]; exact hj)]
  exact hr.2 _ (List.getElem_mem _)
theorem OwnM.firstRows {B m c r : Nat} {w : World} {a : Option Addr} {vs : List Value} {R : List (List Int)} (h : OwnM B w (.slice a m c) vs R) (hr : r ≤ R.length) : OwnM B w (.slice a r c) (vs.take r) (R.take r) := by
  have hl := h.len
  have g1 : ∀ i, (vs.take r).getD i nilS = if i < r then vs.getD i nilS else nilS := by
    intro i
    simp only [List.getD_eq_getElem?_getD, List.getElem?_take]
    split <;> rfl
  have g2 : ∀ i, (R.take r).getD i [] = if i < r then R.getD i [] else [] := by
    intro i
    simp only [List.getD_eq_getElem?_getD, List.getElem?_take]
    split <;> rfl
  have hvr : (vs.take r).length = r := by rw [List.length_take]; omega
  refine ⟨by rw [hvr, List.length_take]; omega, ?_, fun i => ?_, fun i j hij => ?_⟩
  · obtain ⟨h1, h2⟩ := h.out
    refine ⟨by rw [hvr]; omega, ?_⟩
    rcases h2 with ⟨he, h0⟩ | ⟨g, cap, cur, he, hg, hh, hc, hm, hs, ht⟩
    · cases he
      have : r = 0 := by omega
      subst this
      exact Or.inl ⟨rfl, by simp⟩
    · cases he
      refine Or.inr ⟨g, c, cur, by rw [hvr], hg, hh, by omega, hm, hs, ?_⟩
      rw [hvr, Nat.mul_one]
      rw [Nat.mul_one] at ht
      rw [← ht, List.take_take, Nat.min_eq_left (by omega)]
  · rw [g1, g2]
    split
    · exact h.row i
    · exact OwnInts.nil B w
  · rw [g1, g1]
    split
    · split
      · exact h.ap i j hij
      · exact fun k _ h => nil_hits h
    · exact fun k h => absurd h nil_hits
set_option maxRecDepth 100000 in
set_option maxHeartbeats 4000000 in
theorem spReduce_own (p : Nat) [NeZero p] (n : Nat) (u : Value) (L : List (List Int)) (w : World) (hfld : fldN p = true) (hp2 : p ≤ 1000) (hv : MatV w u L) (hL : RowsOk p n L) (hm : L.length ≤ 1000) (hn : n ≤ 1000) :
    Calls Tryd.prog 86 #[.int .i64 p, .int .i64 n, u] w fun e w' => ∃ v c, e = .returned (.slice v (reducedL p n L).length c) ∧ (∃ vs, OwnM w.heap.size w' (.slice v (reducedL p n L).length c) vs (reducedL p n L)) ∧ w.grownBy w' none := by
  have hp1 := lt_p hfld
  have HV := Lib.hid hv
  have HROW := Lib.hid fun k (hk : k < L.length) => (hL _ (getD_memL hk)).1
  have HFIT0 := Lib.hid (show Fit p L.length n 0 L (List.replicate L.length []) from ⟨rfl, List.length_replicate, hL, nils_ok p _⟩)
  have hsh := hv.shape
  obtain ⟨ua, uc, rfl⟩ := hsh
  clear hv hL
  generalize hml : L.length = m at *
  have HML := Lib.hid hml
  clear hml
  go_enter Tryd.func86, Tryd.ntmps86
  go_wp2_with fail
  go_loopw [7, 21] (fun o i wr => ∃ (k : Nat) (vs : List Value), k ≤ m ∧ i = .int .i64 k ∧ Sep wr [OM o vs (L.take k), KeepA w]) (fun _ i _ => m - (intOf i).toNat)
  case atStart => exact ⟨0, [], by omega, rfl, (Sep.start w).nilM⟩
  case round =>
    obtain ⟨k, vs, hk, rfl, hs⟩ := hrel
    have HS := Lib.hid hs
    clear hs
    by_cases hlt : k < m
    · obtain ⟨b, o, cap, ml, r, rc, he, hcell, hrow⟩ := HV.out.rowK HS.out.s2.hd (show k < L.length by rw [HML.out]; exact hlt)
      cases he
      have hrl := HROW.out k hlt
      rw [hrl] at hcell hrow
      have HCL := Lib.hid (l1Own_anyL _ _ wr (hrow.carry HS.out.s2.hd) (by omega))
      have HTK := Lib.hid (take_snocD [] (show k < L.length by rw [HML.out]; exact hlt))
      have A5 := Lib.hid (show (L.take k).length ≤ 1000000 by rw [List.length_take]; omega)
      have htl : (L.take k).length = k := by rw [List.length_take, HML.out]; omega
      have HTL := Lib.hid htl
      clear hrow hrl htl
      go_wp2_with (first
        | (go_at_call 84
           with_reducible refine HCL.out.mono ?_
           rintro e w2 ⟨rv, rfl, ho, hg⟩
           obtain ⟨ra, rc2, hre⟩ := own_shape ho
           subst hre
           have HS2 := Lib.hid (HS.out.newI hg ho)
           clear ho hg)
        | (at_builtin
           refine app_rowS rfl _ _ rfl rfl rfl HS2.out A5.out ?_
           intro g2 cap2 w3 hs3
           have HS3 := Lib.hid hs3
           clear hs3))
      go_roundw
      case rel => exact ⟨k + 1, _, by omega, by go_num, by rw [HTK.out]; have h := HS3.out; rw [List.length_take] at h; exact h⟩
      case measure => simp [intOf]; omega
    · have hkm : L.take k = L := List.take_of_length_le (by rw [HML.out]; omega)
      have hs := HS.out
      rw [hkm] at hs
      obtain ⟨ma, mc, hme, hmi, hmc⟩ := own_form hs.hd
      rw [HML.out] at hme hmc
      subst hme
      have HS := Lib.hid hs
      have HAT := Lib.hid (fun k (hk : k ≤ n) => at_round hfld HFIT0.out hk)
      clear hs hkm
      obtain ⟨w1, hw1⟩ : ∃ w1, w1 = wr := ⟨_, rfl⟩
      subst hw1
      go_wp2_with fail
      clear hlt hk
      go_loopw [10, 11] (fun r c wr => ∃ (k : Nat) (vs : List Value), k ≤ n ∧ c = .int .i64 k ∧ r = .int .i64 (redTo p L (List.replicate m []) k).r ∧ Sep wr [OM (.slice ma m mc) vs (redTo p L (List.replicate m []) k).R, KeepA w]) (fun _ c _ => n - (intOf c).toNat)
      case atStart => exact ⟨0, vs, by omega, rfl, rfl, HS.out⟩
      case round =>
        obtain ⟨k, vs, hk, rfl, rfl, hs⟩ := hrel
        have HS := Lib.hid hs
        obtain ⟨hfit, hrm⟩ := HAT.out k hk
        have HFIT := Lib.hid hfit
        have hnext : redTo p L (List.replicate m []) (k + 1) = stepL p k (redTo p L (List.replicate m []) k) := rfl
        have HNEXT := Lib.hid hnext
        have hfull : (redTo p L (List.replicate m []) k).r = m → redTo p L (List.replicate m []) n = redTo p L (List.replicate m []) k := fun h => redTo_full hk (by rw [h, hfit.lR])
        have HFULL := Lib.hid hfull
        clear hs hfit hnext hfull
        generalize hst : redTo p L (List.replicate m []) k = s at *
        have HST := Lib.hid hst
        clear hst
        generalize hsr : s.r = r at *
        have HSR := Lib.hid hsr
        clear hsr
        by_cases hkn : k < n
        · by_cases hrm2 : r < m
          · obtain ⟨g, gc, hge, _, _, _⟩ := HS.out.hd.head (by intro h; have := HFIT.out.lR; rw [h] at this; simp at this; omega)
            rw [HFIT.out.lR] at hge
            cases hge
            go_wp2_with fail
            go_loop [12] (fun i => ∃ j : Nat, j ≤ m ∧ i = .int .i64 j ∧ r ≤ j ∧ ∀ l, r ≤ l → l < j → at2 s.R l k = 0) (fun i => m - (intOf i).toNat)
            case atStart => exact ⟨r, hrm, rfl, Nat.le_refl _, fun l h1 h2 => absurd h1 (by omega)⟩
            case round =>
              obtain ⟨j, hjm, rfl, hrj, hz⟩ := hrel
              have HZ := Lib.hid hz
              clear hz
              by_cases hj : j < m
              · obtain ⟨gj, cj, nj, e1, e2, e3, hyb0, e5⟩ := getM HS.out HFIT.out.lR.symm HFIT.out.oR (i := j) (j := k) (by rw [HFIT.out.lR]; exact hj) hkn
                clear e3 e5 nj
                generalize hy : at2 s.R j k = y at *
                have HY := Lib.hid hy
                clear hy
                by_cases hy0 : y = 0
                · subst hy0
                  go_wp2
                  go_round
                  case rel => exact ⟨j + 1, by omega, by go_num, by omega, fun l h1 h2 => by
                    by_cases hlj : l = j
                    · rw [hlj]; exact HY.out
                    · exact HZ.out l h1 (by omega)⟩
                  case measure => simp [intOf]; omega
                · have hyb : (y == 0) = false := by rw [beq_eq_false_iff_ne]; exact hy0
                  have hjb : ((j : Int) == m) = false := by rw [beq_eq_false_iff_ne]; omega
                  have hpiv : pivAt s.R k r = some j := pivAt_is_some (by rw [HFIT.out.lR]; exact hrm) HZ.out hrj (by rw [HFIT.out.lR]; exact hj) (by rw [HY.out]; exact hy0)
                  have HSTEP := Lib.hid (show stepL p k s = stepWith p k j s by unfold stepL; rw [HSR.out, hpiv])
                  have HFIT1 := Lib.hid (fit_swap HFIT.out hrm2 hj)
                  have HYY := Lib.hid (show at2 (swapL s.R r j) r k = y by
                    rw [← HY.out]
                    unfold at2
                    rw [swapL_get (by rw [HFIT.out.lR]; exact hrm2) (by rw [HFIT.out.lR]; exact hj)]
                    unfold La.tw
                    rw [if_pos rfl])
                  obtain ⟨ar, cr, aj, cj2, d1, d2, d3, d4, ⟨vx, d6⟩, vs1, d5⟩ := HS.out.swapR HFIT.out.lR.symm HFIT.out.oR (r := r) (j := j) (by rw [HFIT.out.lR]; exact hrm2) (by rw [HFIT.out.lR]; exact hj)
                  have hcj := d2.symm.trans e1
                  simp only [Option.some.injEq, Value.slice.injEq, true_and] at hcj
                  obtain ⟨rfl, rfl⟩ := hcj
                  have D5 := Lib.hid d5
                  have k0 : (0 : Int) ≤ (r : Int) := by omega
                  have k1 : (r : Int) < (m : Int) := by omega
                  clear e1 d5 hpiv
                  go_upto_region 18 with fail
                  clear d1 d2 d3 d4 d6 e2
                  generalize (wr.setCell ⟨g, r, none⟩ (.slice (some ⟨gj, 0, none⟩) n cj2)).setCell ⟨g, j, none⟩ (.slice ar n cr) = w2 at *
                  generalize hR1 : swapL s.R r j = R1 at *
                  have HR1 := Lib.hid hR1
                  have oR1 := Lib.hid (show RowsOk p n R1 from HFIT1.out.oR)
                  have lR1 := Lib.hid (show R1.length = m from HFIT1.out.lR)
                  clear hR1
                  obtain ⟨gr, cr2, nr, b1, b2, b3, b4, b5⟩ := getM D5.out lR1.out.symm oR1.out (i := r) (j := k) (by rw [lR1.out]; exact hrm2) hkn
                  rw [HYY.out] at b2
                  have hyp : 0 < y := by omega
                  obtain ⟨hi1, hi2, hi3⟩ := inv_ok hfld hyp hyb0.2
                  have HINV := Lib.hid fun w1 => fdInvS_any p y w1 hfld hp2 hyp hyb0.2
                  clear b3 b4 b5 hi1
                  generalize hiv : invI p y = iv at *
                  have HIV := Lib.hid hiv
                  clear hiv
                  go_wp2_with (go_at_call 122
                               with_reducible refine (HINV.out _).mono ?_
                               rintro e w' ⟨rfl, rfl⟩)
                  clear b1 b2
                  obtain ⟨w3, hw3⟩ : ∃ w3, w3 = w2 := ⟨_, rfl⟩
                  subst hw3
                  have hX := oR1.out _ (getD_memL (show r < R1.length by rw [lR1.out]; exact hrm2))
                  have HX := Lib.hid hX
                  clear hX
                  go_loopw [92] (fun i wx => ∃ (q : Nat) (zs : List Int), q ≤ n ∧ i = .int .i64 q ∧ zs.length = n ∧ (∀ t, t < q → zs.getD t 0 = (R1.getD r []).getD t 0 * iv % p) ∧ (∀ t, q ≤ t → zs.getD t 0 = (R1.getD r []).getD t 0) ∧ Sep wx [OM (.slice (some ⟨g, 0, none⟩) m mc) vs1 (R1.set r zs), KeepA w]) (fun i _ => n - (intOf i).toNat)
                  case atStart => exact ⟨0, R1.getD r [], by omega, rfl, HX.out.1, fun _ h => absurd h (by omega), fun _ _ => rfl, by rw [set_getD_self]; exact D5.out⟩
                  case round =>
                    obtain ⟨q, zs, hq, rfl, hz1, hz2, hz3, hsx⟩ := hrel
                    have HZ1 := Lib.hid hz1; have HZ2 := Lib.hid hz2; have HZ3 := Lib.hid hz3; have HSX := Lib.hid hsx
                    clear hz1 hz2 hz3 hsx
                    have hg1 : (R1.set r zs).getD r [] = zs := by rw [getD_setL (by rw [lR1.out]; exact hrm2), if_pos rfl]
                    have HG1 := Lib.hid hg1
                    clear hg1
                    by_cases hqn : q < n
                    · obtain ⟨gi, ci, n1, f1, f2, f3, f4⟩ := HSX.out.setM (by rw [List.length_set]; exact lR1.out.symm) (i := r) (j := q) (by rw [List.length_set, lR1.out]; exact hrm2) (by rw [HG1.out, HZ1.out]; exact hqn)
                      have F4 := Lib.hid f4
                      have hel : at2 (R1.set r zs) r q = (R1.getD r []).getD q 0 := by unfold at2; rw [HG1.out]; exact HZ3.out q (Nat.le_refl _)
                      rw [HG1.out, HZ1.out] at f1
                      rw [hel] at f2
                      have hbd := HX.out.2 _ (List.getElem_mem (show q < (R1.getD r []).length by rw [HX.out.1]; exact hqn))
                      rw [← getD_ltL (by rw [HX.out.1]; exact hqn)] at hbd
                      clear hel f4
                      generalize hx : (R1.getD r []).getD q 0 = x at *
                      have HXX := Lib.hid hx
                      have HMUL := Lib.hid fun w1 => fdMulS_any p x iv w1 (by omega) (by omega) hbd.1 (by omega) (by omega) (by omega)
                      have q0 : (0 : Int) ≤ (q : Int) := by omega
                      have q1 : (q : Int) < (n : Int) := by omega
                      clear hx
                      go_wp2_with fail
                      refine wp_region_still_tail 16 (by kernel_rfl) (by kernel_rfl) ?_
                      simp only [List.take_succ_cons, List.take_zero, List.drop_succ_cons, List.drop_zero]
                      repeat still_step
                      still_call (calls_flip (HMUL.out _))
                      repeat still_step
                      refine wpStill_nil ?_
                      change wpList _ _ _ _ _ wr.drew
                      go_wp2
                      go_roundw
                      case rel =>
                        refine ⟨q + 1, zs.set q (x * iv % p), by omega, by go_num, by rw [List.length_set]; exact HZ1.out, fun t ht => ?_, fun t ht => ?_, ?_⟩
                        · by_cases htq : q = t
                          · subst htq
                            rw [getD_set_self (by rw [HZ1.out]; exact hqn), HXX.out]
                          · rw [getD_set_ne htq]
                            exact HZ2.out t (by omega)
                        · rw [getD_set_ne (by omega)]
                          exact HZ3.out t (by omega)
                        · have h := (F4.out (x * iv % p)).dr
                          rw [HG1.out, List.set_set] at h
                          exact h
                      case measure => simp [intOf]; omega
                    · have hzs : zs = scaleV p (R1.getD r []) iv := by
                        refine list_ext_getD (by rw [HZ1.out]; simp only [scaleV, List.length_map]; exact HX.out.1.symm) fun t ht => ?_
                        rw [scale_getD (by rw [HX.out.1]; have := HZ1.out; omega)]
                        exact HZ2.out t (by have := HZ1.out; omega)
                      have hsx := HSX.out
                      rw [hzs] at hsx
                      have HFIT2 := Lib.hid (show RowsOk p n (divL p R1 r iv) ∧ (divL p R1 r iv).length = m from ⟨divL_ok oR1.out (by rw [lR1.out]; exact hrm2) iv, by rw [divL_len]; exact lR1.out⟩)
                      change Sep _ [OM _ vs1 (divL p R1 r iv), KeepA w] at hsx
                      generalize hR2 : divL p R1 r iv = R2 at *
                      have HR2 := Lib.hid hR2
                      have HS2 := Lib.hid hsx
                      clear hR2 hsx hzs
                      obtain ⟨w5, hw5⟩ : ∃ w5, w5 = wr := ⟨_, rfl⟩
                      subst hw5
                      go_wp2_with fail
                      go_loopw [114] (fun i wx => ∃ l : Nat, l ≤ m ∧ i = .int .i64 l ∧ Sep wx [OM (.slice (some ⟨g, 0, none⟩) m mc) vs1 (clearTo p R2 k r R2 l), KeepA w]) (fun i _ => m - (intOf i).toNat)
                      case atStart => exact ⟨0, by omega, rfl, by rw [clearTo_zero]; exact HS2.out⟩
                      case round =>
                        obtain ⟨l, hlm, rfl, hs4⟩ := hrel
                        have HS4 := Lib.hid hs4
                        clear hs4
                        by_cases hl : l < m
                        · have lC : (clearTo p R2 k r R2 l).length = m := by rw [clearTo_len]; exact HFIT2.out.2
                          have oC : RowsOk p n (clearTo p R2 k r R2 l) := clearTo_ok HFIT2.out.1 (by rw [HFIT2.out.2]; exact hrm2)
                          obtain ⟨gl, cl, nl, t1, t2, t3, t4, t5⟩ := getM HS4.out lC.symm oC (i := l) (j := k) (by rw [lC]; exact hl) hkn
                          rw [clearTo_at] at t2 t4
                          clear t3 t5
                          have l0 : (0 : Int) ≤ (l : Int) := by omega
                          have l1 : (l : Int) < (m : Int) := by omega
                          by_cases hlr : l = r
                          · have hb1 : ((l : Int) == r) = true := by rw [beq_iff_eq]; omega
                            have A1 := Lib.hid (clearTo_skip (p := p) (A := R2) (show ¬ (l ≠ r ∧ at2 R2 l k ≠ 0) from fun h => h.1 hlr))
                            clear hlr lC oC
                            go_wp2
                            go_roundw
                            case rel => exact ⟨l + 1, by omega, by go_num, by rw [A1.out]; exact HS4.out⟩
                            case measure => simp [intOf]; omega
                          · have hb1 : ((l : Int) == r) = false := by rw [beq_eq_false_iff_ne]; omega
                            by_cases hz0 : at2 R2 l k = 0
                            · have A1 := Lib.hid (clearTo_skip (p := p) (A := R2) (show ¬ (l ≠ r ∧ at2 R2 l k ≠ 0) from fun h => h.2 hz0))
                              rw [hz0] at t2
                              clear lC oC hz0 t4
                              go_wp2
                              go_roundw
                              case rel => exact ⟨l + 1, by omega, by go_num, by rw [A1.out]; exact HS4.out⟩
                              case measure => simp [intOf]; omega
                            · have A1 := Lib.hid (clearTo_do (p := p) (A := R2) (by rw [HFIT2.out.2]; exact hl) ⟨hlr, hz0⟩)
                              have LC := Lib.hid lC; have OC := Lib.hid oC
                              clear lC oC
                              generalize hz : at2 R2 l k = z at *
                              have hb2 : (z == 0) = false := by rw [beq_eq_false_iff_ne]; exact hz0
                              generalize clearTo p R2 k r R2 l = C at *
                              clear hz
                              go_wp2_with fail
                              clear t1 t2 hb2
                              obtain ⟨w6, hw6⟩ : ∃ w6, w6 = wr := ⟨_, rfl⟩
                              subst hw6
                              have hX := OC.out _ (getD_memL (show l < C.length by rw [LC.out]; exact hl))
                              have hY := OC.out _ (getD_memL (show r < C.length by rw [LC.out]; exact hrm2))
                              have HXC := Lib.hid hX; have HYC := Lib.hid hY
                              clear hX hY
                              go_loopw [142] (fun i wx => ∃ (q : Nat) (zs : List Int), q ≤ n ∧ i = .int .i64 q ∧ zs.length = n ∧ (∀ t, t < q → zs.getD t 0 = ((C.getD l []).getD t 0 + -z * (C.getD r []).getD t 0) % p) ∧ (∀ t, q ≤ t → zs.getD t 0 = (C.getD l []).getD t 0) ∧ Sep wx [OM (.slice (some ⟨g, 0, none⟩) m mc) vs1 (C.set l zs), KeepA w]) (fun i _ => n - (intOf i).toNat)
                              case atStart => exact ⟨0, C.getD l [], by omega, rfl, HXC.out.1, fun _ h => absurd h (by omega), fun _ _ => rfl, by rw [set_getD_self]; exact HS4.out⟩
                              case round =>
                                obtain ⟨q, zs, hq, rfl, hz1, hz2, hz3, hsx⟩ := hrel
                                have HZ1 := Lib.hid hz1; have HZ2 := Lib.hid hz2; have HZ3 := Lib.hid hz3; have HSX := Lib.hid hsx
                                clear hz1 hz2 hz3 hsx
                                have hg1 : (C.set l zs).getD l [] = zs := by rw [getD_setL (by rw [LC.out]; exact hl), if_pos rfl]
                                have hg2 : (C.set l zs).getD r [] = C.getD r [] := by rw [getD_setL (by rw [LC.out]; exact hl), if_neg (fun e => hlr e.symm)]
                                have HG1 := Lib.hid hg1; have HG2 := Lib.hid hg2
                                clear hg1 hg2
                                by_cases hqn : q < n
                                · obtain ⟨gi, ci, n1, f1, f2, f3, f4⟩ := HSX.out.setM (by rw [List.length_set]; exact LC.out.symm) (i := l) (j := q) (by rw [List.length_set, LC.out]; exact hl) (by rw [HG1.out, HZ1.out]; exact hqn)
                                  obtain ⟨gy, cy, n2, y1, y2, y3, y4⟩ := HSX.out.setM (by rw [List.length_set]; exact LC.out.symm) (i := r) (j := q) (by rw [List.length_set, LC.out]; exact hrm2) (by rw [HG2.out, HYC.out.1]; exact hqn)
                                  have F4 := Lib.hid f4
                                  have hel : at2 (C.set l zs) l q = (C.getD l []).getD q 0 := by unfold at2; rw [HG1.out]; exact HZ3.out q (Nat.le_refl _)
                                  have hel2 : at2 (C.set l zs) r q = (C.getD r []).getD q 0 := by unfold at2; rw [HG2.out]
                                  rw [HG1.out, HZ1.out] at f1
                                  rw [HG2.out, HYC.out.1] at y1
                                  rw [hel] at f2
                                  rw [hel2] at y2
                                  have hbx := HXC.out.2 _ (List.getElem_mem (show q < (C.getD l []).length by rw [HXC.out.1]; exact hqn))
                                  rw [← getD_ltL (by rw [HXC.out.1]; exact hqn)] at hbx
                                  have hby := HYC.out.2 _ (List.getElem_mem (show q < (C.getD r []).length by rw [HYC.out.1]; exact hqn))
                                  rw [← getD_ltL (by rw [HYC.out.1]; exact hqn)] at hby
                                  clear hel hel2 f4 y3 y4
                                  generalize hx : (C.getD l []).getD q 0 = x at *
                                  generalize hy : (C.getD r []).getD q 0 = y' at *
                                  have HXX := Lib.hid hx; have HYX := Lib.hid hy
                                  have m0 := Int.emod_nonneg (z * y') (show (p : Int) ≠ 0 by omega)
                                  have m1 := Int.emod_lt_of_pos (z * y') (show 0 < (p : Int) by omega)
                                  have M1 := Lib.hid fun w1 => fdMulS_any p z y' w1 (by omega) (by omega) t4.1 (by omega) hby.1 (by omega)
                                  have M2 := Lib.hid fun w1 => fdSubS_any p x (z * y' % p) w1 (by omega) (by omega) hbx.1 (by omega) m0 (by omega)
                                  have HLE := Lib.hid (less_eq p z x y')
                                  rw [HLE.out] at M2
                                  have q0 : (0 : Int) ≤ (q : Int) := by omega
                                  have q1 : (q : Int) < (n : Int) := by omega
                                  clear hx hy m0 m1
                                  go_wp2_with fail
                                  refine wp_region_still_tail 25 (by kernel_rfl) (by kernel_rfl) ?_
                                  simp only [List.take_succ_cons, List.take_zero, List.drop_succ_cons, List.drop_zero]
                                  repeat still_step
                                  still_call (calls_flip (M1.out _))
                                  repeat still_step
                                  still_call (calls_flip (M2.out _))
                                  repeat still_step
                                  refine wpStill_nil ?_
                                  change wpList _ _ _ _ _ wr.drew
                                  go_wp2
                                  go_roundw
                                  case rel =>
                                    refine ⟨q + 1, zs.set q ((x + -z * y') % p), by omega, by go_num, by rw [List.length_set]; exact HZ1.out, fun t ht => ?_, fun t ht => ?_, ?_⟩
                                    · by_cases htq : q = t
                                      · subst htq
                                        rw [getD_set_self (by rw [HZ1.out]; exact hqn), HXX.out, HYX.out]
                                      · rw [getD_set_ne htq]
                                        exact HZ2.out t (by omega)
                                    · rw [getD_set_ne (by omega)]
                                      exact HZ3.out t (by omega)
                                    · have h := (F4.out ((x + -z * y') % p)).dr
                                      rw [HG1.out, List.set_set] at h
                                      exact h
                                  case measure => simp [intOf]; omega
                                · have hzs : zs = addT p (C.getD l []) (-z) (C.getD r []) := by
                                    refine list_ext_getD (by rw [HZ1.out]; have h1 := HXC.out.1; have h2 := HYC.out.1; simp only [addT, List.length_zipWith]; omega) fun t ht => ?_
                                    have ht' : t < n := by have := HZ1.out; omega
                                    rw [addT_getD (by rw [HXC.out.1, HYC.out.1]) (by rw [HXC.out.1]; exact ht')]
                                    exact HZ2.out t (by omega)
                                  have HZS := Lib.hid hzs
                                  clear hzs
                                  go_wp2
                                  go_roundw
                                  case rel => exact ⟨l + 1, by omega, by go_num, by rw [A1.out]; unfold subL; rw [← HZS.out]; exact HSX.out⟩
                                  case measure => simp [intOf]; omega
                        · have B1 := Lib.hid (show clearTo p R2 k r R2 l = clearL p R2 k r R2 by
                            have e : l = R2.length := by rw [HFIT2.out.2]; omega
                            rw [e]; exact clearTo_all _ _ _ _ _)
                          have hfin : (stepWith p k j s).R = clearL p R2 k r R2 ∧ (stepWith p k j s).r = r + 1 := by
                            unfold stepWith
                            simp only [HSR.out, HR1.out, HYY.out, HIV.out, HR2.out, and_self]
                          have HFIN := Lib.hid hfin
                          clear hfin
                          go_wp2
                          go_roundw
                          case rel => exact ⟨k + 1, vs1, by omega, by go_num, by rw [HNEXT.out, HSTEP.out, HFIN.out.2]; go_num, by rw [HNEXT.out, HSTEP.out, HFIN.out.1, ← B1.out]; exact HS4.out⟩
                          case measure => simp [intOf]; omega
              · have hpiv : pivAt s.R k r = none := pivAt_is_none (by rw [HFIT.out.lR]; exact hrm) fun l h1 h2 => HZ.out l h1 (by have := HFIT.out.lR; omega)
                have hstep : stepL p k s = s := by unfold stepL; rw [HSR.out, hpiv]
                have HSTEP := Lib.hid hstep
                have hjm2 : j = m := by omega
                subst hjm2
                clear hpiv hstep
                go_wp2
                go_roundw
                case rel => exact ⟨k + 1, vs, by omega, by go_num, by rw [HNEXT.out, HSTEP.out, HSR.out], by rw [HNEXT.out, HSTEP.out]; exact HS.out⟩
                case measure => simp [intOf]; omega
          · have HEND := Lib.hid (HFULL.out (by omega))
            have hred : reducedL p n L = s.R.take r := by rw [reducedL_eq p n L (List.replicate m []), HEND.out, HSR.out]
            have hrl : (reducedL p n L).length = r := by rw [hred, List.length_take, HFIT.out.lR]; omega
            have HRED := Lib.hid hred; have HRL := Lib.hid hrl
            clear hred hrl
            have c0 : (0 : Int) ≤ (r : Int) := by omega
            have c1 : (r : Int) ≤ (mc : Int) := by omega
            go_wp2
            go_ret
            exact ⟨ma, mc, by rw [HRL.out]; rfl, ⟨vs.take r, by rw [HRL.out, HRED.out]; exact HS.out.mat.firstRows (by rw [HFIT.out.lR]; exact hrm)⟩, HS.out.s2.hd⟩
        · have hkn2 : k = n := by omega
          subst hkn2
          have HEND := Lib.hid HST.out
          have hred : reducedL p k L = s.R.take r := by rw [reducedL_eq p k L (List.replicate m []), HEND.out, HSR.out]
          have hrl : (reducedL p k L).length = r := by rw [hred, List.length_take, HFIT.out.lR]; omega
          have HRED := Lib.hid hred; have HRL := Lib.hid hrl
          clear hred hrl
          have c0 : (0 : Int) ≤ (r : Int) := by omega
          have c1 : (r : Int) ≤ (mc : Int) := by omega
          go_wp2
          go_ret
          exact ⟨ma, mc, by rw [HRL.out]; rfl, ⟨vs.take r, by rw [HRL.out, HRED.out]; exact HS.out.mat.firstRows (by rw [HFIT.out.lR]; exact hrm)⟩, HS.out.s2.hd⟩
theorem spReduce_any (p : Nat) [NeZero p] (n : Nat) (u : Value) (L : List (List Int)) (w : World) (hfld : fldN p = true) (hp2 : p ≤ 1000) (hv : MatV w u L) (hL : RowsOk p n L) (hm : L.length ≤ 1000) (hn : n ≤ 1000) :
    Calls Tryd.prog 86 #[.int .i64 p, .int .i64 n, u] w fun e w' => ∃ v c, e = .returned (.slice v (reducedL p n L).length c) ∧ Pre w.heap.size w' (.slice v (reducedL p n L).length c) (reducedL p n L) ∧ w.grownBy w' none := by
  refine (spReduce_own p n u L w hfld hp2 hv hL hm hn).mono ?_
  rintro e w' ⟨v, c, rfl, ⟨vs, ho⟩, hg⟩
  exact ⟨v, c, rfl, ⟨v, _, c, c, vs, _, rfl, ho, Nat.le_refl _, (List.take_of_length_le (Nat.le_refl _)).symm⟩, hg⟩
end Go.Proofs.YtghfifpicklonaaDoor

/-
  Who is in a space: vectors, coordinates, separators. Conditions: the sizes are small.
-/
namespace Go.Proofs.YtghfifpicklonaaDoor
open Go.RowKit
set_option linter.unusedVariables false

def vectorB (p n : Int) (L : List (List Int)) (x : List Int) : Bool := spaceB p n L && vecB p n x
theorem vectorB_nat {p n : Int} {L : List (List Int)} {x : List Int} (h : vectorB p n L x = true) : ∃ (q : Nat) (_ : NeZero q) (m : Nat), p = q ∧ n = m ∧ fldN q = true ∧ q ≤ 97 ∧ m ≤ 24 ∧ L.length ≤ m ∧ IsRed q m L ∧ RowsOk q m L ∧ VecOk q m x := by
  unfold vectorB at h
  rw [Bool.and_eq_true] at h
  obtain ⟨q, i, m, rfl, rfl, h1, h2, h3, h4, h5, h6⟩ := spaceB_nat h.1
  exact ⟨q, i, m, rfl, rfl, h1, h2, h3, h4, h5, h6, vecB_ok.1 h.2⟩
section
variable (p n : Int) (u v : Value) (L : List (List Int)) (x : List Int) (w : World) (ht : Tab w) (hu : MatV w u L) (hv : IntsV w v x) (hl : L.length ≤ 1000000) (hll : ∀ row ∈ L, row.length ≤ 1000000) (hxl : x.length ≤ 1000000)
include ht hu hv hl hll hxl
end
end Go.Proofs.YtghfifpicklonaaDoor

/-
  The specification's checks of spaces, sums and coordinates. Conditions: the sizes are small.
-/
namespace Go.Proofs.YtghfifpicklonaaDoor
open Go.RowKit
set_option linter.unusedVariables false

theorem spRows_anyL (p n : Int) (v : Value) (L : List (List Int)) (w : World) (hv : MatV w v L) (hl : L.length ≤ 1000000) (hll : ∀ row ∈ L, row.length ≤ 1000000) (hp0 : -1000 ≤ p) (hp1 : p ≤ 1000) :
    Calls Tryd.prog 114 #[.int .i64 p, .int .i64 n, v] w fun e w' => e = .returned (.bool (rowsB p n L)) ∧ w = w' := by
  have HV := Lib.hid hv; have HLL := Lib.hid hll
  obtain ⟨a, c, rfl⟩ := hv.shape
  clear hv hll
  generalize hlen : L.length = l at *
  have HL := Lib.hid hlen
  clear hlen
  go_enter Tryd.func114, Tryd.ntmps114
  go_wp2
  go_loop [11] (fun i => ∃ k : Nat, k ≤ l ∧ i = .int .i64 k ∧ ∀ j (h : j < L.length), j < k → vecB p n L[j] = true) (fun i => l - (intOf i).toNat)
  case atStart => exact ⟨0, by omega, rfl, fun _ _ h => absurd h (by omega)⟩
  case round =>
    obtain ⟨k, hk, rfl, ho⟩ := hrel
    have HO := Lib.hid ho
    clear ho
    by_cases hlt : k < l
    · have hkl : k < L.length := by rw [HL.out]; exact hlt
      obtain ⟨d, r, rc, rfl, hs, hd, hcell, hrow⟩ := HV.out.row hkl
      have hlr := HLL.out L[k] (List.getElem_mem _)
      obtain ⟨db, dof, _⟩ := d
      simp only at hs hcell
      subst hs
      have HBAD := Lib.hid (show vecB p n L[k] = false → rowsB p n L = false by
        intro h
        unfold rowsB
        exact List.all_eq_false.2 ⟨L[k], List.getElem_mem _, by rw [h]; simp⟩)
      have HF := Lib.hid (fdIn_anyL p _ L[k] w hrow hlr (by omega) (by omega))
      have HVB := Lib.hid (show vecB p n L[k] = (decide ((L[k].length : Int) = n) && L[k].all (elB p)) from rfl)
      clear hd hrow hlr
      generalize hrl : L[k].length = rl at *
      clear hrl
      by_cases hq : (rl : Int) = n
      · have hb1 : ((rl : Int) != n) = false := by rw [bne_eq_false_iff_eq]; exact hq
        cases he : L[k].all (elB p)
        · rw [he] at HF
          have hfin := HBAD.out (by rw [HVB.out, he, Bool.and_false])
          have HFIN := Lib.hid hfin
          clear hfin he
          go_wp2_with (go_at_call 83; with_reducible refine HF.out.mono ?_; rintro e w' ⟨rfl, rfl⟩)
          go_ret
          exact ⟨by rw [HFIN.out]; rfl, rfl⟩
        · rw [he] at HF
          have hv1 : vecB p n L[k] = true := by rw [HVB.out, he, decide_eq_true hq]; rfl
          have HV2 := Lib.hid hv1
          clear hv1 he
          go_wp2_with (go_at_call 83; with_reducible refine HF.out.mono ?_; rintro e w' ⟨rfl, rfl⟩)
          go_round
          case rel => exact ⟨k + 1, by omega, by go_num, fun j h hj => by
            by_cases hjk : j = k
            · subst hjk; exact HV2.out
            · exact HO.out j h (by omega)⟩
          case measure => simp [intOf]; omega
      · have hb1 : ((rl : Int) != n) = true := by rw [bne_iff_ne]; exact hq
        have hfin := HBAD.out (by rw [HVB.out, decide_eq_false hq, Bool.false_and])
        have HFIN := Lib.hid hfin
        clear hfin hq
        go_wp2
        go_ret
        exact ⟨by rw [HFIN.out]; rfl, rfl⟩
    · have hfin : rowsB p n L = true := by
        unfold rowsB
        refine List.all_eq_true.2 fun x hx => ?_
        obtain ⟨j, hj, rfl⟩ := List.getElem_of_mem hx
        exact HO.out j hj (by have := HL.out; omega)
      have HFIN := Lib.hid hfin
      clear hfin
      go_wp2
      go_ret
      exact ⟨by rw [HFIN.out]; rfl, rfl⟩
end Go.Proofs.YtghfifpicklonaaDoor

/-
  The specification's comparisons of lists: what is answered, and that nothing but draws happens. Conditions: lengths are small.
-/
namespace Go.Proofs.YtghfifpicklonaaDoor
open Go.RowKit
set_option linter.unusedVariables false

end Go.Proofs.YtghfifpicklonaaDoor

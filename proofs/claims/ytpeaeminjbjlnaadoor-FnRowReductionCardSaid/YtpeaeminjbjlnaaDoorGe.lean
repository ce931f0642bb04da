/-
  Elimination on lists of lists of integers, as the program makes it, and what it gives. Plain mathematics: no program in sight. Conditions: the number of elements is a field of the program's kind.
-/
import Derived.Test.YtpeaeminjbjlnaaDoorLa2
import Derived.Test.YtpeaeminjbjlnaaDoorFp
namespace Go.Proofs.YtpeaeminjbjlnaaDoor
open La
set_option linter.unusedVariables false

/-! ### integers as elements -/
section elements
variable {p : Nat} [NeZero p]
theorem pos_int (p : Nat) [NeZero p] : (0 : Int) < p := by have := Nat.pos_of_ne_zero (NeZero.ne p); omega
def toF (p : Nat) [NeZero p] (x : Int) : Fin p := ⟨(x % p).toNat, by
  have h0 := Int.emod_nonneg x (show (p : Int) ≠ 0 by have := pos_int p; omega)
  have h1 := Int.emod_lt_of_pos x (pos_int p)
  omega⟩
theorem toF_val (x : Int) : ((toF p x).val : Int) = x % p := by
  have h0 := Int.emod_nonneg x (show (p : Int) ≠ 0 by have := pos_int p; omega)
  simp only [toF]
  omega
theorem toF_eq {x y : Int} : toF p x = toF p y ↔ x % p = y % p := by
  constructor
  · intro h; rw [← toF_val, ← toF_val, h]
  · intro h
    apply Fin.ext
    have : ((toF p x).val : Int) = ((toF p y).val : Int) := by rw [toF_val, toF_val, h]
    omega
theorem toF_zero : toF p 0 = 0 := by apply Fin.ext; simp [toF]
theorem toF_one : toF p 1 = 1 := by
  apply Fin.ext
  have : ((toF p 1).val : Int) = ((1 : Fin p).val : Int) := by
    have e : (1 : Fin p).val = 1 % p := rfl
    rw [toF_val, e]
    push_cast
    rfl
  omega
theorem toF_add (x y : Int) : toF p (x + y) = toF p x + toF p y := by
  apply Fin.ext
  have : ((toF p (x + y)).val : Int) = ((toF p x + toF p y).val : Int) := by
    rw [toF_val, Fin.val_add]
    push_cast
    rw [toF_val, toF_val, ← Int.add_emod]
  omega
theorem toF_mul (x y : Int) : toF p (x * y) = toF p x * toF p y := by
  apply Fin.ext
  have : ((toF p (x * y)).val : Int) = ((toF p x * toF p y).val : Int) := by
    rw [toF_val, Fin.val_mul]
    push_cast
    rw [toF_val, toF_val, ← Int.mul_emod]
  omega
theorem toF_neg (x : Int) : toF p (-x) = - toF p x := by
  have h := toF_add (p := p) x (-x)
  rw [Int.add_right_neg, toF_zero] at h
  grind
theorem toF_sub (x y : Int) : toF p (x - y) = toF p x - toF p y := by
  rw [Int.sub_eq_add_neg, toF_add, toF_neg]
  grind
theorem toF_emod (x : Int) : toF p (x % p) = toF p x := by rw [toF_eq, Int.emod_emod_of_dvd _ (Int.dvd_refl _)]
theorem toF_inj {x y : Int} (h0 : 0 ≤ x) (h1 : x < p) (h2 : 0 ≤ y) (h3 : y < p) (h : toF p x = toF p y) : x = y := by
  rw [toF_eq, Int.emod_eq_of_lt h0 h1, Int.emod_eq_of_lt h2 h3] at h
  exact h
theorem toF_ne {x : Int} (h0 : 0 ≤ x) (h1 : x < p) (h : x ≠ 0) : toF p x ≠ 0 := by
  intro e
  rw [← toF_zero] at e
  exact h (toF_inj h0 h1 (by omega) (pos_int p) e)
theorem toF_back (x : Fin p) : toF p (x.val : Int) = x := by
  apply Fin.ext
  have : ((toF p (x.val : Int)).val : Int) = (x.val : Int) := by
    rw [toF_val, Int.emod_eq_of_lt (by omega) (by have := x.isLt; omega)]
  omega
theorem toF_inv {b : Int} (hf : fldN p = true) (h0 : 0 < b) (h1 : b < p) : toF p b * toF p (invI p b) = 1 := by
  obtain ⟨m, rfl⟩ := Int.eq_ofNat_of_zero_le (show 0 ≤ b by omega)
  have h := (field_facts hf (b := m) (by omega)).inv (by omega)
  rw [← toF_mul, ← toF_one, toF_eq]
  have e : invI p m = ((m ^ (p - 2 + if p = 2 then 1 else 0) % p : Nat) : Int) := by
    rw [nat_pow_mod]
    unfold invI
    rw [Int.toNat_natCast]
    by_cases h2 : p = 2
    · subst h2; rfl
    · rw [if_neg h2, if_neg (by omega)]
  rw [e]
  have h2 := (of_decide_eq_true hf).1
  rw [Int.emod_eq_of_lt (show (0 : Int) ≤ 1 by omega) (by omega)]
  exact_mod_cast h
end elements

/-! ### lists as vectors and matrices -/
def VecOk (p : Int) (n : Nat) (v : List Int) : Prop := v.length = n ∧ ∀ x ∈ v, 0 ≤ x ∧ x < p
def RowsOk (p : Int) (n : Nat) (L : List (List Int)) : Prop := ∀ row ∈ L, VecOk p n row
section lists
variable {p : Nat} [NeZero p]
def vec (p : Nat) [NeZero p] (v : List Int) : Vec p := fun j => toF p (v.getD j 0)
def mx (p : Nat) [NeZero p] (L : List (List Int)) : Mx p := fun i => vec p (L.getD i [])
theorem vec_at {v : List Int} {j : Nat} (h : j < v.length) : vec p v j = toF p v[j] := by
  unfold vec; rw [List.getD_eq_getElem?_getD, List.getElem?_eq_getElem h]; rfl
theorem vec_past {v : List Int} {j : Nat} (h : v.length ≤ j) : vec p v j = 0 := by
  unfold vec; rw [List.getD_eq_getElem?_getD, List.getElem?_eq_none h]; exact toF_zero
theorem mx_at {L : List (List Int)} {i : Nat} (h : i < L.length) : mx p L i = vec p L[i] := by
  unfold mx; rw [List.getD_eq_getElem?_getD, List.getElem?_eq_getElem h]; rfl
theorem mx_past {L : List (List Int)} {i j : Nat} (h : L.length ≤ i) : mx p L i j = 0 := by
  unfold mx; rw [List.getD_eq_getElem?_getD, List.getElem?_eq_none h]; exact vec_past (by simp)
theorem vec_ext {n : Nat} {v w : List Int} (hv : VecOk p n v) (hw : VecOk p n w) (h : ∀ j, j < n → vec p v j = vec p w j) : v = w := by
  refine List.ext_getElem (hv.1.trans hw.1.symm) fun j h1 h2 => ?_
  have := h j (by rw [← hv.1]; exact h1)
  rw [vec_at h1, vec_at h2] at this
  have b1 := hv.2 _ (List.getElem_mem h1)
  have b2 := hw.2 _ (List.getElem_mem h2)
  exact toF_inj b1.1 b1.2 b2.1 b2.2 this
theorem rows_ext {m n : Nat} {A B : List (List Int)} (hA : RowsOk p n A) (hB : RowsOk p n B) (hl : A.length = m) (hl' : B.length = m) (h : ∀ i, i < m → ∀ j, j < n → mx p A i j = mx p B i j) : A = B := by
  refine List.ext_getElem (hl.trans hl'.symm) fun i h1 h2 => ?_
  refine vec_ext (hA _ (List.getElem_mem h1)) (hB _ (List.getElem_mem h2)) fun j hj => ?_
  have := h i (by omega) j hj
  rwa [mx_at h1, mx_at h2] at this
end lists

/-- v plus k times w -/
def addT (p : Int) (v : List Int) (k : Int) (w : List Int) : List Int := List.zipWith (fun x a => (x + k * a) % p) v w
def scaleV (p : Int) (v : List Int) (k : Int) : List Int := v.map fun x => x * k % p
def swapL (L : List (List Int)) (a b : Nat) : List (List Int) := (L.set a (L.getD b [])).set b (L.getD a [])
def divL (p : Int) (L : List (List Int)) (r : Nat) (y : Int) : List (List Int) := L.set r (scaleV p (L.getD r []) y)
/-- what stands at row i, column c -/
def at2 (L : List (List Int)) (i c : Nat) : Int := (L.getD i []).getD c 0
def clearRow (p : Int) (R : List (List Int)) (c r : Nat) (piv : List Int) (i : Nat) (row : List Int) : List Int :=
  if i ≠ r ∧ at2 R i c ≠ 0 then addT p row (-(at2 R i c)) piv else row
def clearL (p : Int) (R : List (List Int)) (c r : Nat) (A : List (List Int)) : List (List Int) := A.mapIdx (clearRow p R c r (A.getD r []))
structure St where
  R : List (List Int)
  T : List (List Int)
  r : Nat
def pivAt (R : List (List Int)) (c r : Nat) : Option Nat := firstFrom (fun k => at2 R k c != 0) r (R.length - r)
def stepWith (p : Int) (c k : Nat) (s : St) : St :=
  let R1 := swapL s.R s.r k
  let T1 := swapL s.T s.r k
  let y := invI p (at2 R1 s.r c)
  let R2 := divL p R1 s.r y
  let T2 := divL p T1 s.r y
  ⟨clearL p R2 c s.r R2, clearL p R2 c s.r T2, s.r + 1⟩
def stepL (p : Int) (c : Nat) (s : St) : St :=
  match pivAt s.R c s.r with
  | none => s
  | some k => stepWith p c k s
def redTo (p : Int) (R T : List (List Int)) : Nat → St
  | 0 => ⟨R, T, 0⟩
  | c + 1 => stepL p c (redTo p R T c)
def unitL (n i : Nat) : List Int := (List.replicate n 0).set i 1
def idL (n : Nat) : List (List Int) := (List.range n).map (unitL n)

/-! ### the list operations, as functions -/
section ops
variable {p : Nat} [NeZero p]
theorem vec_addT {v w : List Int} (k : Int) (h : v.length = w.length) (j : Nat) : vec p (addT p v k w) j = vec p v j + toF p k * vec p w j := by
  have hl : (addT p v k w).length = v.length := by simp [addT, h]
  rcases Nat.lt_or_ge j v.length with hj | hj
  · rw [vec_at (by omega), vec_at hj, vec_at (by omega)]
    have e : (addT p v k w)[j]'(by omega) = (v[j] + k * w[j]) % p := by simp [addT]
    rw [e, toF_emod, toF_add, toF_mul]
  · rw [vec_past (by omega), vec_past hj, vec_past (by omega)]
    grind
theorem vec_scaleV (v : List Int) (k : Int) (j : Nat) : vec p (scaleV p v k) j = vec p v j * toF p k := by
  have hl : (scaleV p v k).length = v.length := by simp [scaleV]
  rcases Nat.lt_or_ge j v.length with hj | hj
  · rw [vec_at (by omega), vec_at hj]
    have e : (scaleV p v k)[j]'(by omega) = v[j] * k % p := by simp [scaleV]
    rw [e, toF_emod, toF_mul]
  · rw [vec_past (by omega), vec_past hj]
    grind
theorem addT_ok {n : Nat} {v w : List Int} (k : Int) (hv : v.length = n) (hw : w.length = n) : VecOk p n (addT p v k w) := by
  refine ⟨by simp [addT, hv, hw], fun x hx => ?_⟩
  unfold addT at hx
  obtain ⟨i, hi, rfl⟩ := List.getElem_of_mem hx
  simp only [List.getElem_zipWith]
  exact ⟨Int.emod_nonneg _ (by have := pos_int p; omega), Int.emod_lt_of_pos _ (pos_int p)⟩
theorem scaleV_ok {n : Nat} {v : List Int} (k : Int) (hv : v.length = n) : VecOk p n (scaleV p v k) := by
  refine ⟨by simp [scaleV, hv], fun x hx => ?_⟩
  unfold scaleV at hx
  obtain ⟨y, _, rfl⟩ := List.mem_map.1 hx
  exact ⟨Int.emod_nonneg _ (by have := pos_int p; omega), Int.emod_lt_of_pos _ (pos_int p)⟩

theorem getD_mem {L : List (List Int)} {i : Nat} (h : i < L.length) : L.getD i [] ∈ L := by
  rw [List.getD_eq_getElem?_getD, List.getElem?_eq_getElem h]; exact List.getElem_mem h
omit [NeZero p] in
theorem set_ok {n : Nat} {L : List (List Int)} {v : List Int} (h : RowsOk p n L) (hv : VecOk p n v) (i : Nat) : RowsOk p n (L.set i v) := by
  intro row hrow
  rcases List.mem_or_eq_of_mem_set hrow with h1 | h1
  · exact h row h1
  · rw [h1]; exact hv
theorem swapL_len (L : List (List Int)) (a b : Nat) : (swapL L a b).length = L.length := by simp [swapL]
omit [NeZero p] in
theorem swapL_ok {n a b : Nat} {L : List (List Int)} (h : RowsOk p n L) (ha : a < L.length) (hb : b < L.length) : RowsOk p n (swapL L a b) :=
  set_ok (set_ok h (h _ (getD_mem hb)) _) (h _ (getD_mem ha)) _
theorem swapL_get {a b i : Nat} {L : List (List Int)} (ha : a < L.length) (hb : b < L.length) : (swapL L a b).getD i [] = L.getD (tw a b i) [] := by
  unfold swapL tw
  simp only [List.getD_eq_getElem?_getD, List.getElem?_set, List.length_set]
  by_cases h1 : b = i
  · subst h1
    by_cases h2 : b = a
    · subst h2; simp [hb]
    · simp [hb, h2]
  · by_cases h2 : a = i
    · subst h2; simp [h1, ha]
    · simp [h1, h2, Ne.symm h1, Ne.symm h2]
theorem mx_swapL {a b : Nat} {L : List (List Int)} (ha : a < L.length) (hb : b < L.length) (i : Nat) : mx p (swapL L a b) i = mx p L (tw a b i) := by
  unfold mx
  rw [swapL_get ha hb]
omit [NeZero p] in
theorem divL_len (L : List (List Int)) (r : Nat) (y : Int) : (divL p L r y).length = L.length := by simp [divL]
theorem divL_ok {n r : Nat} {L : List (List Int)} (h : RowsOk p n L) (hr : r < L.length) (y : Int) : RowsOk p n (divL p L r y) :=
  set_ok h (scaleV_ok y (h _ (getD_mem hr)).1) _
theorem mx_divL {r : Nat} {L : List (List Int)} (hr : r < L.length) (y : Int) (i j : Nat) : mx p (divL p L r y) i j = scale r (toF p y) (mx p L) i j := by
  unfold mx divL scale
  by_cases h : i = r
  · subst h
    rw [List.getD_eq_getElem?_getD, List.getElem?_set_self hr]
    simp only [if_true, Option.getD_some]
    exact vec_scaleV _ _ _
  · rw [List.getD_eq_getElem?_getD, List.getElem?_set_ne (Ne.symm h), ← List.getD_eq_getElem?_getD]
    simp only [h, if_false]
omit [NeZero p] in
theorem clearL_len (R A : List (List Int)) (c r : Nat) : (clearL p R c r A).length = A.length := by simp [clearL]
theorem clearRow_ok {n c r i : Nat} {R : List (List Int)} {q row : List Int} (hq : q.length = n) (h : VecOk p n row) : VecOk p n (clearRow p R c r q i row) := by
  unfold clearRow
  split
  · exact addT_ok _ h.1 hq
  · exact h
theorem clearL_ok {n c r : Nat} {R A : List (List Int)} (h : RowsOk p n A) (hr : r < A.length) : RowsOk p n (clearL p R c r A) := by
  intro row hrow
  unfold clearL at hrow
  obtain ⟨i, hi, rfl⟩ := List.getElem_of_mem hrow
  rw [List.getElem_mapIdx]
  simp only [List.length_mapIdx] at hi
  exact clearRow_ok (h _ (getD_mem hr)).1 (h _ (List.getElem_mem hi))
theorem mx_at2 (L : List (List Int)) (i c : Nat) : mx p L i c = toF p (at2 L i c) := rfl
theorem at2_ok {n i c : Nat} {L : List (List Int)} (h : RowsOk p n L) : 0 ≤ at2 L i c ∧ at2 L i c < p := by
  unfold at2
  rcases Nat.lt_or_ge i L.length with hi | hi
  · have hm := h _ (getD_mem hi)
    generalize L.getD i [] = row at hm
    rcases Nat.lt_or_ge c row.length with hc | hc
    · rw [List.getD_eq_getElem?_getD, List.getElem?_eq_getElem hc]
      exact hm.2 _ (List.getElem_mem hc)
    · rw [List.getD_eq_getElem?_getD, List.getElem?_eq_none hc]
      have := pos_int p
      simp only [Option.getD_none]
      omega
  · rw [List.getD_eq_getElem?_getD (l := L), List.getElem?_eq_none hi]
    have := pos_int p
    simp
    omega
theorem mx_clearL {n c r m : Nat} {R A : List (List Int)} (hA : RowsOk p n A) (hm : A.length = m) (hr : r < m) (i : Nat) (hi : i < m) (j : Nat) : mx p (clearL p R c r A) i j = clear m r c (mx p R) (mx p A) i j := by
  have hi' : i < A.length := by omega
  rw [mx_at (by rw [clearL_len]; exact hi')]
  unfold clear
  have e : (clearL p R c r A)[i]'(by rw [clearL_len]; exact hi') = clearRow p R c r (A.getD r []) i A[i] := by simp [clearL]
  rw [e]
  unfold clearRow
  by_cases h1 : i = r
  · simp only [h1, ne_eq, not_true_eq_false, false_and, if_false, and_false]
    rw [mx_at (show r < A.length by omega)]
  · simp only [h1, ne_eq, not_false_eq_true, true_and, hi, if_true, and_true, mx_at2]
    by_cases h2 : at2 R i c = 0
    · simp only [h2, not_true_eq_false, if_false]
      rw [toF_zero, ← mx_at2, mx_at hi']
      grind
    · simp only [h2, not_false_eq_true, if_true]
      rw [vec_addT _ (by rw [(hA _ (List.getElem_mem hi')).1, (hA _ (getD_mem (show r < A.length by omega))).1]), toF_neg, ← mx_at2 A, ← mx_at2 A, mx_at hi']
      have e2 : vec p (A.getD r []) j = mx p A r j := rfl
      rw [e2]
      grind
omit [NeZero p] in
theorem unitL_ok {n i : Nat} (h1 : 1 < p) : VecOk p n (unitL n i) := by
  refine ⟨by simp [unitL], fun x hx => ?_⟩
  rcases List.mem_or_eq_of_mem_set hx with h | h
  · have := List.eq_of_mem_replicate h; omega
  · omega
omit [NeZero p] in
theorem idL_ok {n : Nat} (h1 : 1 < p) : RowsOk p n (idL n) := by
  intro row hrow
  obtain ⟨i, _, rfl⟩ := List.mem_map.1 hrow
  exact unitL_ok h1
theorem idL_len (n : Nat) : (idL n).length = n := by simp [idL]
theorem vec_unitL {n i j : Nat} (hj : j < n) : vec p (unitL n i) j = if i = j then 1 else 0 := by
  rw [vec_at (by simp [unitL]; exact hj)]
  unfold unitL
  rw [List.getElem_set]
  split
  · exact toF_one
  · rw [List.getElem_replicate]; exact toF_zero
theorem mx_idL {n i j : Nat} (hi : i < n) (hj : j < n) : mx p (idL n) i j = if i = j then 1 else 0 := by
  rw [mx_at (by rw [idL_len]; exact hi)]
  have e : (idL n)[i]'(by rw [idL_len]; exact hi) = unitL n i := by simp [idL]
  rw [e, vec_unitL hj]
end ops

end Go.Proofs.YtpeaeminjbjlnaaDoor

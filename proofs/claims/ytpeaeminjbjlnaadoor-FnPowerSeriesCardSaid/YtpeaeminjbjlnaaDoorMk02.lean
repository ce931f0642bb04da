/-
  Elimination on lists of lists of integers, as the program makes it, and what it gives. Plain mathematics: no program in sight. Conditions: the number of elements is a field of the program's kind.
-/
import Derived.Test.YtpeaeminjbjlnaaDoorMk01
import Derived.Test.YtpeaeminjbjlnaaDoorMk00
import Derived.Laws.OwnMore
import Derived.BigRegion
import Derived.StillTailTactics
namespace Go.Proofs.YtpeaeminjbjlnaaDoor
open La
set_option linter.unusedVariables false

/-! ### integers as elements -/
section elements
variable {p : Nat} [NeZero p]
theorem pos_int (p : Nat) [NeZero p] : (0 : Int) < p := by have := Nat.pos_of_ne_zero (NeZero.ne p); omega
def toF (p : Nat) [NeZero p] (x : Int) : Fin p := ⟨(x % p).toNat, by
  have h0 := Int.emod_nonneg x (show (p : Int) ≠ 0 by have := pos_int p; omega)
  have h1 := Int.emod_lt_of_pos x (pos_int p)
  omega⟩
theorem toF_val (x : Int) : ((toF p x).val : Int) = x % p := by
  have h0 := Int.emod_nonneg x (show (p : Int) ≠ 0 by have := pos_int p; omega)
  simp only [toF]
  omega
theorem toF_eq {x y : Int} : toF p x = toF p y ↔ x % p = y % p := by
  constructor
  · intro h; rw [← toF_val, ← toF_val, h]
  · intro h
    apply Fin.ext
    have : ((toF p x).val : Int) = ((toF p y).val : Int) := by rw [toF_val, toF_val, h]
    omega
theorem toF_zero : toF p 0 = 0 := by apply Fin.ext; simp [toF]
theorem toF_one : toF p 1 = 1 := by
  apply Fin.ext
  have : ((toF p 1).val : Int) = ((1 : Fin p).val : Int) := by
    have e : (1 : Fin p).val = 1 % p := rfl
    rw [toF_val, e]
    push_cast
    rfl
  omega
theorem toF_add (x y : Int) : toF p (x + y) = toF p x + toF p y := by
  apply Fin.ext
  have : ((toF p (x + y)).val : Int) = ((toF p x + toF p y).val : Int) := by
    rw [toF_val, Fin.val_add]
    push_cast
    rw [toF_val, toF_val, ← Int.add_emod]
  omega
theorem toF_mul (x y : Int) : toF p (x * y) = toF p x * toF p y := by
  apply Fin.ext
  have : ((toF p (x * y)).val : Int) = ((toF p x * toF p y).val : Int) := by
    rw [toF_val, Fin.val_mul]
    push_cast
    rw [toF_val, toF_val, ← Int.mul_emod]
  omega
theorem toF_neg (x : Int) : toF p (-x) = - toF p x := by
  have h := toF_add (p := p) x (-x)
  rw [Int.add_right_neg, toF_zero] at h
  grind
theorem toF_sub (x y : Int) : toF p (x - y) = toF p x - toF p y := by
  rw [Int.sub_eq_add_neg, toF_add, toF_neg]
  grind
theorem toF_emod (x : Int) : toF p (x % p) = toF p x := by rw [toF_eq, Int.emod_emod_of_dvd _ (Int.dvd_refl _)]
theorem toF_inj {x y : Int} (h0 : 0 ≤ x) (h1 : x < p) (h2 : 0 ≤ y) (h3 : y < p) (h : toF p x = toF p y) : x = y := by
  rw [toF_eq, Int.emod_eq_of_lt h0 h1, Int.emod_eq_of_lt h2 h3] at h
  exact h
theorem toF_ne {x : Int} (h0 : 0 ≤ x) (h1 : x < p) (h : x ≠ 0) : toF p x ≠ 0 := by
  intro e
  rw [← toF_zero] at e
  exact h (toF_inj h0 h1 (by omega) (pos_int p) e)
theorem toF_back (x : Fin p) : toF p (x.val : Int) = x := by
  apply Fin.ext
  have : ((toF p (x.val : Int)).val : Int) = (x.val : Int) := by
    rw [toF_val, Int.emod_eq_of_lt (by omega) (by have := x.isLt; omega)]
  omega
theorem toF_inv {b : Int} (hf : fldN p = true) (h0 : 0 < b) (h1 : b < p) : toF p b * toF p (invI p b) = 1 := by
  obtain ⟨m, rfl⟩ := Int.eq_ofNat_of_zero_le (show 0 ≤ b by omega)
  have h := (field_facts hf (b := m) (by omega)).inv (by omega)
  rw [← toF_mul, ← toF_one, toF_eq]
  have e : invI p m = ((m ^ (p - 2 + if p = 2 then 1 else 0) % p : Nat) : Int) := by
    rw [nat_pow_mod]
    unfold invI
    rw [Int.toNat_natCast]
    by_cases h2 : p = 2
    · subst h2; rfl
    · rw [if_neg h2, if_neg (by omega)]
  rw [e]
  have h2 := (of_decide_eq_true hf).1
  rw [Int.emod_eq_of_lt (show (0 : Int) ≤ 1 by omega) (by omega)]
  exact_mod_cast h
end elements

/-! ### lists as vectors and matrices -/
def VecOk (p : Int) (n : Nat) (v : List Int) : Prop := v.length = n ∧ ∀ x ∈ v, 0 ≤ x ∧ x < p
def RowsOk (p : Int) (n : Nat) (L : List (List Int)) : Prop := ∀ row ∈ L, VecOk p n row
section lists
variable {p : Nat} [NeZero p]
def vec (p : Nat) [NeZero p] (v : List Int) : Vec p := fun j => toF p (v.getD j 0)
def mx (p : Nat) [NeZero p] (L : List (List Int)) : Mx p := fun i => vec p (L.getD i [])
theorem vec_at {v : List Int} {j : Nat} (h : j < v.length) : vec p v j = toF p v[j] := by
  unfold vec; rw [List.getD_eq_getElem?_getD, List.getElem?_eq_getElem h]; rfl
theorem vec_past {v : List Int} {j : Nat} (h : v.length ≤ j) : vec p v j = 0 := by
  unfold vec; rw [List.getD_eq_getElem?_getD, List.getElem?_eq_none h]; exact toF_zero
theorem mx_at {L : List (List Int)} {i : Nat} (h : i < L.length) : mx p L i = vec p L[i] := by
  unfold mx; rw [List.getD_eq_getElem?_getD, List.getElem?_eq_getElem h]; rfl
theorem mx_past {L : List (List Int)} {i j : Nat} (h : L.length ≤ i) : mx p L i j = 0 := by
  unfold mx; rw [List.getD_eq_getElem?_getD, List.getElem?_eq_none h]; exact vec_past (by simp)
theorem vec_ext {n : Nat} {v w : List Int} (hv : VecOk p n v) (hw : VecOk p n w) (h : ∀ j, j < n → vec p v j = vec p w j) : v = w := by
  refine List.ext_getElem (hv.1.trans hw.1.symm) fun j h1 h2 => ?_
  have := h j (by rw [← hv.1]; exact h1)
  rw [vec_at h1, vec_at h2] at this
  have b1 := hv.2 _ (List.getElem_mem h1)
  have b2 := hw.2 _ (List.getElem_mem h2)
  exact toF_inj b1.1 b1.2 b2.1 b2.2 this
theorem rows_ext {m n : Nat} {A B : List (List Int)} (hA : RowsOk p n A) (hB : RowsOk p n B) (hl : A.length = m) (hl' : B.length = m) (h : ∀ i, i < m → ∀ j, j < n → mx p A i j = mx p B i j) : A = B := by
  refine List.ext_getElem (hl.trans hl'.symm) fun i h1 h2 => ?_
  refine vec_ext (hA _ (List.getElem_mem h1)) (hB _ (List.getElem_mem h2)) fun j hj => ?_
  have := h i (by omega) j hj
  rwa [mx_at h1, mx_at h2] at this
end lists

/-- v plus k times w -/
def addT (p : Int) (v : List Int) (k : Int) (w : List Int) : List Int := List.zipWith (fun x a => (x + k * a) % p) v w
def scaleV (p : Int) (v : List Int) (k : Int) : List Int := v.map fun x => x * k % p
def swapL (L : List (List Int)) (a b : Nat) : List (List Int) := (L.set a (L.getD b [])).set b (L.getD a [])
def divL (p : Int) (L : List (List Int)) (r : Nat) (y : Int) : List (List Int) := L.set r (scaleV p (L.getD r []) y)
/-- what stands at row i, column c -/
def at2 (L : List (List Int)) (i c : Nat) : Int := (L.getD i []).getD c 0
def clearRow (p : Int) (R : List (List Int)) (c r : Nat) (piv : List Int) (i : Nat) (row : List Int) : List Int :=
  if i ≠ r ∧ at2 R i c ≠ 0 then addT p row (-(at2 R i c)) piv else row
def clearL (p : Int) (R : List (List Int)) (c r : Nat) (A : List (List Int)) : List (List Int) := A.mapIdx (clearRow p R c r (A.getD r []))
structure St where
  R : List (List Int)
  T : List (List Int)
  r : Nat
def pivAt (R : List (List Int)) (c r : Nat) : Option Nat := firstFrom (fun k => at2 R k c != 0) r (R.length - r)
def stepWith (p : Int) (c k : Nat) (s : St) : St :=
  let R1 := swapL s.R s.r k
  let T1 := swapL s.T s.r k
  let y := invI p (at2 R1 s.r c)
  let R2 := divL p R1 s.r y
  let T2 := divL p T1 s.r y
  ⟨clearL p R2 c s.r R2, clearL p R2 c s.r T2, s.r + 1⟩
def stepL (p : Int) (c : Nat) (s : St) : St :=
  match pivAt s.R c s.r with
  | none => s
  | some k => stepWith p c k s
def redTo (p : Int) (R T : List (List Int)) : Nat → St
  | 0 => ⟨R, T, 0⟩
  | c + 1 => stepL p c (redTo p R T c)
def unitL (n i : Nat) : List Int := (List.replicate n 0).set i 1
def idL (n : Nat) : List (List Int) := (List.range n).map (unitL n)

/-! ### the list operations, as functions -/
section ops
variable {p : Nat} [NeZero p]
theorem vec_addT {v w : List Int} (k : Int) (h : v.length = w.length) (j : Nat) : vec p (addT p v k w) j = vec p v j + toF p k * vec p w j := by
  have hl : (addT p v k w).length = v.length := by simp [addT, h]
  rcases Nat.lt_or_ge j v.length with hj | hj
  · rw [vec_at (by omega), vec_at hj, vec_at (by omega)]
    have e : (addT p v k w)[j]'(by omega) = (v[j] + k * w[j]) % p := by simp [addT]
    rw [e, toF_emod, toF_add, toF_mul]
  · rw [vec_past (by omega), vec_past hj, vec_past (by omega)]
    grind
theorem vec_scaleV (v : List Int) (k : Int) (j : Nat) : vec p (scaleV p v k) j = vec p v j * toF p k := by
  have hl : (scaleV p v k).length = v.length := by simp [scaleV]
  rcases Nat.lt_or_ge j v.length with hj | hj
  · rw [vec_at (by omega), vec_at hj]
    have e : (scaleV p v k)[j]'(by omega) = v[j] * k % p := by simp [scaleV]
    rw [e, toF_emod, toF_mul]
  · rw [vec_past (by omega), vec_past hj]
    grind
theorem addT_ok {n : Nat} {v w : List Int} (k : Int) (hv : v.length = n) (hw : w.length = n) : VecOk p n (addT p v k w) := by
  refine ⟨by simp [addT, hv, hw], fun x hx => ?_⟩
  unfold addT at hx
  obtain ⟨i, hi, rfl⟩ := List.getElem_of_mem hx
  simp only [List.getElem_zipWith]
  exact ⟨Int.emod_nonneg _ (by have := pos_int p; omega), Int.emod_lt_of_pos _ (pos_int p)⟩
theorem scaleV_ok {n : Nat} {v : List Int} (k : Int) (hv : v.length = n) : VecOk p n (scaleV p v k) := by
  refine ⟨by simp [scaleV, hv], fun x hx => ?_⟩
  unfold scaleV at hx
  obtain ⟨y, _, rfl⟩ := List.mem_map.1 hx
  exact ⟨Int.emod_nonneg _ (by have := pos_int p; omega), Int.emod_lt_of_pos _ (pos_int p)⟩

theorem getD_mem {L : List (List Int)} {i : Nat} (h : i < L.length) : L.getD i [] ∈ L := by
  rw [List.getD_eq_getElem?_getD, List.getElem?_eq_getElem h]; exact List.getElem_mem h
omit [NeZero p] in
theorem set_ok {n : Nat} {L : List (List Int)} {v : List Int} (h : RowsOk p n L) (hv : VecOk p n v) (i : Nat) : RowsOk p n (L.set i v) := by
  intro row hrow
  rcases List.mem_or_eq_of_mem_set hrow with h1 | h1
  · exact h row h1
  · rw [h1]; exact hv
theorem swapL_len (L : List (List Int)) (a b : Nat) : (swapL L a b).length = L.length := by simp [swapL]
omit [NeZero p] in
theorem swapL_ok {n a b : Nat} {L : List (List Int)} (h : RowsOk p n L) (ha : a < L.length) (hb : b < L.length) : RowsOk p n (swapL L a b) :=
  set_ok (set_ok h (h _ (getD_mem hb)) _) (h _ (getD_mem ha)) _
theorem swapL_get {a b i : Nat} {L : List (List Int)} (ha : a < L.length) (hb : b < L.length) : (swapL L a b).getD i [] = L.getD (tw a b i) [] := by
  unfold swapL tw
  simp only [List.getD_eq_getElem?_getD, List.getElem?_set, List.length_set]
  by_cases h1 : b = i
  · subst h1
    by_cases h2 : b = a
    · subst h2; simp [hb]
    · simp [hb, h2]
  · by_cases h2 : a = i
    · subst h2; simp [h1, ha]
    · simp [h1, h2, Ne.symm h1, Ne.symm h2]
theorem mx_swapL {a b : Nat} {L : List (List Int)} (ha : a < L.length) (hb : b < L.length) (i : Nat) : mx p (swapL L a b) i = mx p L (tw a b i) := by
  unfold mx
  rw [swapL_get ha hb]
omit [NeZero p] in
theorem divL_len (L : List (List Int)) (r : Nat) (y : Int) : (divL p L r y).length = L.length := by simp [divL]
theorem divL_ok {n r : Nat} {L : List (List Int)} (h : RowsOk p n L) (hr : r < L.length) (y : Int) : RowsOk p n (divL p L r y) :=
  set_ok h (scaleV_ok y (h _ (getD_mem hr)).1) _
theorem mx_divL {r : Nat} {L : List (List Int)} (hr : r < L.length) (y : Int) (i j : Nat) : mx p (divL p L r y) i j = scale r (toF p y) (mx p L) i j := by
  unfold mx divL scale
  by_cases h : i = r
  · subst h
    rw [List.getD_eq_getElem?_getD, List.getElem?_set_self hr]
    simp only [if_true, Option.getD_some]
    exact vec_scaleV _ _ _
  · rw [List.getD_eq_getElem?_getD, List.getElem?_set_ne (Ne.symm h), ← List.getD_eq_getElem?_getD]
    simp only [h, if_false]
omit [NeZero p] in
theorem clearL_len (R A : List (List Int)) (c r : Nat) : (clearL p R c r A).length = A.length := by simp [clearL]
theorem clearRow_ok {n c r i : Nat} {R : List (List Int)} {q row : List Int} (hq : q.length = n) (h : VecOk p n row) : VecOk p n (clearRow p R c r q i row) := by
  unfold clearRow
  split
  · exact addT_ok _ h.1 hq
  · exact h
theorem clearL_ok {n c r : Nat} {R A : List (List Int)} (h : RowsOk p n A) (hr : r < A.length) : RowsOk p n (clearL p R c r A) := by
  intro row hrow
  unfold clearL at hrow
  obtain ⟨i, hi, rfl⟩ := List.getElem_of_mem hrow
  rw [List.getElem_mapIdx]
  simp only [List.length_mapIdx] at hi
  exact clearRow_ok (h _ (getD_mem hr)).1 (h _ (List.getElem_mem hi))
theorem mx_at2 (L : List (List Int)) (i c : Nat) : mx p L i c = toF p (at2 L i c) := rfl
theorem at2_ok {n i c : Nat} {L : List (List Int)} (h : RowsOk p n L) : 0 ≤ at2 L i c ∧ at2 L i c < p := by
  unfold at2
  rcases Nat.lt_or_ge i L.length with hi | hi
  · have hm := h _ (getD_mem hi)
    generalize L.getD i [] = row at hm
    rcases Nat.lt_or_ge c row.length with hc | hc
    · rw [List.getD_eq_getElem?_getD, List.getElem?_eq_getElem hc]
      exact hm.2 _ (List.getElem_mem hc)
    · rw [List.getD_eq_getElem?_getD, List.getElem?_eq_none hc]
      have := pos_int p
      simp only [Option.getD_none]
      omega
  · rw [List.getD_eq_getElem?_getD (l := L), List.getElem?_eq_none hi]
    have := pos_int p
    simp
    omega
theorem mx_clearL {n c r m : Nat} {R A : List (List Int)} (hA : RowsOk p n A) (hm : A.length = m) (hr : r < m) (i : Nat) (hi : i < m) (j : Nat) : mx p (clearL p R c r A) i j = clear m r c (mx p R) (mx p A) i j := by
  have hi' : i < A.length := by omega
  rw [mx_at (by rw [clearL_len]; exact hi')]
  unfold clear
  have e : (clearL p R c r A)[i]'(by rw [clearL_len]; exact hi') = clearRow p R c r (A.getD r []) i A[i] := by simp [clearL]
  rw [e]
  unfold clearRow
  by_cases h1 : i = r
  · simp only [h1, ne_eq, not_true_eq_false, false_and, if_false, and_false]
    rw [mx_at (show r < A.length by omega)]
  · simp only [h1, ne_eq, not_false_eq_true, true_and, hi, if_true, and_true, mx_at2]
    by_cases h2 : at2 R i c = 0
    · simp only [h2, not_true_eq_false, if_false]
      rw [toF_zero, ← mx_at2, mx_at hi']
      grind
    · simp only [h2, not_false_eq_true, if_true]
      rw [vec_addT _ (by rw [(hA _ (List.getElem_mem hi')).1, (hA _ (getD_mem (show r < A.length by omega))).1]), toF_neg, ← mx_at2 A, ← mx_at2 A, mx_at hi']
      have e2 : vec p (A.getD r []) j = mx p A r j := rfl
      rw [e2]
      grind
omit [NeZero p] in
theorem unitL_ok {n i : Nat} (h1 : 1 < p) : VecOk p n (unitL n i) := by
  refine ⟨by simp [unitL], fun x hx => ?_⟩
  rcases List.mem_or_eq_of_mem_set hx with h | h
  · have := List.eq_of_mem_replicate h; omega
  · omega
omit [NeZero p] in
theorem idL_ok {n : Nat} (h1 : 1 < p) : RowsOk p n (idL n) := by
  intro row hrow
  obtain ⟨i, _, rfl⟩ := List.mem_map.1 hrow
  exact unitL_ok h1
theorem idL_len (n : Nat) : (idL n).length = n := by simp [idL]
theorem vec_unitL {n i j : Nat} (hj : j < n) : vec p (unitL n i) j = if i = j then 1 else 0 := by
  rw [vec_at (by simp [unitL]; exact hj)]
  unfold unitL
  rw [List.getElem_set]
  split
  · exact toF_one
  · rw [List.getElem_replicate]; exact toF_zero
theorem mx_idL {n i j : Nat} (hi : i < n) (hj : j < n) : mx p (idL n) i j = if i = j then 1 else 0 := by
  rw [mx_at (by rw [idL_len]; exact hi)]
  have e : (idL n)[i]'(by rw [idL_len]; exact hi) = unitL n i := by simp [idL]
  rw [e, vec_unitL hj]
end ops

end Go.Proofs.YtpeaeminjbjlnaaDoor

/-
  Lists of lists of integers in memory: what can be read, what is the call's own; and the walks that only read them. Conditions: the lists are short.
-/
namespace Go.Proofs.YtpeaeminjbjlnaaDoor
open Go.RowKit
set_option linter.unusedVariables false

/-- A slice of slices of integers that can be read. -/
def MatV (w : World) (v : Value) (rows : List (List Int)) : Prop :=
  ∃ a cap, v = .slice a rows.length cap ∧ (rows ≠ [] → ∃ d, a = some d ∧ d.spot = none ∧ d.block < w.heap.size ∧
    ∀ i (h : i < rows.length), ∃ u, w.cell? ⟨d.block, d.off + i, none⟩ = some u ∧ IntsV w u rows[i])
theorem MatV.carry {w w' : World} {v : Value} {rows : List (List Int)} (h : MatV w v rows) (hg : w.grownBy w' none) : MatV w' v rows := by
  obtain ⟨a, cap, rfl, h⟩ := h
  refine ⟨a, cap, rfl, fun hz => ?_⟩
  obtain ⟨d, ha, hs, hd, hi⟩ := h hz
  refine ⟨d, ha, hs, Nat.lt_of_lt_of_le hd hg.size, fun i hi' => ?_⟩
  obtain ⟨u, hu, hr⟩ := hi i hi'
  exact ⟨u, (World.cell?_of_block (w := w) (a := ⟨d.block, d.off + i, none⟩) (hg.block _ hd (by simp))).trans hu, hr.carry hg⟩
/-- One row: its cell, and its shape. -/
theorem MatV.row {w : World} {a : Option Addr} {n cap : Nat} {rows : List (List Int)} (h : MatV w (.slice a n cap) rows) {i : Nat} (hi : i < rows.length) :
    ∃ (d : Addr) (r : Option Addr) (c : Nat), a = some d ∧ d.spot = none ∧ d.block < w.heap.size ∧ w.cell? ⟨d.block, d.off + i, none⟩ = some (.slice r rows[i].length c) ∧ IntsV w (.slice r rows[i].length c) rows[i] := by
  obtain ⟨a', cap', he, h⟩ := h
  cases he
  obtain ⟨d, ha, hs, hd, hi'⟩ := h (by intro h0; rw [h0] at hi; simp at hi)
  obtain ⟨u, hu, hr⟩ := hi' i hi
  obtain ⟨r, c, rfl, _⟩ := id hr
  exact ⟨d, r, c, ha, hs, hd, hu, hr⟩
theorem IntsV.at {w : World} {a : Option Addr} {n cap : Nat} {zs : List Int} (h : IntsV w (.slice a n cap) zs) {i : Nat} (hi : i < zs.length) :
    ∃ d : Addr, a = some d ∧ d.spot = none ∧ d.block < w.heap.size ∧ w.cell? ⟨d.block, d.off + i, none⟩ = some (.int .i64 zs[i]) := by
  obtain ⟨a', cap', he, h⟩ := h
  cases he
  obtain ⟨d, ha, hs, hd, hz⟩ := h (by intro h0; rw [h0] at hi; simp at hi)
  exact ⟨d, ha, hs, hd, hz i hi⟩

/-! ### checks -/
def vecB (p n : Int) (v : List Int) : Bool := decide ((v.length : Int) = n) && v.all (elB p)
def rowsB (p n : Int) (L : List (List Int)) : Bool := L.all (vecB p n)
theorem vecB_ok {p : Int} {n : Nat} {v : List Int} : vecB p n v = true ↔ VecOk p n v := by
  unfold vecB VecOk
  rw [Bool.and_eq_true, decide_eq_true_eq, List.all_eq_true]
  simp only [elB_iff]
  constructor
  · rintro ⟨h1, h2⟩; exact ⟨by omega, h2⟩
  · rintro ⟨h1, h2⟩; exact ⟨by omega, h2⟩
theorem rowsB_ok {p : Int} {n : Nat} {L : List (List Int)} : rowsB p n L = true ↔ RowsOk p n L := by
  unfold rowsB RowsOk
  rw [List.all_eq_true]
  simp only [vecB_ok]

theorem within_any (n lo hi : Int) (w : World) : Calls Tryd.prog 125 #[.int .i64 n, .int .i64 lo, .int .i64 hi] w fun e w' => e = .returned (.bool (decide (lo ≤ n ∧ n ≤ hi))) ∧ w = w' := by
  by_cases h0 : lo ≤ n <;> by_cases h1 : n ≤ hi
  all_goals
    go_enter Tryd.func125, Tryd.ntmps125
    go_wp2
    go_ret
    exact ⟨by simp [h0, h1], rfl⟩

theorem isVector_any (p n : Int) (v : Value) (zs : List Int) (w : World) (hv : IntsV w v zs) (hl : zs.length ≤ 1000000) :
    Calls Tryd.prog 173 #[.int .i64 p, v, .int .i64 n] w fun e w' => e = .returned (.bool (vecB p n zs)) ∧ w = w' := by
  have HV := Lib.hid hv
  obtain ⟨a, cap, rfl, _⟩ := hv
  generalize hlen : zs.length = l at *
  have HL := Lib.hid hlen
  clear hlen
  by_cases hn : (l : Int) = n
  · subst hn
    go_enter Tryd.func173, Tryd.ntmps173
    go_wp2
    go_loop [15] (fun i => ∃ k : Nat, k ≤ l ∧ i = .int .i64 k ∧ ∀ j (h : j < zs.length), j < k → elB p zs[j] = true) (fun i => l - (intOf i).toNat)
    case atStart => exact ⟨0, by omega, rfl, fun _ _ h => absurd h (by omega)⟩
    case round =>
      obtain ⟨k, hk, rfl, ho⟩ := hrel
      have HO := Lib.hid ho
      clear ho
      by_cases hlt : k < l
      · have hkl : k < zs.length := by rw [HL.out]; exact hlt
        obtain ⟨d, rfl, hs, hd, hcell⟩ := HV.out.at hkl
        obtain ⟨db, dof, _⟩ := d
        simp only at hs hcell
        subst hs
        generalize hzk : zs[k] = z at hcell
        have HK := Lib.hid hzk
        clear hzk hd
        cases he : elB p z
        · have hfin : vecB p l zs = false := by
            unfold vecB
            rw [Bool.and_eq_false_iff]
            refine Or.inr (List.all_eq_false.2 ⟨zs[k], List.getElem_mem _, ?_⟩)
            rw [HK.out, he]
            simp
          have HF := Lib.hid hfin
          clear hfin
          go_wp2_with (go_at_call 114; refine (isElement_any _ _ _).mono ?_; rintro e w' ⟨rfl, rfl⟩)
          go_ret
          exact ⟨by rw [HF.out]; rfl, rfl⟩
        · have HE := Lib.hid he
          go_wp2_with (go_at_call 114; refine (isElement_any _ _ _).mono ?_; rintro e w' ⟨rfl, rfl⟩)
          go_round
          case rel => exact ⟨k + 1, by omega, by go_num, fun j h hj => by
            by_cases hjk : j = k
            · subst hjk; rw [HK.out]; exact HE.out
            · exact HO.out j h (by omega)⟩
          case measure => simp [intOf]; omega
      · have hfin : vecB p l zs = true := by
          unfold vecB
          rw [Bool.and_eq_true]
          refine ⟨decide_eq_true (by rw [HL.out]), List.all_eq_true.2 fun x hx => ?_⟩
          obtain ⟨j, hj, rfl⟩ := List.getElem_of_mem hx
          exact HO.out j hj (by have := HL.out; omega)
        have HF := Lib.hid hfin
        clear hfin
        go_wp2
        go_ret
        exact ⟨by rw [HF.out]; rfl, rfl⟩
  · have hb : ((l : Int) != n) = true := by rw [bne_iff_ne]; exact hn
    have hfin : vecB p n zs = false := by
      unfold vecB
      rw [Bool.and_eq_false_iff]
      exact Or.inl (decide_eq_false (by rw [HL.out]; exact hn))
    have HF := Lib.hid hfin
    clear hfin hn
    go_enter Tryd.func173, Tryd.ntmps173
    go_wp2
    go_ret
    exact ⟨by rw [HF.out]; rfl, rfl⟩

theorem areVectors_any (p n : Int) (v : Value) (rows : List (List Int)) (w : World) (hv : MatV w v rows) (hl : rows.length ≤ 1000000) (hll : ∀ row ∈ rows, row.length ≤ 1000000) :
    Calls Tryd.prog 205 #[.int .i64 p, v, .int .i64 n] w fun e w' => e = .returned (.bool (rowsB p n rows)) ∧ w = w' := by
  have HV := Lib.hid hv
  have HLL := Lib.hid hll
  obtain ⟨a, cap, rfl, hx⟩ := hv
  clear hx
  generalize hlen : rows.length = l at *
  have HL := Lib.hid hlen
  clear hlen hll
  go_enter Tryd.func205, Tryd.ntmps205
  go_wp2
  go_loop [11] (fun i => ∃ k : Nat, k ≤ l ∧ i = .int .i64 k ∧ ∀ j (h : j < rows.length), j < k → vecB p n rows[j] = true) (fun i => l - (intOf i).toNat)
  case atStart => exact ⟨0, by omega, rfl, fun _ _ h => absurd h (by omega)⟩
  case round =>
    obtain ⟨k, hk, rfl, ho⟩ := hrel
    have HO := Lib.hid ho
    clear ho
    by_cases hlt : k < l
    · have hkl : k < rows.length := by rw [HL.out]; exact hlt
      obtain ⟨d, r, c, rfl, hs, hd, hcell, hrow⟩ := HV.out.row hkl
      have hlr := HLL.out rows[k] (List.getElem_mem _)
      obtain ⟨db, dof, _⟩ := d
      simp only at hs hcell
      subst hs
      generalize hzk : rows[k] = z at *
      have HK := Lib.hid hzk
      have HR := Lib.hid (isVector_any p n _ z w hrow hlr)
      clear hzk hd hrow hlr
      generalize z.length = zl at *
      cases he : vecB p n z
      · have hfin : rowsB p n rows = false := by
          unfold rowsB
          refine List.all_eq_false.2 ⟨rows[k], List.getElem_mem _, ?_⟩
          rw [HK.out, he]
          simp
        have HF := Lib.hid hfin
        rw [he] at HR
        clear hfin he
        go_wp2_with (go_at_call 173; refine HR.out.mono ?_; rintro e w' ⟨rfl, rfl⟩)
        go_ret
        exact ⟨by rw [HF.out]; rfl, rfl⟩
      · have HE := Lib.hid he
        rw [he] at HR
        clear he
        go_wp2_with (go_at_call 173; refine HR.out.mono ?_; rintro e w' ⟨rfl, rfl⟩)
        go_round
        case rel => exact ⟨k + 1, by omega, by go_num, fun j h hj => by
          by_cases hjk : j = k
          · subst hjk; rw [HK.out]; exact HE.out
          · exact HO.out j h (by omega)⟩
        case measure => simp [intOf]; omega
    · have hfin : rowsB p n rows = true := by
        unfold rowsB
        refine List.all_eq_true.2 fun x hx => ?_
        obtain ⟨j, hj, rfl⟩ := List.getElem_of_mem hx
        exact HO.out j hj (by have := HL.out; omega)
      have HF := Lib.hid hfin
      clear hfin
      go_wp2
      go_ret
      exact ⟨by rw [HF.out]; rfl, rfl⟩

end Go.Proofs.YtpeaeminjbjlnaaDoor

/-
  More walks of chapter 1: powers, inverses, orders, logarithms. Conditions: as each states.
-/
namespace Go.Proofs.YtpeaeminjbjlnaaDoor
open Go.RowKit
set_option linter.unusedVariables false

theorem power_any (p a n : Int) (w : World) (hp : 1 ≤ p) (hp2 : p ≤ 1000) (ha : 0 ≤ a) (ha2 : a ≤ 1000) (hn : 0 ≤ n) (hn2 : n ≤ 1000000) :
    Calls Tryd.prog 249 #[.int .i64 p, .int .i64 a, .int .i64 n] w fun e w' => e = .returned (.int .i64 (a ^ n.toNat % p)) ∧ w = w' := by
  have hm0 := Int.emod_nonneg (1 : Int) (show p ≠ 0 by omega)
  have hm1 := Int.emod_lt_of_pos (1 : Int) (show 0 < p by omega)
  go_enter Tryd.func249, Tryd.ntmps249
  go_wp2
  go_loop [1, 2, 7] (fun x m o => ∃ (x' o' : Int) (m' : Nat), x = .int .i64 x' ∧ m = .int .i64 m' ∧ o = .int .i64 o' ∧ 0 ≤ o' ∧ o' < p ∧ 0 ≤ x' ∧ x' ≤ 1000 ∧ m' ≤ 1000000 ∧ o' * x' ^ m' % p = a ^ n.toNat % p) (fun _ m _ => (intOf m).toNat)
  case atStart =>
    obtain ⟨n', rfl⟩ := Int.eq_ofNat_of_zero_le hn
    exact ⟨a, 1 % p, n', rfl, rfl, rfl, hm0, hm1, ha, ha2, by omega, by rw [emod_mul_l, Int.one_mul, Int.toNat_natCast]⟩
  case round =>
    obtain ⟨x, o, m, rfl, rfl, rfl, ho0, ho1, hx0, hx1, hm, hr⟩ := hrel
    have HR := Lib.hid hr
    have hxx : 0 ≤ x * x := Int.mul_nonneg hx0 hx0
    have hxx2 : x * x ≤ 1000 * 1000 := Int.mul_le_mul hx1 hx1 hx0 (by omega)
    have hox : 0 ≤ o * x := Int.mul_nonneg ho0 hx0
    have hox2 : o * x ≤ 1000 * 1000 := Int.mul_le_mul (by omega) hx1 hx0 (by omega)
    have e0 := Int.emod_nonneg (x * x) (show p ≠ 0 by omega)
    have e1 := Int.emod_lt_of_pos (x * x) (show 0 < p by omega)
    have e2 := Int.emod_nonneg (o * x) (show p ≠ 0 by omega)
    have e3 := Int.emod_lt_of_pos (o * x) (show 0 < p by omega)
    clear hr
    by_cases h0 : m = 0
    · subst h0
      have hfin : a ^ n.toNat % p = o := by
        have := HR.out
        rw [← this, Int.pow_zero, Int.mul_one, Int.emod_eq_of_lt ho0 ho1]
      have HF := Lib.hid hfin
      clear hfin
      go_wp2
      go_ret
      exact ⟨by rw [HF.out]; rfl, rfl⟩
    · have h0' : 0 < m := by omega
      by_cases hodd : m % 2 = 1
      · have hb : ((m : Int) % 2 == 1) = true := by rw [beq_iff_eq]; omega
        have HO := Lib.hid hodd
        clear hodd h0
        go_wp2
        go_round
        case rel => exact ⟨x * x % p, o * x % p, m / 2, rfl, by go_num, rfl, e2, e3, e0, by omega, by omega, by rw [pw_odd _ _ _ _ HO.out, HR.out]⟩
        case measure => simp [intOf]; omega
      · have hb : ((m : Int) % 2 == 1) = false := by rw [beq_eq_false_iff_ne]; omega
        have he : m % 2 = 0 := by omega
        have HO := Lib.hid he
        clear hodd he h0
        go_wp2
        go_round
        case rel => exact ⟨x * x % p, o, m / 2, rfl, by go_num, rfl, ho0, ho1, e0, by omega, by omega, by rw [pw_even _ _ _ _ HO.out, HR.out]⟩
        case measure => simp [intOf]; omega

theorem inverse_any (p a : Int) (w : World) (hp : 2 ≤ p) (hp2 : p ≤ 1000) (ha : 0 ≤ a) (ha2 : a ≤ 1000) :
    Calls Tryd.prog 110 #[.int .i64 p, .int .i64 a] w fun e w' => e = .returned (.int .i64 (invI p a)) ∧ w = w' := by
  by_cases h2 : p = 2
  · subst h2
    go_enter Tryd.func110, Tryd.ntmps110
    go_wp2_with (first | (go_at_call 250; refine (bit_any true _).mono ?_; rintro e w' ⟨rfl, rfl⟩) | (go_at_call 249; refine (power_any _ _ _ _ (by omega) (by omega) ha ha2 (by omega) (by omega)).mono ?_; rintro e w' ⟨rfl, rfl⟩))
    go_ret
    exact ⟨rfl, rfl⟩
  · have hb : (p == 2) = false := by rw [beq_eq_false_iff_ne]; exact h2
    have hfin : invI p a = a ^ (p - 2).toNat % p := by
      unfold invI
      rw [if_neg h2, show p.toNat - 2 + 0 = (p - 2).toNat from by omega]
    have HF := Lib.hid hfin
    clear hfin h2
    go_enter Tryd.func110, Tryd.ntmps110
    go_wp2_with (first | (go_at_call 250; refine (bit_any false _).mono ?_; rintro e w' ⟨rfl, rfl⟩) | (go_at_call 249; refine (power_any _ _ _ _ (by omega) (by omega) ha ha2 (by omega) (by omega)).mono ?_; rintro e w' ⟨rfl, rfl⟩))
    go_ret
    exact ⟨by rw [HF.out]; rfl, rfl⟩

/-! ### the reference's test of a field -/
theorem fdGood_any (p : Int) (w : World) (h0 : -1000 ≤ p) (h1 : p ≤ 1000) : Calls Tryd.prog 206 #[.int .i64 p] w fun e w' => e = .returned (.bool (fldB p)) ∧ w = w' := by
  by_cases hin : 2 ≤ p ∧ p ≤ 97
  · have hd : decide (2 ≤ p ∧ p ≤ 97) = true := by simpa using hin
    obtain ⟨g0, g1⟩ := hin
    go_enter Tryd.func206, Tryd.ntmps206
    go_wp2_with (go_at_call 137; refine (l1In_any _ _ _ _).mono ?_; rintro e w' ⟨rfl, rfl⟩)
    go_loop [3] (fun k => ∃ k' : Nat, k = .int .i64 k' ∧ 2 ≤ k' ∧ k' ≤ 10 ∧ ∀ j : Int, 2 ≤ j → j < k' → p % j ≠ 0) (fun k => 200 - (intOf k).toNat)
    case atStart => exact ⟨2, rfl, by omega, by omega, fun j h1 h2 => by omega⟩
    case round =>
      obtain ⟨k, rfl, hk2, hk10, hr⟩ := hrel
      have HR := Lib.hid hr
      clear hr
      have hkk : ((k : Int) * k) = ((k * k : Nat) : Int) := by push_cast; rfl
      have hkk2 : k * k ≤ 100 := Nat.mul_le_mul hk10 hk10
      have HKK := Lib.hid hkk
      clear hkk
      have hq0 : (0 : Int) ≤ (k : Int) * k := by rw [HKK.out]; omega
      have hq1 : (k : Int) * k ≤ 100 := by rw [HKK.out]; omega
      have e0 := Int.emod_nonneg p (show (k : Int) ≠ 0 by omega)
      by_cases hle : (k : Int) * k ≤ p
      · by_cases hd0 : p % (k : Int) = 0
        · have hb : (p % (k : Int) == 0) = true := by rw [beq_iff_eq]; exact hd0
          have hfin : fldB p = false := fld_no g0 g1 (by omega) hle hd0
          have HF := Lib.hid hfin
          clear hfin hd0
          go_wp2
          go_ret
          exact ⟨by rw [HF.out]; rfl, rfl⟩
        · have hb : (p % (k : Int) == 0) = false := by rw [beq_eq_false_iff_ne]; exact hd0
          have HD := Lib.hid hd0
          clear hd0
          have hk9 : k < 10 := by
            rcases Nat.lt_or_ge k 10 with h | h
            · exact h
            · obtain rfl : k = 10 := by omega
              omega
          go_wp2
          go_round
          case rel => exact ⟨k + 1, by go_num, by omega, by omega, fun j h1 h2 => by
            by_cases hj : j = k
            · subst hj; exact HD.out
            · exact HR.out j h1 (by omega)⟩
          case measure => simp [intOf]; omega
      · have hfin : fldB p = true := fld_yes g0 g1 (k := k) (by omega) (by omega) (by omega) HR.out
        have HF := Lib.hid hfin
        clear hfin
        go_wp2
        go_ret
        exact ⟨by rw [HF.out]; rfl, rfl⟩
  · have hd : decide (2 ≤ p ∧ p ≤ 97) = false := by simpa using hin
    have hfin : fldB p = false := by
      unfold fldB
      rw [decide_eq_false_iff_not]
      exact fun h => hin ⟨h.1, h.2.1⟩
    have HF := Lib.hid hfin
    clear hfin hin
    go_enter Tryd.func206, Tryd.ntmps206
    go_wp2_with (go_at_call 137; refine (l1In_any _ _ _ _).mono ?_; rintro e w' ⟨rfl, rfl⟩)
    go_ret
    exact ⟨by rw [HF.out]; rfl, rfl⟩

end Go.Proofs.YtpeaeminjbjlnaaDoor

/-
  Matrices that are the call's own: rows in blocks of their own; what is written, and what stays. And mod for negative numbers too.
-/
namespace Go.Proofs.YtpeaeminjbjlnaaDoor
open Go.RowKit
set_option linter.unusedVariables false

theorem info_ints : (Tryd.prog.info? 24).map (fun i => (i.zero, i.size, i.bytes)) = some (some (.slice none 0 0), 1, 24) := by kernel_rfl

def Hits (v : Value) (k : Nat) : Prop := v.ownBlock = some k
def Apart (v u : Value) : Prop := ∀ k, Hits v k → ¬ Hits u k
theorem Apart.symm {v u : Value} (h : Apart v u) : Apart u v := fun k h1 h2 => h k h2 h1
/-- Only the old blocks in S have been written. -/
structure Only (S : Nat → Prop) (w w' : World) : Prop where
  os : w'.os = w.os
  tape : w'.tape = w.tape
  output : w'.output = w.output
  size : w.heap.size ≤ w'.heap.size
  block : ∀ k, k < w.heap.size → ¬ S k → w'.heap[k]? = w.heap[k]?
theorem Only.refl (S : Nat → Prop) (w : World) : Only S w w := ⟨rfl, rfl, rfl, Nat.le_refl _, fun _ _ _ => rfl⟩
theorem Only.drew (S : Nat → Prop) (w : World) : Only S w w.drew := ⟨rfl, rfl, rfl, Nat.le_refl _, fun _ _ _ => rfl⟩
theorem Only.drewN (S : Nat → Prop) (w : World) (n : Nat) : Only S w (w.drewN n) := ⟨rfl, rfl, rfl, Nat.le_refl _, fun _ _ _ => rfl⟩
theorem Only.trans {S : Nat → Prop} {a b c : World} (h : Only S a b) (h' : Only S b c) : Only S a c :=
  ⟨h'.os.trans h.os, h'.tape.trans h.tape, h'.output.trans h.output, Nat.le_trans h.size h'.size,
    fun k hk hs => (h'.block k (Nat.lt_of_lt_of_le hk h.size) hs).trans (h.block k hk hs)⟩
theorem Only.mono {S S' : Nat → Prop} {a b : World} (h : Only S a b) (hs : ∀ k, S k → S' k) : Only S' a b :=
  ⟨h.os, h.tape, h.output, h.size, fun k hk hn => h.block k hk fun h' => hn (hs k h')⟩
theorem Only.of_grown {S : Nat → Prop} {a b : World} {r : Option Nat} (h : a.grownBy b r) (hs : ∀ k, r = some k → S k) : Only S a b :=
  ⟨h.os, h.tape, h.output, h.size, fun k hk hn => h.block k hk fun h' => hn (hs k h'.symm)⟩
theorem Only.grown {a b : World} (h : Only (fun _ => False) a b) : a.grownBy b none := ⟨h.os, h.tape, h.output, h.size, fun k hk _ => h.block k hk (fun x => x)⟩
theorem Only.below {S : Nat → Prop} {a b : World} {B : Nat} (h : Only S a b) (hB : B ≤ a.heap.size) (hs : ∀ k, S k → B ≤ k) : Below B a b :=
  ⟨h.os, h.tape, h.output, h.size, fun k hk => h.block k (Nat.lt_of_lt_of_le hk hB) fun h' => by have := hs k h'; omega⟩
theorem OwnInts.only {B : Nat} {S : Nat → Prop} {w w' : World} {v : Value} {zs : List Int} (h : OwnInts B w v zs) (ho : Only S w w') (hs : ∀ k, Hits v k → ¬ S k) : OwnInts B w' v zs := by
  obtain ⟨h1, h2⟩ := h
  refine ⟨h1, ?_⟩
  rcases h2 with h2 | ⟨g, cap, cur, hv, hg, hh, r⟩
  · exact Or.inl h2
  · have hlt : g < w.heap.size := by
      rcases Nat.lt_or_ge g w.heap.size with h | h
      · exact h
      · rw [Array.getElem?_eq_none h] at hh; cases hh
    exact Or.inr ⟨g, cap, cur, hv, hg, (ho.block g hlt (hs g (by rw [hv]; rfl))).trans hh, r⟩
/-- the parts of an own row that is not empty -/
theorem OwnInts.parts {B : Nat} {w : World} {v : Value} {zs : List Int} (h : OwnInts B w v zs) (hz : zs ≠ []) : ∃ g cap, v = .slice (some ⟨g, 0, none⟩) zs.length cap ∧ B ≤ g ∧ g < w.heap.size ∧ Hits v g := by
  obtain ⟨h1, h2⟩ := h
  rcases h2 with ⟨_, h0⟩ | ⟨g, cap, cur, rfl, hg, hh, _⟩
  · exact absurd (List.eq_nil_of_length_eq_zero (by simpa using h0)) hz
  · refine ⟨g, cap, rfl, hg, ?_, rfl⟩
    rcases Nat.lt_or_ge g w.heap.size with h | h
    · exact h
    · rw [Array.getElem?_eq_none h] at hh; cases hh
theorem OwnInts.cell {B g n cap : Nat} {w : World} {zs : List Int} (h : OwnInts B w (.slice (some ⟨g, 0, none⟩) n cap) zs) (hn : n = zs.length) {j : Nat} (hj : j < zs.length) : w.cell? ⟨g, j, none⟩ = some (.int .i64 zs[j]) := by
  subst hn
  have := World.ownsRow.cellAt h j (by omega)
  rw [this]
  simp [hj]
theorem OwnInts.free {B g n cap : Nat} {w : World} {zs : List Int} (h : OwnInts B w (.slice (some ⟨g, 0, none⟩) n cap) zs) (hn : n = zs.length) (j : Nat) : w.frozen? ⟨g, j, none⟩ = false := by
  subst hn
  exact World.ownsRow.frozenAt h j
theorem OwnInts.put {B g n cap : Nat} {w : World} {zs : List Int} (h : OwnInts B w (.slice (some ⟨g, 0, none⟩) n cap) zs) (hn : n = zs.length) (j : Nat) (x : Int) :
    OwnInts B (w.setCell ⟨g, j, none⟩ (.int .i64 x)) (.slice (some ⟨g, 0, none⟩) n cap) (zs.set j x) ∧ Only (· = g) w (w.setCell ⟨g, j, none⟩ (.int .i64 x)) := by
  subst hn
  have := World.ownsRow.stored h j (.int .i64 x)
  refine ⟨?_, Only.of_grown this.2 fun k hk => (Option.some.inj hk).symm⟩
  have h1 := this.1
  unfold OwnInts
  rw [List.length_set, List.map_set]
  exact h1
theorem OwnInts.lt {B : Nat} {w : World} {v : Value} {zs : List Int} (h : OwnInts B w v zs) : ∀ k, Hits v k → B ≤ k ∧ k < w.heap.size := World.ownsRow.lt h
theorem OwnInts.base {B B' : Nat} {w : World} {v : Value} {zs : List Int} (h : OwnInts B w v zs) (hB : B' ≤ B) : OwnInts B' w v zs := by
  obtain ⟨h1, h2⟩ := h
  refine ⟨h1, ?_⟩
  rcases h2 with h2 | ⟨g, cap, cur, hv, hg, r⟩
  · exact Or.inl h2
  · exact Or.inr ⟨g, cap, cur, hv, Nat.le_trans hB hg, r⟩

/-- where the cells of a readable slice lie -/
def Value.blk' : Value → Option Nat
  | .slice (some d) _ _ => some d.block
  | _ => none
theorem IntsV.only {S : Nat → Prop} {w w' : World} {v : Value} {zs : List Int} (h : IntsV w v zs) (ho : Only S w w') (hs : ∀ k, Value.blk' v = some k → ¬ S k) : IntsV w' v zs := by
  obtain ⟨a, cap, rfl, h⟩ := h
  refine ⟨a, cap, rfl, fun hz => ?_⟩
  obtain ⟨d, ha, hsp, hd, hi⟩ := h hz
  refine ⟨d, ha, hsp, Nat.lt_of_lt_of_le hd ho.size, fun i hi' => ?_⟩
  exact (World.cell?_of_block (w := w) (a := ⟨d.block, d.off + i, none⟩) (ho.block _ hd (hs _ (by rw [ha]; rfl)))).trans (hi i hi')
theorem OwnInts.blk {B : Nat} {w : World} {v : Value} {zs : List Int} (h : OwnInts B w v zs) : Value.blk' v = v.ownBlock := by
  obtain ⟨_, h2⟩ := h
  rcases h2 with ⟨rfl, _⟩ | ⟨g, cap, cur, rfl, _⟩ <;> rfl

/-! ### mod -/
theorem tmod_fix (a p : Int) (hp : 0 < p) : a % p = if a.tmod p < 0 then a.tmod p + p else a.tmod p := by
  have h1 := Int.emod_nonneg a (show p ≠ 0 by omega)
  have h2 := Int.emod_lt_of_pos a hp
  by_cases h0 : 0 ≤ a
  · rw [Int.tmod_eq_emod_of_nonneg h0, if_neg (by omega)]
  · have h3 := Int.tmod_eq_emod (a := a) (b := p)
    by_cases hd : p ∣ a
    · have h4 := Int.emod_eq_zero_of_dvd hd
      rw [if_pos (Or.inr hd)] at h3
      simp at h3
      rw [if_neg (by omega)]
      omega
    · rw [if_neg (by intro h; rcases h with h | h; exact h0 h; exact hd h)] at h3
      have : ((p.natAbs : Nat) : Int) = p := Int.natAbs_of_nonneg (by omega)
      rw [this] at h3
      rw [if_pos (by omega)]
      omega
theorem mod_all (p a : Int) (hp : 1 ≤ p) (hp2 : p ≤ 1000) (h0 : -1000000000 ≤ a) (ha : a ≤ 1000000000) (w : World) : Calls Tryd.prog 236 #[.int .i64 p, .int .i64 a] w fun e w' => e = .returned (.int .i64 (a % p)) ∧ w = w' := by
  by_cases hn : 0 ≤ a
  · exact mod_any p a hp hp2 hn ha w
  · have hf0 := tmod_fix a p (by omega)
    have h2 := Int.tmod_lt_of_pos a (show 0 < p by omega)
    have h1 : -p < a.tmod p := by
      have e1 := Int.emod_nonneg a (show p ≠ 0 by omega)
      have e2 := Int.emod_lt_of_pos a (show 0 < p by omega)
      have e3 := Int.tmod_eq_emod (a := a) (b := p)
      split at e3 <;> omega
    have hf := Lib.hid hf0
    clear hf0
    generalize a % p = r at hf
    by_cases ht : a.tmod p < 0
    · go_enter Tryd.func236, Tryd.ntmps236
      go_wp2
      go_ret
      exact ⟨by have := hf.out; rw [if_pos ht] at this; rw [this]; rfl, rfl⟩
    · go_enter Tryd.func236, Tryd.ntmps236
      go_wp2
      go_ret
      exact ⟨by have := hf.out; rw [if_neg (Int.not_lt.2 ht)] at this; rw [this]; rfl, rfl⟩

end Go.Proofs.YtpeaeminjbjlnaaDoor

/-
  Linear relations as reduced lists: compositions. Plain mathematics. Conditions: the number of elements is a field of the program's kind; rows of one length with elements.
-/
import Derived.Test.YtpeaeminjbjlnaaDoorMv07
import Derived.Test.YtpeaeminjbjlnaaDoorMl02
import Derived.Test.YtpeaeminjbjlnaaDoorMv13
namespace Go.Proofs.YtpeaeminjbjlnaaDoor
open La
set_option linter.unusedVariables false
section rel
variable {p : Nat} [NeZero p]

/-- a pair of vectors as one -/
def cat (n : Nat) (u v : Vec p) : Vec p := fun j => if j < n then u j else v (j - n)
omit [NeZero p] in
theorem cat_l {n j : Nat} {u v : Vec p} (h : j < n) : cat n u v j = u j := by simp [cat, h]
omit [NeZero p] in
theorem cat_r {n j : Nat} {u v : Vec p} : cat n u v (n + j) = v j := by
  unfold cat
  rw [if_neg (by omega), show n + j - n = j by omega]
omit [NeZero p] in
theorem cat_split {n m : Nat} {u v w : Vec p} (h1 : ∀ j, j < n → w j = u j) (h2 : ∀ j, j < m → w (n + j) = v j) : ∀ j, j < n + m → w j = cat n u v j := by
  intro j hj
  unfold cat
  by_cases h : j < n
  · rw [if_pos h]; exact h1 j h
  · rw [if_neg h, ← h2 (j - n) (by omega)]
    congr 1
    omega
theorem Spn.congr {n : Nat} {A : List (List Int)} {v w : Vec p} (h : Spn p n A v) (e : ∀ j, j < n → w j = v j) : Spn p n A w := In.congr h e
theorem vec_drop (x : List Int) (k i : Nat) : vec p (x.drop k) i = vec p x (k + i) := by
  unfold vec
  simp only [List.getD_eq_getElem?_getD]
  rw [List.getElem?_drop]
theorem vec_appL {x y : List Int} {i : Nat} (h : i < x.length) : vec p (x ++ y) i = vec p x i := by
  unfold vec
  simp only [List.getD_eq_getElem?_getD]
  rw [List.getElem?_append_left h]
theorem vec_appR (x y : List Int) (i : Nat) : vec p (x ++ y) (x.length + i) = vec p y i := by
  unfold vec
  simp only [List.getD_eq_getElem?_getD]
  rw [List.getElem?_append_right (by omega), show x.length + i - x.length = i by omega]
omit [NeZero p] in
theorem take_vok {n k : Nat} {x : List Int} (h : VecOk p n x) (hk : k ≤ n) : VecOk p k (x.take k) :=
  ⟨by rw [List.length_take, h.1]; omega, fun z hz => h.2 z (List.mem_of_mem_take hz)⟩
omit [NeZero p] in
theorem drop_vok {n k : Nat} {x : List Int} (h : VecOk p (k + n) x) : VecOk p n (x.drop k) :=
  ⟨by rw [List.length_drop, h.1]; omega, fun z hz => h.2 z (List.mem_of_mem_drop hz)⟩
omit [NeZero p] in
theorem app_vok {n k : Nat} {x y : List Int} (h : VecOk p n x) (h' : VecOk p k y) : VecOk p (n + k) (x ++ y) :=
  ⟨by rw [List.length_append, h.1, h'.1], fun z hz => by rcases List.mem_append.1 hz with e | e; exact h.2 z e; exact h'.2 z e⟩
omit [NeZero p] in
theorem map_ok {n m : Nat} {A : List (List Int)} {f : List Int → List Int} (h : RowsOk p n A) (hf : ∀ x, VecOk p n x → VecOk p m (f x)) : RowsOk p m (A.map f) := by
  intro row hr
  obtain ⟨x, hx, rfl⟩ := List.mem_map.1 hr
  exact hf x (h x hx)
theorem mx_map {A : List (List Int)} {f : List Int → List Int} {i : Nat} (hi : i < A.length) : mx p (A.map f) i = vec p (f (A.getD i [])) := by
  rw [mx_at (by simpa using hi), List.getElem_map, List.getD_eq_getElem?_getD, List.getElem?_eq_getElem hi]
  rfl
theorem mx_row (A : List (List Int)) (i : Nat) : mx p A i = vec p (A.getD i []) := rfl

/-- the middle of both must agree -/
def Glue (p l m : Nat) [NeZero p] (A C : List (List Int)) (k : Vec p) : Prop :=
  ∀ j, j < m → comb A.length k (mx p A) (l + j) = comb C.length (fun i => k (A.length + i)) (mx p C) j
/-- the pairs that a composition has -/
def Comp (p l m r : Nat) [NeZero p] (A C : List (List Int)) (v : Vec p) : Prop :=
  ∃ y : Vec p, Spn p (l + m) A (cat l v y) ∧ Spn p (m + r) C (cat m y fun j => v (l + j))
theorem comp_of {l m r : Nat} {A C K P : List (List Int)} (hK : ∀ k, Spn p (A.length + C.length) K k ↔ Glue p l m A C k) (hl : P.length = K.length)
    (h1 : ∀ i, i < K.length → ∀ j, j < l → mx p P i j = comb A.length (mx p K i) (mx p A) j)
    (h2 : ∀ i, i < K.length → ∀ j, j < r → mx p P i (l + j) = comb C.length (fun t => mx p K i (A.length + t)) (mx p C) (m + j)) (v : Vec p) :
    Spn p (l + r) P v ↔ Comp p l m r A C v := by
  constructor
  · rintro ⟨d, hd⟩
    rw [hl] at hd
    have hg := (hK (comb K.length d (mx p K))).1 ⟨d, fun _ _ => rfl⟩
    have e1 : ∀ j, j < l → v j = comb A.length (comb K.length d (mx p K)) (mx p A) j := by
      intro j hj
      rw [hd j (by omega), comb_comb]
      exact S_congr fun i hi => by rw [h1 i hi j hj]
    have e2 : ∀ j, j < r → v (l + j) = comb C.length (fun t => comb K.length d (mx p K) (A.length + t)) (mx p C) (m + j) := by
      intro j hj
      rw [hd (l + j) (by omega)]
      have e : comb C.length (fun t => comb K.length d (mx p K) (A.length + t)) (mx p C) (m + j) = comb C.length (fun t => comb K.length d (fun i t => mx p K i (A.length + t)) t) (mx p C) (m + j) := rfl
      rw [e, comb_comb]
      exact S_congr fun i hi => by rw [h2 i hi j hj]
    refine ⟨fun j => comb A.length (comb K.length d (mx p K)) (mx p A) (l + j), ⟨comb K.length d (mx p K), fun j hj => ?_⟩, ⟨fun t => comb K.length d (mx p K) (A.length + t), fun j hj => ?_⟩⟩
    · exact (cat_split (w := comb A.length (comb K.length d (mx p K)) (mx p A)) (fun j hj => (e1 j hj).symm) (fun j _ => rfl) j hj).symm
    · exact (cat_split (w := comb C.length (fun t => comb K.length d (mx p K) (A.length + t)) (mx p C)) (fun j hj => (hg j hj).symm) (fun j hj => (e2 j hj).symm) j hj).symm
  · rintro ⟨y, ⟨a, ha⟩, ⟨c, hc⟩⟩
    have hk : Spn p (A.length + C.length) K (cat A.length a c) := by
      rw [hK]
      intro j hj
      have e1 := ha (l + j) (by omega)
      rw [cat_r] at e1
      have e2 := hc j (by omega)
      rw [cat_l hj] at e2
      have e3 : comb A.length (cat A.length a c) (mx p A) (l + j) = comb A.length a (mx p A) (l + j) := S_congr fun i hi => by rw [cat_l hi]
      have e4 : comb C.length (fun i => cat A.length a c (A.length + i)) (mx p C) j = comb C.length c (mx p C) j := S_congr fun i hi => by show cat A.length a c (A.length + i) * _ = _; rw [cat_r]
      rw [e3, e4, ← e1, ← e2]
    obtain ⟨d, hd⟩ := hk
    refine ⟨d, fun j hj => ?_⟩
    rw [hl]
    by_cases hjl : j < l
    · have e1 := ha j (by omega)
      rw [cat_l hjl] at e1
      have e : comb K.length d (mx p P) j = comb K.length d (fun i => comb A.length (mx p K i) (mx p A)) j := S_congr fun i hi => by rw [h1 i hi j hjl]
      rw [e, ← comb_comb, e1]
      refine S_congr fun i hi => ?_
      show _ = comb K.length d (mx p K) i * _
      rw [← hd i (by omega), cat_l hi]
    · obtain ⟨t, rfl⟩ : ∃ t, j = l + t := ⟨j - l, by omega⟩
      have e1 := hc (m + t) (by omega)
      rw [cat_r] at e1
      have e : comb K.length d (mx p P) (l + t) = comb K.length d (fun i => comb C.length (fun t => mx p K i (A.length + t)) (mx p C)) (m + t) := S_congr fun i hi => by rw [h2 i hi t (by omega)]
      rw [e, ← comb_comb, e1]
      refine S_congr fun i hi => ?_
      show _ = comb K.length d (fun i t => mx p K i (A.length + t)) i * _
      have := hd (A.length + i) (by omega)
      rw [cat_r] at this
      rw [this]
      rfl

/-! ### the program's composition -/
def negV (p : Int) (y : List Int) : List Int := addT p (List.replicate y.length 0) (-1) y
def midRows (p : Int) (l m : Nat) (A C : List (List Int)) : List (List Int) := (A.map fun a => a.drop l) ++ ((C.map fun c => c.take m).map (negV p))
def compRow (p : Int) (l m r : Nat) (A C : List (List Int)) (c : List Int) : List Int :=
  combTo p (c.take A.length) (A.map fun a => a.take l) l A.length ++ combTo p (c.drop A.length) (C.map fun c => c.drop m) r C.length
def compL (p : Int) (l m r : Nat) (A C : List (List Int)) : List (List Int) := reducedL p (l + r) ((kernelL p m (midRows p l m A C)).map (compRow p l m r A C))
theorem negV_ok {n : Nat} {y : List Int} (h : VecOk p n y) : VecOk p n (negV p y) := addT_ok _ (by rw [List.length_replicate, h.1]) h.1
theorem vec_negV (y : List Int) (j : Nat) : vec p (negV p y) j = - vec p y j := by
  unfold negV
  rw [vec_addT _ (by simp)]
  have e : vec p (List.replicate y.length 0) j = 0 := by
    by_cases h : j < y.length
    · rw [vec_at (by simpa using h), List.getElem_replicate]; exact toF_zero
    · exact vec_past (by simp; omega)
  rw [e, toF_neg, toF_one]
  grind
theorem midRows_ok {l m r : Nat} {A C : List (List Int)} (hA : RowsOk p (l + m) A) (hC : RowsOk p (m + r) C) : RowsOk p m (midRows p l m A C) :=
  app_ok (map_ok hA fun x hx => drop_vok hx) (map_ok (map_ok hC fun x hx => take_vok hx (by omega)) fun x hx => negV_ok hx)
theorem midRows_len (q : Int) (l m : Nat) (A C : List (List Int)) : (midRows q l m A C).length = A.length + C.length := by simp [midRows]
theorem midRows_comb {l m : Nat} {A C : List (List Int)} (k : Vec p) {j : Nat} (hj : j < m) :
    comb (midRows p l m A C).length k (mx p (midRows p l m A C)) j = comb A.length k (mx p A) (l + j) - comb C.length (fun i => k (A.length + i)) (mx p C) j := by
  unfold midRows
  rw [comb_app]
  simp only [List.length_map]
  have e1 : comb A.length k (mx p (A.map fun a => a.drop l)) j = comb A.length k (mx p A) (l + j) := S_congr fun i hi => by rw [mx_map hi, vec_drop]; rfl
  have e2 : comb C.length (fun i => k (A.length + i)) (mx p ((C.map fun c => c.take m).map (negV p))) j = - comb C.length (fun i => k (A.length + i)) (mx p C) j := by
    rw [show (-comb C.length (fun i => k (A.length + i)) (mx p C) j) = (-1) * comb C.length (fun i => k (A.length + i)) (mx p C) j by grind]
    unfold comb
    rw [← S_mul]
    refine S_congr fun i hi => ?_
    rw [List.map_map, mx_map hi]
    show _ * vec p (negV p ((C.getD i []).take m)) j = _
    rw [vec_negV, vec_take hj, mx_row]
    grind
  rw [e1, e2]
  grind
theorem glue_mid {l m : Nat} {A C : List (List Int)} (k : Vec p) : (∀ j, j < m → comb (midRows p l m A C).length k (mx p (midRows p l m A C)) j = 0) ↔ Glue p l m A C k := by
  constructor
  · intro h j hj
    have := h j hj
    rw [midRows_comb k hj] at this
    grind
  · intro h j hj
    rw [midRows_comb k hj, h j hj]
    grind
theorem compRow_ok {l m r : Nat} {A C : List (List Int)} (hp : 1 < p) (hA : RowsOk p (l + m) A) (hC : RowsOk p (m + r) C) (c : List Int) : VecOk p (l + r) (compRow p l m r A C c) := by
  have h1 := combTo_ok (x := c.take A.length) hp (map_ok (f := fun a => a.take l) hA fun x hx => take_vok hx (by omega)) A.length (by simp)
  have h2 := combTo_ok (x := c.drop A.length) hp (map_ok (f := fun c => c.drop m) hC fun x hx => drop_vok hx) C.length (by simp)
  exact app_vok h1 h2
theorem comp_rows_ok {l m r : Nat} {A C : List (List Int)} (hp : 1 < p) (hA : RowsOk p (l + m) A) (hC : RowsOk p (m + r) C) (K : List (List Int)) : RowsOk p (l + r) (K.map (compRow p l m r A C)) := by
  intro row hr
  obtain ⟨c, _, rfl⟩ := List.mem_map.1 hr
  exact compRow_ok hp hA hC c
theorem compL_span {l m r : Nat} {A C : List (List Int)} (hf : fldN p = true) (hA : RowsOk p (l + m) A) (hC : RowsOk p (m + r) C) (v : Vec p) : Spn p (l + r) (compL p l m r A C) v ↔ Comp p l m r A C v := by
  have hp := lt_p hf
  unfold compL
  rw [reducedL_span hf (comp_rows_ok hp hA hC _)]
  have hk := kernelL_span hf (midRows_ok hA hC)
  rw [midRows_len] at hk
  refine comp_of (K := kernelL p m (midRows p l m A C)) (fun k => ?_) (by simp) (fun i hi j hj => ?_) (fun i hi j hj => ?_) v
  · rw [hk, ← glue_mid, midRows_len]
  · have h1 := combTo_ok (x := ((kernelL p m (midRows p l m A C)).getD i []).take A.length) hp (map_ok (f := fun a => a.take l) hA fun x hx => take_vok hx (by omega)) A.length (by simp)
    rw [mx_map hi]
    unfold compRow
    rw [vec_appL (by rw [h1.1]; exact hj), vec_combTo hp (map_ok hA fun x hx => take_vok hx (by omega)) (by simp) hj]
    refine S_congr fun t ht => ?_
    rw [vec_take ht, mx_map ht, vec_take hj, mx_row, mx_row]
  · have h1 := combTo_ok (x := ((kernelL p m (midRows p l m A C)).getD i []).take A.length) hp (map_ok (f := fun a => a.take l) hA fun x hx => take_vok hx (by omega)) A.length (by simp)
    rw [mx_map hi]
    unfold compRow
    have e := vec_appR (p := p) (combTo p (((kernelL p m (midRows p l m A C)).getD i []).take A.length) (A.map fun a => a.take l) l A.length) (combTo p (((kernelL p m (midRows p l m A C)).getD i []).drop A.length) (C.map fun c => c.drop m) r C.length) j
    rw [h1.1] at e
    rw [e, vec_combTo hp (map_ok hC fun x hx => drop_vok hx) (by simp) hj]
    refine S_congr fun t ht => ?_
    rw [vec_drop, mx_map ht, vec_drop, mx_row, mx_row]
theorem compL_red {l m r : Nat} {A C : List (List Int)} (hf : fldN p = true) (hA : RowsOk p (l + m) A) (hC : RowsOk p (m + r) C) : IsRed p (l + r) (compL p l m r A C) := reducedL_red hf (comp_rows_ok (lt_p hf) hA hC _)

/-! ### the specification's composition -/
def sMid (p : Int) (l m : Nat) (A C : List (List Int)) : List (List Int) := (List.range m).map fun j => (A.map fun a => a.getD (l + j) 0) ++ C.map fun c => (p - c.getD j 0) % p
def sCompRow (p : Int) (l m r : Nat) (A C : List (List Int)) (c : List Int) : List Int :=
  (combTo p (c.take A.length) A (l + m) A.length).take l ++ (combTo p (c.drop A.length) C (m + r) C.length).drop m
def sCompL (p : Int) (l m r : Nat) (A C : List (List Int)) : List (List Int) := reducedL p (l + r) ((orthL p (sMid p l m A C) (A.length + C.length)).map (sCompRow p l m r A C))
theorem sMid_len (q : Int) (l m : Nat) (A C : List (List Int)) : (sMid q l m A C).length = m := by simp [sMid]
theorem getD_bd {n j : Nat} {x : List Int} (h : VecOk p n x) : 0 ≤ x.getD j 0 ∧ x.getD j 0 < p := by
  by_cases hj : j < x.length
  · rw [getD_lt hj]; exact h.2 _ (List.getElem_mem hj)
  · rw [List.getD_eq_getElem?_getD, List.getElem?_eq_none (by omega)]
    have := pos_int p
    simp only [Option.getD_none]
    omega
theorem sMid_ok {l m r : Nat} {A C : List (List Int)} (hA : RowsOk p (l + m) A) (hC : RowsOk p (m + r) C) : RowsOk p (A.length + C.length) (sMid p l m A C) := by
  intro row hr
  obtain ⟨j, _, rfl⟩ := List.mem_map.1 hr
  refine ⟨by simp, fun z hz => ?_⟩
  rcases List.mem_append.1 hz with h | h
  · obtain ⟨a, ha, rfl⟩ := List.mem_map.1 h
    exact getD_bd (hA a ha)
  · obtain ⟨c, hc, rfl⟩ := List.mem_map.1 h
    have := pos_int p
    exact ⟨Int.emod_nonneg _ (by omega), Int.emod_lt_of_pos _ (by omega)⟩
theorem sMid_perp {l m : Nat} {A C : List (List Int)} (k : Vec p) : Perp p (A.length + C.length) (sMid p l m A C) k ↔ Glue p l m A C k := by
  have key : ∀ j, j < m → S (A.length + C.length) (fun t => k t * mx p (sMid p l m A C) j t) = comb A.length k (mx p A) (l + j) - comb C.length (fun i => k (A.length + i)) (mx p C) j := by
    intro j hj
    have e : mx p (sMid p l m A C) j = vec p ((A.map fun a => a.getD (l + j) 0) ++ C.map fun c => ((p : Int) - c.getD j 0) % p) := by
      rw [mx_at (by rw [sMid_len]; exact hj)]
      simp [sMid]
    rw [e, S_append]
    have e1 : S A.length (fun t => k t * vec p ((A.map fun a => a.getD (l + j) 0) ++ C.map fun c => ((p : Int) - c.getD j 0) % p) t) = comb A.length k (mx p A) (l + j) := by
      refine S_congr fun t ht => ?_
      rw [vec_appL (by simpa using ht), vec_at (by simpa using ht), List.getElem_map, mx_at ht]
      rfl
    have e2 : S C.length (fun t => k (A.length + t) * vec p ((A.map fun a => a.getD (l + j) 0) ++ C.map fun c => ((p : Int) - c.getD j 0) % p) (A.length + t)) = - comb C.length (fun i => k (A.length + i)) (mx p C) j := by
      rw [show (-comb C.length (fun i => k (A.length + i)) (mx p C) j) = (-1) * comb C.length (fun i => k (A.length + i)) (mx p C) j by grind]
      unfold comb
      rw [← S_mul]
      refine S_congr fun t ht => ?_
      have e3 := vec_appR (p := p) (A.map fun a => a.getD (l + j) 0) (C.map fun c => ((p : Int) - c.getD j 0) % p) t
      rw [List.length_map] at e3
      rw [e3, vec_at (by simpa using ht), List.getElem_map, toF_emod, toF_sub, toF_p, mx_at ht]
      show _ = -1 * (_ * toF p (C[t].getD j 0))
      grind
    rw [e1, e2]
    grind
  unfold Perp Glue
  rw [sMid_len]
  constructor
  · intro h j hj
    have := h j hj
    rw [key j hj] at this
    grind
  · intro h j hj
    rw [key j hj, h j hj]
    grind
theorem sCompRow_ok {l m r : Nat} {A C : List (List Int)} (hp : 1 < p) (hA : RowsOk p (l + m) A) (hC : RowsOk p (m + r) C) (c : List Int) : VecOk p (l + r) (sCompRow p l m r A C c) :=
  app_vok (take_vok (combTo_ok hp hA _ (Nat.le_refl _)) (by omega)) (drop_vok (combTo_ok hp hC _ (Nat.le_refl _)))
theorem sComp_eq {l m r : Nat} {A C : List (List Int)} (hf : fldN p = true) (hA : RowsOk p (l + m) A) (hC : RowsOk p (m + r) C) : sCompL p l m r A C = compL p l m r A C := by
  have hp := lt_p hf
  have hok : RowsOk p (l + r) ((orthL p (sMid p l m A C) (A.length + C.length)).map (sCompRow p l m r A C)) := by
    intro row hr
    obtain ⟨c, _, rfl⟩ := List.mem_map.1 hr
    exact sCompRow_ok hp hA hC c
  refine red_unique hf (reducedL_red hf hok) (compL_red hf hA hC) fun v => ?_
  rw [compL_span hf hA hC]
  unfold sCompL
  rw [reducedL_span hf hok]
  refine comp_of (K := orthL p (sMid p l m A C) (A.length + C.length)) (fun k => ?_) (by simp) (fun i hi j hj => ?_) (fun i hi j hj => ?_) v
  · rw [orth_span hf (sMid_ok hA hC), sMid_perp]
  · have h1 := take_vok (k := l) (combTo_ok (x := ((orthL p (sMid p l m A C) (A.length + C.length)).getD i []).take A.length) hp hA A.length (Nat.le_refl _)) (by omega)
    rw [mx_map hi]
    unfold sCompRow
    rw [vec_appL (by rw [h1.1]; exact hj), vec_take hj, vec_combTo hp hA (Nat.le_refl _) (by omega)]
    exact S_congr fun t ht => by rw [vec_take ht]; rfl
  · have h1 := take_vok (k := l) (combTo_ok (x := ((orthL p (sMid p l m A C) (A.length + C.length)).getD i []).take A.length) hp hA A.length (Nat.le_refl _)) (by omega)
    rw [mx_map hi]
    unfold sCompRow
    have e := vec_appR (p := p) ((combTo p (((orthL p (sMid p l m A C) (A.length + C.length)).getD i []).take A.length) A (l + m) A.length).take l) ((combTo p (((orthL p (sMid p l m A C) (A.length + C.length)).getD i []).drop A.length) C (m + r) C.length).drop m) j
    rw [h1.1] at e
    rw [e, vec_drop, vec_combTo hp hC (Nat.le_refl _) (by omega)]
    exact S_congr fun t ht => by rw [vec_drop]; rfl
end rel
end Go.Proofs.YtpeaeminjbjlnaaDoor

/-
  Compositions of relations that fit. Conditions: the relations are valid.
-/
namespace Go.Proofs.YtpeaeminjbjlnaaDoor
open Go.RowKit
set_option linter.unusedVariables false

theorem fn_second (B l r : Nat) (b : Value) (w : World) (L : List (List Int)) (hL : ∀ row ∈ L, row.length = l + r) : RowFn 268 (fun x => #[rlV l r b, x]) B w L (fun x => x.drop l) := by
  intro W a c row hrow hg hi hc hb
  refine (second_any l r b a row.length c W (by rw [hL row hrow]; omega) hc).mono ?_
  rintro e w' ⟨a', rfl, h1, h2, h3⟩
  have hlen : (row.drop l).length = row.length - l := List.length_drop
  refine ⟨a', c - l, by rw [hlen], ?_, fun hne k hk => ?_, h3⟩
  · rw [hlen]
    exact (hi.tail (by rw [hL row hrow]; omega) hc h1 _).carry h3
  · rw [hlen] at hk
    refine Or.inl (hb k (fun h => hne (by rw [h]; simp)) ?_)
    have := h2 k (by cases a' <;> exact hk)
    cases a <;> exact this
theorem fn_first (B l r : Nat) (b : Value) (w : World) (L : List (List Int)) (hL : ∀ row ∈ L, row.length = l + r) : RowFn 269 (fun x => #[rlV l r b, x]) B w L (fun x => x.take l) := by
  intro W a c row hrow hg hi hc hb
  have hl := hL row hrow
  refine (first_any l r b a row.length c W (by omega) hc).mono ?_
  rintro e w' ⟨rfl, h3⟩
  have hlen : (row.take l).length = l := by rw [List.length_take, hl]; omega
  refine ⟨a, c, by rw [hlen], ?_, fun hne k hk => ?_, h3⟩
  · rw [hlen]
    exact (hi.take (by omega) c).carry h3
  · rw [hlen] at hk
    refine Or.inl (hb k (fun h => hne (by rw [h]; simp)) ?_)
    cases a <;> exact hk
/-- a list that was made behind the parts joins them -/
theorem Sep.addS {w w' : World} {l : List Asrt} {B : Nat} {o : Value} {us : List Value} {L : List (List Int)} (h : Sep w l) (hb : ∀ C ∈ l, ∀ k, C.foot k → B ≤ k) (hs : Sep w' [SH o us L, KeepA w]) (hr : ∀ k, RowsAt us L k → k < B ∨ w.heap.size ≤ k) : Sep w' (SH o us L :: l) := by
  have hg := hs.s2.hd
  refine ⟨hs.hd, fun C hC => ⟨fun k hk hk' => ?_, fun k hk hk' => ?_⟩, h.grown hg⟩
  · exact hs.apt.1 k hk (C.lt w k (h.all C hC) hk')
  · have h1 := C.lt w k (h.all C hC) (C.sub k hk)
    rcases hk' with hk' | hk'
    · exact hs.apt.1 k hk' h1
    · have := hb C hC k hk
      rcases hr k hk' with h2 | h2 <;> omega

theorem three_set {w : World} (b : Nat) (x y z : Value) : Only (fun k => k = b) w (((w.setCell ⟨b, 0, none⟩ x).setCell ⟨b, 1, none⟩ y).setCell ⟨b, 2, none⟩ z) :=
  ((set_only w ⟨b, 0, none⟩ x).trans (set_only _ ⟨b, 1, none⟩ y)).trans (set_only _ ⟨b, 2, none⟩ z)
theorem box3_end {w w1 : World} {b : Nat} (hg : w.grownBy w1 none) (hb : w.heap.size ≤ b) (x y z : Value) : w.grownBy (((w1.setCell ⟨b, 0, none⟩ x).setCell ⟨b, 1, none⟩ y).setCell ⟨b, 2, none⟩ z) none :=
  grown_of_below ((Below.grown (Below.refl _ w) hg (Nat.le_refl _) (by simp)).trans ((three_set (w := w1) b x y z).below hg.size fun q hq => by omega))
set_option maxRecDepth 100000 in
theorem relation_any (q : Nat) [NeZero q] (l r : Nat) (u : Value) (L : List (List Int)) (w : World) (hf : fldN q = true) (hq : q ≤ 1000) (hu : MatV w u L) (hL : RowsOk q (l + r) L) (hm : L.length ≤ 1000) (hn : l + r ≤ 1000) :
    Calls Tryd.prog 270 #[.int .i64 q, .int .i64 l, .int .i64 r, u] w fun e w' => ∃ o, e = .returned (rlV l r o) ∧ Pre w.heap.size w' o (reducedL q (l + r) L) ∧ w.grownBy w' none := by
  have hgr := grownBy_alloc w (.cells #[.int .i64 0, .int .i64 0, .slice none 0 0] 65) none
  have hs : (w.alloc (.cells #[.int .i64 0, .int .i64 0, .slice none 0 0] 65)).heap.size = w.heap.size + 1 := by simp
  have HR := Lib.hid fun W (hg : w.grownBy W none) => reduced_own q u L (l + r) W hf hq (hu.carry hg) hL hm hn
  unfold rlV
  have HGR := Lib.hid hgr; have HS := Lib.hid hs
  obtain ⟨ua, uc, rfl⟩ := hu.shape
  clear hu hL hgr hs
  have c1 : (0 : Int) ≤ (l : Int) := by omega
  have c2 : (0 : Int) ≤ (r : Int) := by omega
  have c3 : (l : Int) + (r : Int) ≤ 1000 := by omega
  generalize reducedL q (l + r) L = red at *
  generalize L.length = ll at *
  have HR2 := HR.out _ HGR.out
  rw [show (((l + r : Nat) : Int)) = (l : Int) + r by omega] at HR2
  have HR3 := Lib.hid HR2
  clear HR2 HR
  go_enter Tryd.func270, Tryd.ntmps270
  go_wp2_with (
    go_at_call 126
    go_loud (refine HR3.out.mono ?_)
    rintro e w1 ⟨ra, rc, rfl, hp, hg⟩
    obtain ⟨hbl, hgw⟩ := box1 w _ _ hg
    have HP := Lib.hid hp; have HG := Lib.hid hgw
    have HZ := Lib.hid hg.size
    obtain ⟨c0, c1, c2, f0, f1, f2⟩ := bx3 hbl
    clear hp hg hbl hgw)
  refine bodyPost_ret_by (v := .agg #[.int .i64 l, .int .i64 r, .slice ra red.length rc]) ?_ rfl ?_
  · simp [results, go_sem, *]
  · have hp := HP.out
    have hz := HZ.out
    rw [HS.out] at hp hz
    have h3 := three_set (w := w1) w.heap.size (.int .i64 l) (.int .i64 r) (.slice ra red.length rc)
    exact ⟨_, rfl, (hp.only h3 (fun k hk => by have : k = w.heap.size := hk; omega)).base (by omega), box3_end HG.out (by omega) _ _ _⟩
end Go.Proofs.YtpeaeminjbjlnaaDoor

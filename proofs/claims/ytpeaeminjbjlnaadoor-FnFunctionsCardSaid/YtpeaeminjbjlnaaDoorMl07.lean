/-
  Laws of linear relations: orthogonals of compositions, relations of matrices. Plain mathematics. Conditions: the number of elements is a field of the program's kind; rows of one length with elements.
-/
import Derived.Test.YtpeaeminjbjlnaaDoorMl05
import Derived.Test.YtpeaeminjbjlnaaDoorMv05
import Derived.Deep.Upon
namespace Go.Proofs.YtpeaeminjbjlnaaDoor
open La
set_option linter.unusedVariables false
section rel
variable {p : Nat} [NeZero p]

theorem perpR_rows {l r : Nat} {A : List (List Int)} {v : Vec p} (h : ∀ i, i < A.length → form l r v (mx p A i) = 0) : PerpR p l r A v := by
  intro w hw
  rw [form_dot]
  exact In.dot hw fun i hi => by rw [← form_dot]; exact h i hi
theorem form_cat {l r : Nat} {u y w : Vec p} : form l r (cat l u y) w = S l (fun j => u j * w j) - S r (fun j => y j * w (l + j)) := by
  unfold form
  congr 1
  · exact S_congr fun j hj => by rw [cat_l hj]
  · exact S_congr fun j hj => by rw [cat_r]
/-- The orthogonal of a composition is the composition of the orthogonals. -/
theorem orth_comp {l m r : Nat} {A C : List (List Int)} (hf : fldN p = true) (hA : RowsOk p (l + m) A) (hC : RowsOk p (m + r) C) :
    compL p l m r (orthR p l m A) (orthR p m r C) = orthR p l r (compL p l m r A C) := by
  have h1 := (orthR_red hf hA).1
  have h2 := (orthR_red hf hC).1
  have h3 := (compL_red hf hA hC).1
  refine red_unique hf (compL_red hf h1 h2) (orthR_red hf h3) fun v => ?_
  rw [compL_span hf h1 h2, orthR_span hf h3]
  constructor
  · rintro ⟨y, a, c⟩ w hw
    rw [orthR_span hf hA] at a
    rw [orthR_span hf hC] at c
    obtain ⟨s, b, d⟩ := (compL_span hf hA hC w).1 hw
    have e1 := a _ b
    have e2 := c _ d
    rw [form_cat] at e1 e2
    have t1 : S l (fun j => v j * cat l w s j) = S l (fun j => v j * w j) := S_congr fun j hj => by rw [cat_l hj]
    have t2 : S m (fun j => y j * cat l w s (l + j)) = S m (fun j => y j * s j) := S_congr fun j hj => by rw [cat_r]
    have t3 : S m (fun j => y j * cat m s (fun j => w (l + j)) j) = S m (fun j => y j * s j) := S_congr fun j hj => by rw [cat_l hj]
    have t4 : S r (fun j => v (l + j) * cat m s (fun j => w (l + j)) (m + j)) = S r (fun j => v (l + j) * w (l + j)) := S_congr fun j hj => by rw [cat_r]
    rw [t1, t2] at e1
    rw [t3, t4] at e2
    unfold form
    grind
  · intro hv
    let M := midRows p l m A C
    let f : Vec p := fun i => if i < A.length then S l (fun j => v j * mx p A i j) else - S r (fun j => v (l + j) * mx p C (i - A.length) (m + j))
    have hM : RowsOk p m M := midRows_ok hA hC
    have hMl : M.length = A.length + C.length := midRows_len _ _ _ _ _
    have hT := transL_ok hM
    have hf' : Spn p M.length (transL M m) f := by
      refine perp_perp hf hT fun w hw => ?_
      have hg : Glue p l m A C w := by
        rw [← glue_mid]
        intro j hj
        have := hw j (by rw [transL_len]; exact hj)
        rw [← this]
        exact S_congr fun i hi => by rw [mx_transL hj hi]
      -- the pair that w makes
      have hk := hv (cat l (comb A.length w (mx p A)) fun j => comb C.length (fun i => w (A.length + i)) (mx p C) (m + j)) (by
        rw [compL_span hf hA hC]
        refine ⟨fun j => comb A.length w (mx p A) (l + j), ⟨w, fun j hj => ?_⟩, ⟨fun i => w (A.length + i), fun j hj => ?_⟩⟩
        · refine (cat_split (w := comb A.length w (mx p A)) (fun j hj => ?_) (fun j _ => rfl) j hj).symm
          rw [cat_l hj]
        · refine (cat_split (w := comb C.length (fun i => w (A.length + i)) (mx p C)) (fun j hj => (hg j hj).symm) (fun j hj => ?_) j hj).symm
          rw [cat_r])
      rw [hMl, S_append]
      have e1 : S A.length (fun i => w i * f i) = S l (fun j => v j * comb A.length w (mx p A) j) := by
        have : ∀ i, i < A.length → w i * f i = S l (fun j => v j * (w i * mx p A i j)) := fun i hi => by
          simp only [f, hi, if_true]
          rw [← S_mul]
          exact S_congr fun j _ => by grind
        rw [S_congr this, S_comm]
        refine S_congr fun j hj => ?_
        unfold comb
        rw [← S_mul]
      have e2 : S C.length (fun i => w (A.length + i) * f (A.length + i)) = - S r (fun j => v (l + j) * comb C.length (fun i => w (A.length + i)) (mx p C) (m + j)) := by
        have : ∀ i, i < C.length → w (A.length + i) * f (A.length + i) = S r (fun j => (- v (l + j)) * (w (A.length + i) * mx p C i (m + j))) := fun i hi => by
          simp only [f, show ¬ A.length + i < A.length by omega, if_false, show A.length + i - A.length = i by omega]
          have : ∀ x : Fin p, w (A.length + i) * -x = (- w (A.length + i)) * x := fun x => by grind
          rw [this, ← S_mul]
          exact S_congr fun j _ => by grind
        rw [S_congr this, S_comm, show (-S r (fun j => v (l + j) * comb C.length (fun i => w (A.length + i)) (mx p C) (m + j))) = (-1) * S r (fun j => v (l + j) * comb C.length (fun i => w (A.length + i)) (mx p C) (m + j)) by grind, ← S_mul]
        refine S_congr fun j hj => ?_
        unfold comb
        rw [S_mul]
        grind
      rw [e1, e2]
      unfold form at hk
      have t1 : S l (fun j => v j * cat l (comb A.length w (mx p A)) (fun j => comb C.length (fun i => w (A.length + i)) (mx p C) (m + j)) j) = S l (fun j => v j * comb A.length w (mx p A) j) := S_congr fun j hj => by rw [cat_l hj]
      have t2 : S r (fun j => v (l + j) * cat l (comb A.length w (mx p A)) (fun j => comb C.length (fun i => w (A.length + i)) (mx p C) (m + j)) (l + j)) = S r (fun j => v (l + j) * comb C.length (fun i => w (A.length + i)) (mx p C) (m + j)) := S_congr fun j hj => by rw [cat_r]
      rw [t1, t2] at hk
      grind
    obtain ⟨y, hy⟩ := hf'
    rw [transL_len] at hy
    have hcol : ∀ i, i < M.length → comb m y (mx p (transL M m)) i = S m (fun j => y j * mx p M i j) := fun i hi => S_congr fun j hj => by rw [mx_transL hj hi]
    refine ⟨y, ?_, ?_⟩
    · rw [orthR_span hf hA]
      refine perpR_rows fun i hi => ?_
      have h := hy i (by omega)
      rw [hcol i (by omega)] at h
      simp only [f, hi, if_true] at h
      rw [form_cat, h]
      have e : S m (fun j => y j * mx p M i j) = S m (fun j => y j * mx p A i (l + j)) := S_congr fun j hj => by
        show _ * mx p (midRows p l m A C) i j = _
        unfold midRows
        rw [mx_left (by simpa using hi), mx_map hi, vec_drop]
        rfl
      rw [e]
      grind
    · rw [orthR_span hf hC]
      refine perpR_rows fun i hi => ?_
      have h := hy (A.length + i) (by omega)
      rw [hcol _ (by omega)] at h
      simp only [f, show ¬ A.length + i < A.length by omega, if_false, show A.length + i - A.length = i by omega] at h
      rw [form_cat]
      have e : S m (fun j => y j * mx p M (A.length + i) j) = - S m (fun j => y j * mx p C i j) := by
        rw [show (-S m (fun j => y j * mx p C i j)) = (-1) * S m (fun j => y j * mx p C i j) by grind, ← S_mul]
        refine S_congr fun j hj => ?_
        show _ * mx p (midRows p l m A C) (A.length + i) j = _
        unfold midRows
        have := mx_right (p := p) (A := A.map fun a => a.drop l) (C := (C.map fun c => c.take m).map (negV p)) i
        rw [List.length_map] at this
        rw [this, List.map_map, mx_map hi]
        show _ * vec p (negV p ((C.getD i []).take m)) j = _
        rw [vec_negV, vec_take hj, mx_row]
        grind
      rw [e] at h
      grind

/-! ### relations of matrices -/
def matRow (n : Nat) (M : List (List Int)) (i : Nat) : List Int := unitL n i ++ M.getD i []
def matRel (M : List (List Int)) : List (List Int) := (List.range M.length).map (matRow M.length M)
theorem matRel_len (M : List (List Int)) : (matRel M).length = M.length := by simp [matRel]
omit [NeZero p] in
theorem matRel_ok {m : Nat} {M : List (List Int)} (hp : 1 < p) (hM : RowsOk p m M) : RowsOk p (M.length + m) (matRel M) := by
  intro row hr
  obtain ⟨i, hi, rfl⟩ := List.mem_map.1 hr
  exact app_vok (unitL_ok hp) (hM _ (getD_mem (List.mem_range.1 hi)))
theorem mx_matRel {m i : Nat} {M : List (List Int)} (hM : RowsOk p m M) (hi : i < M.length) : (∀ j, j < M.length → mx p (matRel M) i j = if i = j then 1 else 0) ∧ ∀ j, mx p (matRel M) i (M.length + j) = mx p M i j := by
  have hl : (unitL M.length i).length = M.length := by simp [unitL]
  have e : mx p (matRel M) i = vec p (unitL M.length i ++ M.getD i []) := by
    rw [mx_at (by rw [matRel_len]; exact hi)]
    simp [matRel, matRow]
  refine ⟨fun j hj => ?_, fun j => ?_⟩
  · rw [e, vec_appL (by rw [hl]; exact hj), vec_unitL hj]
  · have := vec_appR (p := p) (unitL M.length i) (M.getD i []) j
    rw [hl] at this
    rw [e, this]
    rfl
theorem matRel_red {m : Nat} {M : List (List Int)} (hp : 1 < p) (hM : RowsOk p m M) : IsRed p (M.length + m) (matRel M) := by
  refine ⟨matRel_ok hp hM, fun i => i, ?_⟩
  rw [matRel_len]
  refine ⟨fun i hi => by omega, fun i j h _ => h, fun i hi => ?_, fun i k hi hk hn => ?_, fun i j hi hj => ?_⟩
  · rw [(mx_matRel hM hi).1 i hi, if_pos rfl]
  · rw [(mx_matRel hM hk).1 i hi, if_neg hn]
  · rw [(mx_matRel hM hi).1 j (by omega), if_neg (by omega)]
theorem matRel_span {m : Nat} {M : List (List Int)} (hM : RowsOk p m M) (v : Vec p) : Spn p (M.length + m) (matRel M) v ↔ ∀ j, j < m → v (M.length + j) = comb M.length v (mx p M) j := by
  have f1 : ∀ x : Vec p, ∀ j, j < M.length → comb (matRel M).length x (mx p (matRel M)) j = x j := by
    intro x j hj
    rw [matRel_len]
    exact comb_delta hj x fun i hi => (mx_matRel hM hi).1 j hj
  have f2 : ∀ x : Vec p, ∀ j, comb (matRel M).length x (mx p (matRel M)) (M.length + j) = comb M.length x (mx p M) j := by
    intro x j
    rw [matRel_len]
    exact S_congr fun i hi => by rw [(mx_matRel hM hi).2]
  constructor
  · rintro ⟨x, hx⟩ j hj
    rw [hx _ (by omega), f2]
    exact comb_congr (fun t ht => by rw [hx t (by omega), f1 x t ht]) fun _ _ => rfl
  · intro h
    refine ⟨v, fun j hj => ?_⟩
    by_cases hjl : j < M.length
    · rw [f1 v j hjl]
    · obtain ⟨t, rfl⟩ : ∃ t, j = M.length + t := ⟨j - M.length, by omega⟩
      rw [f2, h t (by omega)]
/-- The relations of two matrices compose to that of their product. -/
theorem matRel_comp {m r : Nat} {M N : List (List Int)} (hf : fldN p = true) (hM : RowsOk p m M) (hN : RowsOk p r N) (hl : N.length = m) : compL p M.length m r (matRel M) (matRel N) = matRel (timesL p M N r) := by
  subst hl
  have hp := lt_p hf
  have h1 := matRel_ok hp hM
  have h2 := matRel_ok hp hN
  have ht := timesL_ok (X := M) hp hN
  have htl := timesL_len p M N r
  have hr := matRel_red hp ht
  have hs := matRel_span ht
  rw [htl] at hr hs
  refine red_unique hf (compL_red hf h1 h2) hr fun v => ?_
  rw [compL_span hf h1 h2, hs]
  unfold Comp
  have key : ∀ (y : Vec p), (∀ j, j < N.length → y j = comb M.length v (mx p M) j) → ∀ j, j < r → comb N.length y (mx p N) j = comb M.length v (mx p (timesL p M N r)) j := by
    intro y hy j hj
    rw [comb_congr hy (fun _ _ => rfl), comb_comb]
    exact S_congr fun i hi => by rw [mx_timesL hp hN hi hj]
  constructor
  · rintro ⟨y, a, c⟩ j hj
    rw [matRel_span hM] at a
    rw [matRel_span hN] at c
    have hy : ∀ j, j < N.length → y j = comb M.length v (mx p M) j := fun t ht => by
      have := a t ht
      rw [cat_r] at this
      rw [this]
      exact comb_congr (fun i hi => by rw [cat_l hi]) fun _ _ => rfl
    have := c j hj
    rw [cat_r] at this
    rw [this, ← key y hy j hj]
    exact comb_congr (fun i hi => by rw [cat_l hi]) fun _ _ => rfl
  · intro h
    refine ⟨comb M.length v (mx p M), ?_, ?_⟩
    · rw [matRel_span hM]
      intro j hj
      rw [cat_r]
      exact comb_congr (fun i hi => by rw [cat_l hi]) fun _ _ => rfl
    · rw [matRel_span hN]
      intro j hj
      rw [cat_r, h j hj, ← key _ (fun _ _ => rfl) j hj]
      exact comb_congr (fun i hi => by rw [cat_l hi]) fun _ _ => rfl
/-- The relation of a matrix is total: its first parts span all. -/
theorem matRel_total {m : Nat} {M : List (List Int)} (hf : fldN p = true) (hM : RowsOk p m M) : (reducedL p M.length ((matRel M).map fun a => a.take M.length)).length = M.length := by
  have hp := lt_p hf
  have hok := map_ok (f := fun a => a.take M.length) (matRel_ok hp hM) fun x hx => take_vok hx (by omega)
  have : ((matRel M).map fun a => a.take M.length) = idL M.length := by
    refine List.ext_getElem (by simp [matRel, idL]) fun i h1 h2 => ?_
    have hl : (unitL M.length i).length = M.length := by simp [unitL]
    simp only [matRel, matRow, idL, List.getElem_map, List.getElem_range]
    rw [List.take_append_of_le_length (by rw [hl]; exact Nat.le_refl _), List.take_of_length_le (by rw [hl]; exact Nat.le_refl _)]
  rw [this]
  have hid := idL_ok (p := p) (n := M.length) hp
  rw [reducedL_len hf hid, indep_rank hf hid (idL_len _)]
  intro x hx i hi
  have := hx i hi
  rwa [comb_delta hi x fun t ht => mx_idL ht hi] at this
end rel
end Go.Proofs.YtpeaeminjbjlnaaDoor

/-
  A row of a list grows, and is put back into its place. Conditions: none.
-/
namespace Go.Proofs.YtpeaeminjbjlnaaDoor
open Go.RowKit
set_option linter.unusedVariables false

theorem OwnM.putGrown {B g n cap : Nat} {w w6 : World} {vs : List Value} {L : List (List Int)} {u : Value} {zs : List Int} (h : OwnM B w (.slice (some ⟨g, 0, none⟩) n cap) vs L) (hn : n = L.length) {i : Nat} (hi : i < L.length)
    (hu : OwnInts B w6 u zs) (hon : Only (Hits (vs.getD i nilS)) w w6) (hb : ∀ q, Hits u q → Hits (vs.getD i nilS) q ∨ w.heap.size ≤ q) :
    w6.cell? ⟨g, i, none⟩ = some (vs.getD i nilS) ∧ w6.frozen? ⟨g, i, none⟩ = false ∧ OwnM B (w6.setCell ⟨g, i, none⟩ u) (.slice (some ⟨g, 0, none⟩) n cap) (vs.set i u) (L.set i zs) := by
  subst hn
  have hlen := h.len
  have hout := owns_only h.out hon fun k hk hk' => apart_types h.out (h.row i) (by decide) k hk hk'
  have h2 := hout
  rw [hlen] at h2
  have hc := World.ownsRow.cellAt h2 i (by omega)
  have s1 := World.ownsRow.stored h2 i u
  have ho2 : Only (Hits (.slice (some ⟨g, 0, none⟩) L.length cap)) w6 (w6.setCell ⟨g, i, none⟩ u) := Only.of_grown s1.2 fun k hk => hk
  refine ⟨?_, World.ownsRow.frozenAt h2 i, ⟨by simp [hlen], by rw [List.length_set, hlen]; exact s1.1, fun j => ?_, fun j k hjk => ?_⟩⟩
  · rw [hc, List.getD_eq_getElem?_getD, List.getElem?_eq_getElem (show i < vs.length by omega)]
    rfl
  · rw [getD_setV (by omega), getD_setL hi]
    split
    · exact hu.only ho2 fun k hk hk' => apart_types hout hu (by decide) k hk' hk
    · next hne =>
      have hj := (h.row j).only hon fun k hk hk' => h.ap j i hne k hk hk'
      exact hj.only ho2 fun k hk hk' => apart_types hout hj (by decide) k hk' hk
  · have key : ∀ j, j ≠ i → Apart (vs.getD j nilS) u := by
      intro j hj q hq hq'
      rcases hb q hq' with h1 | h1
      · exact h.ap j i hj q hq h1
      · have := ((h.row j).lt q hq).2; omega
    rw [getD_setV (by omega), getD_setV (by omega)]
    split
    · next h1 => rw [if_neg (by omega)]; exact (key k (by omega)).symm
    · next h1 =>
      split
      · exact key j h1
      · exact h.ap j k hjk
end Go.Proofs.YtpeaeminjbjlnaaDoor

/-
  'rows[i] = append(rows[i], x)' on a list of the call's own. Conditions: small sizes.
-/
namespace Go.Proofs.YtpeaeminjbjlnaaDoor
open Go.RowKit
set_option linter.unusedVariables false

section
variable {ops : Array Oper} {rest : List Oper} {o : Oper} {a : Act} {Q : Exit → Act → World → Prop} {K : Act → World → Prop} {E : Prop} {w : World} {vs : List Value} {L : List (List Int)} {l : List Asrt} {n : Int} {g m cap : Nat} {r : Value}
theorem wp_app_elem (s x : Operand) (ho : o.op = .call { callee := .builtin .append, args := #[s, x], argTypes := #[24, 24] })
    (hs : a.eval s = r) (hx : a.eval x = .slice (some ⟨w.heap.size, 0, none⟩) 1 1) (H : Sep w (OM (.slice (some ⟨g, 0, none⟩) m cap) vs L :: l)) (hn : m = L.length) {i : Nat} (hi : i < L.length) (hr : vs.getD i nilS = r) (hl : (L.getD i []).length ≤ 1000000000)
    (h : ∀ g' cap' w', w'.cell? ⟨g, i, none⟩ = some r → w'.frozen? ⟨g, i, none⟩ = false →
      Sep (w'.setCell ⟨g, i, none⟩ (.slice (some ⟨g', 0, none⟩) ((L.getD i []).length + 1) cap')) (OM (.slice (some ⟨g, 0, none⟩) m cap) (vs.set i (.slice (some ⟨g', 0, none⟩) ((L.getD i []).length + 1) cap')) (L.set i (L.getD i [] ++ [n])) :: l) →
      (∀ l', (∀ C ∈ l', C ∈ l) → Sep w l' → Sep w' l') → K (a.put o.dst (.slice (some ⟨g', 0, none⟩) ((L.getD i []).length + 1) cap')) w') :
    o.wp Tryd.prog a (w.alloc (.cells #[.int .i64 n] 3)) K Q := by
  obtain ⟨i0, hi', hz0, hz1, hz2⟩ := info_parts info_int
  have H1 := H.al (.cells #[.int .i64 n] 3)
  have hrow : OwnInts 0 (w.alloc (.cells #[.int .i64 n] 3)) r (L.getD i []) := by
    have := (show OwnM 0 (w.alloc (.cells #[.int .i64 n] 3)) _ vs L from H1.hd).row i
    rwa [hr] at this
  refine wp_append_lies (P := Tryd.prog) _ s x 24 ho 0 3 i0 (.int .i64 0) 1 8 Tryd.underlying24 hi' hz0 hz1 hz2 rfl (by decide) r (L.getD i []).length ((L.getD i []).map (Value.int .i64)) hs hrow
    ⟨w.heap.size, 0, none⟩ 1 1 [.int .i64 n] hx rfl news_one (fun u hu => by simp at hu; subst hu; rfl) (by omega) (by unfold maxLen; omega) (by omega) (Nat.zero_le _) _ rfl ?_
  intro g' cap' w1 hown' hgrow hg _
  have hu : OwnInts 0 w1 (.slice (some ⟨g', 0, none⟩) ((L.getD i []).length + 1) cap') (L.getD i [] ++ [n]) := by simpa [OwnInts] using hown'
  have hon : Only (Hits (vs.getD i nilS)) (w.alloc (.cells #[.int .i64 n] 3)) w1 := by rw [hr]; exact Only.of_grown hgrow fun k hk => hk
  have hb : ∀ q, Hits (.slice (some ⟨g', 0, none⟩) ((L.getD i []).length + 1) cap') q → Hits (vs.getD i nilS) q ∨ (w.alloc (.cells #[.int .i64 n] 3)).heap.size ≤ q := fun q hq => by
    have : g' = q := by simpa [Hits, Value.ownBlock] using hq
    subst this
    rw [hr]
    exact hg.imp (fun h => h) (fun h => Nat.le_of_eq h.symm)
  obtain ⟨c1, c2, c3⟩ := (show OwnM 0 (w.alloc (.cells #[.int .i64 n] 3)) _ vs L from H1.hd).putGrown hn hi hu hon hb
  rw [hr] at c1
  refine h g' cap' w1 c1 c2 (H1.upd' (A' := OM _ _ _) ((hon.mono fun k hk => Foot.at hk).trans ((set_only w1 ⟨g, i, none⟩ _).mono fun k hk => by
    have : k = g := hk
    subst this; exact Or.inl rfl)) c3 fun k hk => ?_) fun l' hl' hs' => ?_
  · rcases hk with hk | ⟨y, hy, hk⟩
    · exact Or.inl (Or.inl hk)
    · rcases List.mem_or_eq_of_mem_set hy with h' | rfl
      · exact Or.inl (Or.inr ⟨y, h', hk⟩)
      · exact (hb k hk).imp (fun h => Foot.at h) id
  · exact (hs'.al _).only hon fun C hC k hk hk' => (H1.2.1 C (hl' C hC)).1 k (Foot.at hk') hk
theorem step_app_elem (hgd : o.guard = none) (s x : Operand) (ho : o.op = .call { callee := .builtin .append, args := #[s, x], argTypes := #[24, 24] })
    (hs : a.eval s = r) (hx : a.eval x = .slice (some ⟨w.heap.size, 0, none⟩) 1 1) (H : Sep w (OM (.slice (some ⟨g, 0, none⟩) m cap) vs L :: l)) (hn : m = L.length) {i : Nat} (hi : i < L.length) (hr : vs.getD i nilS = r) (hl : (L.getD i []).length ≤ 1000000000)
    (h : ∀ g' cap' w', w'.cell? ⟨g, i, none⟩ = some r → w'.frozen? ⟨g, i, none⟩ = false →
      Sep (w'.setCell ⟨g, i, none⟩ (.slice (some ⟨g', 0, none⟩) ((L.getD i []).length + 1) cap')) (OM (.slice (some ⟨g, 0, none⟩) m cap) (vs.set i (.slice (some ⟨g', 0, none⟩) ((L.getD i []).length + 1) cap')) (L.set i (L.getD i [] ++ [n])) :: l) →
      (∀ l', (∀ C ∈ l', C ∈ l) → Sep w l' → Sep w' l') → K (a.put o.dst (.slice (some ⟨g', 0, none⟩) ((L.getD i []).length + 1) cap')) w') :
    if Region.wanted o (yielded ops a.tmps) = true then Oper.wp Tryd.prog o a (w.alloc (.cells #[.int .i64 n] 3)) K Q else E := by
  rw [if_pos (by simp [Region.wanted, hgd])]
  exact wp_app_elem s x ho hs hx H hn hi hr hl h
end
end Go.Proofs.YtpeaeminjbjlnaaDoor

/-
  'append(out, list...)' for integers, as a step over parts of memory; copies of lists in the reference. Conditions: small sizes.
-/
namespace Go.Proofs.YtpeaeminjbjlnaaDoor
open Go.RowKit
set_option linter.unusedVariables false

section
variable {ops : Array Oper} {rest : List Oper} {o : Oper} {a : Act} {Q : Exit → Act → World → Prop} {K : Act → World → Prop} {E : Prop} {w : World} {v u : Value} {zs ys : List Int} {l : List Asrt}
theorem wp_app_intsS (s x : Operand) (ho : o.op = .call { callee := .builtin .append, args := #[s, x], argTypes := #[24, 24] })
    (hs : a.eval s = v) (hx : a.eval x = u) (H : Sep w (OI v zs :: l)) (hu : IntsV w u ys) (hl : zs.length + ys.length ≤ 1000000000)
    (h : ∀ a' c w', Sep w' (OI (.slice a' (zs.length + ys.length) c) (zs ++ ys) :: l) → zs.length + ys.length ≤ c → K (a.put o.dst (.slice a' (zs.length + ys.length) c)) w') :
    o.wp Tryd.prog a w K Q := by
  obtain ⟨i0, hi, hz0, hz1, hz2⟩ := info_parts info_int
  have hown : OwnInts 0 w v zs := H.hd
  by_cases hne : ys = []
  · subst hne
    have hsrc : Src Tryd.prog i0.size 24 u 0 [] w := by
      obtain ⟨ad, c, rfl, _⟩ := hu
      cases ad with
      | none => exact Src.ofNil w Tryd.underlying24 c
      | some ad => exact Src.ofSlice w Tryd.underlying24 ad 0 c [] (by simp) (fun j x hj => by simp at hj) (fun x hx => by cases hx)
    obtain ⟨va, vc, rfl, hle⟩ : ∃ va vc, v = .slice va zs.length vc ∧ zs.length ≤ vc := by
      obtain ⟨h1, h2⟩ := hown
      rcases h2 with ⟨rfl, h0⟩ | ⟨g, cap, cur, rfl, _, _, hnc, _⟩
      · exact ⟨none, 0, by rw [h0], by omega⟩
      · exact ⟨_, cap, rfl, hnc⟩
    have hr := run_append_nothing (P := Tryd.prog) w 24 24 o.type 3 i0 Tryd.underlying24 hi va zs.length vc hle u hsrc
    unfold Oper.wp execOp
    simp only [ho, resolve, invoke, builtin, Sem.run_bind, Sem.run_pure, Result.andThen_ok, List.map_toArray, List.map_cons, List.map_nil, hs, hx, hr]
    have h2 := h va vc w (by simpa using H) (by simpa using hle)
    have h3 : K (a.put o.dst (.slice va zs.length vc)) w := by simpa using h2
    exact h3
  · obtain ⟨ua, uc, rfl, hr⟩ := hu
    obtain ⟨d, rfl, hsp, hd, hc⟩ := hr hne
    obtain ⟨db, dof, _⟩ := d
    simp only at hsp hd hc
    subst hsp
    have hpos : 0 < ys.length := by cases ys with | nil => exact absurd rfl hne | cons _ _ => simp
    refine wp_append_lies (P := Tryd.prog) _ s x 24 ho 0 3 i0 (.int .i64 0) 1 8 Tryd.underlying24 hi hz0 hz1 hz2 rfl (by decide) v zs.length (zs.map (Value.int .i64)) hs hown
      ⟨db, dof, none⟩ ys.length uc (ys.map (Value.int .i64)) hx (by simp) (fun j x hj => ?_) (fun x hx => by obtain ⟨z, _, rfl⟩ := List.mem_map.1 hx; rfl) hpos (by unfold maxLen; omega) (by omega) (Nat.zero_le _) _ rfl ?_
    · have hjy : j < ys.length := by
        rcases Nat.lt_or_ge j ys.length with h | h
        · exact h
        · rw [List.getElem?_eq_none (by simpa using h)] at hj; cases hj
      rw [List.getElem?_map, List.getElem?_eq_getElem hjy] at hj
      simp only [Option.map_some, Option.some.injEq] at hj
      subst hj
      rw [Addr.add_lit]
      exact hc j hjy
    · intro g cap w1 hown' hgrow hg _
      have ho' : OwnInts 0 w1 (.slice (some ⟨g, 0, none⟩) (zs.length + ys.length) cap) (zs ++ ys) := by
        unfold OwnInts
        rw [List.length_append, List.map_append]
        exact hown'
      have hcap' : zs.length + ys.length ≤ cap := by
        have h2 := ho'.2
        rcases h2 with ⟨h0, _⟩ | ⟨g', cap', cur, h0, _, _, hc', _⟩
        · cases h0
        · simp only [Value.slice.injEq] at h0
          rw [h0.2.2]
          simpa using hc'
      refine h (some ⟨g, 0, none⟩) cap w1 (H.upd' (A' := OI _ _) (Only.of_grown (S := Hits v) hgrow fun k hk => hk) ho' fun k hk => ?_) hcap'
      have : g = k := by simpa [OI, Hits, Value.ownBlock] using hk
      subst this
      exact hg.imp id (fun h => Nat.le_of_eq h.symm)
theorem app_intsS (hgd : o.guard = none) (s x : Operand) (ho : o.op = .call { callee := .builtin .append, args := #[s, x], argTypes := #[24, 24] })
    (hs : a.eval s = v) (hx : a.eval x = u) (H : Sep w (OI v zs :: l)) (hu : IntsV w u ys) (hl : zs.length + ys.length ≤ 1000000000)
    (h : ∀ a' c w', Sep w' (OI (.slice a' (zs.length + ys.length) c) (zs ++ ys) :: l) → zs.length + ys.length ≤ c → wpList Tryd.prog ops Q rest (a.put o.dst (.slice a' (zs.length + ys.length) c)) w') :
    wpList Tryd.prog ops Q (o :: rest) a w :=
  wpList_plain hgd fun _ hK => wp_app_intsS s x ho hs hx H hu hl fun a' c w' h1 h2 => hK _ _ (h a' c w' h1 h2)
theorem step_app_intsS (hgd : o.guard = none) (s x : Operand) (ho : o.op = .call { callee := .builtin .append, args := #[s, x], argTypes := #[24, 24] })
    (hs : a.eval s = v) (hx : a.eval x = u) (H : Sep w (OI v zs :: l)) (hu : IntsV w u ys) (hl : zs.length + ys.length ≤ 1000000000)
    (h : ∀ a' c w', Sep w' (OI (.slice a' (zs.length + ys.length) c) (zs ++ ys) :: l) → zs.length + ys.length ≤ c → K (a.put o.dst (.slice a' (zs.length + ys.length) c)) w') :
    if Region.wanted o (yielded ops a.tmps) = true then Oper.wp Tryd.prog o a w K Q else E := by
  rw [if_pos (by simp [Region.wanted, hgd])]
  exact wp_app_intsS s x ho hs hx H hu hl h
end
end Go.Proofs.YtpeaeminjbjlnaaDoor

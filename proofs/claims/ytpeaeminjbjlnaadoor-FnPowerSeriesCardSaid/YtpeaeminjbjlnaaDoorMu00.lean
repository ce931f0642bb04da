/-
  Fractions of polynomials in lowest terms. Plain mathematics. Conditions: a field of the program's kind.
-/
import Derived.Test.YtpeaeminjbjlnaaDoorMp00
import Derived.Test.YtpeaeminjbjlnaaDoorMp03
import Derived.Test.YtpeaeminjbjlnaaDoorMp01
import Derived.BigQuiet
namespace Go.Proofs.YtpeaeminjbjlnaaDoor
open La
set_option linter.unusedVariables false

def lowL (p : Int) (n d : List Int) : List Int × List Int :=
  if n = [] then ([], [1]) else (poAddL p [] (invI p (lastC (quoL p d (gcdL p n d)))) (quoL p n (gcdL p n d)), poAddL p [] (invI p (lastC (quoL p d (gcdL p n d)))) (quoL p d (gcdL p n d)))
section fra
variable {q : Nat} [NeZero q]
theorem vec_sc (k : Int) (f : List Int) : vec q (poAddL q [] k f) = fun j => toF q k * vec q f j := by
  rw [vec_poAdd, vec_nil]
  funext j
  grind
theorem vec_one (hf : fldN q = true) : vec q [1] = mono 0 1 := by
  funext i
  unfold mono vec
  match i with
  | 0 => simp [toF_one]
  | i + 1 => simp [toF_zero]
theorem fr_one_ne (hf : fldN q = true) : (1 : Fin q) ≠ 0 := by
  rw [← toF_one]
  exact toF_ne (by omega) (by have := lt_p hf; omega) (by omega)
theorem cv_sm2 (k b : Fin q) (f g : Vec q) : cv (fun i => k * f i) (fun i => b * g i) = fun j => k * b * cv f g j := by
  rw [cv_smul, cv_comm f, cv_smul, cv_comm g]
  funext j
  grind
theorem vec_last (f : List Int) : vec q f (f.length - 1) = toF q (lastC f) := rfl
/-- a list's length, from its coefficients -/
theorem len_of {f : List Int} {m : Nat} (hf : PolyOk q f) (hs : Sz (vec q f) (m + 1)) (hm : vec q f m ≠ 0) : f.length = m + 1 := by
  have h1 : m < f.length := by
    rcases Nat.lt_or_ge m f.length with h | h
    · exact h
    · exact absurd (vec_past h) hm
  rcases Nat.lt_or_ge (m + 1) f.length with h | h
  · exfalso
    have hne : f ≠ [] := by intro e; rw [e] at h; simp at h
    have h2 := hf.2 hne
    have h4 : f.length - 1 < f.length := by omega
    have h3 := hs (f.length - 1) (by omega)
    rw [vec_at h4] at h3
    rw [List.getD_eq_getElem?_getD, List.getElem?_eq_getElem h4] at h2
    have h5 := hf.1.2 _ (List.getElem_mem h4)
    exact toF_ne h5.1 h5.2 h2 h3
  · omega
theorem unit_ne (hf : fldN q = true) {a y : Fin q} (h : a * y = 1) : a ≠ 0 := by
  intro e
  rw [e] at h
  exact fr_one_ne hf (by rw [← h]; grind)
theorem last_ne (hf : fldN q = true) {g : List Int} (hg : PolyOk q g) (hne : g ≠ []) : vec q g (g.length - 1) ≠ 0 := unit_ne hf (last_inv hf hg hne)
theorem last_one (hf : fldN q = true) {g : List Int} (hg : PolyOk q g) (hne : g ≠ []) (h : toF q (lastC g) = 1) : lastC g = 1 := by
  have l : g.length - 1 < g.length := by have := len_pos hne; omega
  have e : lastC g = g[g.length - 1] := by unfold lastC; rw [List.getD_eq_getElem?_getD, List.getElem?_eq_getElem l]; rfl
  have b := hg.1.2 _ (List.getElem_mem l)
  rw [← e] at b
  have := lt_p hf
  exact toF_inj b.1 b.2 (by omega) (by omega) (by rw [h, toF_one])
omit [NeZero q] in
theorem quo_le {f g : List Int} (hg : 0 < g.length) : (quoL q f g).length ≤ f.length := by
  rcases Nat.lt_or_ge f.length g.length with h | h
  · unfold quoL; rw [if_pos h]; simp
  · have := quo_len (p := q) f g
    omega
/-- two polynomials of which a combination is 1 -/
def Cop (a b : Vec q) : Prop := ∃ U V : Vec q, ∃ k, Sz U k ∧ Sz V k ∧ ∀ j, (mono 0 1 : Vec q) j = cv U a j + cv V b j
structure Low (n d : List Int) (s : List Int × List Int) : Prop where
  oka : PolyOk q s.1
  okb : PolyOk q s.2
  bne : s.2 ≠ []
  last : lastC s.2 = 1
  fac : ∃ H : Vec q, ∃ m y, Sz H (m + 1) ∧ H m * y = 1 ∧ vec q n = cv (vec q s.1) H ∧ vec q d = cv (vec q s.2) H
  la : s.1.length ≤ n.length
  lb : s.2.length ≤ d.length
  cop : Cop (vec q s.1) (vec q s.2)
theorem low_of {n d : List Int} (hf : fldN q = true) (on : PolyOk q n) (od : PolyOk q d) (dne : d ≠ []) (ln : n.length ≤ 41) (ld : d.length ≤ 41) : Low (q := q) n d (lowL q n d) := by
  unfold lowL
  have hdp := len_pos dne
  split
  · next hn =>
    refine ⟨PolyOk.nil _, one_ok hf, by simp, rfl, ⟨vec q d, d.length - 1, _, by rw [show d.length - 1 + 1 = d.length by omega]; exact vec_sz d, last_inv hf od dne, ?_, ?_⟩, by simp, by simp; omega, ⟨fun _ => 0, mono 0 1, 1, fun _ _ => rfl, sz_mono 0 1, fun j => ?_⟩⟩
    · rw [hn, vec_nil, cv_zero]
    · rw [vec_one hf, cv_one]
    · rw [vec_nil, cv_zero, vec_one hf, cv_one]; grind
  · next hn =>
    have B := bezout hf on od dne ln ld
    have hgp := len_pos B.ne
    have hN := div_eq (f := n) hf B.ok B.ne
    have hD := div_eq (f := d) hf B.ok B.ne
    rw [rem_zero hf on B.ok B.ne B.df, vec_nil] at hN
    rw [rem_zero hf od B.ok B.ne B.dg, vec_nil] at hD
    have hk := last_inv hf (quo_ok (g := gcdL q n d) od) B.quo
    have hgi := last_inv hf B.ok B.ne
    have hsum := B.sum
    have q1 := quo_le (q := q) (f := n) hgp
    have q2 := quo_le (q := q) (f := d) hgp
    have oq1 := quo_ok (g := gcdL q n d) on
    have oq2 := quo_ok (g := gcdL q n d) od
    have hgs := vec_sz (p := q) (gcdL q n d)
    have hus := vec_sz (p := q) (invL q n d (gcdL q n d))
    have hvs := vec_sz (p := q) (cofL q n d)
    have q1s := vec_sz (p := q) (quoL q n (gcdL q n d))
    have q2s := vec_sz (p := q) (quoL q d (gcdL q n d))
    have q2p := len_pos B.quo
    have hnp := len_pos hn
    have hg2 : vec q (gcdL q n d) ((gcdL q n d).length - 1) = toF q (lastC (gcdL q n d)) := rfl
    have hd2 : vec q (quoL q d (gcdL q n d)) ((quoL q d (gcdL q n d)).length - 1) = toF q (lastC (quoL q d (gcdL q n d))) := rfl
    generalize gcdL (q : Int) n d = g at *
    generalize hd1 : quoL (q : Int) d g = d1 at *
    generalize quoL (q : Int) n g = n1 at *
    generalize invL (q : Int) n d g = U at *
    generalize cofL (q : Int) n d = V at *
    have va := vec_sc (q := q) (invI q (lastC d1)) n1
    have vb := vec_sc (q := q) (invI q (lastC d1)) d1
    have oa : PolyOk q (poAddL q [] (invI q (lastC d1)) n1) := poAdd_ok (PolyOk.nil _)
    have ob : PolyOk q (poAddL q [] (invI q (lastC d1)) d1) := poAdd_ok (PolyOk.nil _)
    have la := poAdd_len (p := q) [] (invI q (lastC d1)) n1
    have lb := poAdd_len (p := q) [] (invI q (lastC d1)) d1
    generalize poAddL (q : Int) [] (invI q (lastC d1)) n1 = a at *
    generalize poAddL (q : Int) [] (invI q (lastC d1)) d1 = b at *
    generalize toF q (invI q (lastC d1)) = k at *
    generalize hb0 : toF q (lastC d1) = b0 at *
    have hbl : b.length = d1.length := by
      have h := len_of (m := d1.length - 1) ob (by
        rw [vb]
        intro j hj
        dsimp only
        rw [q2s j (by omega)]; grind) (by
        rw [vb]
        dsimp only
        rw [hd2, show k * b0 = 1 by grind]
        exact fr_one_ne hf)
      omega
    have hbn : b ≠ [] := by intro e; rw [e] at hbl; simp at hbl; omega
    have hb1 : toF q (lastC b) = 1 := by
      rw [← vec_last, hbl, vb]
      dsimp only
      rw [hd2]
      grind
    have hN' : vec q n = cv (vec q n1) (vec q g) := by funext j; rw [hN j]; grind
    have hD' : vec q d = cv (vec q d1) (vec q g) := by funext j; rw [hD j]; grind
    refine ⟨oa, ob, hbn, last_one hf ob hbn hb1, ⟨fun j => b0 * vec q g j, g.length - 1, k * toF q (invI q (lastC g)), fun j hj => by dsimp only; rw [hgs j (by omega)]; grind, by dsimp only; rw [hg2]; grind, ?_, ?_⟩, ?_, ?_, ?_⟩
    · rw [va, cv_sm2, hN']
      funext j
      try dsimp only
      grind
    · rw [vb, cv_sm2, hD']
      funext j
      try dsimp only
      grind
    · show a.length ≤ n.length
      rw [List.length_nil] at la; omega
    · show b.length ≤ d.length
      rw [List.length_nil] at lb; omega
    · have hW : ∀ j, cv (vec q U) (vec q n1) j + cv (vec q V) (vec q d1) j - (mono 0 1 : Vec q) j = 0 := by
        refine small_zero (q := fun j => cv (vec q U) (vec q n1) j + cv (vec q V) (vec q d1) j - (mono 0 1 : Vec q) j) (g := vec q g) (n := U.length + n1.length + V.length + d1.length + 1) (m := g.length - 1) ?_ (by rw [show g.length - 1 + 1 = g.length by omega]; exact hgs) hgi ?_
        · exact (((hus.mul q1s).mono' (by omega)).add ((hvs.mul q2s).mono' (by omega))).sub ((sz_mono 0 1).mono' (by omega))
        · rw [cv_subl, cv_addl, cv_one, cv_assoc, cv_assoc, ← hN', ← hD']
          intro j _
          dsimp only
          rw [hsum j]
          grind
      refine ⟨fun j => b0 * vec q U j, fun j => b0 * vec q V j, U.length + V.length, fun j hj => by dsimp only; rw [hus j (by omega)]; grind, fun j hj => by dsimp only; rw [hvs j (by omega)]; grind, fun j => ?_⟩
      rw [va, vb, cv_sm2, cv_sm2]
      dsimp only
      have := hW j
      grind
theorem cop_len {a b : List Int} (hf : fldN q = true) (oa : PolyOk q a) (ob : PolyOk q b) (bne : b ≠ []) (la : a.length ≤ 41) (lb : b.length ≤ 41) (hc : Cop (vec q a) (vec q b)) : (gcdL q a b).length = 1 := by
  have B := bezout hf oa ob bne la lb
  have hp := len_pos B.ne
  rcases Nat.lt_or_ge 1 (gcdL q a b).length with h | h
  · exfalso
    obtain ⟨U, V, k, hu, hv, he⟩ := hc
    have h1 : Dv (vec q (gcdL q a b)) (mono 0 1) := by
      have h2 := (B.df.mul hu).add (B.dg.mul hv)
      have e : (fun i => cv U (vec q a) i + cv V (vec q b) i) = (mono 0 1 : Vec q) := funext fun j => (he j).symm
      rwa [e] at h2
    have h3 := h1.short (m := (gcdL q a b).length - 1) (by rw [show (gcdL q a b).length - 1 + 1 = (gcdL q a b).length by omega]; exact vec_sz _) (last_inv hf B.ok B.ne) ((sz_mono 0 1).mono' (by omega)) 0
    unfold mono at h3
    rw [if_pos rfl] at h3
    exact fr_one_ne hf h3
  · omega
theorem low_id {n d : List Int} (hf : fldN q = true) (on : PolyOk q n) (od : PolyOk q d) (dne : d ≠ []) (ln : n.length ≤ 41) (ld : d.length ≤ 41) (h1 : lastC d = 1) (h2 : (gcdL q n d).length = 1) : lowL q n d = (n, d) := by
  have B := bezout hf on od dne ln ld
  have hdp := len_pos dne
  unfold lowL
  split
  · next hn =>
    subst hn
    have hdl : d.length = 1 := by
      rcases Nat.lt_or_ge 1 d.length with h | h
      · exfalso
        have h3 : Dv (vec q d) (vec q (gcdL q [] d)) := ⟨vec q (cofL q [] d), _, vec_sz _, by
          funext j
          rw [B.sum j, vec_nil, cv_comm, cv_zero]
          grind⟩
        have h4 := h3.short (m := d.length - 1) (by rw [show d.length - 1 + 1 = d.length by omega]; exact vec_sz _) (last_inv hf od dne) ((vec_sz (p := q) (gcdL q [] d)).mono' (by omega)) ((gcdL q [] d).length - 1)
        exact last_ne hf B.ok B.ne h4
      · omega
    match d, hdl with
    | [x], _ =>
      have : x = 1 := h1
      rw [this]
  · next hn =>
    have hN := div_eq (f := n) hf B.ok B.ne
    have hD := div_eq (f := d) hf B.ok B.ne
    rw [rem_zero hf on B.ok B.ne B.df, vec_nil] at hN
    rw [rem_zero hf od B.ok B.ne B.dg, vec_nil] at hD
    have hk := last_inv hf (quo_ok (g := gcdL q n d) od) B.quo
    have hgs := vec_sz (p := q) (gcdL q n d)
    have q2p := len_pos B.quo
    have oq2 := quo_ok (g := gcdL q n d) od
    have q2s := vec_sz (p := q) (quoL q d (gcdL q n d))
    have hd2 : vec q (quoL q d (gcdL q n d)) ((quoL q d (gcdL q n d)).length - 1) = toF q (lastC (quoL q d (gcdL q n d))) := rfl
    have hqne := last_ne hf oq2 B.quo
    have hgne := last_ne hf B.ok B.ne
    generalize gcdL (q : Int) n d = g at *
    generalize quoL (q : Int) d g = d1 at *
    generalize quoL (q : Int) n g = n1 at *
    have hc : vec q g = fun j => vec q g 0 * (mono 0 1 : Vec q) j := by
      funext j
      unfold mono
      match j with
      | 0 => rw [if_pos rfl]; grind
      | j + 1 => rw [if_neg (by omega), hgs (j + 1) (by omega)]; grind
    generalize vec q g 0 = c at *
    have hN' : vec q n = fun j => c * vec q n1 j := by
      funext j
      rw [hN j, hc, cv_comm, cv_smul, cv_one]
      grind
    have hD' : vec q d = fun j => c * vec q d1 j := by
      funext j
      rw [hD j, hc, cv_comm, cv_smul, cv_one]
      grind
    have hc0 : c * toF q (lastC d1) = 1 := by
      have hne : vec q d (d1.length - 1) ≠ 0 := by
        rw [hD']
        dsimp only
        rw [hd2]
        intro e
        refine hgne ?_
        have e9 : (mono 0 1 : Vec q) (g.length - 1) = 1 := by unfold mono; rw [if_pos (by omega)]
        rw [hc]
        dsimp only
        rw [e9]
        grind
      have hl := len_of (m := d1.length - 1) od (by rw [hD']; intro j hj; dsimp only; rw [q2s j (by omega)]; grind) hne
      have h3 : toF q (lastC d) = 1 := by rw [h1, toF_one]
      rw [← vec_last, hl, hD'] at h3
      dsimp only at h3
      rw [show d1.length - 1 + 1 - 1 = d1.length - 1 by omega, hd2] at h3
      exact h3
    have hck : c = toF q (invI q (lastC d1)) := by grind
    refine Prod.ext ?_ ?_
    · refine poly_ext (poAdd_ok (PolyOk.nil _)) on ?_
      rw [vec_sc, ← hck, hN']
    · refine poly_ext (poAdd_ok (PolyOk.nil _)) od ?_
      rw [vec_sc, ← hck, hD']
/-- equal fractions in lowest terms -/
theorem frac_eq {n d n' d' : List Int} (hf : fldN q = true) (on : PolyOk q n) (od : PolyOk q d) (dne : d ≠ []) (l1 : lastC d = 1) (c1 : Cop (vec q n) (vec q d)) (on' : PolyOk q n') (od' : PolyOk q d') (dne' : d' ≠ []) (l1' : lastC d' = 1) (c1' : Cop (vec q n') (vec q d')) (h : cv (vec q n) (vec q d') = cv (vec q n') (vec q d)) : n = n' ∧ d = d' := by
  have key : ∀ {n d n' d' : List Int}, PolyOk q d → d ≠ [] → PolyOk q d' → d' ≠ [] → Cop (vec q n) (vec q d) → cv (vec q n) (vec q d') = cv (vec q n') (vec q d) → Dv (vec q d) (vec q d') := by
    intro n d n' d' od dne od' dne' ⟨U, V, k, hu, hv, he⟩ h
    refine ⟨fun j => cv U (vec q n') j + cv V (vec q d') j, k + n'.length + d'.length, ((hu.mul (vec_sz n')).mono' (by omega)).add ((hv.mul (vec_sz d')).mono' (by omega)), ?_⟩
    have e : (mono 0 1 : Vec q) = fun j => cv U (vec q n) j + cv V (vec q d) j := funext he
    calc vec q d' = cv (mono 0 1) (vec q d') := (cv_one _).symm
      _ = _ := by
        rw [e, cv_addl, cv_addl, cv_assoc, cv_assoc, h, cv_assoc, cv_assoc, cv_comm (vec q d) (vec q d')]
  have hd1 := key od dne od' dne' c1 h
  have hd2 := key od' dne' od dne c1' h.symm
  have hp := len_pos dne
  have hp' := len_pos dne'
  have le : ∀ {d d' : List Int}, PolyOk q d → d ≠ [] → PolyOk q d' → d' ≠ [] → Dv (vec q d) (vec q d') → d.length ≤ d'.length := by
    intro d d' od dne od' dne' hd
    have hp := len_pos dne
    rcases Nat.lt_or_ge d'.length d.length with h | h
    · exfalso
      have h4 := hd.short (m := d.length - 1) (by rw [show d.length - 1 + 1 = d.length by omega]; exact vec_sz _) (last_inv hf od dne) ((vec_sz (p := q) d').mono' (by omega)) (d'.length - 1)
      exact last_ne hf od' dne' h4
    · exact h
  have hl := Nat.le_antisymm (le od dne od' dne' hd1) (le od' dne' od dne hd2)
  have hdd : vec q d' = vec q d := by
    have h5 := (hd1.sub (Dv.refl _)).short (m := d.length - 1) (by rw [show d.length - 1 + 1 = d.length by omega]; exact vec_sz _) (last_inv hf od dne) (fun j hj => by
      try dsimp only
      rcases Nat.lt_or_ge j d.length with h6 | h6
      · have e : j = d.length - 1 := by omega
        subst e
        rw [vec_last, l1, hl, vec_last, l1']
        grind
      · rw [vec_past h6, vec_past (by omega)]; grind)
    funext j
    have := h5 j
    try dsimp only at this
    grind
  have ed : d = d' := poly_ext od od' hdd.symm
  refine ⟨?_, ed⟩
  rw [hdd] at h
  have h7 := small_zero (q := fun j => vec q n j - vec q n' j) (g := vec q d) (n := n.length + n'.length) (m := d.length - 1) (((vec_sz n).mono' (by omega)).sub ((vec_sz n').mono' (by omega))) (by rw [show d.length - 1 + 1 = d.length by omega]; exact vec_sz _) (last_inv hf od dne) (by
    rw [cv_subl, h]
    intro j _
    try dsimp only
    grind)
  exact poly_ext on on' (funext fun j => by have := h7 j; grind)
end fra
end Go.Proofs.YtpeaeminjbjlnaaDoor

/-
  The shortest recurrence of a series. Plain mathematics. Conditions: a field of the program's kind.
-/
namespace Go.Proofs.YtpeaeminjbjlnaaDoor
open La
set_option linter.unusedVariables false

section frb
variable {q : Nat} [NeZero q]
def sh1 (T : Vec q) : Vec q := cv (mono 1 1) T
theorem sh1_zero (T : Vec q) : sh1 T 0 = 0 := by
  unfold sh1
  rw [cv_mono, if_neg (by omega)]
theorem sh1_succ (T : Vec q) (j : Nat) : sh1 T (j + 1) = T j := by
  unfold sh1
  rw [cv_mono, if_pos (by omega), show j + 1 - 1 = j by omega]
  grind
theorem sh1_cv (T s : Vec q) (j : Nat) : cv (sh1 T) s (j + 1) = cv T s j := by
  unfold sh1
  rw [cv_assoc]
  exact sh1_succ _ j
theorem sh1_sz {T : Vec q} {n : Nat} (h : Sz T n) : Sz (sh1 T) (n + 1) := fun k hk => by
  match k, hk with
  | k + 1, hk => rw [sh1_succ]; exact h k (by omega)
theorem cv_at0 (f g : Vec q) : cv f g 0 = f 0 * g 0 := by
  unfold cv
  simp [S]
/-- a product's coefficient is zero if all its parts are -/
theorem cv_zero_at {f g : Vec q} {n l : Nat} (hf : Sz f (l + 1)) (hg : ∀ k, n - l ≤ k → k ≤ n → g k = 0) : cv f g n = 0 := by
  unfold cv
  refine S_zero' fun i hi => ?_
  rcases Nat.lt_or_ge l i with h | h
  · rw [hf i h]; grind
  · rw [hg (n - i) (by omega) (by omega)]; grind
theorem massey {s C D : Vec q} {n l e : Nat} {g : Fin q} (hC : Sz C (l + 1)) (hr : ∀ j, l ≤ j → j < n → cv C s j = 0) (hg : cv C s n = g) (hg0 : g ≠ 0) (d0 : D 0 = 1) (hD : Sz D (e + 1)) (hd : ∀ j, e ≤ j → j < n + 1 → cv D s j = 0) : n + 1 ≤ l + e := by
  rcases Nat.lt_or_ge n (l + e) with h | h
  · omega
  · exfalso
    have h1 : cv C (cv D s) n = 0 := cv_zero_at hC fun k hk hk2 => hd k (by omega) (by omega)
    have h2 : cv C (cv D s) = cv D (cv C s) := by rw [← cv_assoc, cv_comm C D, cv_assoc]
    rw [h2] at h1
    have h3 : cv D (cv C s) n = g := by
      have e1 : D = fun i => (mono 0 1 : Vec q) i + (if i = 0 then 0 else D i) := by
        funext i
        unfold mono
        by_cases hi : i = 0
        · subst hi; rw [d0]; simp
        · rw [if_neg hi, if_neg hi]; grind
      rw [e1, cv_addl, cv_one]
      show cv C s n + cv (fun i => if i = 0 then 0 else D i) (cv C s) n = g
      have h4 : cv (fun i => if i = 0 then 0 else D i) (cv C s) n = 0 := by
        unfold cv
        refine S_zero' fun i hi => ?_
        dsimp only
        by_cases hi0 : i = 0
        · rw [if_pos hi0]; grind
        · rw [if_neg hi0]
          rcases Nat.lt_or_ge e i with h5 | h5
          · rw [hD i h5]; grind
          · have := hr (n - i) (by omega) (by omega)
            unfold cv at this
            rw [this]; grind
      rw [hg, h4]
      grind
    exact hg0 (by rw [← h3, h1])
structure BM (s : Vec q) (n l : Nat) (C T : Vec q) (b y : Fin q) : Prop where
  c0 : C 0 = 1
  sz : Sz C (l + 1)
  rc : ∀ j, l ≤ j → j < n → cv C s j = 0
  ln : l ≤ n
  t0 : T 0 = 0
  tz : Sz T (n + 2 - l)
  tr : ∀ j, n + 1 - l ≤ j → j < n → cv T s j = 0
  by1 : b * y = 1
  tb : l = 0 ∨ cv T s n = b
  min : ∀ (D : Vec q) (e : Nat), D 0 = 1 → Sz D (e + 1) → (∀ j, e ≤ j → j < n → cv D s j = 0) → l ≤ e
theorem bm_start (s : Vec q) : BM s 0 0 (mono 0 1) (mono 1 1) 1 1 :=
  ⟨rfl, sz_mono 0 1, fun j _ h => absurd h (by omega), Nat.le_refl _, rfl, sz_mono 1 1, fun j _ h => absurd h (by omega), by grind, Or.inl rfl, fun _ _ _ _ _ => Nat.zero_le _⟩
theorem tr_sh {s T : Vec q} {n l : Nat} (hl : l ≤ n) (h : ∀ j, n + 1 - l ≤ j → j < n → cv T s j = 0) : ∀ j, n + 1 + 1 - l ≤ j → j < n + 1 → cv (sh1 T) s j = 0 := fun j h1 h2 => by
  match j, h1, h2 with
  | 0, h1, _ => omega
  | j + 1, h1, h2 => rw [sh1_cv]; exact h j (by omega) (by omega)
theorem bm_zero {s C T : Vec q} {n l : Nat} {b y : Fin q} (h : BM s n l C T b y) (hg : cv C s n = 0) : BM s (n + 1) l C (sh1 T) b y :=
  ⟨h.c0, h.sz, fun j h1 h2 => by
      rcases Nat.lt_or_ge j n with h3 | h3
      · exact h.rc j h1 h3
      · rw [show j = n by omega]; exact hg, by have := h.ln; omega, sh1_zero T, (sh1_sz h.tz).mono' (by have := h.ln; omega), tr_sh h.ln h.tr, h.by1, h.tb.imp id fun h' => by rw [sh1_cv]; exact h', fun D e d0 dz dr => h.min D e d0 dz fun j h1 h2 => dr j h1 (by omega)⟩
theorem cv_step (C T s : Vec q) (k : Fin q) (j : Nat) : cv (fun i => C i - k * T i) s j = cv C s j - k * cv T s j := by
  rw [cv_subl, cv_smul]
theorem bm_keep {s C T : Vec q} {n l : Nat} {b y g : Fin q} (h : BM s n l C T b y) (hg : cv C s n = g) (hl : ¬ 2 * l ≤ n) : BM s (n + 1) l (fun i => C i - g * y * T i) (sh1 T) b y := by
  have hln := h.ln
  have hb := h.by1
  refine ⟨?_, ?_, fun j h1 h2 => ?_, by omega, sh1_zero T, (sh1_sz h.tz).mono' (by omega), tr_sh h.ln h.tr, h.by1, h.tb.imp id fun h' => by rw [sh1_cv]; exact h', fun D e d0 dz dr => h.min D e d0 dz fun j h1 h2 => dr j h1 (by omega)⟩
  · rw [h.c0, h.t0]; grind
  · intro k hk
    dsimp only
    rw [h.sz k hk, h.tz k (by omega)]
    grind
  · rw [cv_step]
    rcases Nat.lt_or_ge j n with h3 | h3
    · rw [h.rc j h1 h3, h.tr j (by omega) h3]; grind
    · have e : j = n := by omega
      subst e
      have ht : cv T s j = b := h.tb.resolve_left (by omega)
      rw [hg, ht]
      grind
theorem bm_up {s C T : Vec q} {n l : Nat} {b y g z : Fin q} (h : BM s n l C T b y) (hg : cv C s n = g) (hz : g * z = 1) (hg0 : g ≠ 0) (hl : 2 * l ≤ n) : BM s (n + 1) (n + 1 - l) (fun i => C i - g * y * T i) (sh1 C) g z := by
  have hln := h.ln
  have hb := h.by1
  refine ⟨?_, ?_, fun j h1 h2 => ?_, by omega, sh1_zero C, (sh1_sz h.sz).mono' (by omega), fun j h1 h2 => ?_, hz, Or.inr (by rw [sh1_cv]; exact hg), fun D e d0 dz dr => ?_⟩
  · rw [h.c0, h.t0]; grind
  · intro k hk
    dsimp only
    rw [h.sz k (by omega), h.tz k (by omega)]
    grind
  · rw [cv_step]
    rcases Nat.lt_or_ge j n with h3 | h3
    · rw [h.rc j (by omega) h3, h.tr j (by omega) h3]; grind
    · have e : j = n := by omega
      subst e
      have ht : cv T s j = b := h.tb.resolve_left (by omega)
      rw [hg, ht]
      grind
  · match j, h1, h2 with
    | 0, h1, _ => omega
    | j + 1, h1, h2 => rw [sh1_cv]; exact h.rc j (by omega) (by omega)
  · have := massey h.sz h.rc hg hg0 d0 dz dr
    omega
end frb

/-! ### as the program does it -/
structure BmSt where
  now : List Int
  bef : List Int
  len : Nat
  sh : Nat
  last : Int
def gapT (now s : List Int) (n : Nat) : Nat → Int
  | 0 => 0
  | i + 1 => gapT now s n i + now.getD i 0 * s.getD (n - i) 0
def bmStep (p : Int) (s : List Int) (n : Nat) (t : BmSt) : BmSt :=
  if gapT t.now s n (t.len + 1) % p = 0 then ⟨t.now, t.bef, t.len, t.sh + 1, t.last⟩
  else if 2 * t.len ≤ n then ⟨poAddL p t.now (-(gapT t.now s n (t.len + 1) % p) * invI p t.last) (List.replicate t.sh 0 ++ t.bef), t.now, n + 1 - t.len, 1, gapT t.now s n (t.len + 1) % p⟩
  else ⟨poAddL p t.now (-(gapT t.now s n (t.len + 1) % p) * invI p t.last) (List.replicate t.sh 0 ++ t.bef), t.bef, t.len, t.sh + 1, t.last⟩
def bmN (p : Int) (s : List Int) : Nat → BmSt
  | 0 => ⟨[1], [1], 0, 1, 1⟩
  | n + 1 => bmStep p s n (bmN p s n)
section frb2
variable {q : Nat} [NeZero q]
theorem vec_shift (n : Nat) (f : List Int) : vec q (List.replicate n 0 ++ f) = cv (mono n 1) (vec q f) := by
  funext j
  rw [cv_mono]
  unfold vec
  split
  · next h =>
    rw [List.getD_eq_getElem?_getD, List.getElem?_append_right (by rw [List.length_replicate]; exact h), List.length_replicate, ← List.getD_eq_getElem?_getD]
    grind
  · next h =>
    have hl : j < (List.replicate n (0 : Int)).length := by rw [List.length_replicate]; omega
    rw [List.getD_eq_getElem?_getD, List.getElem?_append_left hl, List.getElem?_replicate, if_pos (by omega)]
    exact toF_zero
theorem gap_cv {now s : List Int} {n l : Nat} (hn : Sz (vec q now) (l + 1)) (hl : l ≤ n) : toF q (gapT now s n (l + 1)) = cv (vec q now) (vec q s) n := by
  have key : ∀ i, toF q (gapT now s n i) = S i (fun i => vec q now i * vec q s (n - i)) := by
    intro i
    induction i with
    | zero => exact toF_zero
    | succ i ih =>
      show toF q (gapT now s n i + now.getD i 0 * s.getD (n - i) 0) = _
      rw [toF_add, toF_mul, ih]
      rfl
  rw [key]
  unfold cv
  obtain ⟨d, rfl⟩ : ∃ d, n = l + d := ⟨n - l, by omega⟩
  rw [show l + d + 1 = l + 1 + d by omega]
  exact (S_more (fun i hi => by rw [hn i hi]; grind) d).symm
theorem mono_sh (k : Nat) (f : Vec q) : sh1 (cv (mono k 1) f) = cv (mono (k + 1) 1) f := by
  unfold sh1
  rw [← cv_assoc]
  congr 1
  funext j
  rw [cv_mono]
  unfold mono
  by_cases h : j = k + 1
  · rw [if_pos h, if_pos (by omega), if_pos (by omega)]; grind
  · rw [if_neg h]
    split
    · rw [if_neg (by omega)]; grind
    · rfl
structure BmL (s : List Int) (n : Nat) (t : BmSt) : Prop where
  okn : PolyOk q t.now
  okb : PolyOk q t.bef
  lb : t.bef.length ≤ n + 1
  ls : t.sh ≤ n + 1
  l0 : 0 < t.last
  l1 : t.last < q
  bm : BM (vec q s) n t.len (vec q t.now) (cv (mono t.sh 1) (vec q t.bef)) (toF q t.last) (toF q (invI q t.last))
  sh : 1 ≤ t.sh
theorem sz_len {f : List Int} {n : Nat} (hf : PolyOk q f) (h : Sz (vec q f) n) : f.length ≤ n := by
  rcases Nat.lt_or_ge n f.length with h1 | h1
  · exfalso
    have hne : f ≠ [] := by intro e; rw [e] at h1; simp at h1
    have h2 := hf.2 hne
    have h4 : f.length - 1 < f.length := by omega
    have h3 := h (f.length - 1) (by omega)
    rw [vec_at h4] at h3
    rw [List.getD_eq_getElem?_getD, List.getElem?_eq_getElem h4] at h2
    have h5 := hf.1.2 _ (List.getElem_mem h4)
    exact toF_ne h5.1 h5.2 h2 h3
  · exact h1
theorem bmL (hf : fldN q = true) (s : List Int) : ∀ n, BmL (q := q) s n (bmN q s n)
  | 0 => by
    have h1 : toF q (invI q 1) = 1 := by
      have := toF_inv (p := q) (b := 1) hf (by omega) (by have := lt_p hf; omega)
      rw [toF_one] at this
      grind
    refine ⟨one_ok hf, one_ok hf, Nat.le_refl _, Nat.le_refl _, by show (0 : Int) < 1; omega, by have := lt_p hf; show (1 : Int) < q; omega, ?_, Nat.le_refl _⟩
    show BM (vec q s) 0 0 (vec q [1]) (cv (mono 1 1) (vec q [1])) (toF q 1) (toF q (invI q 1))
    rw [h1, vec_one hf, toF_one, cv_comm, cv_one]
    exact bm_start _
  | n + 1 => by
    have h := bmL hf s n
    show BmL s (n + 1) (bmStep q s n (bmN q s n))
    generalize bmN (q : Int) s n = t at *
    have hg := gap_cv (s := s) h.bm.sz h.bm.ln
    have hq := lt_p hf
    have g0 := Int.emod_nonneg (gapT t.now s n (t.len + 1)) (show (q : Int) ≠ 0 by omega)
    have g1 := Int.emod_lt_of_pos (gapT t.now s n (t.len + 1)) (show (0 : Int) < q by omega)
    have hge : toF q (gapT t.now s n (t.len + 1) % q) = cv (vec q t.now) (vec q s) n := by rw [toF_emod]; exact hg
    unfold bmStep
    generalize gapT t.now s n (t.len + 1) % (q : Int) = g at *
    have hnl := sz_len h.okn h.bm.sz
    have hln := h.bm.ln
    have hlb := h.lb; have hls := h.ls
    have hnx : vec q (poAddL q t.now (-g * invI q t.last) (List.replicate t.sh 0 ++ t.bef)) = fun i => vec q t.now i - toF q g * toF q (invI q t.last) * cv (mono t.sh 1) (vec q t.bef) i := by
      rw [vec_poAdd, vec_shift, toF_mul, toF_neg]
      funext i
      grind
    split
    · next h0 =>
      refine ⟨h.okn, h.okb, by show t.bef.length ≤ _; omega, by show t.sh + 1 ≤ _; omega, h.l0, h.l1, ?_, by show 1 ≤ t.sh + 1; omega⟩
      have := bm_zero h.bm (by rw [← hge, h0, toF_zero])
      rwa [mono_sh] at this
    · next h0 =>
      have hgi := toF_inv hf (show 0 < g by omega) g1
      split
      · next hl =>
        refine ⟨poAdd_ok h.okn, h.okn, by show t.now.length ≤ _; omega, by show 1 ≤ _; omega, by show 0 < g; omega, g1, ?_, Nat.le_refl _⟩
        have := bm_up h.bm hge.symm hgi (toF_ne g0 g1 h0) hl
        show BM (vec q s) (n + 1) (n + 1 - t.len) (vec q (poAddL q t.now (-g * invI q t.last) (List.replicate t.sh 0 ++ t.bef))) (cv (mono 1 1) (vec q t.now)) (toF q g) (toF q (invI q g))
        rw [hnx]
        exact this
      · next hl =>
        refine ⟨poAdd_ok h.okn, h.okb, by show t.bef.length ≤ _; omega, by show t.sh + 1 ≤ _; omega, h.l0, h.l1, ?_, by show 1 ≤ t.sh + 1; omega⟩
        have := bm_keep h.bm hge.symm hl
        rw [mono_sh] at this
        show BM (vec q s) (n + 1) t.len (vec q (poAddL q t.now (-g * invI q t.last) (List.replicate t.sh 0 ++ t.bef))) (cv (mono (t.sh + 1) 1) (vec q t.bef)) (toF q t.last) (toF q (invI q t.last))
        rw [hnx]
        exact this
end frb2
end Go.Proofs.YtpeaeminjbjlnaaDoor

/-
  Power series of fractions: what the law on them asks. Plain mathematics. Conditions: a field of the program's kind.
-/
namespace Go.Proofs.YtpeaeminjbjlnaaDoor
open La
set_option linter.unusedVariables false

/-- a coefficient's sum, after i steps -/
def sumT (num den out : List Int) (k : Nat) : Nat → Int
  | 0 => num.getD k 0
  | i + 1 => sumT num den out k i - den.getD (i + 1) 0 * out.getD (k - (i + 1)) 0
def serL (p : Int) (num den : List Int) (y : Int) : Nat → List Int
  | 0 => []
  | k + 1 => serL p num den y k ++ [sumT num den (serL p num den y k) k k % p * y % p]
def convT (a b : List Int) (k : Nat) : Nat → Int
  | 0 => 0
  | i + 1 => convT a b k i + a.getD i 0 * b.getD (k - i) 0
def convL (p : Int) (a b : List Int) (n : Nat) : List Int := (List.range n).map fun k => convT a b k (k + 1) % p
theorem ser_len (p : Int) (num den : List Int) (y : Int) : ∀ n, (serL p num den y n).length = n
  | 0 => rfl
  | n + 1 => by
    show (serL p num den y n ++ [_]).length = n + 1
    rw [List.length_append, ser_len p num den y n]
    rfl
theorem conv_len (p : Int) (a b : List Int) (n : Nat) : (convL p a b n).length = n := by simp [convL]

section frc
variable {q : Nat} [NeZero q]
theorem fr_appL {x y : List Int} {i : Nat} (h : i < x.length) : vec q (x ++ y) i = vec q x i := by
  unfold vec
  rw [List.getD_eq_getElem?_getD, List.getElem?_append_left h, ← List.getD_eq_getElem?_getD]
theorem fr_appR (x y : List Int) (i : Nat) : vec q (x ++ y) (x.length + i) = vec q y i := by
  unfold vec
  rw [List.getD_eq_getElem?_getD, List.getElem?_append_right (by omega), show x.length + i - x.length = i by omega, ← List.getD_eq_getElem?_getD]
theorem ser_ok (num den : List Int) (y : Int) : ∀ n, VecOk q n (serL q num den y n)
  | 0 => ⟨rfl, fun x hx => by simp [serL] at hx⟩
  | n + 1 => ⟨ser_len _ _ _ _ _, fun x hx => by
    rcases List.mem_append.1 (show x ∈ serL q num den y n ++ [_] from hx) with h | h
    · exact (ser_ok num den y n).2 x h
    · rw [List.mem_singleton] at h
      rw [h]
      have h0 : (0 : Int) < q := pos_int q
      exact ⟨Int.emod_nonneg _ (by omega), Int.emod_lt_of_pos _ h0⟩⟩
theorem conv_ok (a b : List Int) (n : Nat) : VecOk q n (convL q a b n) := ⟨conv_len _ _ _ _, fun x hx => by
  unfold convL at hx
  rw [List.mem_map] at hx
  obtain ⟨k, _, rfl⟩ := hx
  have h0 : (0 : Int) < q := pos_int q
  exact ⟨Int.emod_nonneg _ (by omega), Int.emod_lt_of_pos _ h0⟩⟩
theorem conv_vec (a b : List Int) (n : Nat) {j : Nat} (hj : j < n) : vec q (convL q a b n) j = cv (vec q a) (vec q b) j := by
  have e : (convL (q : Int) a b n).getD j 0 = convT a b j (j + 1) % q := by
    unfold convL
    rw [List.getD_eq_getElem?_getD, List.getElem?_map, List.getElem?_range hj]
    rfl
  unfold vec
  rw [e, toF_emod]
  have key : ∀ i, toF q (convT a b j i) = S i (fun i => vec q a i * vec q b (j - i)) := by
    intro i
    induction i with
    | zero => exact toF_zero
    | succ i ih =>
      show toF q (convT a b j i + a.getD i 0 * b.getD (j - i) 0) = _
      rw [toF_add, toF_mul, ih]
      rfl
  exact key (j + 1)
/-- equal below a place -/
def EqB (n : Nat) (f g : Vec q) : Prop := ∀ j, j < n → f j = g j
theorem EqB.cv {n : Nat} {f f' g g' : Vec q} (h1 : EqB n f f') (h2 : EqB n g g') : EqB n (cv f g) (cv f' g') := fun j hj => by
  unfold Go.Proofs.YtpeaeminjbjlnaaDoor.cv
  exact S_congr fun i hi => by rw [h1 i (by omega), h2 (j - i) (by omega)]
omit [NeZero q] in
theorem EqB.trans {n : Nat} {f g h : Vec q} (h1 : EqB n f g) (h2 : EqB n g h) : EqB n f h := fun j hj => (h1 j hj).trans (h2 j hj)
omit [NeZero q] in
theorem EqB.symm {n : Nat} {f g : Vec q} (h1 : EqB n f g) : EqB n g f := fun j hj => (h1 j hj).symm
theorem cv_head (f g : Vec q) (j : Nat) : cv f g j = f 0 * g j + S j (fun i => f (i + 1) * g (j - (i + 1))) := by
  unfold cv
  rw [S_head]
  rfl
theorem EqB.cancel {n : Nat} {h f g : Vec q} {y : Fin q} (hy : h 0 * y = 1) (he : EqB n (Go.Proofs.YtpeaeminjbjlnaaDoor.cv h f) (Go.Proofs.YtpeaeminjbjlnaaDoor.cv h g)) : EqB n f g := by
  intro j
  induction j using Nat.strongRecOn with
  | ind j ih =>
    intro hj
    have h1 := he j hj
    rw [cv_head, cv_head] at h1
    have h2 : S j (fun i => h (i + 1) * f (j - (i + 1))) = S j (fun i => h (i + 1) * g (j - (i + 1))) := S_congr fun i hi => by rw [ih (j - (i + 1)) (by omega) (by omega)]
    rw [h2] at h1
    grind
theorem ser_take (num den : List Int) (y : Int) (n : Nat) : EqB n (vec q (serL q num den y (n + 1))) (vec q (serL q num den y n)) := fun j hj => by
  show vec q (serL q num den y n ++ [_]) j = _
  exact fr_appL (by rw [ser_len]; exact hj)
theorem ser_cv {num den : List Int} {y : Int} (hy : vec q den 0 * toF q y = 1) : ∀ n, EqB n (cv (vec q den) (vec q (serL q num den y n))) (vec q num)
  | 0 => fun j hj => absurd hj (by omega)
  | n + 1 => fun j hj => by
    have ht := ser_take (q := q) num den y n
    rcases Nat.lt_or_ge j n with h | h
    · have h1 := (EqB.cv (fun i _ => rfl : EqB n (vec q den) (vec q den)) ht) j h
      rw [h1]
      exact ser_cv hy n j h
    · have e : j = n := by omega
      subst e
      have key : ∀ i, i ≤ j → toF q (sumT num den (serL q num den y j) j i) = vec q num j - S i (fun i => vec q den (i + 1) * vec q (serL q num den y j) (j - (i + 1))) := by
        intro i
        induction i with
        | zero =>
          intro _
          show toF q (num.getD j 0) = _
          unfold S
          show vec q num j = _
          grind
        | succ i ih =>
          intro hi
          show toF q (sumT num den (serL q num den y j) j i - den.getD (i + 1) 0 * (serL q num den y j).getD (j - (i + 1)) 0) = _
          rw [toF_sub, toF_mul, ih (by omega)]
          show _ - vec q den (i + 1) * vec q (serL q num den y j) (j - (i + 1)) = vec q num j - (S i _ + _)
          grind
      rw [cv_head]
      have h2 : S j (fun i => vec q den (i + 1) * vec q (serL q num den y (j + 1)) (j - (i + 1))) = S j (fun i => vec q den (i + 1) * vec q (serL q num den y j) (j - (i + 1))) := S_congr fun i hi => by rw [ht (j - (i + 1)) (by omega)]
      have h3 : vec q (serL q num den y (j + 1)) j = toF q (sumT num den (serL q num den y j) j j) * toF q y := by
        have h4 := fr_appR (q := q) (serL q num den y j) [sumT num den (serL q num den y j) j j % q * y % q] 0
        rw [ser_len] at h4
        show vec q (serL q num den y j ++ [sumT num den (serL q num den y j) j j % q * y % q]) (j + 0) = _
        rw [h4]
        show toF q (sumT num den (serL q num den y j) j j % q * y % q) = _
        rw [toF_emod, toF_mul, toF_emod]
      rw [h2, h3, key j (Nat.le_refl _)]
      generalize S j (fun i => vec q den (i + 1) * vec q (serL q num den y j) (j - (i + 1))) = z
      grind
/-- the series of a product -/
theorem ser_mul {na da nb db : List Int} {ya yb ym : Int} {n : Nat} (hf : fldN q = true) (L : Low (q := q) (poMulL q na nb) (poMulL q da db) (lowL q (poMulL q na nb) (poMulL q da db))) (h1 : vec q da 0 * toF q ya = 1) (h2 : vec q db 0 * toF q yb = 1) :
    vec q (lowL q (poMulL q na nb) (poMulL q da db)).2 0 ≠ 0 ∧ (vec q (lowL q (poMulL q na nb) (poMulL q da db)).2 0 * toF q ym = 1 → serL q (lowL q (poMulL q na nb) (poMulL q da db)).1 (lowL q (poMulL q na nb) (poMulL q da db)).2 ym n = convL q (serL q na da ya n) (serL q nb db yb n) n) := by
  obtain ⟨H, m, y, hs, hy, e1, e2⟩ := L.fac
  rw [vec_poMul] at e1 e2
  generalize lowL (q : Int) (poMulL q na nb) (poMulL q da db) = s at *
  obtain ⟨nm, dm⟩ := s
  dsimp only at e1 e2 ⊢
  have e3 : vec q da 0 * vec q db 0 = vec q dm 0 * H 0 := by rw [← cv_at0, ← cv_at0, e2]
  have hu : H 0 * (vec q dm 0 * toF q ya * toF q yb) = 1 := by
    have : H 0 * (vec q dm 0 * toF q ya * toF q yb) = (vec q da 0 * toF q ya) * (vec q db 0 * toF q yb) := by grind
    rw [this, h1, h2]; grind
  refine ⟨fun h => ?_, fun hm => ?_⟩
  · rw [h] at hu
    exact one_ne hf (by rw [← hu]; grind)
  · refine vec_ext (ser_ok _ _ _ n) (conv_ok _ _ n) fun j hj => ?_
    have a1 := ser_cv (num := na) h1 n
    have a2 := ser_cv (num := nb) h2 n
    have a3 := ser_cv (num := nm) hm n
    have a4 : EqB n (vec q (convL q (serL q na da ya n) (serL q nb db yb n) n)) (cv (vec q (serL q na da ya n)) (vec q (serL q nb db yb n))) := fun j hj => conv_vec _ _ n hj
    generalize vec q (convL q (serL q na da ya n) (serL q nb db yb n) n) = w at *
    generalize vec q (serL q na da ya n) = u at *
    generalize vec q (serL q nb db yb n) = v at *
    generalize vec q (serL q nm dm ym n) = x at *
    have b1 : EqB n (cv H (cv (vec q dm) w)) (cv H (vec q nm)) := by
      have c1 : EqB n (cv H (cv (vec q dm) w)) (cv H (cv (vec q dm) (cv u v))) := EqB.cv (fun _ _ => rfl) (EqB.cv (fun _ _ => rfl) a4)
      have c2 : cv H (cv (vec q dm) (cv u v)) = cv (cv (vec q da) u) (cv (vec q db) v) := by
        rw [← cv_assoc, cv_comm H, ← e2, cv_assoc, cv_assoc, ← cv_assoc (vec q db) u v, cv_comm (vec q db) u, cv_assoc u]
      rw [c2] at c1
      refine c1.trans ((EqB.cv a1 a2).trans ?_)
      rw [e1, cv_comm H]
      exact fun _ _ => rfl
    have b2 := b1.cancel hu
    have b3 := (a3.trans b2.symm).cancel hm
    exact b3 j hj
/-- a fraction is found again from enough of its series -/
theorem found {num den : List Int} {y : Int} {N L : Nat} (hf : fldN q = true) (on : PolyOk q num) (od : PolyOk q den) (dne : den ≠ []) (l1 : lastC den = 1) (hc : Cop (vec q num) (vec q den)) (hy : vec q den 0 * toF q y = 1) (hL1 : den.length ≤ L + 1) (hL2 : num.length ≤ L) (hN : 2 * L ≤ N) (hN2 : N ≤ 60) :
    2 * (bmN q (serL q num den y N) N).len ≤ N ∧ lowL q (trimL (convL q (bmN q (serL q num den y N) N).now (serL q num den y N) (bmN q (serL q num den y N) N).len)) (bmN q (serL q num den y N) N).now = (num, den) := by
  have hs := ser_cv (num := num) hy N
  have B := bmL (q := q) hf (serL q num den y N) N
  have hM := B.bm
  have hsn := fun n => conv_ok (q := q) (bmN q (serL q num den y N) N).now (serL q num den y N) n
  have hcv := fun n j (hj : j < n) => conv_vec (q := q) (bmN q (serL q num den y N) N).now (serL q num den y N) n hj
  generalize bmN (q : Int) (serL q num den y N) N = t at *
  generalize hS : vec q (serL q num den y N) = s at *
  have hl : t.len ≤ L := hM.min (fun j => toF q y * vec q den j) L (by grind) (fun k hk => by dsimp only; rw [vec_past (by omega)]; grind) fun j h1 h2 => by
    rw [cv_smul]
    dsimp only
    rw [hs j h2, vec_past (by omega)]
    grind
  refine ⟨by omega, ?_⟩
  have hnl := sz_len B.okn hM.sz
  have hne : t.now ≠ [] := by
    intro e
    have := hM.c0
    rw [e, vec_nil] at this
    exact one_ne hf this.symm
  have hP : PolyOk q (trimL (convL q t.now (serL q num den y N) t.len)) := trimL_ok (by rw [conv_len]; exact hsn t.len)
  have hPl := trimL_le (convL q t.now (serL q num den y N) t.len)
  rw [conv_len] at hPl
  have hPv : ∀ j, j < N → vec q (trimL (convL q t.now (serL q num den y N) t.len)) j = cv (vec q t.now) s j := fun j hj => by
    rw [vec_trim]
    rcases Nat.lt_or_ge j t.len with h | h
    · exact hcv t.len j h
    · rw [vec_past (by rw [conv_len]; exact h), hM.rc j h hj]
  generalize trimL (convL (q : Int) t.now (serL q num den y N) t.len) = P at *
  have Lw := low_of hf hP B.okn hne (by omega) (by omega)
  -- den * P = now * num
  have heq : cv (vec q den) (vec q P) = cv (vec q t.now) (vec q num) := by
    funext j
    rcases Nat.lt_or_ge j N with h | h
    · have e1 := (EqB.cv (fun _ _ => rfl : EqB N (vec q den) (vec q den)) hPv) j h
      have e2 := (EqB.cv (fun _ _ => rfl : EqB N (vec q t.now) (vec q t.now)) hs) j h
      rw [e1, ← e2, ← cv_assoc, ← cv_assoc, cv_comm (vec q den) (vec q t.now)]
    · have s1 := ((vec_sz (p := q) den).mul (vec_sz P)) j (by have := len_pos dne; omega)
      have s2 := ((vec_sz (p := q) t.now).mul (vec_sz num)) j (by have := len_pos hne; omega)
      rw [s1, s2]
  obtain ⟨H, m, z, hHs, hHz, f1, f2⟩ := Lw.fac
  have key : cv (vec q (lowL q P t.now).1) (vec q den) = cv (vec q num) (vec q (lowL q P t.now).2) := by
    have h0 := small_zero (q := fun j => cv (vec q (lowL q P t.now).1) (vec q den) j - cv (vec q num) (vec q (lowL q P t.now).2) j) (g := H) (n := (lowL q P t.now).1.length + den.length + num.length + (lowL q P t.now).2.length) (m := m)
      ((((vec_sz (p := q) (lowL q P t.now).1).mul (vec_sz den)).mono' (by omega)).sub (((vec_sz (p := q) num).mul (vec_sz (lowL q P t.now).2)).mono' (by omega))) hHs hHz (by
        rw [cv_subl, cv_assoc, cv_comm (vec q den) H, ← cv_assoc, ← f1, cv_assoc, ← f2, cv_comm (vec q P), cv_comm (vec q num), heq]
        intro j _
        grind)
    funext j
    have := h0 j
    grind
  have := frac_eq hf Lw.oka Lw.okb Lw.bne Lw.last Lw.cop on od dne l1 hc key
  exact Prod.ext this.1 this.2
end frc
end Go.Proofs.YtpeaeminjbjlnaaDoor

/-
  Fractions: equality of lists, multiples and greatest common divisors in the reference. Conditions: small sizes.
-/
namespace Go.Proofs.YtpeaeminjbjlnaaDoor
open Go.RowKit
set_option linter.unusedVariables false

/-- slices.Equal on integers -/
theorem slEqual_any (v1 v2 : Value) (x y : List Int) (w : World) (h1 : IntsV w v1 x) (h2 : IntsV w v2 y) (l1 : x.length ≤ 1000000000) (l2 : y.length ≤ 1000000000) :
    Calls Tryd.prog 301 #[v1, v2] w fun e w' => e = .returned (.bool (x == y)) ∧ w.grownBy w' none := by
  obtain ⟨a1, c1, rfl, r1⟩ := h1
  obtain ⟨a2, c2, rfl, r2⟩ := h2
  have R1 := Lib.hid r1; have R2 := Lib.hid r2
  clear r1 r2
  by_cases hl : x.length = y.length
  · generalize hlx : x.length = l at *
    have HLX := Lib.hid hlx; have HLY := Lib.hid hl
    rw [← HLY.out]
    clear hlx hl
    go_enter Tryd.func301, Tryd.ntmps301
    go_wp2
    go_loopw [13] (fun i wr => ∃ k : Nat, k ≤ l ∧ i = .int .i64 k ∧ (∀ j (h : j < x.length) (h' : j < y.length), j < k → x[j] = y[j]) ∧ w.grownBy wr none) (fun i _ => l - (intOf i).toNat)
    case atStart => exact ⟨0, by omega, rfl, fun _ _ _ h => absurd h (by omega), grownBy_refl _ _⟩
    case round =>
      obtain ⟨k, hk, rfl, ho, hg⟩ := hrel
      have HO := Lib.hid ho; have HG := Lib.hid hg
      clear ho hg
      by_cases hlt : k < l
      · have hkx : k < x.length := by rw [HLX.out]; exact hlt
        have hky : k < y.length := by rw [← HLY.out]; exact hlt
        obtain ⟨d1, ha1, hs1, hd1, hi1⟩ := R1.out (by intro h; rw [h] at hkx; simp at hkx)
        obtain ⟨d2, ha2, hs2, hd2, hi2⟩ := R2.out (by intro h; rw [h] at hky; simp at hky)
        subst ha1 ha2
        obtain ⟨b1, o1, _⟩ := d1
        obtain ⟨b2, o2, _⟩ := d2
        simp only at hs1 hs2 hd1 hd2
        subst hs1 hs2
        have hc1 := (World.cell?_of_block (w := w) (a := ⟨b1, o1 + k, none⟩) (HG.out.block b1 hd1 (by simp))).trans (hi1 k hkx)
        have hc2 := (World.cell?_of_block (w := w) (a := ⟨b2, o2 + k, none⟩) (HG.out.block b2 hd2 (by simp))).trans (hi2 k hky)
        generalize hzx : x[k] = zx at hc1
        generalize hzy : y[k] = zy at hc2
        have HZX := Lib.hid hzx; have HZY := Lib.hid hzy
        clear hzx hzy hi1 hi2 hd1 hd2
        by_cases he : zx = zy
        · subst he
          go_wp2
          go_quiet (fail)
          go_wp2
          go_roundw
          case rel => exact ⟨k + 1, by omega, by go_num, fun j h h' hj => by
            by_cases hjk : j = k
            · subst hjk; rw [HZX.out, HZY.out]
            · exact HO.out j h h' (by omega), ⟨HG.out.os, HG.out.tape, HG.out.output, HG.out.size, HG.out.block⟩⟩
          case measure => simp [intOf]; omega
        · have hb : (zx != zy) = true := by rw [bne_iff_ne]; exact he
          have hfin : (x == y) = false := by
            rw [beq_eq_false_iff_ne]
            intro h
            subst h
            exact he (HZX.out.symm.trans HZY.out)
          have HF := Lib.hid hfin
          clear hfin he
          go_wp2
          go_quiet (fail)
          go_wp2
          go_ret
          exact ⟨by rw [HF.out]; rfl, ⟨HG.out.os, HG.out.tape, HG.out.output, HG.out.size, HG.out.block⟩⟩
      · have hfin : (x == y) = true := by
          rw [beq_iff_eq]
          refine List.ext_getElem (by rw [HLX.out, HLY.out]) fun j h h' => HO.out j h h' (by have := HLX.out; omega)
        have HF := Lib.hid hfin
        clear hfin
        go_wp2
        go_ret
        exact ⟨by rw [HF.out]; rfl, HG.out⟩
  · have hfin : (x == y) = false := by
      rw [beq_eq_false_iff_ne]
      intro h
      exact hl (by rw [h])
    have hb : ((x.length : Int) != y.length) = true := by rw [bne_iff_ne]; omega
    have HF := Lib.hid hfin
    clear hfin hl
    go_enter Tryd.func301, Tryd.ntmps301
    go_wp2
    go_ret
    exact ⟨by rw [HF.out]; rfl, grownBy_refl _ _⟩



theorem getD_zeros (n t : Nat) : (List.replicate n (0 : Int)).getD t 0 = 0 := by
  rw [List.getD_eq_getElem?_getD, List.getElem?_replicate]
  split <;> rfl
set_option maxRecDepth 100000 in
set_option maxHeartbeats 1000000 in
theorem poTimes_any (q : Nat) [NeZero q] (k : Int) (u : Value) (f : List Int) (w : World) (hq : 2 ≤ q) (hq2 : q ≤ 97) (hu : IntsV w u f) (hf : ∀ z ∈ f, 0 ≤ z ∧ z < q) (lf : f.length ≤ 200) (k0 : 0 ≤ k) (k1 : k ≤ 97) :
    Calls Tryd.prog 295 #[.int .i64 q, .int .i64 k, u] w fun e w' => ∃ o, e = .returned o ∧ OwnInts w.heap.size w' o (poAddL q [] k f) ∧ w.grownBy w' none := by
  obtain ⟨i0, hi, hz0, hz1, hz2⟩ := info_parts info_int
  have HI := Lib.hid hi; have HZ0 := Lib.hid hz0; have HZ1 := Lib.hid hz1; have HZ2 := Lib.hid hz2
  have HU := Lib.hid hu; have HFB := Lib.hid hf
  have HS0 := Lib.hid (Sep.start w)
  obtain ⟨ua, uc, rfl, hui⟩ := hu
  clear hui hf hi hz0 hz1 hz2
  have HFL := Lib.hid lf
  generalize hn : f.length = n at *
  have HN := Lib.hid hn
  clear hn
  go_enter Tryd.func295, Tryd.ntmps295
  go_wp2_with (
    at_make
    refine wpList_make_full _ rfl _ _ 24 rfl _ 3 i0 (.int .i64 0) 1 Tryd.underlying24 HI.out HZ0.out HZ1.out _ _ _ _ n rfl rfl rfl rfl (by rw [HZ2.out]; omega) (by unfold maxLen; omega) (Nat.le_refl _) ?_
    intro w5 hown' hgr'
    rw [madeCells_int] at hown'
    have hs5 := HS0.out.newI hgr' (show OwnInts _ w5 (.slice (some ⟨w.heap.size, 0, none⟩) n n) (List.replicate n 0) by unfold OwnInts; rw [List.length_replicate]; exact hown')
    have HS5 := Lib.hid hs5
    clear hown' hgr' hs5)
  go_loopw [15] (fun i wr => ∃ (j : Nat) (zs : List Int), j ≤ n ∧ i = .int .i64 j ∧ zs.length = n ∧ (∀ t, t < j → zs.getD t 0 = k * f.getD t 0 % q) ∧ (∀ t, j ≤ t → zs.getD t 0 = 0) ∧ Sep wr [OI (.slice (some ⟨w.heap.size, 0, none⟩) n n) zs, KeepA w]) (fun i _ => n - (intOf i).toNat)
  case atStart => exact ⟨0, List.replicate n 0, by omega, rfl, by simp, fun t h => absurd h (by omega), fun t _ => getD_zeros n t, HS5.out⟩
  case round =>
    obtain ⟨j, zs, hj, rfl, hz, h1, h2, hs⟩ := hrel
    have HZ := Lib.hid hz; have H1 := Lib.hid h1; have H2 := Lib.hid h2; have HSX := Lib.hid hs
    clear hz h1 h2 hs
    by_cases hlt : j < n
    · have hjf : j < f.length := by rw [HN.out]; exact hlt
      have hjz : j < zs.length := by rw [HZ.out]; exact hlt
      obtain ⟨d, rfl, hs1, hd1, hc1⟩ := (HU.out.carry HSX.out.tl.hd).at hjf
      obtain ⟨db, dof, _⟩ := d
      simp only at hs1 hc1
      subst hs1
      have hb := HFB.out _ (List.getElem_mem hjf)
      rw [← getD_lt hjf] at hb hc1
      have hc0 := HSX.out.hd.cell HZ.out.symm hjz
      have hfr := HSX.out.hd.free HZ.out.symm j
      have HSN := Lib.hid fun y => HSX.out.setI HZ.out.symm j y
      have HJZ := Lib.hid hjz
      generalize zs[j] = z0 at hc0
      clear hd1 hjf hjz
      generalize hx : f.getD j 0 = x at *
      have HX := Lib.hid hx
      have M1 := Lib.hid fun w1 => fdMulS_any q k x w1 (by omega) (by omega) k0 (by omega) hb.1 (by omega)
      clear hx
      go_wp2_with (go_at_call 199; with_reducible refine (M1.out _).mono ?_; rintro e w' ⟨rfl, rfl⟩)
      go_roundw
      case rel => exact ⟨j + 1, zs.set j (k * x % q), by omega, by go_num, by rw [List.length_set]; exact HZ.out, fun t ht => by
        rw [getD_setI HJZ.out]
        split
        · next e => rw [e, HX.out]
        · exact H1.out t (by omega), fun t ht => by
        rw [getD_setI HJZ.out, if_neg (by omega)]
        exact H2.out t (by omega), HSN.out _⟩
      case measure => simp [intOf]; omega
    · have hjn : j = n := by omega
      subst hjn
      have hok : VecOk q zs.length zs := ⟨rfl, fun z hz => by
        obtain ⟨t, ht, rfl⟩ := List.getElem_of_mem hz
        rw [← getD_lt ht, H1.out t (by rw [← HZ.out]; exact ht)]
        exact ⟨Int.emod_nonneg _ (by omega), Int.emod_lt_of_pos _ (by omega)⟩⟩
      have heq : trimL zs = poAddL q [] k f := by
        refine poly_ext (trimL_ok hok) (poAdd_ok (PolyOk.nil _)) ?_
        rw [vec_trim, vec_sc]
        funext t
        rcases Nat.lt_or_ge t j with h | h
        · show toF q (zs.getD t 0) = toF q k * toF q (f.getD t 0)
          rw [H1.out t h, toF_emod, toF_mul]
        · rw [vec_past (by rw [HZ.out]; exact h), vec_past (v := f) (by rw [HN.out]; exact h)]
          grind
      have htr := poTrim_any (some ⟨w.heap.size, 0, none⟩) j zs wr (by rw [HZ.out]; exact HSX.out.hd.read) (by rw [HZ.out]; exact Nat.le_refl _) (by rw [HZ.out]; omega)
      rw [HZ.out, heq] at htr
      have HTR := Lib.hid htr
      have HG0 := Lib.hid (show w.grownBy wr none from HSX.out.tl.hd)
      clear htr heq hok
      go_wp2_with (
        go_at_call 246
        go_loud (with_reducible refine HTR.out.mono ?_)
        rintro e w6 ⟨o, rfl, ho, hg⟩
        have HO := Lib.hid ho; have HG := Lib.hid hg
        clear ho hg)
      go_ret
      exact ⟨_, rfl, HO.out.rebase fun k hk => Nat.le_trans HG0.out.size (HO.out.lt k hk).1, HG0.out.trans HG.out⟩
set_option maxRecDepth 100000 in
theorem poMonic_any (q : Nat) [NeZero q] (u : Value) (f : List Int) (w : World) (hfl : fldN q = true) (hq2 : q ≤ 97) (hu : IntsV w u f) (hf : PolyOk q f) (hne : f ≠ []) (lf : f.length ≤ 200) :
    Calls Tryd.prog 294 #[.int .i64 q, u] w fun e w' => ∃ o, e = .returned o ∧ IntsV w' o (monicL q f) ∧ w.grownBy w' none := by
  have hq := lt_p hfl
  have hl := last_bd hf hne
  have hl0 : lastC f ≠ 0 := hf.2 hne
  have hb := inv_bd97 (q := q) (x := lastC f) (by omega) hq2
  have HIV := Lib.hid fun wx => fdInvS_any q (lastC f) wx hfl (by omega) (by omega) hl.2
  have HS := Lib.hid (poTimes_any q (invI q (lastC f)) u f w (by omega) hq2 hu hf.els lf (by omega) (by omega))
  have hlen := len_pos hne
  unfold monicL
  obtain ⟨ua, uc, rfl, hui⟩ := id hu
  obtain ⟨b, o, rfl, hc⟩ := last_cell hu hne
  have g1 : IntKind.i64.wrap ((f.length : Int) - 1) = ((f.length - 1 : Nat) : Int) := by rw [IntKind.wrap_i64]; omega
  have g2 : ((f.length - 1 : Nat) : Int) < (f.length : Int) := by omega
  clear hui hu hf hb hl hl0
  generalize poAddL (q : Int) [] (invI q (lastC f)) f = R at *
  generalize invI (q : Int) (lastC f) = y at *
  generalize lastC f = lc at *
  go_enter Tryd.func294, Tryd.ntmps294
  go_wp2_with (first
    | (go_at_call 198
       go_loud (with_reducible refine (HIV.out _).mono ?_)
       rintro e w' ⟨rfl, rfl⟩)
    | (go_at_call 295
       go_loud (with_reducible refine HS.out.mono ?_)
       rintro e w1 ⟨o1, rfl, hi, hg⟩
       obtain ⟨a, c, rfl, _⟩ := own_cap' hi
       have HI := Lib.hid hi.read; have HG := Lib.hid hg
       clear hi hg))
  go_ret
  exact ⟨_, rfl, HI.out, HG.out⟩
set_option maxRecDepth 100000 in
set_option maxHeartbeats 1000000 in
theorem poGcd_any (q : Nat) [NeZero q] (u v : Value) (f g : List Int) (w : World) (hfl : fldN q = true) (hq2 : q ≤ 97) (hu : IntsV w u f) (hv : IntsV w v g) (hf : PolyOk q f) (hg : PolyOk q g) (lf : f.length ≤ 200) (lg : g.length ≤ 200) (hne0 : f ≠ [] ∨ g ≠ []) :
    Calls Tryd.prog 265 #[.int .i64 q, u, v] w fun e w' => ∃ o, e = .returned o ∧ IntsV w' o (gcdL q f g) ∧ w.grownBy w' none := by
  have hq := lt_p hfl
  have HU := Lib.hid hu; have HV := Lib.hid hv
  have HGD := Lib.hid (show gcdL q f g = if gcdN q g.length f g = [] then [] else monicL q (gcdN q g.length f g) from rfl)
  have HLE := Lib.hid (Nat.le_refl g.length)
  obtain ⟨ua, uc, rfl, hui⟩ := hu
  obtain ⟨va, vc, rfl, hvi⟩ := hv
  clear hui hvi
  have HF := Lib.hid hf; have HG := Lib.hid hg; have HN0 := Lib.hid hne0
  clear hf hg hne0
  generalize gcdL (q : Int) f g = D at *
  generalize hT : gcdN (q : Int) g.length f g = T at *
  have HT := Lib.hid hT
  clear hT
  go_enter Tryd.func265, Tryd.ntmps265
  go_wp2_with fail
  go_loopw [1, 2] (fun x1 x2 wr => ∃ (F G : List Int) (n : Nat) (a1 a2 : Option Addr) (c1 c2 : Nat), x1 = .slice a1 F.length c1 ∧ x2 = .slice a2 G.length c2 ∧ IntsV wr (.slice a1 F.length c1) F ∧ IntsV wr (.slice a2 G.length c2) G ∧ PolyOk q F ∧ PolyOk q G ∧ F.length ≤ 200 ∧ G.length ≤ 200 ∧ gcdN q n F G = T ∧ G.length ≤ n ∧ (F ≠ [] ∨ G ≠ []) ∧ w.grownBy wr none) (fun _ x2 _ => lenV x2)
  case atStart => exact ⟨f, g, g.length, ua, va, uc, vc, rfl, rfl, HU.out, HV.out, HF.out, HG.out, lf, lg, HT.out, HLE.out, HN0.out, grownBy_refl _ _⟩
  case round =>
    obtain ⟨F, G, n, a1, a2, c1, c2, rfl, rfl, h1, h2, p1, p2, l1, l2, hgn, hn, hn0, hgr⟩ := hrel
    have H1 := Lib.hid h1; have H2 := Lib.hid h2; have P1 := Lib.hid p1; have P2 := Lib.hid p2; have HGN := Lib.hid hgn; have HGR := Lib.hid hgr
    clear h1 h2 p1 p2 hgn hgr
    by_cases h0 : G.length = 0
    · obtain rfl : G = [] := List.eq_nil_of_length_eq_zero h0
      have hFT := HGN.out
      rw [gcdN_nil] at hFT
      subst hFT
      have hne : F ≠ [] := hn0.resolve_right (fun h => h rfl)
      have HD := Lib.hid (show D = monicL q F by rw [HGD.out, if_neg hne])
      have HM := Lib.hid (poMonic_any q _ F wr hfl hq2 H1.out P1.out hne (by omega))
      clear hn0
      go_wp2_with (
        go_at_call 294
        go_loud (with_reducible refine HM.out.mono ?_)
        rintro e w1 ⟨o1, rfl, hi, hg⟩
        obtain ⟨a, c, rfl, _⟩ := id hi
        have HI := Lib.hid hi; have HGG := Lib.hid hg
        clear hi hg)
      go_ret
      exact ⟨_, rfl, by rw [HD.out]; exact HI.out, HGR.out.trans HGG.out⟩
    · have hne : G ≠ [] := fun e => h0 (by rw [e]; rfl)
      have h0' : (0 : Int) < (G.length : Int) := by omega
      obtain ⟨n', rfl⟩ : ∃ n', n = n' + 1 := ⟨n - 1, by omega⟩
      have hlt := rem_lt hfl P1.out P2.out hne
      have hle := rem_le (p := q) F G
      have HRO := Lib.hid (rem_ok (g := G) P1.out)
      have HNX := Lib.hid (show gcdN q n' G (remL q F G) = T by
        rw [← HGN.out, show gcdN (q : Int) (n' + 1) F G = if G = [] then F else gcdN q n' G (remL q F G) from rfl, if_neg hne])
      have HDV := Lib.hid (poDiv_any q _ _ F G wr hfl hq2 H1.out H2.out P1.out P2.out hne l1 l2)
      have HNE := Lib.hid hne
      clear h0 hn0 hne
      generalize quoL (q : Int) F G = QQ at *
      generalize remL (q : Int) F G = RR at *
      go_wp2_with (
        go_at_call 104
        go_loud (with_reducible refine HDV.out.mono ?_)
        rintro e w1 ⟨o1, o2, rfl, hi1, hi2, hg⟩
        obtain ⟨b1, d1, rfl, _⟩ := id hi1
        obtain ⟨b2, d2, rfl, _⟩ := id hi2
        have HI2 := Lib.hid hi2; have HGG := Lib.hid hg
        clear hi1 hi2 hg)
      go_roundw
      case rel => exact ⟨G, RR, n', a2, b2, c2, d2, rfl, rfl, H2.out.carry HGG.out, HI2.out, P2.out, HRO.out, l2, by omega, HNX.out, by omega, Or.inl HNE.out, HGR.out.trans HGG.out⟩
      case measure => simp [lenV]; omega
end Go.Proofs.YtpeaeminjbjlnaaDoor

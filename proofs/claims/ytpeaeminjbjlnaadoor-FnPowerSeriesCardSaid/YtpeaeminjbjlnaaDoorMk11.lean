/-
  Orthogonal lists, null rows, coordinates and separators, for lists of lists of integers. Plain mathematics. Conditions: the number of elements is a field of the program's kind; rows of one length with elements.
-/
import Derived.Test.YtpeaeminjbjlnaaDoorMk09
import Derived.Test.YtpeaeminjbjlnaaDoorMk08
import Derived.BigQuiet
namespace Go.Proofs.YtpeaeminjbjlnaaDoor
open La
set_option linter.unusedVariables false
section orth
variable {p : Nat} [NeZero p]

def transL (L : List (List Int)) (n : Nat) : List (List Int) := (List.range n).map fun j => L.map fun row => row.getD j 0
def orthL (p : Int) (L : List (List Int)) (n : Nat) : List (List Int) := kernelL p L.length (transL L n)
theorem transL_len (L : List (List Int)) (n : Nat) : (transL L n).length = n := by simp [transL]
omit [NeZero p] in
theorem transL_ok {n : Nat} {L : List (List Int)} (h : RowsOk p n L) : RowsOk p L.length (transL L n) := by
  intro row hrow
  obtain ⟨j, hj, rfl⟩ := List.mem_map.1 hrow
  refine ⟨by simp, fun x hx => ?_⟩
  obtain ⟨r, hr, rfl⟩ := List.mem_map.1 hx
  have := h r hr
  rw [getD_lt (by rw [this.1]; exact List.mem_range.1 hj)]
  exact this.2 _ (List.getElem_mem _)
theorem mx_transL {n i j : Nat} {L : List (List Int)} (hj : j < n) (hi : i < L.length) : mx p (transL L n) j i = mx p L i j := by
  rw [mx_at (by rw [transL_len]; exact hj)]
  have e : (transL L n)[j]'(by rw [transL_len]; exact hj) = L.map fun row => row.getD j 0 := by simp [transL]
  rw [e, vec_at (by simpa using hi)]
  simp only [List.getElem_map]
  rw [mx_at hi]
  rfl
def Perp (p n : Nat) [NeZero p] (L : List (List Int)) (w : Vec p) : Prop := ∀ i, i < L.length → S n (fun j => w j * mx p L i j) = 0
theorem orth_span {n : Nat} {L : List (List Int)} (hf : fldN p = true) (h : RowsOk p n L) (w : Vec p) : Spn p n (orthL p L n) w ↔ Perp p n L w := by
  have := kernelL_span hf (transL_ok h) w
  rw [transL_len] at this
  unfold orthL
  rw [this]
  unfold Perp comb
  constructor
  · intro h1 i hi
    rw [← h1 i hi]
    exact S_congr fun j hj => by rw [mx_transL hj hi]
  · intro h1 i hi
    rw [← h1 i hi]
    exact S_congr fun j hj => by rw [mx_transL hj hi]
theorem orth_red {n : Nat} {L : List (List Int)} (hf : fldN p = true) (h : RowsOk p n L) : IsRed p n (orthL p L n) := by
  have := kernelL_red hf (transL_ok h)
  rw [transL_len] at this
  exact this
theorem perp_span {n : Nat} {L M : List (List Int)} {w : Vec p} (hs : ∀ v, Spn p n L v → Spn p n M v) (h : Perp p n M w) : Perp p n L w := by
  intro i hi
  have h1 := hs (mx p L i) (In.row hi)
  have h2 := In.dot h1 (w := w) fun k hk => by
    rw [← h k hk]
    exact S_congr fun j _ => by grind
  rw [← h2]
  exact S_congr fun j _ => by grind

/-! ### null rows -/
def leadL (v : List Int) : Nat := v.findIdx fun x => x != 0
theorem lead_piv {n i : Nat} {piv : Nat → Nat} {m : List (List Int)} (hf : fldN p = true) (hok : RowsOk p n m) (h : RR m.length n (mx p m) piv) (hi : i < m.length) : leadL (m.getD i []) = piv i := by
  have hr := hok _ (getD_mem hi)
  have hp := h.lt i hi
  have e : ∀ j, mx p m i j = toF p ((m.getD i []).getD j 0) := fun j => rfl
  have h1 := h.one i hi
  rw [e] at h1
  have h2 := fun j hj => h.left i j hi hj
  simp only [e] at h2
  generalize m.getD i [] = r at *
  unfold leadL
  rw [List.findIdx_eq (by rw [hr.1]; exact hp)]
  refine ⟨?_, fun j hj => ?_⟩
  · rw [bne_iff_ne, ← getD_lt (by rw [hr.1]; exact hp)]
    intro h0
    rw [h0, toF_zero] at h1
    exact one_ne hf h1.symm
  · have hjl : j < r.length := by rw [hr.1]; omega
    rw [bne_eq_false_iff_eq, ← getD_lt hjl]
    have hb := hr.2 _ (List.getElem_mem hjl)
    rw [← getD_lt hjl] at hb
    exact Classical.byContradiction fun hne => toF_ne hb.1 hb.2 hne (h2 j hj)
def nullTo (p : Int) (n : Nat) (m : List (List Int)) (j : Nat) : Nat → List Int
  | 0 => unitL n j
  | i + 1 => (nullTo p n m j i).set (leadL (m.getD i [])) ((p - at2 m i j) % p)
def isLead (m : List (List Int)) (j : Nat) : Bool := m.any fun r => leadL r == j
def nullRows (p : Int) (n : Nat) (m : List (List Int)) : List (List Int) := ((List.range n).filter fun j => !isLead m j).map fun j => nullTo p n m j m.length
def spNullL (p : Int) (n : Nat) (L : List (List Int)) : List (List Int) := reducedL p n (nullRows p n (reducedL p n L))
omit [NeZero p] in
theorem nullTo_ok {n j : Nat} {m : List (List Int)} (hp : 1 < p) : ∀ i, VecOk p n (nullTo p n m j i) := by
  intro i
  induction i with
  | zero => exact unitL_ok hp
  | succ i ih =>
    refine ⟨by simp only [nullTo]; rw [List.length_set]; exact ih.1, fun x hx => ?_⟩
    simp only [nullTo] at hx
    rcases List.mem_or_eq_of_mem_set hx with h | h
    · exact ih.2 x h
    · rw [h]
      exact ⟨Int.emod_nonneg _ (by omega), Int.emod_lt_of_pos _ (by omega)⟩
omit [NeZero p] in
theorem nullRows_ok {n : Nat} {m : List (List Int)} (hp : 1 < p) : RowsOk p n (nullRows p n m) := by
  intro row hrow
  obtain ⟨j, _, rfl⟩ := List.mem_map.1 hrow
  exact nullTo_ok hp _
theorem isLead_iff {n j : Nat} {piv : Nat → Nat} {m : List (List Int)} (hf : fldN p = true) (hok : RowsOk p n m) (h : RR m.length n (mx p m) piv) : isLead m j = true ↔ ∃ i, i < m.length ∧ piv i = j := by
  unfold isLead
  rw [List.any_eq_true]
  constructor
  · rintro ⟨r, hr, hj⟩
    obtain ⟨i, hi, rfl⟩ := List.getElem_of_mem hr
    refine ⟨i, hi, ?_⟩
    have := lead_piv hf hok h hi
    rw [List.getD_eq_getElem?_getD, List.getElem?_eq_getElem hi, Option.getD_some] at this
    rw [← this]
    exact beq_iff_eq.1 hj
  · rintro ⟨i, hi, hj⟩
    refine ⟨m.getD i [], getD_mem hi, ?_⟩
    rw [lead_piv hf hok h hi, hj]
    exact beq_self_eq_true _
theorem toF_p : toF p (p : Int) = 0 := by
  rw [← toF_zero, toF_eq, Int.emod_self, Int.zero_emod]
theorem piv_inj {n r : Nat} {A : Mx p} {piv : Nat → Nat} (h : RR r n A piv) {i k : Nat} (hi : i < r) (hk : k < r) (e : piv i = piv k) : i = k := by
  rcases Nat.lt_trichotomy i k with h1 | h1 | h1
  · have := h.inc i k h1 hk; omega
  · exact h1
  · have := h.inc k i h1 hi; omega
theorem nullTo_at {n j : Nat} {piv : Nat → Nat} {m : List (List Int)} (hf : fldN p = true) (hok : RowsOk p n m) (h : RR m.length n (mx p m) piv) :
    ∀ i, i ≤ m.length → (∀ k, k < i → vec p (nullTo p n m j i) (piv k) = - mx p m k j) ∧ ∀ c, c < n → (∀ k, k < i → piv k ≠ c) → vec p (nullTo p n m j i) c = if j = c then 1 else 0 := by
  intro i
  induction i with
  | zero => intro _; exact ⟨fun k hk => by omega, fun c hc _ => vec_unitL hc⟩
  | succ i ih =>
    intro hi
    obtain ⟨h1, h2⟩ := ih (by omega)
    have hl := lead_piv hf hok h (show i < m.length by omega)
    have hlen := (nullTo_ok (p := p) (n := n) (j := j) (m := m) (lt_p hf) i).1
    have hlt := h.lt i (by omega)
    refine ⟨fun k hk => ?_, fun c hc hne => ?_⟩
    · unfold vec
      simp only [nullTo]
      rw [hl]
      by_cases hki : k = i
      · subst hki
        rw [getD_set_self (by omega), toF_emod, toF_sub, toF_p, ← mx_at2]
        grind
      · have : piv i ≠ piv k := fun e => hki (piv_inj h (by omega) (by omega) e.symm)
        rw [getD_set_ne this]
        exact h1 k (by omega)
    · unfold vec
      simp only [nullTo]
      rw [hl, getD_set_ne (hne i (by omega))]
      exact h2 c hc fun k hk => hne k (by omega)
theorem null_mem {n j : Nat} {m : List (List Int)} (hj : j < n) (h : isLead m j = false) : Spn p n (nullRows p n m) (vec p (nullTo p n m j m.length)) := by
  have hm : nullTo p n m j m.length ∈ nullRows p n m := List.mem_map.2 ⟨j, List.mem_filter.2 ⟨List.mem_range.2 hj, by rw [h]; rfl⟩, rfl⟩
  obtain ⟨i, hi, he⟩ := List.getElem_of_mem hm
  have := In.row (n := n) (A := mx p (nullRows p n m)) hi
  rw [mx_at hi, he] at this
  exact this
/-- a null row's product with any vector -/
theorem null_dot {n j : Nat} {piv : Nat → Nat} {m : List (List Int)} (hf : fldN p = true) (hok : RowsOk p n m) (h : RR m.length n (mx p m) piv) (hj : j < n) (hnl : isLead m j = false) (w : Vec p) :
    S n (fun c => vec p (nullTo p n m j m.length) c * w c) = w j - comb m.length (fun i => w (piv i)) (mx p m) j := by
  obtain ⟨h1, h2⟩ := nullTo_at (j := j) hf hok h m.length (Nat.le_refl _)
  have hnp : ∀ k, k < m.length → piv k ≠ j := by
    intro k hk e
    have := (isLead_iff hf hok h).2 ⟨k, hk, e⟩
    rw [hnl] at this
    cases this
  have e : ∀ c, c < n → vec p (nullTo p n m j m.length) c * w c = (if c = j then w j else 0) - S m.length (fun k => if c = piv k then w (piv k) * mx p m k j else 0) := by
    intro c hc
    by_cases hp : ∃ k, k < m.length ∧ piv k = c
    · obtain ⟨k, hk, rfl⟩ := hp
      rw [h1 k hk, if_neg (hnp k hk), S_one hk (fun i hi hn => by rw [if_neg fun e => hn (piv_inj h hi hk e.symm)]), if_pos rfl]
      grind
    · rw [h2 c hc fun k hk e => hp ⟨k, hk, e⟩, S_zero' fun k hk => by rw [if_neg fun e => hp ⟨k, hk, e.symm⟩]]
      by_cases hcj : c = j
      · subst hcj; simp only [if_true]; grind
      · rw [if_neg hcj, if_neg (Ne.symm hcj)]; grind
  rw [S_congr e, S_sub, S_delta hj, S_comm]
  congr 1
  refine S_congr fun k hk => ?_
  rw [S_delta (h.lt k hk)]
theorem null_span {n : Nat} {m : List (List Int)} (hf : fldN p = true) (hr : IsRed p n m) (w : Vec p) : Spn p n (nullRows p n m) w ↔ Perp p n m w := by
  obtain ⟨hok, piv, h⟩ := hr
  constructor
  · intro hs i hi
    refine In.dot hs fun k hk => ?_
    have hm : (nullRows p n m)[k] ∈ nullRows p n m := List.getElem_mem hk
    rw [mx_at hk]
    obtain ⟨j, hj, he⟩ := List.mem_map.1 hm
    rw [← he]
    obtain ⟨hj1, hj2⟩ := List.mem_filter.1 hj
    have hj3 := List.mem_range.1 hj1
    rw [null_dot hf hok h hj3 (by simpa using hj2)]
    have e : comb m.length (fun k => mx p m i (piv k)) (mx p m) j = mx p m i j := by
      unfold comb
      rw [S_one hi (fun k hk hn => by show mx p m i (piv k) * mx p m k j = 0; rw [h.col k i hk hi (Ne.symm hn), f0m])]
      show mx p m i (piv i) * mx p m i j = mx p m i j
      rw [h.one i hi, f1m]
    rw [e]
    grind
  · intro hw
    have hin : In n n (fun j => if isLead m j = true then (fun _ => 0) else vec p (nullTo p n m j m.length)) w := by
      refine ⟨w, fun c hc => ?_⟩
      unfold comb
      by_cases hp : ∃ k, k < m.length ∧ piv k = c
      · obtain ⟨k, hk, rfl⟩ := hp
        have e : ∀ j, j < n → w j * (if isLead m j = true then (fun _ => 0) else vec p (nullTo p n m j m.length)) (piv k) = (if j = piv k then w (piv k) else 0) - w j * mx p m k j := by
          intro j hj
          by_cases hl : isLead m j = true
          · rw [if_pos hl]
            obtain ⟨i, hi, rfl⟩ := (isLead_iff hf hok h).1 hl
            by_cases hik : i = k
            · subst hik
              rw [if_pos rfl, h.one i hi]
              grind
            · rw [if_neg fun e => hik (piv_inj h hi hk e), h.col i k hi hk (Ne.symm hik)]
              grind
          · rw [if_neg hl, (nullTo_at hf hok h m.length (Nat.le_refl _)).1 k hk, if_neg fun e => hl ((isLead_iff hf hok h).2 ⟨k, hk, e.symm⟩)]
            grind
        rw [S_congr e, S_sub, S_delta hc, hw k hk]
        grind
      · rw [S_one hc]
        · have hl : ¬ isLead m c = true := fun e => hp ((isLead_iff hf hok h).1 e)
          dsimp only
          rw [if_neg hl, (nullTo_at hf hok h m.length (Nat.le_refl _)).2 c hc fun k hk e => hp ⟨k, hk, e⟩, if_pos rfl]
          grind
        · intro j hj hne
          dsimp only
          by_cases hl : isLead m j = true
          · rw [if_pos hl]; grind
          · rw [if_neg hl, (nullTo_at hf hok h m.length (Nat.le_refl _)).2 c hc fun k hk e => hp ⟨k, hk, e⟩, if_neg hne]
            grind
    refine hin.trans fun j hj => ?_
    by_cases hl : isLead m j = true
    · rw [if_pos hl]; exact In.zero _ _ _
    · rw [if_neg hl]; exact null_mem hj (by simpa using hl)
/-- The specification's null space is the program's orthogonal one. -/
theorem spNull_eq {n : Nat} {L : List (List Int)} (hf : fldN p = true) (hL : RowsOk p n L) : spNullL p n L = orthL p L n := by
  have hr := reducedL_red hf hL
  have hs := reducedL_span hf hL
  refine red_unique hf (reducedL_red hf (nullRows_ok (lt_p hf))) (orth_red hf hL) fun v => ?_
  unfold spNullL
  rw [reducedL_span hf (nullRows_ok (lt_p hf)), null_span hf hr, orth_span hf hL]
  exact ⟨fun h => perp_span (fun v hv => (hs v).2 hv) h, fun h => perp_span (fun v hv => (hs v).1 hv) h⟩

/-! ### coordinates -/
def coordsL (m : List (List Int)) (v : List Int) : List Int := m.map fun b => v.getD (leadL b) 0
theorem vec_coordsL {n i : Nat} {piv : Nat → Nat} {m : List (List Int)} (hf : fldN p = true) (hok : RowsOk p n m) (h : RR m.length n (mx p m) piv) (v : List Int) (hi : i < m.length) : vec p (coordsL m v) i = vec p v (piv i) := by
  rw [vec_at (by simp [coordsL]; exact hi)]
  have := lead_piv hf hok h hi
  rw [List.getD_eq_getElem?_getD, List.getElem?_eq_getElem hi, Option.getD_some] at this
  simp only [coordsL, List.getElem_map]
  rw [this]
  rfl
def hasB (p : Int) (n : Nat) (m : List (List Int)) (v : List Int) : Bool := combTo p (coordsL m v) m n m.length == v
theorem hasB_iff {n : Nat} {m : List (List Int)} {v : List Int} (hf : fldN p = true) (hr : IsRed p n m) (hv : VecOk p n v) : hasB p n m v = true ↔ Spn p n m (vec p v) := by
  obtain ⟨hok, piv, h⟩ := hr
  have e : ∀ j, j < n → vec p (combTo p (coordsL m v) m n m.length) j = comb m.length (fun i => vec p v (piv i)) (mx p m) j := by
    intro j hj
    rw [vec_combTo (lt_p hf) hok (Nat.le_refl _) hj]
    exact S_congr fun i hi => by rw [vec_coordsL hf hok h v hi]
  unfold hasB
  rw [beq_iff_eq]
  constructor
  · intro he
    refine ⟨fun i => vec p v (piv i), fun j hj => ?_⟩
    rw [← e j hj, he]
  · intro hs
    refine vec_ext (combTo_ok (lt_p hf) hok _ (Nat.le_refl _)) hv fun j hj => ?_
    rw [e j hj]
    exact (h.coords hs j hj).symm
/-- A vector outside has a separator in the orthogonal list; one inside has none. -/
theorem sep_exists {n : Nat} {m : List (List Int)} {v : Vec p} (hf : fldN p = true) (hr : IsRed p n m) :
    Spn p n m v ↔ ∀ w ∈ orthL p m n, S n (fun j => vec p w j * v j) = 0 := by
  have hor := orth_span hf hr.1
  constructor
  · intro hv w hw
    obtain ⟨i, hi, rfl⟩ := List.getElem_of_mem hw
    have h1 : Spn p n (orthL p m n) (mx p (orthL p m n) i) := In.row hi
    rw [hor, mx_at hi] at h1
    have h2 := In.dot hv (w := vec p (orthL p m n)[i]) fun k hk => by
      rw [← h1 k hk]
      exact S_congr fun j _ => by grind
    rw [← h2]
    exact S_congr fun j _ => by grind
  · intro h0
    have hr' := hr
    obtain ⟨hok, piv, h⟩ := hr'
    refine ⟨fun i => v (piv i), fun c hc => ?_⟩
    by_cases hl : isLead m c = true
    · obtain ⟨i, hi, rfl⟩ := (isLead_iff hf hok h).1 hl
      rw [h.comb_at _ hi]
    · have h1 := null_dot hf hok h hc (by simpa using hl) v
      have h2 : Spn p n (orthL p m n) (vec p (nullTo p n m c m.length)) := by
        rw [hor, ← null_span hf hr]
        exact null_mem hc (by simpa using hl)
      have h3 := In.dot h2 (w := v) fun k hk => by
        rw [mx_at hk]
        exact h0 _ (List.getElem_mem hk)
      rw [h3] at h1
      grind
end orth
end Go.Proofs.YtpeaeminjbjlnaaDoor

/-
  Leading indices and products of vectors. Conditions: lengths and elements are small.
-/
namespace Go.Proofs.YtpeaeminjbjlnaaDoor
open Go.RowKit
set_option linter.unusedVariables false

theorem leadL_at {zs : List Int} {k : Nat} (hk : k < zs.length) (h0 : ∀ j (h : j < zs.length), j < k → zs[j] = 0) (h1 : zs[k] ≠ 0) : leadL zs = k := by
  unfold leadL
  rw [List.findIdx_eq hk]
  exact ⟨by rw [bne_iff_ne]; exact h1, fun j hj => by rw [bne_eq_false_iff_eq]; exact h0 j (by omega) hj⟩
theorem leadL_end {zs : List Int} (h0 : ∀ j (h : j < zs.length), zs[j] = 0) : leadL zs = zs.length := by
  unfold leadL
  rw [List.findIdx_eq_length]
  intro x hx
  obtain ⟨j, hj, rfl⟩ := List.getElem_of_mem hx
  rw [bne_eq_false_iff_eq]
  exact h0 j hj

theorem lead_any (v : Value) (zs : List Int) (w : World) (hv : IntsV w v zs) (hl : zs.length ≤ 1000000) :
    Calls Tryd.prog 225 #[v] w fun e w' => e = .returned (.int .i64 (leadL zs)) ∧ w = w' := by
  have HV := Lib.hid hv
  obtain ⟨a, cap, rfl, hx⟩ := hv
  clear hx
  generalize hlen : zs.length = l at *
  have HL := Lib.hid hlen
  clear hlen
  generalize hle : leadL zs = le at *
  have HLE := Lib.hid hle
  clear hle
  go_enter Tryd.func225, Tryd.ntmps225
  go_wp2
  go_loop [7] (fun i => ∃ k : Nat, k ≤ l ∧ i = .int .i64 k ∧ ∀ j (h : j < zs.length), j < k → zs[j] = 0) (fun i => l - (intOf i).toNat)
  case atStart => exact ⟨0, by omega, rfl, fun _ _ h => absurd h (by omega)⟩
  case round =>
    obtain ⟨k, hk, rfl, ho⟩ := hrel
    have HO := Lib.hid ho
    clear ho
    by_cases hlt : k < l
    · have hkl : k < zs.length := by rw [HL.out]; exact hlt
      obtain ⟨d, rfl, hs, hd, hcell⟩ := HV.out.at hkl
      obtain ⟨db, dof, _⟩ := d
      simp only at hs hcell
      subst hs
      have HAT := Lib.hid (fun h => leadL_at hkl HO.out h)
      generalize hzk : zs[k] = z at *
      have HK := Lib.hid hzk
      clear hzk hd
      by_cases hz : z = 0
      · subst hz
        go_wp2
        go_round
        case rel => exact ⟨k + 1, by omega, by go_num, fun j h hj => by
          by_cases hjk : j = k
          · subst hjk; exact HK.out
          · exact HO.out j h (by omega)⟩
        case measure => simp [intOf]; omega
      · have hzb : (z != 0) = true := by rw [bne_iff_ne]; exact hz
        have he := HAT.out hz
        rw [HLE.out] at he
        have HE := Lib.hid he
        clear he
        go_wp2
        go_ret
        exact ⟨by rw [HE.out]; rfl, rfl⟩
    · have he := leadL_end fun j h => HO.out j h (by have := HL.out; omega)
      rw [HLE.out, HL.out] at he
      have HE := Lib.hid he
      clear he
      go_wp2
      go_ret
      exact ⟨by rw [HE.out]; rfl, rfl⟩

def dotTo (v u : List Int) : Nat → Int
  | 0 => 0
  | k + 1 => dotTo v u k + v.getD k 0 * u.getD k 0
theorem dotTo_bd {v u : List Int} (hv : ∀ z ∈ v, 0 ≤ z ∧ z ≤ 1000) (hu : ∀ z ∈ u, 0 ≤ z ∧ z ≤ 1000) (hl : v.length = u.length) : ∀ k, k ≤ v.length → 0 ≤ dotTo v u k ∧ dotTo v u k ≤ 1000000 * k := by
  intro k
  induction k with
  | zero => intro _; exact ⟨Int.le_refl _, by simp [dotTo]⟩
  | succ k ih =>
    intro hk
    obtain ⟨h1, h2⟩ := ih (by omega)
    have b1 := hv _ (List.getElem_mem (show k < v.length by omega))
    have b2 := hu _ (List.getElem_mem (show k < u.length by omega))
    have b3 := mul_bd2 (A := 1000) (B := 1000) ⟨by omega, b1.2⟩ b2 (by omega) (by omega)
    have b4 := Int.mul_nonneg b1.1 b2.1
    unfold dotTo
    rw [getD_lt (show k < v.length by omega), getD_lt (show k < u.length by omega)]
    push_cast
    omega

theorem dot_any (p : Int) (v u : Value) (x y : List Int) (w : World) (hv : IntsV w v x) (hu : IntsV w u y) (hl : x.length = y.length) (hlm : x.length ≤ 1000) (hp : 1 ≤ p) (hp2 : p ≤ 1000) (hx : ∀ z ∈ x, 0 ≤ z ∧ z ≤ 1000) (hy : ∀ z ∈ y, 0 ≤ z ∧ z ≤ 1000) :
    Calls Tryd.prog 195 #[.int .i64 p, v, u] w fun e w' => e = .returned (.int .i64 (dotTo x y x.length % p)) ∧ w = w' := by
  have HV := Lib.hid hv; have HU := Lib.hid hu; have HX := Lib.hid hx; have HY := Lib.hid hy
  have HBD := Lib.hid (dotTo_bd hx hy hl)
  obtain ⟨a, cap, rfl, h1⟩ := hv
  obtain ⟨ua, ucap, rfl, h2⟩ := hu
  clear h1 h2 hx hy
  rw [← hl]
  have HLL := Lib.hid hl
  clear hl
  generalize hlen : x.length = l at *
  have HL := Lib.hid hlen
  clear hlen
  go_enter Tryd.func195, Tryd.ntmps195
  go_wp2
  go_loop [7, 12] (fun s i => ∃ k : Nat, k ≤ l ∧ i = .int .i64 k ∧ s = .int .i64 (dotTo x y k)) (fun _ i => l - (intOf i).toNat)
  case atStart => exact ⟨0, by omega, rfl, rfl⟩
  case round =>
    obtain ⟨k, hk, rfl, rfl⟩ := hrel
    obtain ⟨q0, q1⟩ := HBD.out k hk
    by_cases hlt : k < l
    · have hkx : k < x.length := by rw [HL.out]; exact hlt
      have hky : k < y.length := by rw [← HLL.out]; exact hlt
      obtain ⟨d, rfl, hs, hd, hcell⟩ := HV.out.at hkx
      obtain ⟨d2, rfl, hs2, hd2, hcell2⟩ := HU.out.at hky
      obtain ⟨db, dof, _⟩ := d
      obtain ⟨db2, dof2, _⟩ := d2
      simp only at hs hcell hs2 hcell2
      subst hs hs2
      have b1 := HX.out _ (List.getElem_mem hkx)
      have b2 := HY.out _ (List.getElem_mem hky)
      have hn : dotTo x y (k + 1) = dotTo x y k + x[k] * y[k] := by
        show dotTo x y k + x.getD k 0 * y.getD k 0 = _
        rw [getD_lt hkx, getD_lt hky]
      have HN := Lib.hid hn
      clear hn hd hd2
      generalize x[k] = xk at *
      generalize y[k] = yk at *
      generalize dotTo x y k = s at *
      have b3 := mul_bd2 (A := 1000) (B := 1000) ⟨by omega, b1.2⟩ b2 (by omega) (by omega)
      have b4 := Int.mul_nonneg b1.1 b2.1
      go_wp2
      go_round
      case rel => exact ⟨k + 1, by omega, by go_num, by rw [HN.out]⟩
      case measure => simp [intOf]; omega
    · have hkl : k = l := by omega
      subst hkl
      generalize hs : dotTo x y k = s at *
      have HS := Lib.hid hs
      clear hs
      go_wp2_with (go_at_call 236; refine (mod_all p s hp hp2 (by omega) (by omega) _).mono ?_; rintro e w' ⟨rfl, rfl⟩)
      go_ret
      exact ⟨by rw [HS.out]; rfl, rfl⟩

def zeroB (zs : List Int) : Bool := leadL zs == zs.length
theorem isZero_any (v : Value) (zs : List Int) (w : World) (hv : IntsV w v zs) (hl : zs.length ≤ 1000000) :
    Calls Tryd.prog 228 #[v] w fun e w' => e = .returned (.bool (zeroB zs)) ∧ w = w' := by
  have HLD := Lib.hid (lead_any v zs w hv hl)
  obtain ⟨a, cap, rfl, hx⟩ := hv
  clear hx
  have hz : zeroB zs = ((leadL zs : Int) == (zs.length : Int)) := by
    unfold zeroB
    by_cases h : leadL zs = zs.length
    · rw [h]; simp
    · rw [beq_eq_false_iff_ne.2 h, beq_eq_false_iff_ne.2 (by omega)]
  have HZ := Lib.hid hz
  clear hz
  generalize hbb : zeroB zs = bb at *
  generalize leadL zs = le at *
  generalize zs.length = l at *
  clear hbb
  go_enter Tryd.func228, Tryd.ntmps228
  go_wp2_with (go_at_call 225; refine HLD.out.mono ?_; rintro e w' ⟨rfl, rfl⟩)
  go_ret
  exact ⟨by rw [HZ.out]; rfl, rfl⟩

theorem spLead_any (v : Value) (zs : List Int) (w : World) (hv : IntsV w v zs) (hl : zs.length ≤ 1000000) :
    Calls Tryd.prog 276 #[v] w fun e w' => e = .returned (.int .i64 (leadL zs)) ∧ w = w' := by
  have HV := Lib.hid hv
  obtain ⟨a, cap, rfl, hx⟩ := hv
  clear hx
  generalize hlen : zs.length = l at *
  have HL := Lib.hid hlen
  clear hlen
  generalize hle : leadL zs = le at *
  have HLE := Lib.hid hle
  clear hle
  go_enter Tryd.func276, Tryd.ntmps276
  go_wp2
  go_loop [3] (fun i => ∃ k : Nat, k ≤ l ∧ i = .int .i64 k ∧ ∀ j (h : j < zs.length), j < k → zs[j] = 0) (fun i => l - (intOf i).toNat)
  case atStart => exact ⟨0, by omega, rfl, fun _ _ h => absurd h (by omega)⟩
  case round =>
    obtain ⟨k, hk, rfl, ho⟩ := hrel
    have HO := Lib.hid ho
    clear ho
    by_cases hlt : k < l
    · have hkl : k < zs.length := by rw [HL.out]; exact hlt
      obtain ⟨d, rfl, hs, hd, hcell⟩ := HV.out.at hkl
      obtain ⟨db, dof, _⟩ := d
      simp only at hs hcell
      subst hs
      have HAT := Lib.hid (fun h => leadL_at hkl HO.out h)
      generalize hzk : zs[k] = z at *
      have HK := Lib.hid hzk
      clear hzk hd
      by_cases hz : z = 0
      · subst hz
        go_wp2
        go_round
        case rel => exact ⟨k + 1, by omega, by go_num, fun j h hj => by
          by_cases hjk : j = k
          · subst hjk; exact HK.out
          · exact HO.out j h (by omega)⟩
        case measure => simp [intOf]; omega
      · have hzb : (z == 0) = false := beq_eq_false_iff_ne.2 hz
        have he := HAT.out hz
        rw [HLE.out] at he
        have HE := Lib.hid he
        clear he
        go_wp2
        go_ret
        exact ⟨by rw [HE.out]; rfl, rfl⟩
    · have he := leadL_end fun j h => HO.out j h (by have := HL.out; omega)
      rw [HLE.out, HL.out] at he
      have HE := Lib.hid he
      clear he
      have hkl : k = l := by omega
      subst hkl
      go_wp2
      go_ret
      exact ⟨by rw [HE.out]; rfl, rfl⟩

theorem spDot_q (p : Int) (v u : Value) (x y : List Int) (w : World) (hv : IntsV w v x) (hu : IntsV w u y) (hl : x.length = y.length) (hlm : x.length ≤ 1000) (hp : 1 ≤ p) (hp2 : p ≤ 1000) (hx : ∀ z ∈ x, 0 ≤ z ∧ z ≤ 1000) (hy : ∀ z ∈ y, 0 ≤ z ∧ z ≤ 1000) :
    Calls Tryd.prog 178 #[.int .i64 p, v, u] w fun e w' => e = .returned (.int .i64 (dotTo x y x.length % p)) ∧ ∃ q, w' = w.drewN q := by
  have HV := Lib.hid hv; have HU := Lib.hid hu; have HX := Lib.hid hx; have HY := Lib.hid hy
  obtain ⟨a, cap, rfl, h1⟩ := hv
  obtain ⟨ua, ucap, rfl, h2⟩ := hu
  clear h1 h2 hx hy
  rw [← hl]
  have HLL := Lib.hid hl
  clear hl
  generalize hlen : x.length = l at *
  have HL := Lib.hid hlen
  clear hlen
  go_enter Tryd.func178, Tryd.ntmps178
  go_wp2
  go_loopw [7, 11] (fun s i wr => ∃ k : Nat, k ≤ l ∧ i = .int .i64 k ∧ s = .int .i64 (dotTo x y k % p) ∧ ∃ q, wr = w.drewN q) (fun _ i _ => l - (intOf i).toNat)
  case atStart => exact ⟨0, by omega, rfl, by simp [dotTo], 0, rfl⟩
  case round =>
    obtain ⟨k, hk, rfl, rfl, q0, rfl⟩ := hrel
    by_cases hlt : k < l
    · have hkx : k < x.length := by rw [HL.out]; exact hlt
      have hky : k < y.length := by rw [← HLL.out]; exact hlt
      obtain ⟨d, rfl, hs, hd, hcell⟩ := HV.out.at hkx
      obtain ⟨d2, rfl, hs2, hd2, hcell2⟩ := HU.out.at hky
      obtain ⟨db, dof, _⟩ := d
      obtain ⟨db2, dof2, _⟩ := d2
      simp only at hs hcell hs2 hcell2
      subst hs hs2
      have b1 := HX.out _ (List.getElem_mem hkx)
      have b2 := HY.out _ (List.getElem_mem hky)
      have hn : dotTo x y (k + 1) % p = (dotTo x y k % p + x[k] * y[k]) % p := by
        show (dotTo x y k + x.getD k 0 * y.getD k 0) % p = _
        rw [getD_lt hkx, getD_lt hky, Int.emod_add_emod]
      have HN := Lib.hid hn
      have m0 := Int.emod_nonneg (dotTo x y k) (show p ≠ 0 by omega)
      have m1 := Int.emod_lt_of_pos (dotTo x y k) (show 0 < p by omega)
      clear hn hd hd2
      generalize x[k] = xk at *
      generalize y[k] = yk at *
      generalize dotTo x y k % p = s at *
      have b3 := mul_bd2 (A := 1000) (B := 1000) ⟨by omega, b1.2⟩ b2 (by omega) (by omega)
      have b4 := Int.mul_nonneg b1.1 b2.1
      go_wp2
      go_quiet (fail)
      go_wp2
      go_roundw
      case rel => exact ⟨k + 1, by omega, by go_num, by rw [HN.out], ⟨_, rfl⟩⟩
      case measure => simp [intOf]; omega
    · have hkl : k = l := by omega
      subst hkl
      go_wp2
      go_ret
      exact ⟨rfl, _, rfl⟩

end Go.Proofs.YtpeaeminjbjlnaaDoor

/-
  Sums, meets and orthogonals of reduced lists. Plain mathematics. Conditions: the number of elements is a field of the program's kind; rows of one length with elements.
-/
namespace Go.Proofs.YtpeaeminjbjlnaaDoor
open La
set_option linter.unusedVariables false
section span
variable {p : Nat} [NeZero p]

def sumL (p : Int) (n : Nat) (A C : List (List Int)) : List (List Int) := reducedL p n (A ++ C)
/-- the rows that meet in A and in C, before they are reduced -/
def meetRows (p : Int) (n : Nat) (A C : List (List Int)) : List (List Int) := (kernelL p n (A ++ C)).map fun x => combTo p (x.take A.length) A n A.length
def meetL (p : Int) (n : Nat) (A C : List (List Int)) : List (List Int) := reducedL p n (meetRows p n A C)
omit [NeZero p] in
theorem app_ok {n : Nat} {A C : List (List Int)} (hA : RowsOk p n A) (hC : RowsOk p n C) : RowsOk p n (A ++ C) := by
  intro r hr
  rcases List.mem_append.1 hr with h | h
  · exact hA r h
  · exact hC r h
theorem mx_left {A C : List (List Int)} {i : Nat} (hi : i < A.length) : mx p (A ++ C) i = mx p A i := by
  unfold mx
  rw [List.getD_eq_getElem?_getD, List.getElem?_append_left hi, ← List.getD_eq_getElem?_getD]
theorem mx_right {A C : List (List Int)} (i : Nat) : mx p (A ++ C) (A.length + i) = mx p C i := by
  unfold mx
  rw [List.getD_eq_getElem?_getD, List.getElem?_append_right (by omega), show A.length + i - A.length = i by omega, ← List.getD_eq_getElem?_getD]
theorem comb_app {A C : List (List Int)} (x : Vec p) (j : Nat) : comb (A ++ C).length x (mx p (A ++ C)) j = comb A.length x (mx p A) j + comb C.length (fun i => x (A.length + i)) (mx p C) j := by
  unfold comb
  rw [List.length_append, S_append]
  congr 1
  · exact S_congr fun i hi => by rw [mx_left hi]
  · exact S_congr fun i _ => by rw [mx_right]
theorem span_left {n : Nat} {A C : List (List Int)} {v : Vec p} (h : Spn p n A v) : Spn p n (A ++ C) v := by
  refine In.trans h fun i hi => ?_
  rw [← mx_left (C := C) hi]
  exact In.row (by rw [List.length_append]; omega)
theorem span_right {n : Nat} {A C : List (List Int)} {v : Vec p} (h : Spn p n C v) : Spn p n (A ++ C) v := by
  refine In.trans h fun i hi => ?_
  rw [← mx_right (A := A) i]
  exact In.row (by rw [List.length_append]; omega)
theorem span_app {n : Nat} {A C : List (List Int)} {v : Vec p} : Spn p n (A ++ C) v ↔ ∃ a c : Vec p, Spn p n A a ∧ Spn p n C c ∧ ∀ j, j < n → v j = a j + c j := by
  constructor
  · rintro ⟨x, hx⟩
    refine ⟨comb A.length x (mx p A), comb C.length (fun i => x (A.length + i)) (mx p C), ⟨x, fun _ _ => rfl⟩, ⟨fun i => x (A.length + i), fun _ _ => rfl⟩, fun j hj => ?_⟩
    rw [hx j hj, comb_app]
  · rintro ⟨a, c, ha, hc, h⟩
    exact ((span_left ha).add (span_right hc)).congr h
theorem perp_app {n : Nat} {A C : List (List Int)} {w : Vec p} : Perp p n (A ++ C) w ↔ Perp p n A w ∧ Perp p n C w := by
  constructor
  · intro h
    refine ⟨fun i hi => ?_, fun i hi => ?_⟩
    · rw [← mx_left (C := C) hi]
      exact h i (by rw [List.length_append]; omega)
    · rw [← mx_right (A := A) i]
      exact h (A.length + i) (by rw [List.length_append]; omega)
  · rintro ⟨h1, h2⟩ i hi
    rw [List.length_append] at hi
    rcases Nat.lt_or_ge i A.length with h | h
    · rw [mx_left h]; exact h1 i h
    · obtain ⟨k, rfl⟩ : ∃ k, i = A.length + k := ⟨i - A.length, by omega⟩
      rw [mx_right]
      exact h2 k (by omega)
theorem vec_take {x : List Int} {k i : Nat} (hi : i < k) : vec p (x.take k) i = vec p x i := by
  unfold vec
  simp only [List.getD_eq_getElem?_getD]
  rw [List.getElem?_take, if_pos hi]
theorem meetRows_ok {n : Nat} {A C : List (List Int)} (hp : 1 < p) (hA : RowsOk p n A) : RowsOk p n (meetRows p n A C) := by
  intro r hr
  obtain ⟨x, _, rfl⟩ := List.mem_map.1 hr
  exact combTo_ok hp hA _ (Nat.le_refl _)
theorem mx_meetRows {n : Nat} {A C : List (List Int)} (hp : 1 < p) (hA : RowsOk p n A) {i j : Nat} (hi : i < (kernelL p n (A ++ C)).length) (hj : j < n) : mx p (meetRows p n A C) i j = comb A.length (mx p (kernelL p n (A ++ C)) i) (mx p A) j := by
  rw [mx_at (by unfold meetRows; rw [List.length_map]; exact hi), mx_at hi]
  simp only [meetRows, List.getElem_map]
  rw [vec_combTo hp hA (Nat.le_refl _) hj]
  exact S_congr fun k hk => by rw [vec_take hk]
theorem comb_neg (m : Nat) (x : Vec p) (A : Mx p) (j : Nat) : comb m (fun i => - x i) A j = - comb m x A j := by
  unfold comb
  have e : ∀ i, (- x i) * A i j = (-1) * (x i * A i j) := fun i => by grind
  simp only [e]
  rw [S_mul]
  grind
/-- The meet's span. -/
theorem meetRows_span {n : Nat} {A C : List (List Int)} (hf : fldN p = true) (hA : RowsOk p n A) (hC : RowsOk p n C) (v : Vec p) : Spn p n (meetRows p n A C) v ↔ Spn p n A v ∧ Spn p n C v := by
  have hk := kernelL_span hf (app_ok hA hC)
  have hlen : (meetRows p n A C).length = (kernelL p n (A ++ C)).length := by simp [meetRows]
  constructor
  · intro h
    refine ⟨In.trans h fun i hi => ?_, In.trans h fun i hi => ?_⟩
    · rw [hlen] at hi
      exact ⟨mx p (kernelL p n (A ++ C)) i, fun j hj => mx_meetRows (lt_p hf) hA hi hj⟩
    · rw [hlen] at hi
      have h1 := (hk (mx p (kernelL p n (A ++ C)) i)).1 (In.row hi)
      refine ⟨fun k => - mx p (kernelL p n (A ++ C)) i (A.length + k), fun j hj => ?_⟩
      have h2 := h1 j hj
      rw [comb_app] at h2
      rw [mx_meetRows (lt_p hf) hA hi hj, comb_neg]
      grind
  · rintro ⟨⟨a, ha⟩, ⟨c, hc⟩⟩
    let x : Vec p := fun i => if i < A.length then a i else - c (i - A.length)
    have hx : Spn p (A ++ C).length (kernelL p n (A ++ C)) x := by
      rw [hk]
      intro j hj
      rw [comb_app]
      have e1 : comb A.length x (mx p A) j = v j := by
        rw [ha j hj]
        exact S_congr fun i hi => by simp only [x, hi, if_true]
      have e2 : comb C.length (fun i => x (A.length + i)) (mx p C) j = - v j := by
        rw [hc j hj, ← comb_neg]
        exact S_congr fun i hi => by simp only [x, show ¬ A.length + i < A.length by omega, if_false, show A.length + i - A.length = i by omega]
      rw [e1, e2]
      grind
    obtain ⟨y, hy⟩ := hx
    refine ⟨y, fun j hj => ?_⟩
    rw [hlen]
    have e : comb (kernelL p n (A ++ C)).length y (mx p (meetRows p n A C)) j = comb (kernelL p n (A ++ C)).length y (fun i => comb A.length (mx p (kernelL p n (A ++ C)) i) (mx p A)) j :=
      S_congr fun i hi => by rw [mx_meetRows (lt_p hf) hA hi hj]
    rw [e, ← comb_comb, ha j hj]
    refine S_congr fun i hi => ?_
    show _ = comb (kernelL p n (A ++ C)).length y (mx p (kernelL p n (A ++ C))) i * _
    rw [← hy i (by rw [List.length_append]; omega)]
    simp only [x, hi, if_true]
theorem meet_span {n : Nat} {A C : List (List Int)} (hf : fldN p = true) (hA : RowsOk p n A) (hC : RowsOk p n C) (v : Vec p) : Spn p n (meetL p n A C) v ↔ Spn p n A v ∧ Spn p n C v := by
  unfold meetL
  rw [reducedL_span hf (meetRows_ok (lt_p hf) hA), meetRows_span hf hA hC]
theorem meet_red {n : Nat} {A C : List (List Int)} (hf : fldN p = true) (hA : RowsOk p n A) : IsRed p n (meetL p n A C) := reducedL_red hf (meetRows_ok (lt_p hf) hA)
theorem sum_red {n : Nat} {A C : List (List Int)} (hf : fldN p = true) (hA : RowsOk p n A) (hC : RowsOk p n C) : IsRed p n (sumL p n A C) := reducedL_red hf (app_ok hA hC)
/-- Dimensions add up. -/
theorem dims {n : Nat} {A C : List (List Int)} (hf : fldN p = true) (hA : IsRed p n A) (hC : IsRed p n C) : (sumL p n A C).length + (meetL p n A C).length = A.length + C.length := by
  have hok := app_ok hA.1 hC.1
  have h1 : (sumL p n A C).length = rankL p n (A ++ C) := reducedL_len hf hok
  have h2 := kernelL_len hf hok
  have h3 := rank_le hf hok
  have hlen : (meetRows p n A C).length = (kernelL p n (A ++ C)).length := by simp [meetRows]
  have hind : Indep (kernelL p n (A ++ C)).length n (mx p (meetRows p n A C)) := by
    intro y hy
    have hk := red_indep (kernelL_red hf hok)
    have hsp := kernelL_span hf hok
    generalize hK : kernelL p n (A ++ C) = K at *
    have e1 : ∀ j, j < n → comb A.length (comb K.length y (mx p K)) (mx p A) j = 0 := by
      intro j hj
      rw [← hy j hj, comb_comb]
      refine S_congr fun i hi => ?_
      rw [mx_meetRows (lt_p hf) hA.1 (by rw [hK]; exact hi) hj, hK]
    have a0 := red_indep hA _ e1
    have hin : Spn p (A ++ C).length K (comb K.length y (mx p K)) := ⟨y, fun _ _ => rfl⟩
    have e2 : ∀ j, j < n → comb C.length (fun i => comb K.length y (mx p K) (A.length + i)) (mx p C) j = 0 := by
      intro j hj
      have h4 := (hsp _).1 hin j hj
      rw [comb_app, e1 j hj] at h4
      grind
    have c0 := red_indep hC _ e2
    refine hk y fun j hj => ?_
    rw [List.length_append] at hj
    rcases Nat.lt_or_ge j A.length with h | h
    · exact a0 j h
    · obtain ⟨k, rfl⟩ : ∃ k, j = A.length + k := ⟨j - A.length, by omega⟩
      exact c0 k (by omega)
  have h5 : (meetL p n A C).length = (kernelL p n (A ++ C)).length := by
    unfold meetL
    rw [reducedL_len hf (meetRows_ok (lt_p hf) hA.1), indep_rank hf (meetRows_ok (lt_p hf) hA.1) hlen hind]
  rw [h1, h5, h2]
  rw [List.length_append] at *
  omega
/-- Orthogonals exchange sums and meets; twice orthogonal is the list itself. -/
theorem orth_orth {n : Nat} {A : List (List Int)} (hf : fldN p = true) (hA : IsRed p n A) : orthL p (orthL p A n) n = A := by
  have ho := orth_red hf hA.1
  refine red_unique hf (orth_red hf ho.1) hA fun v => ?_
  rw [orth_span hf ho.1, sep_exists hf hA]
  unfold Perp
  constructor
  · intro h w hw
    obtain ⟨i, hi, rfl⟩ := List.getElem_of_mem hw
    rw [← h i hi]
    exact S_congr fun j _ => by rw [mx_at hi]; grind
  · intro h i hi
    rw [← h _ (List.getElem_mem hi)]
    exact S_congr fun j _ => by rw [mx_at hi]; grind
theorem orth_meet {n : Nat} {A C : List (List Int)} (hf : fldN p = true) (hA : RowsOk p n A) (hC : RowsOk p n C) : meetL p n (orthL p A n) (orthL p C n) = orthL p (sumL p n A C) n := by
  have h1 := orth_red hf hA
  have h2 := orth_red hf hC
  have hs := sum_red hf hA hC
  have hsp := reducedL_span hf (app_ok hA hC)
  refine red_unique hf (meet_red hf h1.1) (orth_red hf hs.1) fun v => ?_
  rw [meet_span hf h1.1 h2.1, orth_span hf hA, orth_span hf hC, orth_span hf hs.1, ← perp_app]
  exact ⟨fun h => perp_span (fun v hv => (hsp v).1 hv) h, fun h => perp_span (fun v hv => (hsp v).2 hv) h⟩
end span
end Go.Proofs.YtpeaeminjbjlnaaDoor

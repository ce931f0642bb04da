/-
  The walks of chapter 1's functions, of the program and of the reference. Conditions: the table of small primes holds what its text lays; arguments within some bounds.
-/
import Derived.Test.YtpeaeminjbjlnaaDoorMk00
namespace Go.Proofs.YtpeaeminjbjlnaaDoor
open Go.RowKit
set_option linter.unusedVariables false

/-- The table of small primes. -/
structure Tab (w : World) : Prop where
  c0 : w.cell? ⟨0, 0, none⟩ = some (.int .i64 2)
  c1 : w.cell? ⟨0, 1, none⟩ = some (.int .i64 3)
  c2 : w.cell? ⟨0, 2, none⟩ = some (.int .i64 5)
  c3 : w.cell? ⟨0, 3, none⟩ = some (.int .i64 7)
  lt : 0 < w.heap.size
theorem Tab.carry {w w' : World} (h : Tab w) (hw : ∀ k, k < w.heap.size → w'.heap[k]? = w.heap[k]?) (hs : w.heap.size ≤ w'.heap.size) : Tab w' := by
  have e := hw 0 h.lt
  exact ⟨(World.cell?_of_block (a := ⟨0, 0, none⟩) e).trans h.c0, (World.cell?_of_block (a := ⟨0, 1, none⟩) e).trans h.c1, (World.cell?_of_block (a := ⟨0, 2, none⟩) e).trans h.c2, (World.cell?_of_block (a := ⟨0, 3, none⟩) e).trans h.c3, Nat.lt_of_lt_of_le h.lt hs⟩
theorem Tab.grown {w w' : World} (h : Tab w) (hg : w.grownBy w' none) : Tab w' := h.carry (fun k hk => hg.block k hk (by simp)) hg.size
theorem Tab.alloc {w : World} (h : Tab w) (o : Obj) : Tab (w.alloc o) := h.carry (fun k hk => alloc_heap_old w o k hk) (by simp)

theorem bit_any (b : Bool) (w : World) : Calls Tryd.prog 250 #[.bool b] w fun e w' => e = .returned (.int .i64 (if b then 1 else 0)) ∧ w = w' := by
  cases b
  all_goals
    go_enter Tryd.func250, Tryd.ntmps250
    go_wp2
    go_ret
    exact ⟨rfl, rfl⟩

theorem isElement_any (p a : Int) (w : World) : Calls Tryd.prog 114 #[.int .i64 p, .int .i64 a] w fun e w' => e = .returned (.bool (elB p a)) ∧ w = w' := by
  by_cases h0 : 0 ≤ a <;> by_cases h1 : a < p
  all_goals
    go_enter Tryd.func114, Tryd.ntmps114
    go_wp2
    go_ret
    exact ⟨by simp [elB, h0, h1], rfl⟩

theorem l1In_any (n lo hi : Int) (w : World) : Calls Tryd.prog 137 #[.int .i64 n, .int .i64 lo, .int .i64 hi] w fun e w' => e = .returned (.bool (decide (lo ≤ n ∧ n ≤ hi))) ∧ w = w' := by
  by_cases h0 : lo ≤ n <;> by_cases h1 : n ≤ hi
  all_goals
    go_enter Tryd.func137, Tryd.ntmps137
    go_wp2
    go_ret
    exact ⟨by simp [h0, h1], rfl⟩

theorem mod_any (p a : Int) (hp : 1 ≤ p) (hp2 : p ≤ 1000) (h0 : 0 ≤ a) (ha : a ≤ 1000000000) (w : World) : Calls Tryd.prog 236 #[.int .i64 p, .int .i64 a] w fun e w' => e = .returned (.int .i64 (a % p)) ∧ w = w' := by
  have h1 := Int.emod_nonneg a (show p ≠ 0 by omega)
  have h2 := Int.emod_lt_of_pos a (show 0 < p by omega)
  go_enter Tryd.func236, Tryd.ntmps236
  go_wp2
  go_ret
  exact ⟨rfl, rfl⟩

/-! ### isField -/
def okTo (p : Int) : Nat → Prop
  | 0 => True
  | 1 => p % 2 ≠ 0 ∨ p = 2
  | 2 => (p % 2 ≠ 0 ∨ p = 2) ∧ (p % 3 ≠ 0 ∨ p = 3)
  | 3 => (p % 2 ≠ 0 ∨ p = 2) ∧ (p % 3 ≠ 0 ∨ p = 3) ∧ (p % 5 ≠ 0 ∨ p = 5)
  | _ => (p % 2 ≠ 0 ∨ p = 2) ∧ (p % 3 ≠ 0 ∨ p = 3) ∧ (p % 5 ≠ 0 ∨ p = 5) ∧ (p % 7 ≠ 0 ∨ p = 7)

theorem isField_in (p : Int) (w : World) (ht : Tab w) (h0 : 2 ≤ p) (h1 : p ≤ 97) : Calls Tryd.prog 204 #[.int .i64 p] w fun e w' => e = .returned (.bool (fldB p)) ∧ w = w' := by
  obtain ⟨c0, c1, c2, c3, _⟩ := ht
  have i0 : ∀ w, (Instr.index 231 (.agg #[.int .i64 2, .int .i64 3, .int .i64 5, .int .i64 7]) (.int .i64 0)).run Tryd.prog w = .ok (.int .i64 2) w := fun _ => by kernel_rfl
  have i1 : ∀ w, (Instr.index 231 (.agg #[.int .i64 2, .int .i64 3, .int .i64 5, .int .i64 7]) (.int .i64 1)).run Tryd.prog w = .ok (.int .i64 3) w := fun _ => by kernel_rfl
  have i2 : ∀ w, (Instr.index 231 (.agg #[.int .i64 2, .int .i64 3, .int .i64 5, .int .i64 7]) (.int .i64 2)).run Tryd.prog w = .ok (.int .i64 5) w := fun _ => by kernel_rfl
  have i3 : ∀ w, (Instr.index 231 (.agg #[.int .i64 2, .int .i64 3, .int .i64 5, .int .i64 7]) (.int .i64 3)).run Tryd.prog w = .ok (.int .i64 7) w := fun _ => by kernel_rfl
  have m2 := Int.emod_nonneg p (show (2 : Int) ≠ 0 by omega)
  have m3 := Int.emod_nonneg p (show (3 : Int) ≠ 0 by omega)
  have m5 := Int.emod_nonneg p (show (5 : Int) ≠ 0 by omega)
  have m7 := Int.emod_nonneg p (show (7 : Int) ≠ 0 by omega)
  go_enter Tryd.func204, Tryd.ntmps204
  go_wp2
  go_loop [12] (fun i => ∃ k : Nat, k ≤ 4 ∧ i = .int .i64 k ∧ okTo p k) (fun i => 4 - (intOf i).toNat)
  case atStart => exact ⟨0, by omega, rfl, trivial⟩
  case round =>
    obtain ⟨k, hk, rfl, ho⟩ := hrel
    have HO := Lib.hid ho
    clear ho
    match k, hk with
    | 0, _ =>
      by_cases hd : p % 2 = 0
      · by_cases he : p = 2
        · obtain rfl := he
          go_wp2
          go_round
          case rel => exact ⟨1, by omega, by go_num, Or.inr rfl⟩
          case measure => simp [intOf]
        · have hdb : (p % 2 == 0) = true := by simp [hd]
          have heb : (p != 2) = true := by simp [he]
          have hfin : fldB p = false := by simp [fldB, hd, he]
          clear hd
          go_wp2
          go_ret
          exact ⟨by simp, rfl⟩
      · have hdb : (p % 2 == 0) = false := by simp [hd]
        have HD := Lib.hid hd
        clear hd
        go_wp2
        go_round
        case rel => exact ⟨1, by omega, by go_num, Or.inl HD.out⟩
        case measure => simp [intOf]
    | 1, _ =>
      by_cases hd : p % 3 = 0
      · by_cases he : p = 3
        · obtain rfl := he
          go_wp2
          go_round
          case rel => exact ⟨2, by omega, by go_num, HO.out, Or.inr rfl⟩
          case measure => simp [intOf]
        · have hdb : (p % 3 == 0) = true := by simp [hd]
          have heb : (p != 3) = true := by simp [he]
          have hfin : fldB p = false := by simp [fldB, hd, he]
          clear hd
          go_wp2
          go_ret
          exact ⟨by simp, rfl⟩
      · have hdb : (p % 3 == 0) = false := by simp [hd]
        have HD := Lib.hid hd
        clear hd
        go_wp2
        go_round
        case rel => exact ⟨2, by omega, by go_num, HO.out, Or.inl HD.out⟩
        case measure => simp [intOf]
    | 2, _ =>
      by_cases hd : p % 5 = 0
      · by_cases he : p = 5
        · obtain rfl := he
          go_wp2
          go_round
          case rel => exact ⟨3, by omega, by go_num, HO.out.1, HO.out.2, Or.inr rfl⟩
          case measure => simp [intOf]
        · have hdb : (p % 5 == 0) = true := by simp [hd]
          have heb : (p != 5) = true := by simp [he]
          have hfin : fldB p = false := by simp [fldB, hd, he]
          clear hd
          go_wp2
          go_ret
          exact ⟨by simp, rfl⟩
      · have hdb : (p % 5 == 0) = false := by simp [hd]
        have HD := Lib.hid hd
        clear hd
        go_wp2
        go_round
        case rel => exact ⟨3, by omega, by go_num, HO.out.1, HO.out.2, Or.inl HD.out⟩
        case measure => simp [intOf]
    | 3, _ =>
      by_cases hd : p % 7 = 0
      · by_cases he : p = 7
        · obtain rfl := he
          go_wp2
          go_round
          case rel => exact ⟨4, by omega, by go_num, HO.out.1, HO.out.2.1, HO.out.2.2, Or.inr rfl⟩
          case measure => simp [intOf]
        · have hdb : (p % 7 == 0) = true := by simp [hd]
          have heb : (p != 7) = true := by simp [he]
          have hfin : fldB p = false := by simp [fldB, hd, he]
          clear hd
          go_wp2
          go_ret
          exact ⟨by simp, rfl⟩
      · have hdb : (p % 7 == 0) = false := by simp [hd]
        have HD := Lib.hid hd
        clear hd
        go_wp2
        go_round
        case rel => exact ⟨4, by omega, by go_num, HO.out.1, HO.out.2.1, HO.out.2.2, Or.inl HD.out⟩
        case measure => simp [intOf]
    | 4, _ =>
      have hfin : fldB p = true := fldB_iff.2 ⟨h0, h1, HO.out⟩
      go_wp2
      go_ret
      exact ⟨by simp, rfl⟩

theorem isField_any (p : Int) (w : World) (ht : Tab w) : Calls Tryd.prog 204 #[.int .i64 p] w fun e w' => e = .returned (.bool (fldB p)) ∧ w = w' := by
  by_cases h2 : p < 2
  · have hf : fldB p = false := by simp [fldB]; omega
    have HF := Lib.hid hf
    clear hf
    clear ht
    go_enter Tryd.func204, Tryd.ntmps204
    go_wp2
    go_ret
    exact ⟨by rw [HF.out]; rfl, rfl⟩
  · by_cases h : 97 < p
    · have hf : fldB p = false := by simp [fldB]; omega
      have HF := Lib.hid hf
      clear hf
      clear ht
      go_enter Tryd.func204, Tryd.ntmps204
      go_wp2
      go_ret
      exact ⟨by rw [HF.out]; rfl, rfl⟩
    · exact isField_in p w ht (by omega) (by omega)

end Go.Proofs.YtpeaeminjbjlnaaDoor

/-
  Linear algebra over a field of p elements, on functions: sums, combinations, spans, reduced lists and their uniqueness, elimination. Plain mathematics: no program in sight. Conditions: every element other than 0 has an inverse (InvOk), where it is asked.
-/
namespace Go.Proofs.YtpeaeminjbjlnaaDoor.La
set_option linter.unusedVariables false
variable {p : Nat} [NeZero p]

abbrev Vec (p : Nat) := Nat → Fin p
abbrev Mx (p : Nat) := Nat → Nat → Fin p

theorem f0m (x : Fin p) : 0 * x = 0 := by grind
theorem fm0 (x : Fin p) : x * 0 = 0 := by grind
theorem f1m (x : Fin p) : 1 * x = x := by grind
theorem fm1 (x : Fin p) : x * 1 = x := by grind
theorem fa0 (x : Fin p) : x + 0 = x := by grind
theorem f0a (x : Fin p) : 0 + x = x := by grind

/-! ### sums -/
def S : Nat → (Nat → Fin p) → Fin p
  | 0, _ => 0
  | n + 1, f => S n f + f n
theorem S_congr {n : Nat} {f g : Nat → Fin p} (h : ∀ i, i < n → f i = g i) : S n f = S n g := by
  induction n with
  | zero => rfl
  | succ n ih => simp only [S]; rw [ih (fun i hi => h i (by omega)), h n (by omega)]
theorem S_zero (n : Nat) : S n (fun _ => (0 : Fin p)) = 0 := by
  induction n with
  | zero => rfl
  | succ n ih => simp only [S, ih]; grind
theorem S_zero' {n : Nat} {f : Nat → Fin p} (h : ∀ i, i < n → f i = 0) : S n f = 0 := by
  rw [S_congr h, S_zero]
theorem S_add (n : Nat) (f g : Nat → Fin p) : S n (fun i => f i + g i) = S n f + S n g := by
  induction n with
  | zero => simp [S]
  | succ n ih => simp only [S, ih]; grind
theorem S_sub (n : Nat) (f g : Nat → Fin p) : S n (fun i => f i - g i) = S n f - S n g := by
  induction n with
  | zero => simp [S]
  | succ n ih => simp only [S, ih]; grind
theorem S_mul (n : Nat) (k : Fin p) (f : Nat → Fin p) : S n (fun i => k * f i) = k * S n f := by
  induction n with
  | zero => simp only [S]; grind
  | succ n ih => simp only [S, ih]; grind
theorem S_mulr (n : Nat) (k : Fin p) (f : Nat → Fin p) : S n (fun i => f i * k) = S n f * k := by
  induction n with
  | zero => simp only [S]; grind
  | succ n ih => simp only [S, ih]; grind
theorem S_comm (m n : Nat) (f : Nat → Nat → Fin p) : S m (fun i => S n (fun j => f i j)) = S n (fun j => S m (fun i => f i j)) := by
  induction m with
  | zero => exact (S_zero n).symm
  | succ m ih => simp only [S, ih, S_add]
/-- A sum with one term alone. -/
theorem S_one {n k : Nat} (hk : k < n) {f : Nat → Fin p} (h : ∀ i, i < n → i ≠ k → f i = 0) : S n f = f k := by
  induction n with
  | zero => omega
  | succ n ih =>
    simp only [S]
    by_cases e : k = n
    · subst e
      rw [S_zero' (fun i hi => h i (by omega) (by omega))]
      grind
    · rw [ih (by omega) (fun i hi hn => h i (by omega) hn), h n (by omega) (by omega)]
      grind
theorem S_delta {n k : Nat} (hk : k < n) (c : Fin p) : S n (fun i => if i = k then c else 0) = c := by
  rw [S_one hk (fun i _ hn => by simp [hn])]
  simp
/-- A sum, one term set apart. -/
theorem S_split {n k : Nat} (hk : k < n) (f : Nat → Fin p) : S n f = f k + S n (fun i => if i = k then 0 else f i) := by
  have e : S n f = S n (fun i => (if i = k then f k else 0) + (if i = k then 0 else f i)) := by
    refine S_congr fun i _ => ?_
    by_cases h : i = k
    · subst h; simp
    · simp [h]
  rw [e, S_add, S_one hk (fun i _ hn => by simp [hn])]
  simp
theorem S_append (m n : Nat) (f : Nat → Fin p) : S (m + n) f = S m f + S n (fun i => f (m + i)) := by
  induction n with
  | zero => simp only [S, Nat.add_zero]; grind
  | succ n ih => rw [← Nat.add_assoc]; simp only [S, ih]; grind

/-! ### combinations and spans -/
def comb (m : Nat) (x : Vec p) (A : Mx p) : Vec p := fun j => S m (fun i => x i * A i j)
/-- v is a combination of the rows of A. -/
def In (m n : Nat) (A : Mx p) (v : Vec p) : Prop := ∃ x : Vec p, ∀ j, j < n → v j = comb m x A j
theorem In.congr {m n : Nat} {A : Mx p} {v w : Vec p} (h : In m n A v) (e : ∀ j, j < n → w j = v j) : In m n A w := by
  obtain ⟨x, hx⟩ := h
  exact ⟨x, fun j hj => (e j hj).trans (hx j hj)⟩
theorem In.rows {m n : Nat} {A B : Mx p} {v : Vec p} (h : In m n A v) (e : ∀ i, i < m → ∀ j, j < n → A i j = B i j) : In m n B v := by
  obtain ⟨x, hx⟩ := h
  exact ⟨x, fun j hj => (hx j hj).trans (S_congr fun i hi => by rw [e i hi j hj])⟩
theorem In.zero (m n : Nat) (A : Mx p) : In m n A (fun _ => 0) := ⟨fun _ => 0, fun j _ => (S_zero' fun i _ => by grind).symm⟩
theorem In.add {m n : Nat} {A : Mx p} {v w : Vec p} (h : In m n A v) (k : In m n A w) : In m n A (fun j => v j + w j) := by
  obtain ⟨x, hx⟩ := h
  obtain ⟨y, hy⟩ := k
  refine ⟨fun i => x i + y i, fun j hj => ?_⟩
  dsimp only
  rw [hx j hj, hy j hj]
  unfold comb
  rw [← S_add]
  exact S_congr fun i _ => by grind
theorem In.smul {m n : Nat} {A : Mx p} {v : Vec p} (h : In m n A v) (k : Fin p) : In m n A (fun j => k * v j) := by
  obtain ⟨x, hx⟩ := h
  refine ⟨fun i => k * x i, fun j hj => ?_⟩
  dsimp only
  rw [hx j hj]
  unfold comb
  rw [← S_mul]
  exact S_congr fun i _ => by grind
theorem In.row {m n : Nat} {A : Mx p} {i : Nat} (hi : i < m) : In m n A (A i) := by
  refine ⟨fun k => if k = i then 1 else 0, fun j _ => ?_⟩
  unfold comb
  rw [S_one hi (fun k _ hk => by simp only [hk, if_false]; grind)]
  simp only [if_true]
  grind
theorem In.comb {m m' n : Nat} {A B : Mx p} (h : ∀ i, i < m → In m' n B (A i)) (x : Vec p) : In m' n B (comb m x A) := by
  induction m with
  | zero => exact In.zero _ _ _
  | succ m ih => exact (ih (fun i hi => h i (by omega))).add ((h m (by omega)).smul (x m))
theorem In.trans {m m' n : Nat} {A B : Mx p} {v : Vec p} (hv : In m n A v) (h : ∀ i, i < m → In m' n B (A i)) : In m' n B v := by
  obtain ⟨x, hx⟩ := hv
  exact (In.comb h x).congr hx
/-- What vanishes on each row vanishes on the span. -/
theorem In.dot {m n : Nat} {A : Mx p} {v w : Vec p} (hv : In m n A v) (h : ∀ i, i < m → S n (fun j => A i j * w j) = 0) : S n (fun j => v j * w j) = 0 := by
  obtain ⟨x, hx⟩ := hv
  have e : S n (fun j => v j * w j) = S n (fun j => S m (fun i => x i * (A i j * w j))) := by
    refine S_congr fun j hj => ?_
    rw [hx j hj]
    unfold La.comb
    rw [← S_mulr]
    exact S_congr fun i _ => by grind
  rw [e, S_comm]
  refine S_zero' fun i hi => ?_
  rw [S_mul, h i hi]
  grind
/-- The rows are independent. -/
def Indep (m n : Nat) (A : Mx p) : Prop := ∀ x : Vec p, (∀ j, j < n → comb m x A j = 0) → ∀ i, i < m → x i = 0

/-! ### reduced lists -/
structure RR (r n : Nat) (A : Mx p) (piv : Nat → Nat) : Prop where
  lt : ∀ i, i < r → piv i < n
  inc : ∀ i j, i < j → j < r → piv i < piv j
  one : ∀ i, i < r → A i (piv i) = 1
  col : ∀ i k, i < r → k < r → k ≠ i → A k (piv i) = 0
  left : ∀ i j, i < r → j < piv i → A i j = 0
section rr
variable {r n : Nat} {A : Mx p} {piv : Nat → Nat}
theorem RR.comb_at (h : RR r n A piv) (x : Vec p) {i : Nat} (hi : i < r) : comb r x A (piv i) = x i := by
  unfold comb
  rw [S_one hi (fun k hk hn => by rw [h.col i k hi hk hn]; grind), h.one i hi]
  grind
theorem RR.coords (h : RR r n A piv) {v : Vec p} (hv : In r n A v) : ∀ j, j < n → v j = comb r (fun i => v (piv i)) A j := by
  obtain ⟨x, hx⟩ := hv
  intro j hj
  rw [hx j hj]
  refine S_congr fun i hi => ?_
  dsimp only
  rw [hx (piv i) (h.lt i hi), h.comb_at x hi]
theorem RR.indep (h : RR r n A piv) : Indep r n A := fun x hx i hi => by rw [← h.comb_at x hi]; exact hx _ (h.lt i hi)
/-- The leading index of a vector of the span is a pivot. -/
theorem RR.lead (h : RR r n A piv) {v : Vec p} (hv : In r n A v) {c : Nat} (hc : c < n) (h0 : ∀ j, j < c → v j = 0) (h1 : v c ≠ 0) : ∃ i, i < r ∧ piv i = c := by
  refine Classical.byContradiction fun hno => h1 ?_
  rw [h.coords hv c hc]
  refine S_zero' fun i hi => ?_
  dsimp only
  rcases Nat.lt_or_ge (piv i) c with hlt | hge
  · rw [h0 _ hlt]; grind
  · have : c < piv i := by
      rcases Nat.lt_or_ge c (piv i) with h | h
      · exact h
      · exact absurd ⟨i, hi, by omega⟩ hno
    rw [h.left i c hi this]; grind
end rr

/-- Increasing lists with the same members are equal. -/
theorem inc_eq : ∀ {l l' : List Nat}, l.Pairwise (· < ·) → l'.Pairwise (· < ·) → (∀ x, x ∈ l ↔ x ∈ l') → l = l'
  | [], [], _, _, _ => rfl
  | [], b :: _, _, _, h => absurd ((h b).2 (by simp)) (by simp)
  | a :: _, [], _, _, h => absurd ((h a).1 (by simp)) (by simp)
  | a :: l, b :: l', h1, h2, h => by
    rw [List.pairwise_cons] at h1 h2
    have hab : a = b := by
      have ha := (h a).1 (by simp)
      have hb := (h b).2 (by simp)
      rcases List.mem_cons.1 ha with e | ha
      · exact e
      · rcases List.mem_cons.1 hb with e | hb
        · exact e.symm
        · have := h2.1 a ha
          have := h1.1 b hb
          omega
    subst hab
    refine congrArg _ (inc_eq h1.2 h2.2 fun x => ?_)
    constructor
    · intro hx
      rcases List.mem_cons.1 ((h x).1 (List.mem_cons_of_mem _ hx)) with e | hx'
      · have := h1.1 x hx; omega
      · exact hx'
    · intro hx
      rcases List.mem_cons.1 ((h x).2 (List.mem_cons_of_mem _ hx)) with e | hx'
      · have := h2.1 x hx; omega
      · exact hx'
theorem piv_sorted {r : Nat} {piv : Nat → Nat} (h : ∀ i j, i < j → j < r → piv i < piv j) : ((List.range r).map piv).Pairwise (· < ·) := by
  rw [List.pairwise_map]
  have : (List.range r).Pairwise (fun a b => a < b ∧ b < r) := by
    rw [List.pairwise_iff_getElem]
    intro i j hi hj hij
    simp at hi hj ⊢
    omega
  exact this.imp fun h' => h _ _ h'.1 h'.2

/-- A space has one reduced list. -/
theorem RR.unique {r r' n : Nat} {A B : Mx p} {piv piv' : Nat → Nat} (h : RR r n A piv) (h' : RR r' n B piv') (h10 : (1 : Fin p) ≠ 0)
    (hs : ∀ v, In r n A v ↔ In r' n B v) : r = r' ∧ (∀ i, i < r → piv i = piv' i) ∧ ∀ i, i < r → ∀ j, j < n → A i j = B i j := by
  have key : (List.range r).map piv = (List.range r').map piv' := by
    refine inc_eq (piv_sorted h.inc) (piv_sorted h'.inc) fun x => ?_
    simp only [List.mem_map, List.mem_range]
    constructor
    · rintro ⟨i, hi, rfl⟩
      exact h'.lead ((hs _).1 (In.row hi)) (h.lt i hi) (fun j hj => h.left i j hi hj) (by rw [h.one i hi]; exact h10)
    · rintro ⟨i, hi, rfl⟩
      exact h.lead ((hs _).2 (In.row hi)) (h'.lt i hi) (fun j hj => h'.left i j hi hj) (by rw [h'.one i hi]; exact h10)
  have hr : r = r' := by simpa using congrArg List.length key
  subst hr
  have hp : ∀ i, i < r → piv i = piv' i := by
    intro i hi
    have := congrArg (fun l => l[i]?) key
    simpa [hi] using this
  refine ⟨rfl, hp, fun i hi j hj => ?_⟩
  rw [h'.coords ((hs _).1 (In.row hi)) j hj]
  unfold comb
  rw [S_one hi (fun k hk hn => by dsimp only; rw [← hp k hk, h.col k i hk hi (Ne.symm hn)]; grind)]
  dsimp only
  rw [← hp i hi, h.one i hi]
  grind
end Go.Proofs.YtpeaeminjbjlnaaDoor.La

/-
  Elimination, on functions: the three row operations keep the span, the independence of the transforming rows and what they make; a round clears a column. Plain mathematics. Conditions: as each states.
-/
namespace Go.Proofs.YtpeaeminjbjlnaaDoor.La
set_option linter.unusedVariables false
variable {p : Nat} [NeZero p]

/-- R is made of M by T, whose rows are independent; R and M span the same. -/
structure Inv (m n : Nat) (M R T : Mx p) : Prop where
  made : ∀ i, i < m → ∀ j, j < n → R i j = comb m (T i) M j
  indep : Indep m m T
  span : ∀ v, In m n R v ↔ In m n M v

theorem span_of {m n : Nat} {R R1 : Mx p} (h1 : ∀ i, i < m → In m n R (R1 i)) (h2 : ∀ i, i < m → In m n R1 (R i)) (v : Vec p) : In m n R1 v ↔ In m n R v :=
  ⟨fun h => h.trans h1, fun h => h.trans h2⟩

theorem Inv.start (m n : Nat) (M : Mx p) : Inv m n M M (fun i j => if i = j then 1 else 0) := by
  refine ⟨fun i hi j _ => ?_, fun x hx i hi => ?_, fun v => Iff.rfl⟩
  · unfold comb
    rw [S_one hi (fun k _ hk => by simp [Ne.symm hk, f0m])]
    simp [f1m]
  · have := hx i hi
    unfold comb at this
    rw [S_one hi (fun k _ hk => by simp [hk, fm0])] at this
    simpa [fm1] using this

/-- the transposition of a and b -/
def tw (a b i : Nat) : Nat := if i = a then b else if i = b then a else i
theorem tw_lt {a b i m : Nat} (ha : a < m) (hb : b < m) (hi : i < m) : tw a b i < m := by unfold tw; split <;> (try split) <;> omega
theorem tw_tw (a b i : Nat) : tw a b (tw a b i) = i := by
  unfold tw
  by_cases h1 : i = a
  · by_cases h2 : b = a <;> simp [h1, h2]
  · by_cases h2 : i = b
    · simp [h2]
    · simp [h1, h2]
theorem S_tw {m a b : Nat} (ha : a < m) (hb : b < m) (f : Nat → Fin p) : S m (fun i => f (tw a b i)) = S m f := by
  by_cases hab : a = b
  · subst hab
    refine S_congr fun i _ => ?_
    unfold tw
    by_cases h : i = a
    · simp [h]
    · simp [h]
  · have hr : ∀ g : Nat → Fin p, S m g = g a + (g b + S m (fun i => if i = b then 0 else if i = a then 0 else g i)) := by
      intro g
      rw [S_split ha g, S_split hb (fun i => if i = a then 0 else g i)]
      simp [Ne.symm hab]
    rw [hr, hr f]
    have e : S m (fun i => if i = b then 0 else if i = a then 0 else f (tw a b i)) = S m (fun i => if i = b then 0 else if i = a then 0 else f i) := by
      refine S_congr fun i _ => ?_
      by_cases h1 : i = b
      · simp [h1]
      · by_cases h2 : i = a
        · simp [h2]
        · simp [h1, h2, tw]
    rw [e]
    have e1 : tw a b a = b := by simp [tw]
    have e2 : tw a b b = a := by simp [tw]
    rw [e1, e2]
    grind

theorem Inv.swap {m n a b : Nat} {M R T : Mx p} (h : Inv m n M R T) (ha : a < m) (hb : b < m) : Inv m n M (fun i => R (tw a b i)) (fun i => T (tw a b i)) := by
  refine ⟨fun i hi j hj => h.made _ (tw_lt ha hb hi) j hj, fun x hx i hi => ?_, fun v => ?_⟩
  · have := h.indep (fun i => x (tw a b i)) (fun j hj => by
      have h2 := hx j hj
      unfold comb at h2 ⊢
      rw [← S_tw ha hb] at h2
      rw [← h2]
      exact S_congr fun i _ => by dsimp only; rw [tw_tw]) (tw a b i) (tw_lt ha hb hi)
    simpa [tw_tw] using this
  · rw [← h.span]
    refine span_of (fun i hi => In.row (tw_lt ha hb hi)) (fun i hi => ?_) v
    have := In.row (n := n) (A := fun i => R (tw a b i)) (tw_lt ha hb hi)
    simpa [tw_tw] using this

def scale (a : Nat) (k : Fin p) (A : Mx p) : Mx p := fun i j => if i = a then A i j * k else A i j
theorem Inv.scale {m n a : Nat} {k k' : Fin p} {M R T : Mx p} (h : Inv m n M R T) (ha : a < m) (hk : k * k' = 1) : Inv m n M (scale a k R) (scale a k T) := by
  refine ⟨fun i hi j hj => ?_, fun x hx i hi => ?_, fun v => ?_⟩
  · unfold La.scale
    by_cases e : i = a
    · subst e
      simp only [if_true]
      rw [h.made i hi j hj]
      unfold comb
      rw [← S_mulr]
      refine S_congr fun t _ => ?_
      dsimp only
      grind
    · simp only [e, if_false]
      rw [h.made i hi j hj]
  · have := h.indep (fun i => if i = a then x i * k else x i) (fun j hj => by
      have h2 := hx j hj
      rw [← h2]
      unfold comb La.scale
      refine S_congr fun t _ => ?_
      by_cases e : t = a
      · simp only [e, if_true]; grind
      · simp only [e, if_false]) i hi
    by_cases e : i = a
    · simp only [e, if_true] at this ⊢
      grind
    · simpa only [e, if_false] using this
  · rw [← h.span]
    refine span_of (fun i hi => ?_) (fun i hi => ?_) v
    · by_cases e : i = a
      · subst e
        exact ((In.row hi).smul k).congr fun j _ => by simp only [La.scale, if_true]; grind
      · exact (In.row hi).congr fun j _ => by simp only [La.scale, e, if_false]
    · by_cases e : i = a
      · subst e
        exact ((In.row (A := La.scale i k R) hi).smul k').congr fun j _ => by simp only [La.scale, if_true]; grind
      · exact (In.row (A := La.scale a k R) hi).congr fun j _ => by simp only [La.scale, e, if_false]

def less (i0 r : Nat) (k : Fin p) (A : Mx p) : Mx p := fun i j => if i = i0 then A i j - k * A r j else A i j
theorem Inv.less {m n i0 r : Nat} {k : Fin p} {M R T : Mx p} (h : Inv m n M R T) (hi0 : i0 < m) (hr : r < m) (hne : i0 ≠ r) : Inv m n M (less i0 r k R) (less i0 r k T) := by
  refine ⟨fun i hi j hj => ?_, fun x hx i hi => ?_, fun v => ?_⟩
  · unfold La.less
    by_cases e : i = i0
    · subst e
      simp only [if_true]
      rw [h.made i hi j hj, h.made r hr j hj]
      unfold comb
      rw [← S_mul, ← S_sub]
      refine S_congr fun t _ => ?_
      dsimp only
      grind
    · simp only [e, if_false]
      rw [h.made i hi j hj]
  · have hy := h.indep (fun i => x i + if i = r then - (x i0 * k) else 0) (fun j hj => by
      have h2 := hx j hj
      refine Eq.trans ?_ h2
      have e1 : comb m x (La.less i0 r k T) j = S m (fun i => x i * T i j + if i = i0 then - (x i0 * k * T r j) else 0) := by
        unfold comb La.less
        refine S_congr fun t _ => ?_
        by_cases e : t = i0
        · subst e; simp only [if_true]; grind
        · simp only [e, if_false]; grind
      have e2 : comb m (fun i => x i + if i = r then - (x i0 * k) else 0) T j = S m (fun i => x i * T i j + if i = r then - (x i0 * k * T r j) else 0) := by
        unfold comb
        refine S_congr fun t _ => ?_
        by_cases e : t = r
        · subst e; simp only [if_true]; grind
        · simp only [e, if_false]; grind
      rw [e1, e2, S_add, S_add, S_delta hi0, S_delta hr])
    have h0 : ∀ i, i < m → i ≠ r → x i = 0 := by
      intro i hi hir
      have := hy i hi
      simp only [hir, if_false] at this
      grind
    by_cases e : i = r
    · have h3 := hy r hr
      simp only [if_true] at h3
      rw [h0 i0 hi0 hne] at h3
      rw [e]
      grind
    · exact h0 i hi e
  · rw [← h.span]
    refine span_of (fun i hi => ?_) (fun i hi => ?_) v
    · by_cases e : i = i0
      · subst e
        exact ((In.row hi).add ((In.row hr).smul (-k))).congr fun j _ => by simp only [La.less, if_true]; grind
      · exact (In.row hi).congr fun j _ => by simp only [La.less, e, if_false]
    · by_cases e : i = i0
      · subst e
        exact ((In.row (A := La.less i r k R) hi).add ((In.row (A := La.less i r k R) hr).smul k)).congr fun j _ => by
          simp only [La.less, if_true, Ne.symm hne, if_false]; grind
      · exact (In.row (A := La.less i0 r k R) hi).congr fun j _ => by simp only [La.less, e, if_false]

/-- The rows before t are cleared in the column c by the row r. -/
def clear (t r c : Nat) (R A : Mx p) : Mx p := fun i j => if i < t ∧ i ≠ r then A i j - R i c * A r j else A i j
theorem Inv.congr {m n : Nat} {M R R' T T' : Mx p} (h : Inv m n M R T) (hR : ∀ i, i < m → ∀ j, R i j = R' i j) (hT : ∀ i, i < m → ∀ j, T i j = T' i j) : Inv m n M R' T' := by
  refine ⟨fun i hi j hj => ?_, fun x hx i hi => ?_, fun v => ?_⟩
  · rw [← hR i hi j, h.made i hi j hj]
    exact S_congr fun t ht => by rw [hT i hi t]
  · refine h.indep x (fun j hj => ?_) i hi
    rw [← hx j hj]
    exact S_congr fun t ht => by rw [hT t ht j]
  · rw [← h.span]
    exact ⟨fun h => h.rows fun i hi j _ => (hR i hi j).symm, fun h => h.rows fun i hi j _ => hR i hi j⟩
theorem Inv.clear {m n r c : Nat} {M R T : Mx p} (h : Inv m n M R T) (hr : r < m) : ∀ t, t ≤ m → Inv m n M (clear t r c R R) (clear t r c R T) := by
  intro t
  induction t with
  | zero => intro _; exact h.congr (fun i hi j => by simp [La.clear]) (fun i hi j => by simp [La.clear])
  | succ t ih =>
    intro ht
    have h1 := ih (by omega)
    by_cases e : t = r
    · subst e
      refine h1.congr (fun i hi j => ?_) (fun i hi j => ?_)
      all_goals
        unfold La.clear
        by_cases h2 : i < t
        · simp [h2, show i < t + 1 from by omega]
        · by_cases h3 : i = t
          · simp [h3]
          · simp [h2, show ¬ i < t + 1 from by omega]
    · have h2 := h1.less (k := R t c) (i0 := t) (r := r) (by omega) hr e
      refine h2.congr (fun i hi j => ?_) (fun i hi j => ?_)
      all_goals
        unfold La.less La.clear
        by_cases h3 : i = t
        · subst h3
          simp [e]
        · by_cases h4 : i < t
          · simp [h3, h4, show i < t + 1 from by omega]
          · simp [h3, h4, show ¬ i < t + 1 from by omega]

/-- The columns before c are done: r pivots. -/
structure Elim (m n c r : Nat) (piv : Nat → Nat) (R : Mx p) : Prop where
  rm : r ≤ m
  cn : c ≤ n
  lt : ∀ i, i < r → piv i < c
  inc : ∀ i j, i < j → j < r → piv i < piv j
  one : ∀ i, i < r → R i (piv i) = 1
  col : ∀ i k, i < r → k < m → k ≠ i → R k (piv i) = 0
  left : ∀ i j, i < r → j < piv i → R i j = 0
  low : ∀ k j, r ≤ k → k < m → j < c → R k j = 0
theorem Elim.start (m n : Nat) (piv : Nat → Nat) (R : Mx p) : Elim m n 0 0 piv R :=
  ⟨Nat.zero_le _, Nat.zero_le _, fun _ h => by omega, fun _ _ _ h => by omega, fun _ h => by omega, fun _ _ h => by omega, fun _ _ h => by omega, fun _ _ _ _ h => by omega⟩
theorem Elim.congr {m n c r : Nat} {piv : Nat → Nat} {R R' : Mx p} (h : Elim m n c r piv R) (e : ∀ i, i < m → ∀ j, R i j = R' i j) : Elim m n c r piv R' := by
  have hrm := h.rm
  exact ⟨h.rm, h.cn, h.lt, h.inc, fun i hi => by rw [← e i (by omega)]; exact h.one i hi, fun i k hi hk hn => by rw [← e k hk]; exact h.col i k hi hk hn,
    fun i j hi hj => by rw [← e i (by omega)]; exact h.left i j hi hj, fun k j hk hm hj => by rw [← e k hm]; exact h.low k j hk hm hj⟩
theorem Elim.none {m n c r : Nat} {piv : Nat → Nat} {R : Mx p} (h : Elim m n c r piv R) (hc : c < n) (h0 : ∀ k, r ≤ k → k < m → R k c = 0) : Elim m n (c + 1) r piv R :=
  ⟨h.rm, by omega, fun i hi => by have := h.lt i hi; omega, h.inc, h.one, h.col, h.left, fun k j hk hm hj => by
    by_cases e : j = c
    · subst e; exact h0 k hk hm
    · exact h.low k j hk hm (by omega)⟩
theorem Elim.some {m n c r k : Nat} {y : Fin p} {piv : Nat → Nat} {R : Mx p} (h : Elim m n c r piv R) (hc : c < n) (hk : r ≤ k) (hkm : k < m) (hy : R k c * y = 1) :
    Elim m n (c + 1) (r + 1) (fun i => if i = r then c else piv i) (clear m r c (scale r y fun i => R (tw r k i)) (scale r y fun i => R (tw r k i))) := by
  have hrm : r < m := by omega
  have htw : ∀ i, i < r → tw r k i = i := by
    intro i hi
    unfold tw
    simp [show i ≠ r from by omega, show i ≠ k from by omega]
  have htr : tw r k r = k := by simp [tw]
  have hge : ∀ i, r ≤ i → i < m → r ≤ tw r k i ∧ tw r k i < m := by
    intro i hi him
    unfold tw
    split
    · exact ⟨hk, hkm⟩
    · split
      · exact ⟨Nat.le_refl _, hrm⟩
      · exact ⟨hi, him⟩
  -- the matrix behind the exchange and the division
  generalize hB : (scale r y fun i => R (tw r k i)) = B
  have Brow : ∀ j, B r j = R k j * y := by intro j; rw [← hB]; simp [La.scale, htr]
  have Both : ∀ i j, i ≠ r → B i j = R (tw r k i) j := by intro i j hi; rw [← hB]; simp [La.scale, hi]
  have Brc : B r c = 1 := by rw [Brow]; exact hy
  have Br0 : ∀ j, j < c → B r j = 0 := by intro j hj; rw [Brow, h.low k j hk hkm hj]; grind
  have C : ∀ i j, i < m → clear m r c B B i j = if i = r then B r j else B i j - B i c * B r j := by
    intro i j hi
    unfold La.clear
    by_cases e : i = r
    · simp [e]
    · simp [e, hi]
  refine ⟨by omega, by omega, ?_, ?_, ?_, ?_, ?_, ?_⟩
  · intro i hi
    by_cases e : i = r
    · simp [e]
    · simp only [e, if_false]
      have := h.lt i (by omega)
      omega
  · intro i j hij hj
    by_cases e : j = r
    · have := h.lt i (by omega)
      simp only [e, if_true, show i ≠ r from by omega, if_false]
      omega
    · simp only [e, if_false, show i ≠ r from by omega]
      exact h.inc i j hij (by omega)
  · intro i hi
    rw [C i _ (by omega)]
    by_cases e : i = r
    · subst e; simp only [if_true]; exact Brc
    · simp only [e, if_false]
      have hir : i < r := by omega
      rw [Br0 _ (h.lt i hir), Both i _ e, htw i hir, h.one i hir]
      grind
  · intro i k' hi hk' hne
    rw [C k' _ hk']
    by_cases e : i = r
    · subst e
      simp only [if_true, hne, if_false]
      rw [Brc]
      grind
    · have hir : i < r := by omega
      have hl := h.lt i hir
      simp only [e, if_false]
      by_cases e2 : k' = r
      · simp only [e2, if_true]
        exact Br0 _ hl
      · simp only [e2, if_false]
        rw [Br0 _ hl, Both k' _ e2]
        have hz : R (tw r k k') (piv i) = 0 := by
          rcases Nat.lt_or_ge k' r with h1 | h1
          · rw [htw k' h1]; exact h.col i k' hir hk' hne
          · exact h.low _ _ (hge k' h1 hk').1 (hge k' h1 hk').2 hl
        rw [hz]
        grind
  · intro i j hi hj
    rw [C i j (by omega)]
    by_cases e : i = r
    · simp only [e, if_true] at hj ⊢
      exact Br0 j hj
    · simp only [e, if_false] at hj ⊢
      have hir : i < r := by omega
      have hl := h.lt i hir
      rw [Br0 j (by omega), Both i j e, htw i hir, h.left i j hir hj]
      grind
  · intro k' j hk' hm hj
    rw [C k' j hm]
    have e : k' ≠ r := by omega
    simp only [e, if_false]
    by_cases e2 : j = c
    · subst e2
      rw [Brc]
      grind
    · rw [Br0 j (by omega), Both k' j e, h.low _ j (hge k' (by omega) hm).1 (hge k' (by omega) hm).2 (by omega)]
      grind

/-- Behind the last column the first r rows are a reduced list, and the others vanish. -/
theorem Elim.rr {m n r : Nat} {piv : Nat → Nat} {R : Mx p} (h : Elim m n n r piv R) : RR r n R piv := by
  have := h.rm
  exact ⟨h.lt, h.inc, h.one, fun i k hi hk hn => h.col i k hi (by omega) hn, h.left⟩
theorem In_low {m r n : Nat} {R : Mx p} (hrm : r ≤ m) (h : ∀ k j, r ≤ k → k < m → j < n → R k j = 0) (v : Vec p) : In m n R v ↔ In r n R v := by
  constructor
  · rintro ⟨x, hx⟩
    refine ⟨x, fun j hj => ?_⟩
    rw [hx j hj]
    unfold comb
    rw [show m = r + (m - r) from by omega, S_append, S_zero' (n := m - r) (fun i hi => by rw [h (r + i) j (by omega) (by omega) hj]; grind)]
    grind
  · intro hv
    exact hv.trans fun i hi => In.row (by omega)

end Go.Proofs.YtpeaeminjbjlnaaDoor.La

/-
  Products of polynomials over a field of p elements, as functions of the exponent; what divides what. Plain mathematics. Conditions: none but those that each states.
-/
import Derived.Test.YtpeaeminjbjlnaaDoorMk02
import Derived.Test.YtpeaeminjbjlnaaDoorMk04
import Derived.Test.YtpeaeminjbjlnaaDoorMj01
import Derived.Test.YtpeaeminjbjlnaaDoorMk09
import Derived.Laws.CopyOwn
namespace Go.Proofs.YtpeaeminjbjlnaaDoor
open La
set_option linter.unusedVariables false
section poa
variable {p : Nat} [NeZero p]

theorem S_head (n : Nat) (f : Nat → Fin p) : S (n + 1) f = f 0 + S n (fun i => f (i + 1)) := by
  induction n with
  | zero => simp only [S]; grind
  | succ n ih => rw [S, ih]; simp only [S]; grind
theorem S_rev : ∀ (n : Nat) (f : Nat → Fin p), S (n + 1) f = S (n + 1) (fun i => f (n - i)) := by
  intro n
  induction n with
  | zero => intro f; simp only [S]
  | succ n ih =>
    intro f
    rw [S_head (n + 1) (fun i => f (n + 1 - i))]
    have h : S (n + 1) (fun i => f (n + 1 - (i + 1))) = S (n + 1) f := by
      rw [ih f]
      exact S_congr fun i _ => by rw [Nat.add_sub_add_right]
    rw [h]
    show S (n + 1) f + f (n + 1) = f (n + 1) + S (n + 1) f
    grind
theorem S_tri (F : Nat → Nat → Fin p) : ∀ n, S (n + 1) (fun i => S (i + 1) (fun j => F j (i - j))) = S (n + 1) (fun j => S (n - j + 1) (fun k => F j k)) := by
  intro n
  induction n with
  | zero => simp [S]
  | succ n ih =>
    have l1 : S (n + 1 + 1) (fun i => S (i + 1) (fun j => F j (i - j))) = S (n + 1) (fun i => S (i + 1) (fun j => F j (i - j))) + S (n + 1 + 1) (fun j => F j (n + 1 - j)) := rfl
    have l2 : S (n + 1 + 1) (fun j => F j (n + 1 - j)) = S (n + 1) (fun j => F j (n + 1 - j)) + F (n + 1) 0 := by
      show S (n + 1) _ + F (n + 1) (n + 1 - (n + 1)) = _
      rw [Nat.sub_self]
    have e1 : S (n + 1) (fun j => S (n + 1 - j + 1) (fun k => F j k)) = S (n + 1) (fun j => S (n - j + 1) (fun k => F j k) + F j (n + 1 - j)) := S_congr fun j hj => by
      have e : n + 1 - j = n - j + 1 := by omega
      rw [e]
      rfl
    have e2 : S (n + 1 + 1) (fun j => S (n + 1 - j + 1) (fun k => F j k)) = S (n + 1) (fun j => S (n + 1 - j + 1) (fun k => F j k)) + F (n + 1) 0 := by
      show S (n + 1) _ + S (n + 1 - (n + 1) + 1) (fun k => F (n + 1) k) = _
      rw [Nat.sub_self]
      show _ + (0 + F (n + 1) 0) = _
      rw [f0a]
    rw [l1, ih, l2, e2, e1, S_add]
    generalize S (n + 1) (fun j => S (n - j + 1) (fun k => F j k)) = x
    generalize S (n + 1) (fun j => F j (n + 1 - j)) = y
    generalize F (n + 1) 0 = z
    clear ih l1 l2 e1 e2
    grind

/-- the product -/
def cv (f g : Vec p) : Vec p := fun n => S (n + 1) (fun i => f i * g (n - i))
theorem cv_comm (f g : Vec p) : cv f g = cv g f := by
  funext n
  unfold cv
  rw [S_rev]
  exact S_congr fun i hi => by rw [show n - (n - i) = i by omega]; grind
theorem cv_assoc (f g h : Vec p) : cv (cv f g) h = cv f (cv g h) := by
  funext n
  have e1 : cv (cv f g) h n = S (n + 1) (fun i => S (i + 1) (fun j => (fun j k => f j * g k * h (n - (j + k))) j (i - j))) := by
    unfold cv
    refine S_congr fun i hi => ?_
    rw [← S_mulr]
    exact S_congr fun j hj => by
      dsimp only
      rw [show j + (i - j) = i by omega]
  have e2 : cv f (cv g h) n = S (n + 1) (fun j => S (n - j + 1) (fun k => (fun j k => f j * g k * h (n - (j + k))) j k)) := by
    unfold cv
    refine S_congr fun j hj => ?_
    rw [← S_mul]
    exact S_congr fun k hk => by
      dsimp only
      rw [show n - j - k = n - (j + k) by omega]
      grind
  rw [e1, e2]
  exact S_tri (fun j k => f j * g k * h (n - (j + k))) n
theorem cv_addl (f f' g : Vec p) : cv (fun i => f i + f' i) g = fun n => cv f g n + cv f' g n := by
  funext n
  unfold cv
  rw [← S_add]
  exact S_congr fun i _ => by grind
theorem cv_subl (f f' g : Vec p) : cv (fun i => f i - f' i) g = fun n => cv f g n - cv f' g n := by
  funext n
  unfold cv
  rw [← S_sub]
  exact S_congr fun i _ => by grind
theorem cv_smul (k : Fin p) (f g : Vec p) : cv (fun i => k * f i) g = fun n => k * cv f g n := by
  funext n
  unfold cv
  rw [← S_mul]
  exact S_congr fun i _ => by grind
theorem cv_addr (f g g' : Vec p) : cv f (fun i => g i + g' i) = fun n => cv f g n + cv f g' n := by
  rw [cv_comm, cv_addl, cv_comm g, cv_comm g']
theorem cv_subr (f g g' : Vec p) : cv f (fun i => g i - g' i) = fun n => cv f g n - cv f g' n := by
  rw [cv_comm, cv_subl, cv_comm g, cv_comm g']
theorem cv_zero (g : Vec p) : cv (fun _ => 0) g = fun _ => 0 := by
  funext n
  unfold cv
  exact S_zero' fun i _ => by grind
/-- one power of the variable -/
def mono (k : Nat) (c : Fin p) : Vec p := fun i => if i = k then c else 0
theorem cv_mono (k : Nat) (c : Fin p) (g : Vec p) (n : Nat) : cv (mono k c) g n = if k ≤ n then c * g (n - k) else 0 := by
  unfold cv mono
  split
  · next h =>
    rw [S_one (k := k) (by omega) (fun i _ hi => by rw [if_neg hi]; grind)]
    rw [if_pos rfl]
  · next h => exact S_zero' fun i hi => by rw [if_neg (by omega)]; grind
theorem cv_one (g : Vec p) : cv (mono 0 1) g = g := by
  funext n
  rw [cv_mono, if_pos (by omega)]
  rw [Nat.sub_zero]
  grind

/-- no power from the n-th on -/
def Sz (f : Vec p) (n : Nat) : Prop := ∀ k, n ≤ k → f k = 0
theorem Sz.mono' {f : Vec p} {a b : Nat} (h : Sz f a) (hab : a ≤ b) : Sz f b := fun k hk => h k (by omega)
theorem Sz.mul {f g : Vec p} {a b : Nat} (hf : Sz f a) (hg : Sz g b) : Sz (cv f g) (a + b - 1) := by
  intro n hn
  unfold cv
  refine S_zero' fun i hi => ?_
  rcases Nat.lt_or_ge i a with h | h
  · rw [hg (n - i) (by omega)]; grind
  · rw [hf i h]; grind
theorem Sz.add {f g : Vec p} {a : Nat} (hf : Sz f a) (hg : Sz g a) : Sz (fun i => f i + g i) a := fun k hk => by dsimp only; rw [hf k hk, hg k hk]; grind
theorem Sz.sub {f g : Vec p} {a : Nat} (hf : Sz f a) (hg : Sz g a) : Sz (fun i => f i - g i) a := fun k hk => by dsimp only; rw [hf k hk, hg k hk]; grind
theorem sz_mono (k : Nat) (c : Fin p) : Sz (mono k c) (k + 1) := fun i hi => by
  unfold mono
  rw [if_neg (by omega)]
theorem cv_top {f g : Vec p} {a b : Nat} (hf : Sz f (a + 1)) (hg : Sz g (b + 1)) : cv f g (a + b) = f a * g b := by
  unfold cv
  rw [S_one (k := a) (by omega) (fun i hi hn => ?_)]
  · rw [show a + b - a = b by omega]
  · rcases Nat.lt_or_ge i a with h | h
    · rw [hg (a + b - i) (by omega)]; grind
    · rw [hf i (by omega)]; grind

/-- g divides h -/
def Dv (g h : Vec p) : Prop := ∃ q n, Sz q n ∧ h = cv q g
theorem Dv.refl (g : Vec p) : Dv g g := ⟨mono 0 1, 1, sz_mono 0 1, (cv_one g).symm⟩
theorem Dv.zero (g : Vec p) : Dv g (fun _ => 0) := ⟨fun _ => 0, 0, fun _ _ => rfl, (cv_zero g).symm⟩
theorem Dv.mul {g h k : Vec p} {m : Nat} (hd : Dv g h) (hk : Sz k m) : Dv g (cv k h) := by
  obtain ⟨q, n, hq, rfl⟩ := hd
  exact ⟨cv k q, _, hk.mul hq, (cv_assoc k q g).symm⟩
theorem Dv.add {g h h' : Vec p} (a : Dv g h) (b : Dv g h') : Dv g (fun i => h i + h' i) := by
  obtain ⟨q, n, hq, rfl⟩ := a
  obtain ⟨q', n', hq', rfl⟩ := b
  exact ⟨fun i => q i + q' i, n + n', (hq.mono' (by omega)).add (hq'.mono' (by omega)), (cv_addl q q' g).symm⟩
theorem Dv.sub {g h h' : Vec p} (a : Dv g h) (b : Dv g h') : Dv g (fun i => h i - h' i) := by
  obtain ⟨q, n, hq, rfl⟩ := a
  obtain ⟨q', n', hq', rfl⟩ := b
  exact ⟨fun i => q i - q' i, n + n', (hq.mono' (by omega)).sub (hq'.mono' (by omega)), (cv_subl q q' g).symm⟩
theorem Dv.smul {g h : Vec p} (a : Dv g h) (k : Fin p) : Dv g (fun i => k * h i) := by
  obtain ⟨q, n, hq, rfl⟩ := a
  exact ⟨fun i => k * q i, n, fun i hi => by dsimp only; rw [hq i hi]; grind, (cv_smul k q g).symm⟩
theorem Dv.trans {f g h : Vec p} (a : Dv f g) (b : Dv g h) : Dv f h := by
  obtain ⟨q, n, hq, rfl⟩ := b
  exact a.mul hq
/-- what a divisor divides and is shorter is zero -/
theorem small_zero {q g : Vec p} {n m : Nat} {y : Fin p} (hq : Sz q n) (hg : Sz g (m + 1)) (hy : g m * y = 1) (hs : Sz (cv q g) m) : ∀ k, q k = 0 := by
  have key : ∀ d, d ≤ n → Sz q (n - d) := by
    intro d
    induction d with
    | zero => intro _; exact hq
    | succ d ih =>
      intro hd k hk
      have h := ih (by omega)
      rcases Nat.lt_or_ge k (n - d) with h1 | h1
      · have e : k + 1 = n - d := by omega
        rw [← e] at h
        have t := cv_top h hg
        rw [hs (k + m) (by omega)] at t
        have : q k = q k * g m * y := by grind
        rw [this, ← t]
        grind
      · exact h k h1
  intro k
  exact key n (Nat.le_refl n) k (by omega)
theorem Dv.short {g h : Vec p} {m : Nat} {y : Fin p} (a : Dv g h) (hg : Sz g (m + 1)) (hy : g m * y = 1) (hs : Sz h m) : ∀ k, h k = 0 := by
  obtain ⟨q, n, hq, rfl⟩ := a
  have h := small_zero hq hg hy hs
  intro k
  rw [show q = fun _ => 0 from funext h, cv_zero]
end poa
end Go.Proofs.YtpeaeminjbjlnaaDoor

/-
  Polynomials as lists of coefficients: trimming, sums, products, division, greatest common divisors. Plain mathematics. Conditions: a field of the program's kind, where it is asked.
-/
namespace Go.Proofs.YtpeaeminjbjlnaaDoor
open La
set_option linter.unusedVariables false

theorem len_pos {l : List Int} (h : l ≠ []) : 0 < l.length := Nat.pos_of_ne_zero fun e => h (List.eq_nil_of_length_eq_zero e)
/-- how many of the first n coefficients stay when zeros at the end go -/
def trimTo (f : List Int) : Nat → Nat
  | 0 => 0
  | n + 1 => if f.getD n 0 = 0 then trimTo f n else n + 1
def trimL (f : List Int) : List Int := f.take (trimTo f f.length)
def PolyOk (p : Int) (f : List Int) : Prop := VecOk p f.length f ∧ (f ≠ [] → f.getD (f.length - 1) 0 ≠ 0)
/-- a multiple of a list is added from a place on -/
def addAt (p : Int) (z : List Int) (o : Nat) (k : Int) (y : List Int) : List Int := z.mapIdx fun j a => if o ≤ j ∧ j < o + y.length then (a + k * y.getD (j - o) 0) % p else a
def poAddL (p : Int) (f : List Int) (k : Int) (g : List Int) : List Int := trimL (addAt p (f ++ List.replicate (g.length - f.length) 0) 0 k g)
def mulTo (p : Int) (f g : List Int) : Nat → List Int
  | 0 => List.replicate (f.length + g.length - 1) 0
  | i + 1 => addAt p (mulTo p f g i) i (f.getD i 0) g
def poMulL (p : Int) (f g : List Int) : List Int := if f = [] ∨ g = [] then [] else trimL (mulTo p f g f.length)
/-- the division, after t steps, for a quotient of m coefficients -/
def divTo (p : Int) (f g : List Int) (y : Int) (m : Nat) : Nat → List Int × List Int
  | 0 => (List.replicate m 0, f)
  | t + 1 =>
    let s := divTo p f g y m t
    let k := s.2.getD (m - 1 - t + g.length - 1) 0 * y % p
    (s.1.set (m - 1 - t) k, addAt p s.2 (m - 1 - t) (-k) g)
def lastC (g : List Int) : Int := g.getD (g.length - 1) 0
def divL2 (p : Int) (f g : List Int) : List Int × List Int := divTo p f g (invI p (lastC g)) (f.length - g.length + 1) (f.length - g.length + 1)
def quoL (p : Int) (f g : List Int) : List Int := if f.length < g.length then [] else trimL (divL2 p f g).1
def remL (p : Int) (f g : List Int) : List Int := if f.length < g.length then f else trimL (divL2 p f g).2

theorem trimTo_le (f : List Int) : ∀ n, trimTo f n ≤ n
  | 0 => Nat.le_refl _
  | n + 1 => by
    unfold trimTo
    split
    · exact Nat.le_succ_of_le (trimTo_le f n)
    · exact Nat.le_refl _
theorem trimTo_zero (f : List Int) : ∀ n k, trimTo f n ≤ k → k < n → f.getD k 0 = 0
  | 0, k, _, h => absurd h (by omega)
  | n + 1, k, h1, h2 => by
    unfold trimTo at h1
    split at h1
    · next h =>
      by_cases e : k = n
      · rw [e]; exact h
      · exact trimTo_zero f n k h1 (by omega)
    · omega
theorem trimTo_last (f : List Int) : ∀ n, 0 < trimTo f n → f.getD (trimTo f n - 1) 0 ≠ 0
  | 0, h => absurd h (by simp [trimTo])
  | n + 1, h => by
    unfold trimTo at h ⊢
    split
    · next h0 =>
      rw [if_pos h0] at h
      exact trimTo_last f n h
    · next h0 => simpa using h0
theorem trimL_len (f : List Int) : (trimL f).length = trimTo f f.length := by
  unfold trimL
  rw [List.length_take]
  have := trimTo_le f f.length
  omega
theorem trimL_le (f : List Int) : (trimL f).length ≤ f.length := by rw [trimL_len]; exact trimTo_le _ _
theorem trimL_getD (f : List Int) (k : Nat) : (trimL f).getD k 0 = f.getD k 0 := by
  by_cases h : k < trimTo f f.length
  · unfold trimL
    rw [List.getD_eq_getElem?_getD, List.getElem?_take, if_pos h, List.getD_eq_getElem?_getD]
  · rw [List.getD_eq_getElem?_getD, List.getElem?_eq_none (by rw [trimL_len]; omega)]
    by_cases h2 : k < f.length
    · exact (trimTo_zero f _ k (by omega) h2).symm
    · rw [List.getD_eq_getElem?_getD, List.getElem?_eq_none (by omega)]
theorem trimL_ok {p : Int} {f : List Int} (h : VecOk p f.length f) : PolyOk p (trimL f) := by
  refine ⟨⟨rfl, fun x hx => h.2 x (List.mem_of_mem_take hx)⟩, fun hne => ?_⟩
  rw [trimL_getD, trimL_len]
  refine trimTo_last f _ ?_
  rw [← trimL_len]
  exact Nat.pos_of_ne_zero fun e => hne (List.eq_nil_of_length_eq_zero e)
theorem PolyOk.nil (p : Int) : PolyOk p [] := ⟨⟨rfl, fun x hx => by simp at hx⟩, fun h => absurd rfl h⟩
theorem PolyOk.trim {p : Int} {f : List Int} (h : PolyOk p f) : trimL f = f := by
  have h1 : trimTo f f.length = f.length := by
    rcases List.eq_nil_or_concat f with rfl | ⟨l, x, rfl⟩
    · rfl
    · have h2 := h.2 (by simp)
      simp only [List.concat_eq_append, List.length_append, List.length_cons, List.length_nil, Nat.add_sub_cancel] at h2 ⊢
      unfold trimTo
      rw [if_neg h2]
  unfold trimL
  rw [h1, List.take_length]
theorem addAt_len (p : Int) (z : List Int) (o : Nat) (k : Int) (y : List Int) : (addAt p z o k y).length = z.length := by simp [addAt]
theorem addAt_getD {p : Int} {z : List Int} {o : Nat} {k : Int} {y : List Int} {j : Nat} (hj : j < z.length) : (addAt p z o k y).getD j 0 = if o ≤ j ∧ j < o + y.length then (z.getD j 0 + k * y.getD (j - o) 0) % p else z.getD j 0 := by
  unfold addAt
  rw [List.getD_eq_getElem?_getD, List.getElem?_mapIdx, List.getElem?_eq_getElem hj, List.getD_eq_getElem?_getD (l := z), List.getElem?_eq_getElem hj]
  rfl
theorem addAt_ok {p : Int} {z y : List Int} {o : Nat} {k : Int} (hp : 0 < p) (h : VecOk p z.length z) : VecOk p (addAt p z o k y).length (addAt p z o k y) := by
  refine ⟨rfl, fun x hx => ?_⟩
  obtain ⟨j, hj, rfl⟩ := List.mem_iff_getElem.1 hx
  rw [addAt_len] at hj
  have e := addAt_getD (p := p) (o := o) (k := k) (y := y) hj
  rw [List.getD_eq_getElem?_getD, List.getElem?_eq_getElem (by rw [addAt_len]; exact hj)] at e
  simp only [Option.getD_some] at e
  rw [e]
  split
  · exact ⟨Int.emod_nonneg _ (by omega), Int.emod_lt_of_pos _ hp⟩
  · rw [List.getD_eq_getElem?_getD, List.getElem?_eq_getElem hj]
    exact h.2 _ (List.getElem_mem hj)
theorem repl_ok {p : Int} (hp : 0 < p) (n : Nat) : VecOk p n (List.replicate n 0) := ⟨by simp, fun x hx => by rw [List.eq_of_mem_replicate hx]; omega⟩
theorem vapp_ok {p : Int} {x y : List Int} (hx : VecOk p x.length x) (hy : VecOk p y.length y) : VecOk p (x ++ y).length (x ++ y) := ⟨rfl, fun z hz => by
  rcases List.mem_append.1 hz with h | h
  · exact hx.2 z h
  · exact hy.2 z h⟩

section pob
variable {p : Nat} [NeZero p]
theorem vec_getD {f g : List Int} (h : ∀ k, f.getD k 0 = g.getD k 0) : vec p f = vec p g := by
  funext k
  unfold vec
  rw [h]
theorem vec_trim (f : List Int) : vec p (trimL f) = vec p f := vec_getD (trimL_getD f)
theorem vec_sz (f : List Int) : Sz (vec p f) f.length := fun k hk => vec_past hk
theorem vec_repl (n : Nat) : vec p (List.replicate n 0) = fun _ => 0 := by
  funext k
  unfold vec
  rw [show (List.replicate n (0 : Int)).getD k 0 = 0 by rw [List.getD_eq_getElem?_getD, List.getElem?_replicate]; split <;> rfl, toF_zero]
theorem vec_pad (f : List Int) (n : Nat) : vec p (f ++ List.replicate n 0) = vec p f := vec_getD fun k => by
  rw [List.getD_eq_getElem?_getD, List.getElem?_append]
  split
  · rw [List.getD_eq_getElem?_getD]
  · next h =>
    rw [List.getElem?_replicate, List.getD_eq_getElem?_getD, List.getElem?_eq_none (l := f) (by omega)]
    split <;> rfl
theorem poly_ext {f g : List Int} (hf : PolyOk p f) (hg : PolyOk p g) (h : vec p f = vec p g) : f = g := by
  have key : ∀ {f g : List Int}, PolyOk p f → PolyOk p g → vec p f = vec p g → f.length ≤ g.length := by
    intro f g hf hg h
    rcases Nat.lt_or_ge g.length f.length with h1 | h1
    · exfalso
      have hne : f ≠ [] := by intro e; rw [e] at h1; simp at h1
      have h2 := hf.2 hne
      have h3 := congrFun h (f.length - 1)
      rw [vec_past (v := g) (by omega)] at h3
      have h4 : f.length - 1 < f.length := by omega
      rw [vec_at h4] at h3
      rw [List.getD_eq_getElem?_getD, List.getElem?_eq_getElem h4] at h2
      have h5 := hf.1.2 _ (List.getElem_mem h4)
      exact toF_ne h5.1 h5.2 h2 h3
    · exact h1
  have hl : f.length = g.length := Nat.le_antisymm (key hf hg h) (key hg hf h.symm)
  exact vec_ext hf.1 (by rw [hl]; exact hg.1) fun j _ => congrFun h j
theorem vec_addAt {z y : List Int} {o : Nat} {k : Int} (h : o + y.length ≤ z.length) : vec p (addAt p z o k y) = fun j => vec p z j + cv (mono o (toF p k)) (vec p y) j := by
  funext j
  rw [cv_mono]
  by_cases hj : j < z.length
  · show toF p ((addAt p z o k y).getD j 0) = toF p (z.getD j 0) + _
    rw [addAt_getD hj]
    by_cases h1 : o ≤ j
    · rw [if_pos h1]
      by_cases h2 : j < o + y.length
      · rw [if_pos ⟨h1, h2⟩, toF_emod, toF_add, toF_mul]
        rfl
      · rw [if_neg (by omega), vec_past (v := y) (by omega)]
        grind
    · rw [if_neg h1, if_neg (by omega)]
      grind
  · rw [vec_past (by rw [addAt_len]; omega), vec_past (v := z) (by omega)]
    split
    · rw [vec_past (v := y) (by omega)]; grind
    · grind
theorem poAdd_ok {f g : List Int} {k : Int} (hf : PolyOk p f) : PolyOk p (poAddL p f k g) :=
  trimL_ok (addAt_ok (pos_int p) (vapp_ok hf.1 (by rw [List.length_replicate]; exact repl_ok (pos_int p) _)))
omit [NeZero p] in
theorem poAdd_len (f : List Int) (k : Int) (g : List Int) : (poAddL p f k g).length ≤ max f.length g.length := by
  refine Nat.le_trans (trimL_le _) ?_
  rw [addAt_len, List.length_append, List.length_replicate]
  omega
theorem vec_poAdd (f : List Int) (k : Int) (g : List Int) : vec p (poAddL p f k g) = fun j => vec p f j + toF p k * vec p g j := by
  unfold poAddL
  rw [vec_trim, vec_addAt (by rw [List.length_append, List.length_replicate]; omega), vec_pad]
  funext j
  rw [cv_mono, if_pos (Nat.zero_le _), Nat.sub_zero]
theorem mul_len (q : Int) (f g : List Int) : ∀ i, (mulTo q f g i).length = f.length + g.length - 1
  | 0 => by simp [mulTo]
  | i + 1 => by unfold mulTo; rw [addAt_len]; exact mul_len q f g i
theorem mul_ok (f g : List Int) : ∀ i, VecOk p (mulTo p f g i).length (mulTo p f g i)
  | 0 => by
    unfold mulTo
    rw [List.length_replicate]
    exact repl_ok (pos_int p) _
  | i + 1 => addAt_ok (pos_int p) (mul_ok f g i)
/-- the first i coefficients -/
def cutV (f : Vec p) (i : Nat) : Vec p := fun j => if j < i then f j else 0
theorem cut_succ (f : Vec p) (i : Nat) : cutV f (i + 1) = fun j => cutV f i j + mono i (f i) j := by
  funext j
  unfold cutV mono
  by_cases h1 : j < i
  · rw [if_pos (by omega), if_pos h1, if_neg (by omega)]; grind
  · by_cases h2 : j = i
    · subst h2
      rw [if_pos (by omega), if_neg h1, if_pos rfl]; grind
    · rw [if_neg (by omega), if_neg h1, if_neg h2]; grind
theorem cut_all {f : Vec p} {n : Nat} (h : Sz f n) : cutV f n = f := by
  funext j
  unfold cutV
  split
  · rfl
  · next h1 => exact (h j (by omega)).symm
theorem vec_mulTo {f g : List Int} (hg : g ≠ []) : ∀ i, i ≤ f.length → vec p (mulTo p f g i) = cv (cutV (vec p f) i) (vec p g)
  | 0, _ => by
    unfold mulTo
    rw [vec_repl, show cutV (vec p f) 0 = fun _ => 0 from funext fun j => by unfold cutV; rw [if_neg (by omega)], cv_zero]
  | i + 1, hi => by
    have h0 : 0 < g.length := len_pos hg
    unfold mulTo
    rw [vec_addAt (by rw [mul_len]; omega), vec_mulTo hg i (by omega), cut_succ, cv_addl]
    rfl
theorem poMul_ok (f g : List Int) : PolyOk p (poMulL p f g) := by
  unfold poMulL
  split
  · exact PolyOk.nil _
  · exact trimL_ok (mul_ok f g _)
omit [NeZero p] in
theorem poMul_len (f g : List Int) : (poMulL p f g).length ≤ f.length + g.length - 1 := by
  unfold poMulL
  split
  · simp
  · refine Nat.le_trans (trimL_le _) ?_
    rw [mul_len]
    exact Nat.le_refl _
theorem vec_poMul (f g : List Int) : vec p (poMulL p f g) = cv (vec p f) (vec p g) := by
  unfold poMulL
  split
  · next h =>
    have e0 : vec p ([] : List Int) = fun _ => 0 := vec_repl (p := p) 0
    rcases h with rfl | rfl
    · rw [e0, cv_zero]
    · rw [e0, cv_comm, cv_zero]
  · next h =>
    rw [vec_trim, vec_mulTo (fun e => h (Or.inr e)) _ (Nat.le_refl _), cut_all (vec_sz f)]
/-- the product of two lists that end with coefficients other than zero does too -/
theorem mul_trim {f g : List Int} (hf : fldN p = true) (h1 : PolyOk p f) (h2 : PolyOk p g) (n1 : f ≠ []) (n2 : g ≠ []) : trimL (mulTo p f g f.length) = mulTo p f g f.length := by
  have l1 : 0 < f.length := len_pos n1
  have l2 : 0 < g.length := len_pos n2
  refine PolyOk.trim ⟨mul_ok f g _, fun _ => ?_⟩
  have a1 : f.length - 1 < f.length := by omega
  have a2 : g.length - 1 < g.length := by omega
  have t1 := h1.2 n1
  have t2 := h2.2 n2
  have b1 := h1.1.2 _ (List.getElem_mem a1)
  have b2 := h2.1.2 _ (List.getElem_mem a2)
  rw [List.getD_eq_getElem?_getD, List.getElem?_eq_getElem a1, Option.getD_some] at t1
  rw [List.getD_eq_getElem?_getD, List.getElem?_eq_getElem a2, Option.getD_some] at t2
  have i1 := toF_inv hf (b := f[f.length - 1]) (by omega) b1.2
  have hne : toF p g[g.length - 1] ≠ 0 := toF_ne b2.1 b2.2 t2
  have top := cv_top (f := vec p f) (g := vec p g) (a := f.length - 1) (b := g.length - 1) (by rw [show f.length - 1 + 1 = f.length by omega]; exact vec_sz f) (by rw [show g.length - 1 + 1 = g.length by omega]; exact vec_sz g)
  rw [vec_at a1, vec_at a2] at top
  intro h0
  rw [mul_len] at h0
  have hv : vec p (mulTo p f g f.length) (f.length - 1 + (g.length - 1)) = 0 := by
    show toF p ((mulTo p f g f.length).getD (f.length - 1 + (g.length - 1)) 0) = 0
    rw [show f.length - 1 + (g.length - 1) = f.length + g.length - 1 - 1 by omega, h0, toF_zero]
  rw [vec_mulTo n2 _ (Nat.le_refl _), cut_all (vec_sz f), top] at hv
  exact hne (by grind)

/-! ### division -/
theorem div_len (q : Int) (f g : List Int) (y : Int) (m : Nat) : ∀ t, (divTo q f g y m t).1.length = m ∧ (divTo q f g y m t).2.length = f.length
  | 0 => by simp [divTo]
  | t + 1 => by
    have h := div_len q f g y m t
    unfold divTo
    simp only [List.length_set, addAt_len]
    exact h
theorem div_ok {f g : List Int} {y : Int} {m : Nat} (hf : VecOk p f.length f) : ∀ t, VecOk p (divTo p f g y m t).1.length (divTo p f g y m t).1 ∧ VecOk p (divTo p f g y m t).2.length (divTo p f g y m t).2
  | 0 => by
    unfold divTo
    refine ⟨?_, hf⟩
    simp only [List.length_replicate]
    exact repl_ok (pos_int p) _
  | t + 1 => by
    have h := div_ok (g := g) (y := y) (m := m) hf t
    unfold divTo
    refine ⟨⟨rfl, fun x hx => ?_⟩, addAt_ok (pos_int p) h.2⟩
    rcases List.mem_or_eq_of_mem_set hx with h' | rfl
    · exact h.1.2 x h'
    · exact ⟨Int.emod_nonneg _ (by have := pos_int p; omega), Int.emod_lt_of_pos _ (pos_int p)⟩
theorem vec_set {z : List Int} {i : Nat} (hi : i < z.length) (hz : z.getD i 0 = 0) (k : Int) : vec p (z.set i k) = fun j => vec p z j + mono i (toF p k) j := by
  funext j
  unfold mono
  show toF p ((z.set i k).getD j 0) = toF p (z.getD j 0) + _
  rw [List.getD_eq_getElem?_getD, List.getElem?_set]
  by_cases h : i = j
  · subst h
    rw [if_pos rfl, if_pos rfl, if_pos hi, hz, toF_zero, Option.getD_some]
    grind
  · rw [if_neg h, if_neg (fun e => h e.symm), ← List.getD_eq_getElem?_getD]
    grind
/-- what the division keeps -/
theorem div_inv {f g : List Int} {y : Int} {m : Nat} (hg : 0 < g.length) (hm : f.length + 1 = m + g.length) (hy : toF p (lastC g) * toF p y = 1) : ∀ t, t ≤ m →
    (∀ j, vec p f j = cv (vec p (divTo p f g y m t).1) (vec p g) j + vec p (divTo p f g y m t).2 j) ∧ Sz (vec p (divTo p f g y m t).2) (m - t + g.length - 1) ∧ (∀ i, i < m - t → (divTo p f g y m t).1.getD i 0 = 0)
  | 0, _ => by
    refine ⟨fun j => ?_, ?_, fun i _ => ?_⟩
    · show vec p f j = cv (vec p (List.replicate m 0)) (vec p g) j + vec p f j
      rw [vec_repl, cv_zero]
      grind
    · show Sz (vec p f) _
      rw [show m - 0 + g.length - 1 = f.length by omega]
      exact vec_sz f
    · show (List.replicate m (0 : Int)).getD i 0 = 0
      rw [List.getD_eq_getElem?_getD, List.getElem?_replicate]
      split <;> rfl
  | t + 1, ht => by
    obtain ⟨h1, h2, h3⟩ := div_inv (f := f) (m := m) hg hm hy t (by omega)
    have hl := div_len (p : Int) f g y m t
    unfold divTo
    generalize divTo (p : Int) f g y m t = s at *
    obtain ⟨q, r⟩ := s
    dsimp only at h1 h2 h3 hl ⊢
    generalize hk : r.getD (m - 1 - t + g.length - 1) 0 * y % (p : Int) = k
    have hi : m - 1 - t < q.length := by omega
    have eq := vec_set (p := p) hi (h3 _ (by omega)) k
    have er := vec_addAt (p := p) (z := r) (y := g) (o := m - 1 - t) (k := -k) (by omega)
    refine ⟨fun j => ?_, ?_, fun i hi' => ?_⟩
    · rw [eq, er, cv_addl, h1 j]
      dsimp only
      rw [cv_mono, cv_mono, toF_neg]
      split <;> grind
    · intro j hj
      rw [er]
      dsimp only
      rw [cv_mono]
      by_cases h : m - t + g.length - 1 ≤ j
      · rw [h2 j h, vec_past (v := g) (by omega)]
        split <;> grind
      · have e : j = m - 1 - t + g.length - 1 := by omega
        rw [if_pos (by omega)]
        have e2 : vec p r j = toF p (r.getD (m - 1 - t + g.length - 1) 0) := by rw [e]; rfl
        have e3 : vec p g (j - (m - 1 - t)) = toF p (lastC g) := by
          unfold lastC
          rw [show j - (m - 1 - t) = g.length - 1 by omega]
          rfl
        have e4 : toF p k = toF p (r.getD (m - 1 - t + g.length - 1) 0) * toF p y := by rw [← hk, toF_emod, toF_mul]
        rw [e2, e3, toF_neg, e4]
        grind
    · rw [List.getD_eq_getElem?_getD, List.getElem?_set, if_neg (by omega), ← List.getD_eq_getElem?_getD]
      exact h3 i (by omega)
theorem last_inv {g : List Int} (hf : fldN p = true) (hg : PolyOk p g) (hne : g ≠ []) : toF p (lastC g) * toF p (invI p (lastC g)) = 1 := by
  have l : g.length - 1 < g.length := by have := len_pos hne; omega
  have h := hg.2 hne
  have b := hg.1.2 _ (List.getElem_mem l)
  have e : lastC g = g[g.length - 1] := by unfold lastC; rw [List.getD_eq_getElem?_getD, List.getElem?_eq_getElem l]; rfl
  have h' : lastC g ≠ 0 := h
  rw [e] at h' ⊢
  exact toF_inv hf (by omega) b.2
theorem quo_ok {f g : List Int} (hf : PolyOk p f) : PolyOk p (quoL p f g) := by
  unfold quoL
  split
  · exact PolyOk.nil _
  · exact trimL_ok (div_ok hf.1 _).1
theorem rem_ok {f g : List Int} (hf : PolyOk p f) : PolyOk p (remL p f g) := by
  unfold remL
  split
  · exact hf
  · exact trimL_ok (div_ok hf.1 _).2
omit [NeZero p] in
theorem quo_len (f g : List Int) : (quoL p f g).length ≤ f.length - g.length + 1 := by
  unfold quoL
  split
  · simp
  · refine Nat.le_trans (trimL_le _) ?_
    unfold divL2
    rw [(div_len (p : Int) f g _ _ _).1]
    exact Nat.le_refl _
theorem div_eq {f g : List Int} (hf : fldN p = true) (hg : PolyOk p g) (hne : g ≠ []) : ∀ j, vec p f j = cv (vec p (quoL p f g)) (vec p g) j + vec p (remL p f g) j := by
  have l := len_pos hne
  unfold quoL remL
  split
  · intro j
    rw [show vec p ([] : List Int) = fun _ => 0 from vec_repl (p := p) 0, cv_zero]
    grind
  · next h =>
    rw [vec_trim, vec_trim]
    exact (div_inv l (by omega) (last_inv hf hg hne) _ (Nat.le_refl _)).1
theorem rem_lt {f g : List Int} (hf : fldN p = true) (h0 : PolyOk p f) (hg : PolyOk p g) (hne : g ≠ []) : (remL p f g).length < g.length := by
  have l := len_pos hne
  by_cases h : f.length < g.length
  · unfold remL
    rw [if_pos h]
    exact h
  · have hr := rem_ok (g := g) h0
    have e : remL p f g = trimL (divL2 p f g).2 := by unfold remL; rw [if_neg h]
    have hs := (div_inv (f := f) (g := g) (m := f.length - g.length + 1) l (by omega) (last_inv hf hg hne) _ (Nat.le_refl _)).2.1
    have hs' : Sz (vec p (remL p f g)) (g.length - 1) := by
      rw [e, vec_trim]
      intro k hk
      exact hs k (by omega)
    rcases Nat.lt_or_ge (remL p f g).length g.length with h1 | h1
    · exact h1
    · exfalso
      have hne' : remL p f g ≠ [] := by intro e'; rw [e', List.length_nil] at h1; omega
      have hl : (remL p f g).length - 1 < (remL p f g).length := by have := len_pos hne'; omega
      have h2 := hr.2 hne'
      have h3 := hr.1.2 _ (List.getElem_mem hl)
      have h4 := hs' ((remL p f g).length - 1) (by omega)
      rw [vec_at hl] at h4
      rw [List.getD_eq_getElem?_getD, List.getElem?_eq_getElem hl] at h2
      exact toF_ne h3.1 h3.2 h2 h4
omit [NeZero p] in
theorem rem_le (f g : List Int) : (remL p f g).length ≤ f.length := by
  unfold remL
  split
  · exact Nat.le_refl _
  · refine Nat.le_trans (trimL_le _) ?_
    unfold divL2
    rw [(div_len (p : Int) f g _ _ _).2]
    exact Nat.le_refl _
theorem rem_zero {f g : List Int} (hf : fldN p = true) (h0 : PolyOk p f) (hg : PolyOk p g) (hne : g ≠ []) (hd : Dv (vec p g) (vec p f)) : remL p f g = [] := by
  have l := len_pos hne
  have hr := rem_ok (g := g) h0
  have he := div_eq (f := f) hf hg hne
  have hd2 : Dv (vec p g) (vec p (remL p f g)) := by
    have h1 := hd.sub ((Dv.refl (vec p g)).mul (vec_sz (quoL p f g)))
    have e : (fun i => vec p f i - cv (vec p (quoL p f g)) (vec p g) i) = vec p (remL p f g) := by
      funext i
      rw [he i]
      grind
    rwa [e] at h1
  have hz := hd2.short (m := g.length - 1) (by rw [show g.length - 1 + 1 = g.length by omega]; exact vec_sz g) (last_inv hf hg hne) fun k hk => vec_past (by have := rem_lt hf h0 hg hne; omega)
  exact poly_ext hr (PolyOk.nil _) (by rw [show vec p ([] : List Int) = fun _ => 0 from vec_repl (p := p) 0]; exact funext hz)
end pob
end Go.Proofs.YtpeaeminjbjlnaaDoor

/-
  Greatest common divisors of polynomials and what makes them up; values of polynomials. Plain mathematics. Conditions: a field of the program's kind.
-/
namespace Go.Proofs.YtpeaeminjbjlnaaDoor
open La
set_option linter.unusedVariables false

def gcdN (p : Int) : Nat → List Int → List Int → List Int
  | 0, f, _ => f
  | n + 1, f, g => if g = [] then f else gcdN p n g (remL p f g)
def eucN (p : Int) : Nat → List Int → List Int → List Int → List Int → List Int × List Int
  | 0, f, _, u, _ => (f, u)
  | n + 1, f, g, u, v => if g = [] then (f, u) else eucN p n g (remL p f g) v (poAddL p u (-1) (poMulL p (quoL p f g) v))
def monicL (p : Int) (f : List Int) : List Int := poAddL p [] (invI p (lastC f)) f
def gcdL (p : Int) (f g : List Int) : List Int := if gcdN p g.length f g = [] then [] else monicL p (gcdN p g.length f g)
def invL (p : Int) (f g d : List Int) : List Int := remL p (poAddL p [] (invI p (lastC (eucN p g.length f g [1] []).1)) (eucN p g.length f g [1] []).2) (quoL p g d)
def cofL (p : Int) (f g : List Int) : List Int := quoL p (poAddL p (gcdL p f g) (-1) (poMulL p (invL p f g (gcdL p f g)) f)) g
/-- the value, after t coefficients from the top -/
def evTo (p : Int) (f : List Int) (x : Int) : Nat → Int
  | 0 => 0
  | t + 1 => (evTo p f x t * x + f.getD (f.length - 1 - t) 0) % p

theorem gcdN_nil (p : Int) (f : List Int) : ∀ n, gcdN p n f [] = f
  | 0 => rfl
  | n + 1 => rfl
theorem eucN_nil (p : Int) (f u v : List Int) : ∀ n, eucN p n f [] u v = (f, u)
  | 0 => rfl
  | n + 1 => rfl
theorem eucN_fst (p : Int) : ∀ n f g u v, (eucN p n f g u v).1 = gcdN p n f g
  | 0, _, _, _, _ => rfl
  | n + 1, f, g, u, v => by
    unfold eucN gcdN
    split
    · rfl
    · exact eucN_fst p n _ _ _ _

section poc
variable {p : Nat} [NeZero p]
/-- r is a combination of F and G, with the factor u of F -/
def Bz (F G u r : Vec p) : Prop := ∃ a n, Sz a n ∧ ∀ j, r j = cv u F j + cv a G j
theorem vec_nil : vec p ([] : List Int) = fun _ => 0 := vec_repl (p := p) 0
theorem Bz.step {F G u v r s q w t : Vec p} {m : Nat} (h1 : Bz F G u r) (h2 : Bz F G v s) (hq : Sz q m) (ht : ∀ j, r j = cv q s j + t j) (hw : ∀ j, w j = u j - cv q v j) : Bz F G w t := by
  obtain ⟨a, n, ha, e1⟩ := h1
  obtain ⟨b, k, hb, e2⟩ := h2
  refine ⟨fun i => a i - cv q b i, n + (m + k), (ha.mono' (by omega)).sub ((hq.mul hb).mono' (by omega)), fun j => ?_⟩
  have h3 : w = fun i => u i - cv q v i := funext hw
  have h4 : s = fun i => cv v F i + cv b G i := funext e2
  have h5 := ht j
  rw [h4, cv_addr, ← cv_assoc, ← cv_assoc, e1 j] at h5
  rw [h3, cv_subl, cv_subl]
  dsimp only at h5 ⊢
  grind
structure Euc (F G : Vec p) (K : Nat) (f g : List Int) (s : List Int × List Int) : Prop where
  ok : PolyOk p s.1
  oku : PolyOk p s.2
  bz : Bz F G (vec p s.2) (vec p s.1)
  df : Dv (vec p s.1) (vec p f)
  dg : Dv (vec p s.1) (vec p g)
  ne : (f ≠ [] ∨ g ≠ []) → s.1 ≠ []
  len : s.1.length ≤ max f.length g.length
  lenu : s.2.length ≤ K
theorem euc {F G : Vec p} {K : Nat} (hf : fldN p = true) : ∀ (n : Nat) (f g u v : List Int), g.length ≤ n → PolyOk p f → PolyOk p g → PolyOk p u → PolyOk p v → Bz F G (vec p u) (vec p f) → Bz F G (vec p v) (vec p g) → u.length + g.length ≤ K → v.length + f.length ≤ K →
    Euc F G K f g (eucN p n f g u v) := by
  intro n
  induction n with
  | zero =>
    intro f g u v hn h1 h2 h3 h4 h5 h6 h7 h8
    obtain rfl : g = [] := List.eq_nil_of_length_eq_zero (by omega)
    exact ⟨h1, h3, h5, Dv.refl _, by rw [vec_nil]; exact Dv.zero _, fun h => by rcases h with h | h; exact h; exact absurd rfl h, by simp [eucN], by show u.length ≤ K; omega⟩
  | succ n ih =>
    intro f g u v hn h1 h2 h3 h4 h5 h6 h7 h8
    unfold eucN
    split
    · next h =>
      subst h
      exact ⟨h1, h3, h5, Dv.refl _, by rw [vec_nil]; exact Dv.zero _, fun h => by rcases h with h | h; exact h; exact absurd rfl h, by simp, by show u.length ≤ K; omega⟩
    · next h =>
      have l := len_pos h
      have hlt := rem_lt hf h1 h2 h
      have hle := rem_le (p := p) f g
      have hdiv := div_eq (f := f) hf h2 h
      have hok := poAdd_ok (k := -1) (g := poMulL p (quoL p f g) v) h3
      have hlen : (poAddL p u (-1) (poMulL p (quoL p f g) v)).length + g.length ≤ K := by
        have a1 := poAdd_len (p := p) u (-1) (poMulL p (quoL p f g) v)
        have a2 := poMul_len (p := p) (quoL p f g) v
        have a3 := quo_len (p := p) f g
        by_cases hq : f.length < g.length
        · have e : quoL p f g = [] := by unfold quoL; rw [if_pos hq]
          have e2 : poMulL p (quoL p f g) v = [] := by unfold poMulL; rw [if_pos (Or.inl e)]
          rw [e2] at a1 ⊢
          simp at a1
          omega
        · by_cases hv : v = []
          · have e2 : poMulL p (quoL p f g) v = [] := by unfold poMulL; rw [if_pos (Or.inr hv)]
            rw [e2] at a1 ⊢
            simp at a1
            omega
          · have := len_pos hv
            omega
      have r := ih g (remL p f g) v (poAddL p u (-1) (poMulL p (quoL p f g) v)) (by omega) h2 (rem_ok h1) h4 hok h6
        (h5.step h6 (vec_sz (quoL p f g)) hdiv fun j => by rw [vec_poAdd, vec_poMul]; dsimp only; rw [show toF p (-1) = -1 by rw [toF_neg, toF_one]]; grind)
        (by omega) hlen
      refine ⟨r.ok, r.oku, r.bz, ?_, r.df, fun _ => r.ne (Or.inl h), ?_, r.lenu⟩
      · have h9 := (r.df.mul (vec_sz (quoL p f g))).add r.dg
        have e : (fun i => cv (vec p (quoL p f g)) (vec p g) i + vec p (remL p f g) i) = vec p f := (funext hdiv).symm
        rwa [e] at h9
      · have := r.len
        omega

/-- what the greatest common divisor and its factors are -/
structure Bezout (p : Nat) [NeZero p] (f g : List Int) : Prop where
  ok : PolyOk p (gcdL p f g)
  ne : gcdL p f g ≠ []
  df : Dv (vec p (gcdL p f g)) (vec p f)
  dg : Dv (vec p (gcdL p f g)) (vec p g)
  len : (gcdL p f g).length ≤ max f.length g.length
  quo : quoL p g (gcdL p f g) ≠ []
  oku : PolyOk p (invL p f g (gcdL p f g))
  sum : ∀ j, vec p (gcdL p f g) j = cv (vec p (invL p f g (gcdL p f g))) (vec p f) j + cv (vec p (cofL p f g)) (vec p g) j
  lenu : (eucN p g.length f g [1] []).2.length ≤ 42
  okr : PolyOk p (eucN p g.length f g [1] []).1
  ner : (eucN p g.length f g [1] []).1 ≠ []
  okw : PolyOk p (eucN p g.length f g [1] []).2
omit [NeZero p] in
theorem one_ok (hf : fldN p = true) : PolyOk p [1] := ⟨⟨rfl, fun x hx => by simp at hx; subst hx; have := lt_p hf; omega⟩, fun _ => by simp⟩
theorem monic_vec (r : List Int) : vec p (monicL p r) = fun j => toF p (invI p (lastC r)) * vec p r j := by
  unfold monicL
  rw [vec_poAdd, vec_nil]
  funext j
  grind
theorem bezout {f g : List Int} (hf : fldN p = true) (h1 : PolyOk p f) (h2 : PolyOk p g) (hg : g ≠ []) (lf : f.length ≤ 41) (lg : g.length ≤ 41) : Bezout p f g := by
  have E := euc (F := vec p f) (G := vec p g) (K := 42) hf g.length f g [1] [] (Nat.le_refl _) h1 h2 (one_ok hf) (PolyOk.nil _)
    ⟨fun _ => 0, 0, fun _ _ => rfl, fun j => by
      have e : vec p [1] = mono 0 1 := by
        funext i
        unfold mono vec
        match i with
        | 0 => simp [toF_one]
        | i + 1 => simp [toF_zero]
      rw [e, cv_one, cv_zero]
      grind⟩
    ⟨mono 0 1, 1, sz_mono 0 1, fun j => by rw [vec_nil, cv_zero, cv_one]; grind⟩ (by simp; omega) (by simp; omega)
  have hr : gcdN p g.length f g = (eucN p g.length f g [1] []).1 := (eucN_fst (p : Int) g.length f g [1] []).symm
  have hne := E.ne (Or.inr hg)
  have hgcd : gcdL p f g = monicL p (eucN p g.length f g [1] []).1 := by unfold gcdL; rw [hr, if_neg hne]
  have hli := last_inv hf E.ok hne
  have hdv := monic_vec (p := p) (eucN p g.length f g [1] []).1
  have hE := E
  have hI : invL p f g (gcdL p f g) = remL p (poAddL p [] (invI p (lastC (eucN p g.length f g [1] []).1)) (eucN p g.length f g [1] []).2) (quoL p g (gcdL p f g)) := rfl
  generalize hs : eucN (p : Int) g.length f g [1] [] = s at *
  obtain ⟨r, u⟩ := s
  have Er := hE.ok; have Eu := hE.oku; have Eb := hE.bz; have Ef := hE.df; have Eg := hE.dg; have El := hE.len; have Elu := hE.lenu
  dsimp only at Er Eu Eb Ef Eg El Elu hne hgcd hli hdv hI
  have hok : PolyOk p (gcdL p f g) := by rw [hgcd]; exact poAdd_ok (PolyOk.nil _)
  rw [← hgcd] at hdv
  generalize hc : toF p (invI p (lastC r)) = c at *
  generalize hb : toF p (lastC r) = b at *
  have hrd : vec p r = fun j => b * vec p (gcdL p f g) j := by
    funext j
    rw [hdv]
    dsimp only
    grind
  have hdr : Dv (vec p (gcdL p f g)) (vec p r) := by rw [hrd]; exact (Dv.refl _).smul b
  have hDf := hdr.trans Ef
  have hDg := hdr.trans Eg
  have hdne : gcdL p f g ≠ [] := by
    intro e
    rw [e] at hrd
    refine hne (poly_ext Er (PolyOk.nil _) ?_)
    rw [hrd, vec_nil]
    funext j
    grind
  have hlen : (gcdL p f g).length ≤ max f.length g.length := by
    rw [hgcd]
    have := poAdd_len (p := p) [] (invI p (lastC r)) r
    unfold monicL
    simp at this
    omega
  have hM := div_eq (f := g) hf hok hdne
  rw [rem_zero hf h2 hok hdne hDg] at hM
  have hMd : vec p g = cv (vec p (quoL p g (gcdL p f g))) (vec p (gcdL p f g)) := by
    funext j
    rw [hM j, vec_nil]
    grind
  have hMne : quoL p g (gcdL p f g) ≠ [] := by
    intro e
    rw [e, vec_nil, cv_zero] at hMd
    exact hg (poly_ext h2 (PolyOk.nil _) (by rw [vec_nil]; exact hMd))
  have hMok := quo_ok (g := gcdL p f g) h2
  have hcu : PolyOk p (poAddL p [] (invI p (lastC r)) u) := poAdd_ok (PolyOk.nil _)
  have hcuv : ∀ j, vec p (poAddL p [] (invI p (lastC r)) u) j = c * vec p u j := fun j => by rw [vec_poAdd, vec_nil, hc]; grind
  have hk := div_eq (f := poAddL p [] (invI p (lastC r)) u) hf hMok hMne
  rw [← hI] at hk
  have huok : PolyOk p (invL p f g (gcdL p f g)) := by rw [hI]; exact rem_ok hcu
  have hDf0 := hDf
  obtain ⟨f', n', hf', hff⟩ := hDf
  obtain ⟨a, na, ha, hab⟩ := Eb
  have hEv := vec_poAdd (p := p) (gcdL p f g) (-1) (poMulL p (invL p f g (gcdL p f g)) f)
  have hEd : Dv (vec p g) (vec p (poAddL p (gcdL p f g) (-1) (poMulL p (invL p f g (gcdL p f g)) f))) := by
    have hks := vec_sz (p := p) (quoL p (poAddL p [] (invI p (lastC r)) u) (quoL p g (gcdL p f g)))
    generalize vec p (quoL p (poAddL p [] (invI p (lastC r)) u) (quoL p g (gcdL p f g))) = k at hk hks
    rw [hEv, vec_poMul]
    generalize vec p (invL p f g (gcdL p f g)) = w at *
    generalize vec p (gcdL p f g) = D at *
    generalize vec p (quoL p g (gcdL p f g)) = M at *
    refine ⟨fun i => cv k f' i + c * a i, _, ((hks.mul hf').mono' (Nat.le_add_right _ na)).add (fun i hi => by show c * a i = 0; rw [ha i (by omega)]; grind), ?_⟩
    rw [cv_addl, cv_smul]
    have e1 : cv (cv k f') (vec p g) = cv (cv k M) (vec p f) := by
      rw [hMd, hff, cv_assoc, cv_assoc, ← cv_assoc f', cv_comm f', cv_assoc M]
    have e2 : w = fun i => c * vec p u i - cv k M i := funext fun i => by
      have h1 := hk i
      rw [hcuv i] at h1
      grind
    rw [e1]
    funext j
    rw [e2, cv_subl, cv_smul, hdv]
    dsimp only
    rw [show toF p (-1) = -1 by rw [toF_neg, toF_one]]
    have h2 := hab j
    grind
  have hz := rem_zero hf (poAdd_ok (k := -1) (g := poMulL p (invL p f g (gcdL p f g)) f) hok) h2 hg hEd
  have hv := div_eq (f := poAddL p (gcdL p f g) (-1) (poMulL p (invL p f g (gcdL p f g)) f)) hf h2 hg
  rw [hz, vec_nil] at hv
  refine ⟨hok, hdne, hDf0, hDg, hlen, hMne, huok, fun j => ?_, by rw [hs]; exact Elu, by rw [hs]; exact Er, by rw [hs]; exact hne, by rw [hs]; exact Eu⟩
  have h := hv j
  rw [hEv, vec_poMul] at h
  dsimp only at h
  rw [show toF p (-1) = -1 by rw [toF_neg, toF_one]] at h
  show _ = _ + cv (vec p (quoL p _ g)) (vec p g) j
  grind
/-! ### values -/
def pwF (x : Fin p) : Nat → Fin p
  | 0 => 1
  | n + 1 => pwF x n * x
theorem pwF_add (x : Fin p) (a : Nat) : ∀ b, pwF x (a + b) = pwF x a * pwF x b
  | 0 => by simp only [pwF, Nat.add_zero]; grind
  | b + 1 => by
    show pwF x (a + b) * x = pwF x a * (pwF x b * x)
    rw [pwF_add x a b]
    grind
def evF (f : Vec p) (n : Nat) (x : Fin p) : Fin p := S n (fun i => f i * pwF x i)
theorem S_more {f : Nat → Fin p} {a : Nat} (h : ∀ i, a ≤ i → f i = 0) (d : Nat) : S (a + d) f = S a f := by
  rw [S_append, S_zero' fun i _ => h (a + i) (by omega)]
  grind
theorem ev_more {f : Vec p} {a b : Nat} (h : Sz f a) (hab : a ≤ b) (x : Fin p) : evF f b x = evF f a x := by
  unfold evF
  obtain ⟨d, rfl⟩ := Nat.exists_eq_add_of_le hab
  exact S_more (fun i hi => by rw [h i hi]; grind) d
theorem ev_cv {f g : Vec p} {a b : Nat} (hf : Sz f a) (hg : Sz g b) (x : Fin p) : evF (cv f g) (a + b + 1) x = evF f a x * evF g b x := by
  have e1 : evF (cv f g) (a + b + 1) x = S (a + b + 1) (fun i => S (i + 1) (fun j => (fun j k => f j * pwF x j * (g k * pwF x k)) j (i - j))) := by
    unfold evF cv
    refine S_congr fun i hi => ?_
    rw [← S_mulr]
    refine S_congr fun j hj => ?_
    dsimp only
    rw [show pwF x i = pwF x j * pwF x (i - j) by rw [← pwF_add, show j + (i - j) = i by omega]]
    grind
  rw [e1]
  refine (S_tri (fun j k => f j * pwF x j * (g k * pwF x k)) (a + b)).trans ?_
  show S (a + b + 1) (fun j => S (a + b - j + 1) (fun k => f j * pwF x j * (g k * pwF x k))) = _
  have e2 : S (a + b + 1) (fun j => S (a + b - j + 1) (fun k => f j * pwF x j * (g k * pwF x k))) = S (a + (b + 1)) (fun j => f j * pwF x j * evF g b x) := by
    rw [show a + b + 1 = a + (b + 1) by omega]
    refine S_congr fun j hj => ?_
    rw [S_mul]
    rcases Nat.lt_or_ge j a with h | h
    · rw [show S (a + b - j + 1) (fun k => g k * pwF x k) = evF g (a + b - j + 1) x from rfl, ev_more hg (by omega)]
    · rw [hf j h]
      grind
  rw [e2, S_more fun i hi => by rw [hf i hi]; grind]
  rw [S_mulr]
  rfl
theorem ev_list (f : List Int) (x : Int) : ∀ t, t ≤ f.length → toF p (evTo p f x t) = S t (fun i => vec p f (f.length - t + i) * pwF (toF p x) i)
  | 0, _ => by
    unfold evTo
    rw [toF_zero]
    rfl
  | t + 1, ht => by
    unfold evTo
    rw [toF_emod, toF_add, toF_mul, ev_list f x t (by omega), S_head, ← S_mulr]
    have e : toF p (f.getD (f.length - 1 - t) 0) = vec p f (f.length - (t + 1) + 0) * pwF (toF p x) 0 := by
      unfold vec pwF
      rw [show f.length - (t + 1) + 0 = f.length - 1 - t by omega]
      grind
    rw [e]
    have e2 : S t (fun i => vec p f (f.length - (t + 1) + (i + 1)) * pwF (toF p x) (i + 1)) = S t (fun i => vec p f (f.length - t + i) * pwF (toF p x) i * toF p x) := S_congr fun i hi => by
      rw [show f.length - (t + 1) + (i + 1) = f.length - t + i by omega]
      show _ * (pwF (toF p x) i * toF p x) = _
      grind
    rw [e2]
    grind
theorem ev_bd (f : List Int) (x : Int) : ∀ t, 0 ≤ evTo p f x t ∧ evTo p f x t < p
  | 0 => ⟨Int.le_refl _, pos_int p⟩
  | t + 1 => ⟨Int.emod_nonneg _ (by have := pos_int p; omega), Int.emod_lt_of_pos _ (pos_int p)⟩
theorem ev_whole (f : List Int) (x : Int) : toF p (evTo p f x f.length) = evF (vec p f) f.length (toF p x) := by
  rw [ev_list f x _ (Nat.le_refl _)]
  unfold evF
  exact S_congr fun i _ => by rw [Nat.sub_self, Nat.zero_add]
/-- values of products are products of values -/
theorem ev_mul (f g : List Int) (x : Int) : evTo p (poMulL p f g) x (poMulL p f g).length = evTo p f x f.length * evTo p g x g.length % p := by
  have b1 := ev_bd (p := p) (poMulL p f g) x (poMulL p f g).length
  refine toF_inj b1.1 b1.2 (Int.emod_nonneg _ (by have := pos_int p; omega)) (Int.emod_lt_of_pos _ (pos_int p)) ?_
  rw [toF_emod, toF_mul, ev_whole, ev_whole, ev_whole, ← ev_cv (vec_sz f) (vec_sz g), vec_poMul]
  have hs := vec_sz (p := p) (poMulL p f g)
  rw [vec_poMul] at hs
  exact (ev_more hs (by have := poMul_len (p := p) f g; omega) _).symm
end poc
end Go.Proofs.YtpeaeminjbjlnaaDoor

/-
  Sums of coefficient lists, in place and trimmed. Conditions: small sizes.
-/
namespace Go.Proofs.YtpeaeminjbjlnaaDoor
open Go.RowKit
set_option linter.unusedVariables false

theorem ints_take {w : World} {zs : List Int} {a : Option Addr} {n c : Nat} (h : IntsV w (.slice a n c) zs) {k : Nat} (hk : k ≤ zs.length) (c' : Nat) : IntsV w (.slice a k c') (zs.take k) := by
  obtain ⟨a0, c0, he, hi⟩ := h
  cases he
  have hlen : (zs.take k).length = k := by rw [List.length_take]; omega
  refine ⟨a, c', by rw [hlen], fun hz => ?_⟩
  obtain ⟨d, had, hs, hd, hr⟩ := hi (by intro h; rw [h] at hz; exact hz (by simp))
  refine ⟨d, had, hs, hd, fun i hi' => ?_⟩
  have h2 : i < zs.length := by rw [hlen] at hi'; omega
  rw [hr i h2]
  simp
theorem Sep.one {w w0 : World} {v : Value} {zs : List Int} (hg : w0.grownBy w none) (ho : OwnInts w0.heap.size w v zs) : Sep w [OI v zs, KeepA w0] :=
  ⟨ho.rebase fun _ _ => Nat.zero_le _, fun C hC => by
    rw [List.mem_singleton] at hC
    subst hC
    exact ⟨fun k hk hk' => by have := (ho.lt k hk).1; have h2 : k < w0.heap.size := hk'; omega, fun k hk => hk.elim⟩, hg, by simp, trivial⟩
set_option maxRecDepth 100000 in
theorem addTimes_off {l : List Asrt} (p by' : Int) (g o len' cap' cap0 n : Nat) (u : Value) (z y : List Int) (w : World) (h : Sep w (OI (.slice (some ⟨g, 0, none⟩) n cap0) z :: l)) (hz : z.length = n) (hu : IntsV w u y) (hap : y ≠ [] → ∀ k, Value.blk' u = some k → k ≠ g)
    (hfit : o + y.length ≤ n) (hlen : y.length ≤ len') (hn : n ≤ 1000) (hp : 2 ≤ p) (hp2 : p ≤ 1000) (hb0 : -10000 ≤ by') (hb1 : by' ≤ 10000) (hx : ∀ x ∈ z, 0 ≤ x ∧ x ≤ 1000) (hy : ∀ x ∈ y, 0 ≤ x ∧ x ≤ 1000) :
    Calls Tryd.prog 244 #[.int .i64 p, .slice (some ⟨g, o, none⟩) len' cap', .int .i64 by', u] w fun e w' => e = .returned (.tuple #[]) ∧ Sep w' (OI (.slice (some ⟨g, 0, none⟩) n cap0) (addAt p z o by' y) :: l) ∧ Only (fun k => k = g) w w' := by
  have HX := Lib.hid hx; have HY := Lib.hid hy; have HU := Lib.hid hu; have HS := Lib.hid h; have HAP := Lib.hid hap; have HZN := Lib.hid hz
  obtain ⟨ua, ucap, rfl, ui⟩ := hu
  clear ui h hx hy hap hz
  generalize hlen2 : y.length = m at *
  have HLY := Lib.hid hlen2
  clear hlen2
  go_enter Tryd.func244, Tryd.ntmps244
  go_wp2
  go_loopw [12] (fun i wr => ∃ (k : Nat) (zs : List Int), k ≤ m ∧ i = .int .i64 k ∧ zs.length = n ∧ (∀ j, o ≤ j → j < o + k → zs.getD j 0 = (z.getD j 0 + by' * y.getD (j - o) 0) % p) ∧ (∀ j, j < o ∨ o + k ≤ j → zs.getD j 0 = z.getD j 0) ∧ Sep wr (OI (.slice (some ⟨g, 0, none⟩) n cap0) zs :: l) ∧ Only (fun k => k = g) w wr) (fun i _ => m - (intOf i).toNat)
  case atStart => exact ⟨0, z, by omega, rfl, HZN.out, fun j h1 h2 => absurd h1 (by omega), fun _ _ => rfl, HS.out, Only.refl _ _⟩
  case round =>
    obtain ⟨k, zs, hk, rfl, hz, h1, h2, ho, hon⟩ := hrel
    have HZ := Lib.hid hz; have H1 := Lib.hid h1; have H2 := Lib.hid h2; have HO := Lib.hid ho; have HON := Lib.hid hon
    clear hz h1 h2 ho hon
    by_cases hlt : k < m
    · have hky : k < y.length := by rw [HLY.out]; exact hlt
      have hkz : o + k < zs.length := by rw [HZ.out]; omega
      have hu' := (HU.out.only HON.out fun q hq hq' => HAP.out (by intro e; rw [e] at hky; simp at hky) q hq hq').at hky
      obtain ⟨d, rfl, hs, hd, hc⟩ := hu'
      obtain ⟨db, dof, _⟩ := d
      simp only at hs hc
      subst hs
      have hoi : OwnInts 0 wr (.slice (some ⟨g, 0, none⟩) n cap0) zs := HO.out.hd
      have hcell := hoi.cell HZ.out.symm hkz
      have hfree := hoi.free HZ.out.symm (o + k)
      have HP := Lib.hid fun x => HO.out.setI HZ.out.symm (o + k) x
      have hzk : o + k < z.length := by rw [HZN.out]; omega
      have e1 : zs[o + k] = z.getD (o + k) 0 := by rw [← getD_lt hkz]; exact H2.out (o + k) (Or.inr (Nat.le_refl _))
      have b1 := HX.out _ (List.getElem_mem hzk)
      rw [← getD_lt hzk] at b1
      have b2 := HY.out _ (List.getElem_mem hky)
      rw [← getD_lt hky] at b2 hc
      rw [e1] at hcell
      clear e1 hd hoi hkz hzk hky
      generalize hxk : z.getD (o + k) 0 = xk at *
      generalize hyk : y.getD k 0 = yk at *
      have HXK := Lib.hid hxk; have HYK := Lib.hid hyk
      clear hxk hyk
      have b3 := mul_bd2 (A := 10000) (B := 1000) ⟨hb0, hb1⟩ b2 (by omega) (by omega)
      have hkl : (k : Int) < (len' : Int) := by omega
      go_wp2_with (go_at_call 236; refine (mod_all p (xk + by' * yk) (by omega) hp2 (by omega) (by omega) _).mono ?_; rintro e w' ⟨rfl, rfl⟩)
      go_roundw
      case rel =>
        have hkz : o + k < zs.length := by rw [HZ.out]; omega
        refine ⟨k + 1, zs.set (o + k) ((xk + by' * yk) % p), by omega, by go_num, by rw [List.length_set]; exact HZ.out, fun j hj hj2 => ?_, fun j hj => ?_, HP.out _, HON.out.trans (set_only wr ⟨g, o + k, none⟩ _)⟩
        · by_cases hjk : o + k = j
          · subst hjk
            rw [getD_set_self hkz, HXK.out, show o + k - o = k by omega, HYK.out]
          · rw [getD_set_ne hjk]
            exact H1.out j hj (by omega)
        · rw [getD_set_ne (by omega)]
          exact H2.out j (by omega)
      case measure => simp [intOf]; omega
    · have hfin : zs = addAt p z o by' y := by
        refine list_ext_getD (by rw [HZ.out, addAt_len, HZN.out]) fun j hj => ?_
        have hjz : j < z.length := by rw [HZN.out, ← HZ.out]; exact hj
        rw [addAt_getD hjz]
        by_cases hc : o ≤ j ∧ j < o + y.length
        · rw [if_pos hc]
          exact H1.out j hc.1 (by have := HLY.out; omega)
        · rw [if_neg hc]
          exact H2.out j (by have := HLY.out; omega)
      have HF := Lib.hid hfin
      clear hfin
      go_wp2
      go_end0
      exact ⟨rfl, by have := HO.out; rwa [HF.out] at this, HON.out⟩
set_option maxRecDepth 100000 in
theorem trimmed_any (a : Option Addr) (c : Nat) (zs : List Int) (w : World) (hv : IntsV w (.slice a zs.length c) zs) (hc : zs.length ≤ c) (hl : zs.length ≤ 1000) :
    Calls Tryd.prog 142 #[.slice a zs.length c, .int .i64 0] w fun e w' => ∃ c', e = .returned (.slice a (trimL zs).length c') ∧ IntsV w (.slice a (trimL zs).length c') (trimL zs) ∧ w = w' := by
  have HV := Lib.hid hv
  have HFIN := Lib.hid fun c' => (show IntsV w (.slice a (trimL zs).length c') (trimL zs) from by
    rw [trimL_len]
    exact ints_take hv (trimTo_le zs zs.length) c')
  have HTL := Lib.hid (trimL_len zs)
  clear hv
  generalize hlz : zs.length = l at *
  have HLZ := Lib.hid hlz
  clear hlz
  go_enter Tryd.func142, Tryd.ntmps142
  go_wp2_with fail
  go_loopw [5] (fun i wr => ∃ k : Nat, k ≤ l ∧ i = .int .i64 k ∧ trimTo zs l = trimTo zs k ∧ wr = w) (fun i _ => (intOf i).toNat)
  case atStart => exact ⟨l, Nat.le_refl _, rfl, rfl, rfl⟩
  case round =>
    obtain ⟨k, hk, rfl, ht, rfl⟩ := hrel
    have HTK := Lib.hid ht
    clear ht
    by_cases h0 : k = 0
    · subst h0
      have HZ0 := Lib.hid (show (trimL zs).length = 0 by rw [HTL.out, HTK.out]; rfl)
      go_wp2
      go_ret
      have h := HFIN.out 0
      rw [HZ0.out] at h ⊢
      exact ⟨0, rfl, h, rfl⟩
    · obtain ⟨m, rfl⟩ : ∃ m, k = m + 1 := ⟨k - 1, by omega⟩
      have hml : m < zs.length := by rw [HLZ.out]; omega
      obtain ⟨d, rfl, hs, hd, hcell⟩ := HV.out.at hml
      obtain ⟨db, dof, _⟩ := d
      simp only at hs hcell
      subst hs
      rw [← getD_lt hml] at hcell
      have e1 : ((m + 1 : Nat) : Int) - 1 = (m : Int) := by omega
      have e2 : IntKind.i64.wrap (m : Int) = (m : Int) := by rw [IntKind.wrap_i64]; omega
      have e3 : (0 : Int) < ((m + 1 : Nat) : Int) := by omega
      have e4 : (m : Int) < (l : Int) := by omega
      have HST := Lib.hid (show trimTo zs (m + 1) = if zs.getD m 0 = 0 then trimTo zs m else m + 1 from rfl)
      clear hd hml
      generalize zs.getD m 0 = x at *
      by_cases hx : x = 0
      · subst hx
        go_wp2_with fail
        go_roundw
        case rel => exact ⟨m, by omega, by go_num, by rw [HTK.out, HST.out, if_pos rfl], by simp⟩
        case measure => simp [intOf]
      · have hx' : (x == 0) = false := by rw [beq_eq_false_iff_ne]; exact hx
        have HZ0 := Lib.hid (show (trimL zs).length = m + 1 by rw [HTL.out, HTK.out, HST.out, if_neg hx])
        have e5 : ((m + 1 : Nat) : Int) ≤ (c : Int) := by omega
        go_wp2_with fail
        go_ret
        have h := HFIN.out (m + 1)
        rw [HZ0.out] at h ⊢
        exact ⟨m + 1, rfl, h, rfl⟩
end Go.Proofs.YtpeaeminjbjlnaaDoor

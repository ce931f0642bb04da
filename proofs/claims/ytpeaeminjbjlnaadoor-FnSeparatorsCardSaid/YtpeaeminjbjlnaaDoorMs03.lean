/-
  More walks of chapter 1: powers, inverses, orders, logarithms. Conditions: as each states.
-/
import Derived.Test.YtpeaeminjbjlnaaDoorMs01
import Derived.Test.YtpeaeminjbjlnaaDoorMs02
import Derived.Laws.OwnMore
import Derived.BigRegion
import Derived.StillTailTactics
namespace Go.Proofs.YtpeaeminjbjlnaaDoor
open Go.RowKit
set_option linter.unusedVariables false

theorem power_any (p a n : Int) (w : World) (hp : 1 ≤ p) (hp2 : p ≤ 1000) (ha : 0 ≤ a) (ha2 : a ≤ 1000) (hn : 0 ≤ n) (hn2 : n ≤ 1000000) :
    Calls Tryd.prog 249 #[.int .i64 p, .int .i64 a, .int .i64 n] w fun e w' => e = .returned (.int .i64 (a ^ n.toNat % p)) ∧ w = w' := by
  have hm0 := Int.emod_nonneg (1 : Int) (show p ≠ 0 by omega)
  have hm1 := Int.emod_lt_of_pos (1 : Int) (show 0 < p by omega)
  go_enter Tryd.func249, Tryd.ntmps249
  go_wp2
  go_loop [1, 2, 7] (fun x m o => ∃ (x' o' : Int) (m' : Nat), x = .int .i64 x' ∧ m = .int .i64 m' ∧ o = .int .i64 o' ∧ 0 ≤ o' ∧ o' < p ∧ 0 ≤ x' ∧ x' ≤ 1000 ∧ m' ≤ 1000000 ∧ o' * x' ^ m' % p = a ^ n.toNat % p) (fun _ m _ => (intOf m).toNat)
  case atStart =>
    obtain ⟨n', rfl⟩ := Int.eq_ofNat_of_zero_le hn
    exact ⟨a, 1 % p, n', rfl, rfl, rfl, hm0, hm1, ha, ha2, by omega, by rw [emod_mul_l, Int.one_mul, Int.toNat_natCast]⟩
  case round =>
    obtain ⟨x, o, m, rfl, rfl, rfl, ho0, ho1, hx0, hx1, hm, hr⟩ := hrel
    have HR := Lib.hid hr
    have hxx : 0 ≤ x * x := Int.mul_nonneg hx0 hx0
    have hxx2 : x * x ≤ 1000 * 1000 := Int.mul_le_mul hx1 hx1 hx0 (by omega)
    have hox : 0 ≤ o * x := Int.mul_nonneg ho0 hx0
    have hox2 : o * x ≤ 1000 * 1000 := Int.mul_le_mul (by omega) hx1 hx0 (by omega)
    have e0 := Int.emod_nonneg (x * x) (show p ≠ 0 by omega)
    have e1 := Int.emod_lt_of_pos (x * x) (show 0 < p by omega)
    have e2 := Int.emod_nonneg (o * x) (show p ≠ 0 by omega)
    have e3 := Int.emod_lt_of_pos (o * x) (show 0 < p by omega)
    clear hr
    by_cases h0 : m = 0
    · subst h0
      have hfin : a ^ n.toNat % p = o := by
        have := HR.out
        rw [← this, Int.pow_zero, Int.mul_one, Int.emod_eq_of_lt ho0 ho1]
      have HF := Lib.hid hfin
      clear hfin
      go_wp2
      go_ret
      exact ⟨by rw [HF.out]; rfl, rfl⟩
    · have h0' : 0 < m := by omega
      by_cases hodd : m % 2 = 1
      · have hb : ((m : Int) % 2 == 1) = true := by rw [beq_iff_eq]; omega
        have HO := Lib.hid hodd
        clear hodd h0
        go_wp2
        go_round
        case rel => exact ⟨x * x % p, o * x % p, m / 2, rfl, by go_num, rfl, e2, e3, e0, by omega, by omega, by rw [pw_odd _ _ _ _ HO.out, HR.out]⟩
        case measure => simp [intOf]; omega
      · have hb : ((m : Int) % 2 == 1) = false := by rw [beq_eq_false_iff_ne]; omega
        have he : m % 2 = 0 := by omega
        have HO := Lib.hid he
        clear hodd he h0
        go_wp2
        go_round
        case rel => exact ⟨x * x % p, o, m / 2, rfl, by go_num, rfl, ho0, ho1, e0, by omega, by omega, by rw [pw_even _ _ _ _ HO.out, HR.out]⟩
        case measure => simp [intOf]; omega

theorem inverse_any (p a : Int) (w : World) (hp : 2 ≤ p) (hp2 : p ≤ 1000) (ha : 0 ≤ a) (ha2 : a ≤ 1000) :
    Calls Tryd.prog 110 #[.int .i64 p, .int .i64 a] w fun e w' => e = .returned (.int .i64 (invI p a)) ∧ w = w' := by
  by_cases h2 : p = 2
  · subst h2
    go_enter Tryd.func110, Tryd.ntmps110
    go_wp2_with (first | (go_at_call 250; refine (bit_any true _).mono ?_; rintro e w' ⟨rfl, rfl⟩) | (go_at_call 249; refine (power_any _ _ _ _ (by omega) (by omega) ha ha2 (by omega) (by omega)).mono ?_; rintro e w' ⟨rfl, rfl⟩))
    go_ret
    exact ⟨rfl, rfl⟩
  · have hb : (p == 2) = false := by rw [beq_eq_false_iff_ne]; exact h2
    have hfin : invI p a = a ^ (p - 2).toNat % p := by
      unfold invI
      rw [if_neg h2, show p.toNat - 2 + 0 = (p - 2).toNat from by omega]
    have HF := Lib.hid hfin
    clear hfin h2
    go_enter Tryd.func110, Tryd.ntmps110
    go_wp2_with (first | (go_at_call 250; refine (bit_any false _).mono ?_; rintro e w' ⟨rfl, rfl⟩) | (go_at_call 249; refine (power_any _ _ _ _ (by omega) (by omega) ha ha2 (by omega) (by omega)).mono ?_; rintro e w' ⟨rfl, rfl⟩))
    go_ret
    exact ⟨by rw [HF.out]; rfl, rfl⟩

/-! ### the reference's test of a field -/
theorem fdGood_any (p : Int) (w : World) (h0 : -1000 ≤ p) (h1 : p ≤ 1000) : Calls Tryd.prog 206 #[.int .i64 p] w fun e w' => e = .returned (.bool (fldB p)) ∧ w = w' := by
  by_cases hin : 2 ≤ p ∧ p ≤ 97
  · have hd : decide (2 ≤ p ∧ p ≤ 97) = true := by simpa using hin
    obtain ⟨g0, g1⟩ := hin
    go_enter Tryd.func206, Tryd.ntmps206
    go_wp2_with (go_at_call 137; refine (l1In_any _ _ _ _).mono ?_; rintro e w' ⟨rfl, rfl⟩)
    go_loop [3] (fun k => ∃ k' : Nat, k = .int .i64 k' ∧ 2 ≤ k' ∧ k' ≤ 10 ∧ ∀ j : Int, 2 ≤ j → j < k' → p % j ≠ 0) (fun k => 200 - (intOf k).toNat)
    case atStart => exact ⟨2, rfl, by omega, by omega, fun j h1 h2 => by omega⟩
    case round =>
      obtain ⟨k, rfl, hk2, hk10, hr⟩ := hrel
      have HR := Lib.hid hr
      clear hr
      have hkk : ((k : Int) * k) = ((k * k : Nat) : Int) := by push_cast; rfl
      have hkk2 : k * k ≤ 100 := Nat.mul_le_mul hk10 hk10
      have HKK := Lib.hid hkk
      clear hkk
      have hq0 : (0 : Int) ≤ (k : Int) * k := by rw [HKK.out]; omega
      have hq1 : (k : Int) * k ≤ 100 := by rw [HKK.out]; omega
      have e0 := Int.emod_nonneg p (show (k : Int) ≠ 0 by omega)
      by_cases hle : (k : Int) * k ≤ p
      · by_cases hd0 : p % (k : Int) = 0
        · have hb : (p % (k : Int) == 0) = true := by rw [beq_iff_eq]; exact hd0
          have hfin : fldB p = false := fld_no g0 g1 (by omega) hle hd0
          have HF := Lib.hid hfin
          clear hfin hd0
          go_wp2
          go_ret
          exact ⟨by rw [HF.out]; rfl, rfl⟩
        · have hb : (p % (k : Int) == 0) = false := by rw [beq_eq_false_iff_ne]; exact hd0
          have HD := Lib.hid hd0
          clear hd0
          have hk9 : k < 10 := by
            rcases Nat.lt_or_ge k 10 with h | h
            · exact h
            · obtain rfl : k = 10 := by omega
              omega
          go_wp2
          go_round
          case rel => exact ⟨k + 1, by go_num, by omega, by omega, fun j h1 h2 => by
            by_cases hj : j = k
            · subst hj; exact HD.out
            · exact HR.out j h1 (by omega)⟩
          case measure => simp [intOf]; omega
      · have hfin : fldB p = true := fld_yes g0 g1 (k := k) (by omega) (by omega) (by omega) HR.out
        have HF := Lib.hid hfin
        clear hfin
        go_wp2
        go_ret
        exact ⟨by rw [HF.out]; rfl, rfl⟩
  · have hd : decide (2 ≤ p ∧ p ≤ 97) = false := by simpa using hin
    have hfin : fldB p = false := by
      unfold fldB
      rw [decide_eq_false_iff_not]
      exact fun h => hin ⟨h.1, h.2.1⟩
    have HF := Lib.hid hfin
    clear hfin hin
    go_enter Tryd.func206, Tryd.ntmps206
    go_wp2_with (go_at_call 137; refine (l1In_any _ _ _ _).mono ?_; rintro e w' ⟨rfl, rfl⟩)
    go_ret
    exact ⟨by rw [HF.out]; rfl, rfl⟩

end Go.Proofs.YtpeaeminjbjlnaaDoor

/-
  Matrices that are the call's own: rows in blocks of their own; what is written, and what stays. And mod for negative numbers too.
-/
namespace Go.Proofs.YtpeaeminjbjlnaaDoor
open Go.RowKit
set_option linter.unusedVariables false

theorem info_ints : (Tryd.prog.info? 24).map (fun i => (i.zero, i.size, i.bytes)) = some (some (.slice none 0 0), 1, 24) := by kernel_rfl

def Hits (v : Value) (k : Nat) : Prop := v.ownBlock = some k
def Apart (v u : Value) : Prop := ∀ k, Hits v k → ¬ Hits u k
theorem Apart.symm {v u : Value} (h : Apart v u) : Apart u v := fun k h1 h2 => h k h2 h1
/-- Only the old blocks in S have been written. -/
structure Only (S : Nat → Prop) (w w' : World) : Prop where
  os : w'.os = w.os
  tape : w'.tape = w.tape
  output : w'.output = w.output
  size : w.heap.size ≤ w'.heap.size
  block : ∀ k, k < w.heap.size → ¬ S k → w'.heap[k]? = w.heap[k]?
theorem Only.refl (S : Nat → Prop) (w : World) : Only S w w := ⟨rfl, rfl, rfl, Nat.le_refl _, fun _ _ _ => rfl⟩
theorem Only.drew (S : Nat → Prop) (w : World) : Only S w w.drew := ⟨rfl, rfl, rfl, Nat.le_refl _, fun _ _ _ => rfl⟩
theorem Only.drewN (S : Nat → Prop) (w : World) (n : Nat) : Only S w (w.drewN n) := ⟨rfl, rfl, rfl, Nat.le_refl _, fun _ _ _ => rfl⟩
theorem Only.trans {S : Nat → Prop} {a b c : World} (h : Only S a b) (h' : Only S b c) : Only S a c :=
  ⟨h'.os.trans h.os, h'.tape.trans h.tape, h'.output.trans h.output, Nat.le_trans h.size h'.size,
    fun k hk hs => (h'.block k (Nat.lt_of_lt_of_le hk h.size) hs).trans (h.block k hk hs)⟩
theorem Only.mono {S S' : Nat → Prop} {a b : World} (h : Only S a b) (hs : ∀ k, S k → S' k) : Only S' a b :=
  ⟨h.os, h.tape, h.output, h.size, fun k hk hn => h.block k hk fun h' => hn (hs k h')⟩
theorem Only.of_grown {S : Nat → Prop} {a b : World} {r : Option Nat} (h : a.grownBy b r) (hs : ∀ k, r = some k → S k) : Only S a b :=
  ⟨h.os, h.tape, h.output, h.size, fun k hk hn => h.block k hk fun h' => hn (hs k h'.symm)⟩
theorem Only.grown {a b : World} (h : Only (fun _ => False) a b) : a.grownBy b none := ⟨h.os, h.tape, h.output, h.size, fun k hk _ => h.block k hk (fun x => x)⟩
theorem Only.below {S : Nat → Prop} {a b : World} {B : Nat} (h : Only S a b) (hB : B ≤ a.heap.size) (hs : ∀ k, S k → B ≤ k) : Below B a b :=
  ⟨h.os, h.tape, h.output, h.size, fun k hk => h.block k (Nat.lt_of_lt_of_le hk hB) fun h' => by have := hs k h'; omega⟩
theorem OwnInts.only {B : Nat} {S : Nat → Prop} {w w' : World} {v : Value} {zs : List Int} (h : OwnInts B w v zs) (ho : Only S w w') (hs : ∀ k, Hits v k → ¬ S k) : OwnInts B w' v zs := by
  obtain ⟨h1, h2⟩ := h
  refine ⟨h1, ?_⟩
  rcases h2 with h2 | ⟨g, cap, cur, hv, hg, hh, r⟩
  · exact Or.inl h2
  · have hlt : g < w.heap.size := by
      rcases Nat.lt_or_ge g w.heap.size with h | h
      · exact h
      · rw [Array.getElem?_eq_none h] at hh; cases hh
    exact Or.inr ⟨g, cap, cur, hv, hg, (ho.block g hlt (hs g (by rw [hv]; rfl))).trans hh, r⟩
/-- the parts of an own row that is not empty -/
theorem OwnInts.parts {B : Nat} {w : World} {v : Value} {zs : List Int} (h : OwnInts B w v zs) (hz : zs ≠ []) : ∃ g cap, v = .slice (some ⟨g, 0, none⟩) zs.length cap ∧ B ≤ g ∧ g < w.heap.size ∧ Hits v g := by
  obtain ⟨h1, h2⟩ := h
  rcases h2 with ⟨_, h0⟩ | ⟨g, cap, cur, rfl, hg, hh, _⟩
  · exact absurd (List.eq_nil_of_length_eq_zero (by simpa using h0)) hz
  · refine ⟨g, cap, rfl, hg, ?_, rfl⟩
    rcases Nat.lt_or_ge g w.heap.size with h | h
    · exact h
    · rw [Array.getElem?_eq_none h] at hh; cases hh
theorem OwnInts.cell {B g n cap : Nat} {w : World} {zs : List Int} (h : OwnInts B w (.slice (some ⟨g, 0, none⟩) n cap) zs) (hn : n = zs.length) {j : Nat} (hj : j < zs.length) : w.cell? ⟨g, j, none⟩ = some (.int .i64 zs[j]) := by
  subst hn
  have := World.ownsRow.cellAt h j (by omega)
  rw [this]
  simp [hj]
theorem OwnInts.free {B g n cap : Nat} {w : World} {zs : List Int} (h : OwnInts B w (.slice (some ⟨g, 0, none⟩) n cap) zs) (hn : n = zs.length) (j : Nat) : w.frozen? ⟨g, j, none⟩ = false := by
  subst hn
  exact World.ownsRow.frozenAt h j
theorem OwnInts.put {B g n cap : Nat} {w : World} {zs : List Int} (h : OwnInts B w (.slice (some ⟨g, 0, none⟩) n cap) zs) (hn : n = zs.length) (j : Nat) (x : Int) :
    OwnInts B (w.setCell ⟨g, j, none⟩ (.int .i64 x)) (.slice (some ⟨g, 0, none⟩) n cap) (zs.set j x) ∧ Only (· = g) w (w.setCell ⟨g, j, none⟩ (.int .i64 x)) := by
  subst hn
  have := World.ownsRow.stored h j (.int .i64 x)
  refine ⟨?_, Only.of_grown this.2 fun k hk => (Option.some.inj hk).symm⟩
  have h1 := this.1
  unfold OwnInts
  rw [List.length_set, List.map_set]
  exact h1
theorem OwnInts.lt {B : Nat} {w : World} {v : Value} {zs : List Int} (h : OwnInts B w v zs) : ∀ k, Hits v k → B ≤ k ∧ k < w.heap.size := World.ownsRow.lt h
theorem OwnInts.base {B B' : Nat} {w : World} {v : Value} {zs : List Int} (h : OwnInts B w v zs) (hB : B' ≤ B) : OwnInts B' w v zs := by
  obtain ⟨h1, h2⟩ := h
  refine ⟨h1, ?_⟩
  rcases h2 with h2 | ⟨g, cap, cur, hv, hg, r⟩
  · exact Or.inl h2
  · exact Or.inr ⟨g, cap, cur, hv, Nat.le_trans hB hg, r⟩

/-- where the cells of a readable slice lie -/
def Value.blk' : Value → Option Nat
  | .slice (some d) _ _ => some d.block
  | _ => none
theorem IntsV.only {S : Nat → Prop} {w w' : World} {v : Value} {zs : List Int} (h : IntsV w v zs) (ho : Only S w w') (hs : ∀ k, Value.blk' v = some k → ¬ S k) : IntsV w' v zs := by
  obtain ⟨a, cap, rfl, h⟩ := h
  refine ⟨a, cap, rfl, fun hz => ?_⟩
  obtain ⟨d, ha, hsp, hd, hi⟩ := h hz
  refine ⟨d, ha, hsp, Nat.lt_of_lt_of_le hd ho.size, fun i hi' => ?_⟩
  exact (World.cell?_of_block (w := w) (a := ⟨d.block, d.off + i, none⟩) (ho.block _ hd (hs _ (by rw [ha]; rfl)))).trans (hi i hi')
theorem OwnInts.blk {B : Nat} {w : World} {v : Value} {zs : List Int} (h : OwnInts B w v zs) : Value.blk' v = v.ownBlock := by
  obtain ⟨_, h2⟩ := h
  rcases h2 with ⟨rfl, _⟩ | ⟨g, cap, cur, rfl, _⟩ <;> rfl

/-! ### mod -/
theorem tmod_fix (a p : Int) (hp : 0 < p) : a % p = if a.tmod p < 0 then a.tmod p + p else a.tmod p := by
  have h1 := Int.emod_nonneg a (show p ≠ 0 by omega)
  have h2 := Int.emod_lt_of_pos a hp
  by_cases h0 : 0 ≤ a
  · rw [Int.tmod_eq_emod_of_nonneg h0, if_neg (by omega)]
  · have h3 := Int.tmod_eq_emod (a := a) (b := p)
    by_cases hd : p ∣ a
    · have h4 := Int.emod_eq_zero_of_dvd hd
      rw [if_pos (Or.inr hd)] at h3
      simp at h3
      rw [if_neg (by omega)]
      omega
    · rw [if_neg (by intro h; rcases h with h | h; exact h0 h; exact hd h)] at h3
      have : ((p.natAbs : Nat) : Int) = p := Int.natAbs_of_nonneg (by omega)
      rw [this] at h3
      rw [if_pos (by omega)]
      omega
theorem mod_all (p a : Int) (hp : 1 ≤ p) (hp2 : p ≤ 1000) (h0 : -1000000000 ≤ a) (ha : a ≤ 1000000000) (w : World) : Calls Tryd.prog 236 #[.int .i64 p, .int .i64 a] w fun e w' => e = .returned (.int .i64 (a % p)) ∧ w = w' := by
  by_cases hn : 0 ≤ a
  · exact mod_any p a hp hp2 hn ha w
  · have hf0 := tmod_fix a p (by omega)
    have h2 := Int.tmod_lt_of_pos a (show 0 < p by omega)
    have h1 : -p < a.tmod p := by
      have e1 := Int.emod_nonneg a (show p ≠ 0 by omega)
      have e2 := Int.emod_lt_of_pos a (show 0 < p by omega)
      have e3 := Int.tmod_eq_emod (a := a) (b := p)
      split at e3 <;> omega
    have hf := Lib.hid hf0
    clear hf0
    generalize a % p = r at hf
    by_cases ht : a.tmod p < 0
    · go_enter Tryd.func236, Tryd.ntmps236
      go_wp2
      go_ret
      exact ⟨by have := hf.out; rw [if_pos ht] at this; rw [this]; rfl, rfl⟩
    · go_enter Tryd.func236, Tryd.ntmps236
      go_wp2
      go_ret
      exact ⟨by have := hf.out; rw [if_neg (Int.not_lt.2 ht)] at this; rw [this]; rfl, rfl⟩

end Go.Proofs.YtpeaeminjbjlnaaDoor

/-
  Rows of the call's own: a multiple added in place; new rows. Conditions: the elements are small.
-/
namespace Go.Proofs.YtpeaeminjbjlnaaDoor
open Go.RowKit
set_option linter.unusedVariables false

theorem addT_getD {p k : Int} {x y : List Int} (hl : x.length = y.length) {j : Nat} (hj : j < x.length) : (addT p x k y).getD j 0 = (x.getD j 0 + k * y.getD j 0) % p := by
  unfold addT
  simp only [List.getD_eq_getElem?_getD]
  rw [List.getElem?_zipWith, List.getElem?_eq_getElem hj, List.getElem?_eq_getElem (show j < y.length by omega)]
  simp
theorem getD_set_self {zs : List Int} {j : Nat} (hj : j < zs.length) (x : Int) : (zs.set j x).getD j 0 = x := by
  rw [List.getD_eq_getElem?_getD, List.getElem?_set_self hj]; rfl
theorem getD_set_ne {zs : List Int} {i j : Nat} (h : i ≠ j) (x : Int) : (zs.set i x).getD j 0 = zs.getD j 0 := by
  rw [List.getD_eq_getElem?_getD, List.getElem?_set_ne h, ← List.getD_eq_getElem?_getD]
theorem list_ext_getD {x y : List Int} (hl : x.length = y.length) (h : ∀ j, j < x.length → x.getD j 0 = y.getD j 0) : x = y := by
  refine List.ext_getElem hl fun j h1 h2 => ?_
  have := h j h1
  simpa [List.getD_eq_getElem?_getD, h1, h2] using this
theorem getD_lt {x : List Int} {j : Nat} (h : j < x.length) : x.getD j 0 = x[j] := by simp [List.getD_eq_getElem?_getD, h]
theorem mul_bd2 {a b A B : Int} (ha : -A ≤ a ∧ a ≤ A) (hb : 0 ≤ b ∧ b ≤ B) (hA : 0 ≤ A) (hB : 0 ≤ B) : -(A * B) ≤ a * b ∧ a * b ≤ A * B := by
  have h1 : a * b ≤ A * b := Int.mul_le_mul_of_nonneg_right ha.2 hb.1
  have h2 : A * b ≤ A * B := Int.mul_le_mul_of_nonneg_left hb.2 hA
  have h3 : -A * b ≤ a * b := Int.mul_le_mul_of_nonneg_right ha.1 hb.1
  rw [Int.neg_mul] at h3
  omega

theorem addTimes_any (p by' : Int) (v u : Value) (x y : List Int) (B : Nat) (w : World) (hv : OwnInts B w v x) (hu : IntsV w u y) (hap : x ≠ [] → ∀ k, Hits v k → Value.blk' u ≠ some k) (hl : x.length = y.length) (hlm : x.length ≤ 1000000)
    (hp : 2 ≤ p) (hp2 : p ≤ 1000) (hb0 : -1000 ≤ by') (hb1 : by' ≤ 1000) (hx : ∀ z ∈ x, 0 ≤ z ∧ z ≤ 1000) (hy : ∀ z ∈ y, 0 ≤ z ∧ z ≤ 1000) :
    Calls Tryd.prog 244 #[.int .i64 p, v, .int .i64 by', u] w fun e w' => e = .returned (.tuple #[]) ∧ OwnInts B w' v (addT p x by' y) ∧ Only (Hits v) w w' := by
  have HX := Lib.hid hx; have HY := Lib.hid hy; have HU := Lib.hid hu; have HV := Lib.hid hv; have HAP := Lib.hid hap; have HL := Lib.hid hl
  obtain ⟨ua, ucap, rfl, ui⟩ := hu
  clear ui hv hx hy hap
  rw [← hl]
  generalize hlen : x.length = l at *
  have HLX := Lib.hid hlen
  clear hlen hl
  go_enter Tryd.func244, Tryd.ntmps244
  go_wp2
  go_loopw [12] (fun i wr => ∃ (k : Nat) (zs : List Int), k ≤ l ∧ i = .int .i64 k ∧ zs.length = x.length ∧ (∀ j, j < k → zs.getD j 0 = (x.getD j 0 + by' * y.getD j 0) % p) ∧ (∀ j, k ≤ j → zs.getD j 0 = x.getD j 0) ∧ OwnInts B wr v zs ∧ Only (Hits v) w wr) (fun i _ => l - (intOf i).toNat)
  case atStart => exact ⟨0, x, by omega, rfl, rfl, fun _ h => absurd h (by omega), fun _ _ => rfl, HV.out, Only.refl _ _⟩
  case round =>
    obtain ⟨k, zs, hk, rfl, hz, h1, h2, ho, hon⟩ := hrel
    have HZ := Lib.hid hz; have H1 := Lib.hid h1; have H2 := Lib.hid h2; have HO := Lib.hid ho; have HON := Lib.hid hon
    clear hz h1 h2 ho hon
    by_cases hlt : k < l
    · have hkx : k < x.length := by rw [HLX.out]; exact hlt
      have hky : k < y.length := by rw [← HL.out]; exact hlt
      have hkz : k < zs.length := by rw [HZ.out]; exact hkx
      have hu' := (HU.out.only HON.out fun g hg hh => HAP.out (by intro h; rw [h] at hkx; simp at hkx) g hh hg).at hky
      obtain ⟨d, rfl, hs, hd, hc⟩ := hu'
      obtain ⟨db, dof, _⟩ := d
      simp only at hs hc
      subst hs
      obtain ⟨g, cap, hve, hg0, hg1, hhit⟩ := HO.out.parts (by intro h; rw [h] at hkz; simp at hkz)
      have hzl : zs.length = l := by rw [HZ.out, HLX.out]
      rw [hzl] at hve
      subst hve
      have hcell := HO.out.cell hzl.symm hkz
      have hfree := HO.out.free hzl.symm k
      have hput := fun n => HO.out.put hzl.symm k n
      have HP := Lib.hid hput
      have e1 : zs[k] = x.getD k 0 := by rw [← getD_lt hkz]; exact H2.out k (Nat.le_refl _)
      have e2 : y[k] = y.getD k 0 := (getD_lt hky).symm
      have b1 := HX.out _ (List.getElem_mem hkx)
      rw [← getD_lt hkx] at b1
      have b2 := HY.out _ (List.getElem_mem hky)
      rw [e2] at b2 hc
      rw [e1] at hcell
      clear hput e1 e2 hd hg0 hg1 hhit
      generalize hxk : x.getD k 0 = xk at *
      generalize hyk : y.getD k 0 = yk at *
      have HXK := Lib.hid hxk; have HYK := Lib.hid hyk; have HZL := Lib.hid hzl
      clear hxk hyk hzl hkx hky hkz
      have b3 := mul_bd2 (A := 1000) (B := 1000) ⟨hb0, hb1⟩ b2 (by omega) (by omega)
      go_wp2_with (go_at_call 236; refine (mod_all p (xk + by' * yk) (by omega) hp2 (by omega) (by omega) _).mono ?_; rintro e w' ⟨rfl, rfl⟩)
      go_roundw
      case rel =>
        have hkz : k < zs.length := by rw [HZL.out]; exact hlt
        refine ⟨k + 1, zs.set k ((xk + by' * yk) % p), by omega, by go_num, by rw [List.length_set]; exact HZ.out, fun j hj => ?_, fun j hj => ?_, (HP.out _).1, HON.out.trans ((HP.out _).2.mono fun g hg => by rw [hg]; rfl)⟩
        · by_cases hjk : k = j
          · subst hjk
            rw [getD_set_self hkz, HXK.out, HYK.out]
          · rw [getD_set_ne hjk]
            exact H1.out j (by omega)
        · rw [getD_set_ne (by omega)]
          exact H2.out j (by omega)
      case measure => simp [intOf]; omega
    · have hfin : zs = addT p x by' y := by
        refine list_ext_getD (by rw [HZ.out]; have h1 := HL.out; have h2 := HLX.out; simp [addT]; omega) fun j hj => ?_
        have hjx : j < x.length := by rw [← HZ.out]; exact hj
        rw [addT_getD (HLX.out.trans HL.out) hjx]
        exact H1.out j (by have := HLX.out; omega)
      have HF := Lib.hid hfin
      clear hfin
      go_wp2
      go_end0
      exact ⟨rfl, by rw [← HF.out]; exact HO.out, HON.out⟩

end Go.Proofs.YtpeaeminjbjlnaaDoor

/-
  New rows and new lists of rows: copies, zeros, units, appended rows. Conditions: lengths are small.
-/
namespace Go.Proofs.YtpeaeminjbjlnaaDoor
open Go.RowKit
set_option linter.unusedVariables false

theorem run_nil_any {P : Program} (w : World) (base : Nat) (t ty e : TypeId) (i : TypeInfo) (size : Nat) (ht : P.underlying t = some (.slice e)) (hi : P.info? e = some i)
    (v : Value) (n : Nat) (xs : List Value) (hown : w.ownsRow base e size v n xs) (c : Nat) : (Builtin.append_ #[t, t] ty #[v, .slice none 0 c]).run P w = .ok v w := by
  rcases hown.2 with ⟨rfl, rfl⟩ | ⟨g, cap, cur, rfl, _, _, hnc, _⟩
  · simp [Builtin.append_, run_underlying ht, sizeOf, typeInfo, hi, Builtin.lenOf, Builtin.firstCells]
  · simp [Builtin.append_, run_underlying ht, sizeOf, typeInfo, hi, Builtin.lenOf, Builtin.firstCells, hnc, storeCells]

/-- 'append(out, ys...)', out the call's own, ys readable: nil, empty or not. -/
theorem app_ints {ops : Array Oper} {rest : List Oper} {o : Oper} {a : Act} {Q : Exit → Act → World → Prop} (hgd : o.guard = none) (s x : Operand)
    (ho : o.op = .call { callee := .builtin .append, args := #[s, x], argTypes := #[24, 24] })
    {B : Nat} {w : World} {v u : Value} {zs ys : List Int} (hs : a.eval s = v) (hx : a.eval x = u) (hu : IntsV w u ys)
    (hown : OwnInts B w v zs) (hB : B ≤ w.heap.size) (hl : zs.length + ys.length ≤ 1000000000)
    (h : ∀ v' w', OwnInts B w' v' (zs ++ ys) → Below B w w' → wpList Tryd.prog ops Q rest (a.put o.dst v') w') :
    wpList Tryd.prog ops Q (o :: rest) a w := by
  obtain ⟨i0, hi, hz0, hz1, hz2⟩ := info_parts info_int
  obtain ⟨ua, ucap, rfl, hr⟩ := hu
  cases ua with
  | none =>
    have hy : ys = [] := by
      cases ys with
      | nil => rfl
      | cons z zs => obtain ⟨d, hd, _⟩ := hr (by simp); cases hd
    subst hy
    refine wpList_plain hgd fun K hK => ?_
    have hrun := run_nil_any (P := Tryd.prog) w B 24 o.type 3 i0 1 Tryd.underlying24 hi v zs.length _ hown ucap
    unfold Oper.wp execOp
    simp only [ho, resolve, invoke, builtin, Sem.run_bind, Sem.run_pure, Result.andThen_ok, List.map_toArray, List.map_cons, List.map_nil, hs, hx, List.length_nil, hrun]
    exact hK _ _ (h v w (by simpa using hown) (Below.refl _ _))
  | some d =>
    refine wpList_append_own _ hgd s x 24 ho B 3 i0 (.int .i64 0) 1 8 Tryd.underlying24 hi hz0 hz1 hz2 rfl (by decide) v zs.length (zs.map (Value.int .i64)) hs hown
      d ys.length ucap (ys.map (Value.int .i64)) hx (by simp) ?_ ?_ (by unfold maxLen; omega) (by omega) hB ?_
    · intro j u hj
      have hjy : j < ys.length := by
        rcases Nat.lt_or_ge j ys.length with h | h
        · exact h
        · rw [List.getElem?_eq_none (by simpa using h)] at hj; cases hj
      obtain ⟨d', hd, hsp, hdb, hc⟩ := hr (by intro h; rw [h] at hjy; simp at hjy)
      cases hd
      have := hc j hjy
      simp [hjy] at hj
      subst hj
      obtain ⟨db, dof, _⟩ := d
      simp only at hsp
      subst hsp
      unfold Addr.add; split
      · next h0 => subst h0; simpa using this
      · exact this
    · intro u hu
      obtain ⟨z, _, rfl⟩ := List.mem_map.1 hu
      rfl
    · intro v' w1 hown' hgrow _
      refine h v' w1 (by unfold OwnInts; rw [List.length_append, List.map_append]; exact hown') ?_
      exact (Below.refl B w).grown hgrow hB fun k hk => (hown.lt k hk).1

theorem clone_any (u : Value) (ys : List Int) (w : World) (hu : IntsV w u ys) (hl : ys.length ≤ 1000000) :
    Calls Tryd.prog 112 #[u] w fun e w' => ∃ v, e = .returned v ∧ OwnInts w.heap.size w' v ys ∧ w.grownBy w' none := by
  have HU := Lib.hid hu
  obtain ⟨ua, ucap, rfl, hx⟩ := hu
  clear hx
  go_enter Tryd.func112, Tryd.ntmps112
  go_wp2_with (at_builtin; go_loud (refine app_ints rfl _ _ rfl rfl rfl (HU.out.carry (grownBy_alloc _ _ _)) (OwnInts.empty (Nat.le_refl _) rfl) (by simp) (by simp; omega) ?_); intro v' w1 hown' hbel')
  have H1 := Lib.hid hown'; have H2 := Lib.hid hbel'
  clear hown' hbel'
  go_wp2
  go_ret
  exact ⟨v', rfl, by have := H1.out; simpa using this, grown_of_below (((Below.refl _ _).alloc (Nat.le_refl _) _).trans H2.out)⟩

theorem madeCells_int (n : Nat) : (madeCells (Value.int .i64 0).cells (n * 1)).toList = (List.replicate n (0 : Int)).map (Value.int .i64) := by
  rw [List.map_replicate]
  refine List.ext_getElem (by simp [madeCells]) fun j h1 h2 => ?_
  simp [madeCells, Value.cells, Nat.mod_one]

theorem zeros_any (n : Nat) (w : World) (hl : n ≤ 1000000) :
    Calls Tryd.prog 243 #[.int .i64 n] w fun e w' => ∃ v, e = .returned v ∧ OwnInts w.heap.size w' v (List.replicate n 0) ∧ w.grownBy w' none := by
  obtain ⟨i0, hi, hz0, hz1, hz2⟩ := info_parts info_int
  have HI := Lib.hid hi; have HZ0 := Lib.hid hz0; have HZ1 := Lib.hid hz1; have HZ2 := Lib.hid hz2
  clear hi hz0 hz1 hz2
  go_enter Tryd.func243, Tryd.ntmps243
  go_wp2_with (at_make; refine wpList_make_full _ rfl _ _ 24 rfl w.heap.size 3 i0 (.int .i64 0) 1 Tryd.underlying24 HI.out HZ0.out HZ1.out _ _ _ _ n rfl rfl rfl rfl (by rw [HZ2.out]; omega) (by unfold maxLen; omega) (Nat.le_refl _) ?_; intro w1 hown' hgr')
  have H1 := Lib.hid hown'; have H2 := Lib.hid hgr'
  clear hown' hgr'
  go_wp2
  go_ret
  refine ⟨_, rfl, ?_, H2.out⟩
  have := H1.out
  rw [madeCells_int] at this
  unfold OwnInts
  rw [List.length_replicate]
  exact this

theorem unit_any (n i : Nat) (w : World) (hl : n ≤ 1000000) (hi : i < n) :
    Calls Tryd.prog 209 #[.int .i64 n, .int .i64 i] w fun e w' => ∃ v, e = .returned v ∧ OwnInts w.heap.size w' v (unitL n i) ∧ w.grownBy w' none := by
  go_enter Tryd.func209, Tryd.ntmps209
  have hlen : (List.replicate n (0 : Int)).length = n := List.length_replicate
  have HLEN := Lib.hid hlen
  clear hlen
  go_wp2_with (
    go_at_call 243
    refine (zeros_any n w hl).mono ?_
    rintro e w1 ⟨v, rfl, hv, hg⟩
    have HG := Lib.hid hg
    obtain ⟨g, cap, hve, hg0, hg1, hhit⟩ := hv.parts (by intro h; have := HLEN.out; rw [h] at this; simp at this; omega)
    rw [HLEN.out] at hve
    subst hve
    have hcell := hv.cell HLEN.out.symm (j := i) (by rw [HLEN.out]; exact hi)
    have hfree := hv.free HLEN.out.symm i
    have HP := Lib.hid (hv.put HLEN.out.symm i 1)
    have HV := Lib.hid hv
    rw [List.getElem_replicate] at hcell
    clear hv hg hg0 hg1 hhit)
  go_ret
  exact ⟨_, rfl, HP.out.1, Only.grown ((Only.of_grown (S := fun k => w.heap.size ≤ k) HG.out (by simp)).trans (HP.out.2.mono fun k hk => by rw [hk]; exact (HV.out.lt _ rfl).1) |> fun h => ⟨h.os, h.tape, h.output, h.size, fun k hk _ => h.block k hk (by simp; omega)⟩)⟩

end Go.Proofs.YtpeaeminjbjlnaaDoor

/-
  Matrices that are the call's own: rows in blocks of their own; what is written, and what stays. And mod for negative numbers too.
-/
import Derived.Test.YtpeaeminjbjlnaaDoorMat
import Derived.Test.YtpeaeminjbjlnaaDoorFld2
import Derived.Laws.OwnMore
import Derived.BigRegion
import Derived.StillTailTactics
namespace Go.Proofs.YtpeaeminjbjlnaaDoor
open Go.RowKit
set_option linter.unusedVariables false

theorem info_ints : (Tryd.prog.info? 24).map (fun i => (i.zero, i.size, i.bytes)) = some (some (.slice none 0 0), 1, 24) := by kernel_rfl

def Hits (v : Value) (k : Nat) : Prop := v.ownBlock = some k
def Apart (v u : Value) : Prop := ∀ k, Hits v k → ¬ Hits u k
theorem Apart.symm {v u : Value} (h : Apart v u) : Apart u v := fun k h1 h2 => h k h2 h1
/-- Only the old blocks in S have been written. -/
structure Only (S : Nat → Prop) (w w' : World) : Prop where
  os : w'.os = w.os
  tape : w'.tape = w.tape
  output : w'.output = w.output
  size : w.heap.size ≤ w'.heap.size
  block : ∀ k, k < w.heap.size → ¬ S k → w'.heap[k]? = w.heap[k]?
theorem Only.refl (S : Nat → Prop) (w : World) : Only S w w := ⟨rfl, rfl, rfl, Nat.le_refl _, fun _ _ _ => rfl⟩
theorem Only.drew (S : Nat → Prop) (w : World) : Only S w w.drew := ⟨rfl, rfl, rfl, Nat.le_refl _, fun _ _ _ => rfl⟩
theorem Only.drewN (S : Nat → Prop) (w : World) (n : Nat) : Only S w (w.drewN n) := ⟨rfl, rfl, rfl, Nat.le_refl _, fun _ _ _ => rfl⟩
theorem Only.trans {S : Nat → Prop} {a b c : World} (h : Only S a b) (h' : Only S b c) : Only S a c :=
  ⟨h'.os.trans h.os, h'.tape.trans h.tape, h'.output.trans h.output, Nat.le_trans h.size h'.size,
    fun k hk hs => (h'.block k (Nat.lt_of_lt_of_le hk h.size) hs).trans (h.block k hk hs)⟩
theorem Only.mono {S S' : Nat → Prop} {a b : World} (h : Only S a b) (hs : ∀ k, S k → S' k) : Only S' a b :=
  ⟨h.os, h.tape, h.output, h.size, fun k hk hn => h.block k hk fun h' => hn (hs k h')⟩
theorem Only.of_grown {S : Nat → Prop} {a b : World} {r : Option Nat} (h : a.grownBy b r) (hs : ∀ k, r = some k → S k) : Only S a b :=
  ⟨h.os, h.tape, h.output, h.size, fun k hk hn => h.block k hk fun h' => hn (hs k h'.symm)⟩
theorem Only.grown {a b : World} (h : Only (fun _ => False) a b) : a.grownBy b none := ⟨h.os, h.tape, h.output, h.size, fun k hk _ => h.block k hk (fun x => x)⟩
theorem Only.below {S : Nat → Prop} {a b : World} {B : Nat} (h : Only S a b) (hB : B ≤ a.heap.size) (hs : ∀ k, S k → B ≤ k) : Below B a b :=
  ⟨h.os, h.tape, h.output, h.size, fun k hk => h.block k (Nat.lt_of_lt_of_le hk hB) fun h' => by have := hs k h'; omega⟩
theorem OwnInts.only {B : Nat} {S : Nat → Prop} {w w' : World} {v : Value} {zs : List Int} (h : OwnInts B w v zs) (ho : Only S w w') (hs : ∀ k, Hits v k → ¬ S k) : OwnInts B w' v zs := by
  obtain ⟨h1, h2⟩ := h
  refine ⟨h1, ?_⟩
  rcases h2 with h2 | ⟨g, cap, cur, hv, hg, hh, r⟩
  · exact Or.inl h2
  · have hlt : g < w.heap.size := by
      rcases Nat.lt_or_ge g w.heap.size with h | h
      · exact h
      · rw [Array.getElem?_eq_none h] at hh; cases hh
    exact Or.inr ⟨g, cap, cur, hv, hg, (ho.block g hlt (hs g (by rw [hv]; rfl))).trans hh, r⟩
/-- the parts of an own row that is not empty -/
theorem OwnInts.parts {B : Nat} {w : World} {v : Value} {zs : List Int} (h : OwnInts B w v zs) (hz : zs ≠ []) : ∃ g cap, v = .slice (some ⟨g, 0, none⟩) zs.length cap ∧ B ≤ g ∧ g < w.heap.size ∧ Hits v g := by
  obtain ⟨h1, h2⟩ := h
  rcases h2 with ⟨_, h0⟩ | ⟨g, cap, cur, rfl, hg, hh, _⟩
  · exact absurd (List.eq_nil_of_length_eq_zero (by simpa using h0)) hz
  · refine ⟨g, cap, rfl, hg, ?_, rfl⟩
    rcases Nat.lt_or_ge g w.heap.size with h | h
    · exact h
    · rw [Array.getElem?_eq_none h] at hh; cases hh
theorem OwnInts.cell {B g n cap : Nat} {w : World} {zs : List Int} (h : OwnInts B w (.slice (some ⟨g, 0, none⟩) n cap) zs) (hn : n = zs.length) {j : Nat} (hj : j < zs.length) : w.cell? ⟨g, j, none⟩ = some (.int .i64 zs[j]) := by
  subst hn
  have := World.ownsRow.cellAt h j (by omega)
  rw [this]
  simp [hj]
theorem OwnInts.free {B g n cap : Nat} {w : World} {zs : List Int} (h : OwnInts B w (.slice (some ⟨g, 0, none⟩) n cap) zs) (hn : n = zs.length) (j : Nat) : w.frozen? ⟨g, j, none⟩ = false := by
  subst hn
  exact World.ownsRow.frozenAt h j
theorem OwnInts.put {B g n cap : Nat} {w : World} {zs : List Int} (h : OwnInts B w (.slice (some ⟨g, 0, none⟩) n cap) zs) (hn : n = zs.length) (j : Nat) (x : Int) :
    OwnInts B (w.setCell ⟨g, j, none⟩ (.int .i64 x)) (.slice (some ⟨g, 0, none⟩) n cap) (zs.set j x) ∧ Only (· = g) w (w.setCell ⟨g, j, none⟩ (.int .i64 x)) := by
  subst hn
  have := World.ownsRow.stored h j (.int .i64 x)
  refine ⟨?_, Only.of_grown this.2 fun k hk => (Option.some.inj hk).symm⟩
  have h1 := this.1
  unfold OwnInts
  rw [List.length_set, List.map_set]
  exact h1
theorem OwnInts.lt {B : Nat} {w : World} {v : Value} {zs : List Int} (h : OwnInts B w v zs) : ∀ k, Hits v k → B ≤ k ∧ k < w.heap.size := World.ownsRow.lt h
theorem OwnInts.base {B B' : Nat} {w : World} {v : Value} {zs : List Int} (h : OwnInts B w v zs) (hB : B' ≤ B) : OwnInts B' w v zs := by
  obtain ⟨h1, h2⟩ := h
  refine ⟨h1, ?_⟩
  rcases h2 with h2 | ⟨g, cap, cur, hv, hg, r⟩
  · exact Or.inl h2
  · exact Or.inr ⟨g, cap, cur, hv, Nat.le_trans hB hg, r⟩

/-- where the cells of a readable slice lie -/
def Value.blk' : Value → Option Nat
  | .slice (some d) _ _ => some d.block
  | _ => none
theorem IntsV.only {S : Nat → Prop} {w w' : World} {v : Value} {zs : List Int} (h : IntsV w v zs) (ho : Only S w w') (hs : ∀ k, Value.blk' v = some k → ¬ S k) : IntsV w' v zs := by
  obtain ⟨a, cap, rfl, h⟩ := h
  refine ⟨a, cap, rfl, fun hz => ?_⟩
  obtain ⟨d, ha, hsp, hd, hi⟩ := h hz
  refine ⟨d, ha, hsp, Nat.lt_of_lt_of_le hd ho.size, fun i hi' => ?_⟩
  exact (World.cell?_of_block (w := w) (a := ⟨d.block, d.off + i, none⟩) (ho.block _ hd (hs _ (by rw [ha]; rfl)))).trans (hi i hi')
theorem OwnInts.blk {B : Nat} {w : World} {v : Value} {zs : List Int} (h : OwnInts B w v zs) : Value.blk' v = v.ownBlock := by
  obtain ⟨_, h2⟩ := h
  rcases h2 with ⟨rfl, _⟩ | ⟨g, cap, cur, rfl, _⟩ <;> rfl

/-! ### mod -/
theorem tmod_fix (a p : Int) (hp : 0 < p) : a % p = if a.tmod p < 0 then a.tmod p + p else a.tmod p := by
  have h1 := Int.emod_nonneg a (show p ≠ 0 by omega)
  have h2 := Int.emod_lt_of_pos a hp
  by_cases h0 : 0 ≤ a
  · rw [Int.tmod_eq_emod_of_nonneg h0, if_neg (by omega)]
  · have h3 := Int.tmod_eq_emod (a := a) (b := p)
    by_cases hd : p ∣ a
    · have h4 := Int.emod_eq_zero_of_dvd hd
      rw [if_pos (Or.inr hd)] at h3
      simp at h3
      rw [if_neg (by omega)]
      omega
    · rw [if_neg (by intro h; rcases h with h | h; exact h0 h; exact hd h)] at h3
      have : ((p.natAbs : Nat) : Int) = p := Int.natAbs_of_nonneg (by omega)
      rw [this] at h3
      rw [if_pos (by omega)]
      omega
theorem mod_all (p a : Int) (hp : 1 ≤ p) (hp2 : p ≤ 1000) (h0 : -1000000000 ≤ a) (ha : a ≤ 1000000000) (w : World) : Calls Tryd.prog 236 #[.int .i64 p, .int .i64 a] w fun e w' => e = .returned (.int .i64 (a % p)) ∧ w = w' := by
  by_cases hn : 0 ≤ a
  · exact mod_any p a hp hp2 hn ha w
  · have hf0 := tmod_fix a p (by omega)
    have h2 := Int.tmod_lt_of_pos a (show 0 < p by omega)
    have h1 : -p < a.tmod p := by
      have e1 := Int.emod_nonneg a (show p ≠ 0 by omega)
      have e2 := Int.emod_lt_of_pos a (show 0 < p by omega)
      have e3 := Int.tmod_eq_emod (a := a) (b := p)
      split at e3 <;> omega
    have hf := Lib.hid hf0
    clear hf0
    generalize a % p = r at hf
    by_cases ht : a.tmod p < 0
    · go_enter Tryd.func236, Tryd.ntmps236
      go_wp2
      go_ret
      exact ⟨by have := hf.out; rw [if_pos ht] at this; rw [this]; rfl, rfl⟩
    · go_enter Tryd.func236, Tryd.ntmps236
      go_wp2
      go_ret
      exact ⟨by have := hf.out; rw [if_neg (Int.not_lt.2 ht)] at this; rw [this]; rfl, rfl⟩

end Go.Proofs.YtpeaeminjbjlnaaDoor

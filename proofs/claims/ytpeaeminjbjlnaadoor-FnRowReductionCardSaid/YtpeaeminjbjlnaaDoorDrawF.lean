/-
  The draws of chapter 1: each returns integers within bounds and writes nothing that was there. Conditions: the code reads as bytes.
-/
import Derived.Test.YtpeaeminjbjlnaaDoorCur
namespace Go.Proofs.YtpeaeminjbjlnaaDoor
open Go.RowKit
set_option linter.unusedVariables false

/-- A slice of bytes that can be read. -/
def CodeAt (w : World) (cv : Value) : Prop :=
  ∃ (a : Option Addr) (len cap : Nat), cv = .slice a len cap ∧ len ≤ 140737488351232 ∧
    (∀ k : Nat, k < len → ∃ (d : Addr) (x : Int), a = some d ∧ d.block < w.heap.size ∧ d.spot = none ∧ w.cell? ⟨d.block, d.off + k, none⟩ = some (.int .u8 x) ∧ 0 ≤ x ∧ x ≤ 255)

/-- The same without a bound on the length (but what every length meets). -/
def CodeRaw (w : World) (cv : Value) : Prop :=
  ∃ (a : Option Addr) (len cap : Nat), cv = .slice a len cap ∧ len ≤ 9223372036854775807 ∧
    (∀ k : Nat, k < len → ∃ (d : Addr) (x : Int), a = some d ∧ d.block < w.heap.size ∧ d.spot = none ∧ w.cell? ⟨d.block, d.off + k, none⟩ = some (.int .u8 x) ∧ 0 ≤ x ∧ x ≤ 255)

theorem CodeAt.carry {w w' : World} {cv : Value} (h : CodeAt w cv) (hg : w.grownBy w' none) : CodeAt w' cv := by
  obtain ⟨a, len, cap, rfl, hl, hx⟩ := h
  refine ⟨a, len, cap, rfl, hl, fun k hk => ?_⟩
  obtain ⟨d, x, ha, hs', hsp, hc, x0, x1⟩ := hx k hk
  exact ⟨d, x, ha, Nat.lt_of_lt_of_le hs' hg.size, hsp, (World.cell?_of_block (w := w) (a := ⟨d.block, d.off + k, none⟩) (hg.block _ hs' (by simp))).trans hc, x0, x1⟩

theorem cur_new {w : World} {cv : Value} (h : CodeAt w cv) : Cur (w.alloc (.cells #[cv, .int .i64 0, .int .u64 0] 140)) w.heap.size 0 := by
  obtain ⟨a, len, cap, rfl, hl, hx⟩ := h
  refine ⟨a, len, cap, 0, 0, alloc_heap_new _ _, by omega, by omega, hl, fun k hk => ?_⟩
  obtain ⟨d, x, ha, hs', hsp, hc, x0, x1⟩ := hx k hk
  exact ⟨d, x, ha, by omega, by simp; omega, hsp, (World.cell?_of_block (w := w) (a := ⟨d.block, d.off + k, none⟩) (alloc_heap_old _ _ _ hs')).trans hc, x0, x1⟩

/-- A block of the call's own is no old block. -/
theorem grownBy_own {w w' : World} {o : Obj} (h : (w.alloc o).grownBy w' (some w.heap.size)) : w.grownBy w' none :=
  ⟨h.os, h.tape, h.output, by have := h.size; simp at this; omega, fun k hk _ => (h.block k (by simp; omega) (by simp; omega)).trans (alloc_heap_old _ _ _ hk)⟩

theorem anyP_bd {p : Int} (h : anyP p) : -1 ≤ p ∧ p ≤ 101 := by simp [anyP] at h; omega

end Go.Proofs.YtpeaeminjbjlnaaDoor

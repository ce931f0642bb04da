/-
  The draws of chapter 1: each returns integers within bounds and writes nothing that was there. Conditions: the code reads as bytes.
-/
import Derived.Test.YtmnpcooaijpigaaDoorCur
namespace Go.Proofs.YtmnpcooaijpigaaDoor
open Go.RowKit
set_option linter.unusedVariables false

/-- A slice of bytes that can be read. -/
def CodeAt (w : World) (cv : Value) : Prop :=
  ∃ (a : Option Addr) (len cap : Nat), cv = .slice a len cap ∧ len ≤ 140737488351232 ∧
    (∀ k : Nat, k < len → ∃ (d : Addr) (x : Int), a = some d ∧ d.block < w.heap.size ∧ d.spot = none ∧ w.cell? ⟨d.block, d.off + k, none⟩ = some (.int .u8 x) ∧ 0 ≤ x ∧ x ≤ 255)

/-- The same without a bound on the length (but what every length meets). -/
def CodeRaw (w : World) (cv : Value) : Prop :=
  ∃ (a : Option Addr) (len cap : Nat), cv = .slice a len cap ∧ len ≤ 9223372036854775807 ∧
    (∀ k : Nat, k < len → ∃ (d : Addr) (x : Int), a = some d ∧ d.block < w.heap.size ∧ d.spot = none ∧ w.cell? ⟨d.block, d.off + k, none⟩ = some (.int .u8 x) ∧ 0 ≤ x ∧ x ≤ 255)

theorem CodeAt.carry {w w' : World} {cv : Value} (h : CodeAt w cv) (hg : w.grownBy w' none) : CodeAt w' cv := by
  obtain ⟨a, len, cap, rfl, hl, hx⟩ := h
  refine ⟨a, len, cap, rfl, hl, fun k hk => ?_⟩
  obtain ⟨d, x, ha, hs', hsp, hc, x0, x1⟩ := hx k hk
  exact ⟨d, x, ha, Nat.lt_of_lt_of_le hs' hg.size, hsp, (World.cell?_of_block (w := w) (a := ⟨d.block, d.off + k, none⟩) (hg.block _ hs' (by simp))).trans hc, x0, x1⟩

theorem cur_new {w : World} {cv : Value} (h : CodeAt w cv) : Cur (w.alloc (.cells #[cv, .int .i64 0, .int .u64 0] 47)) w.heap.size 0 := by
  obtain ⟨a, len, cap, rfl, hl, hx⟩ := h
  refine ⟨a, len, cap, 0, 0, alloc_heap_new _ _, by omega, by omega, hl, fun k hk => ?_⟩
  obtain ⟨d, x, ha, hs', hsp, hc, x0, x1⟩ := hx k hk
  exact ⟨d, x, ha, by omega, by simp; omega, hsp, (World.cell?_of_block (w := w) (a := ⟨d.block, d.off + k, none⟩) (alloc_heap_old _ _ _ hs')).trans hc, x0, x1⟩

/-- A block of the call's own is no old block. -/
theorem grownBy_own {w w' : World} {o : Obj} (h : (w.alloc o).grownBy w' (some w.heap.size)) : w.grownBy w' none :=
  ⟨h.os, h.tape, h.output, by have := h.size; simp at this; omega, fun k hk _ => (h.block k (by simp; omega) (by simp; omega)).trans (alloc_heap_old _ _ _ hk)⟩

def D3 (w : World) (e : Ending) (w' : World) : Prop :=
  ∃ p a b : Int, e = .returned (.tuple #[.int .i64 p, .int .i64 a, .int .i64 b]) ∧ anyP p ∧ (-1 ≤ a ∧ a ≤ 1001) ∧ (-1 ≤ b ∧ b ≤ 1001) ∧ w.grownBy w' none
def D2 (w : World) (e : Ending) (w' : World) : Prop :=
  ∃ p a : Int, e = .returned (.tuple #[.int .i64 p, .int .i64 a]) ∧ anyP p ∧ (-1 ≤ a ∧ a ≤ 1001) ∧ w.grownBy w' none
def D4 (w : World) (e : Ending) (w' : World) : Prop :=
  ∃ p a b c : Int, e = .returned (.tuple #[.int .i64 p, .int .i64 a, .int .i64 b, .int .i64 c]) ∧ anyP p ∧ (-1 ≤ a ∧ a ≤ 1001) ∧ (-1 ≤ b ∧ b ≤ 1001) ∧ (-1 ≤ c ∧ c ≤ 1001) ∧ w.grownBy w' none

theorem anyP_bd {p : Int} (h : anyP p) : -1 ≤ p ∧ p ≤ 101 := by simp [anyP] at h; omega

theorem drawFieldAdd_any (cv : Value) (w : World) (hc : CodeAt w cv) : Calls Tryd.prog 28 #[cv] w (D3 w) := by
  have hn := cur_new hc
  obtain ⟨a0, len, cap, rfl, _, _⟩ := hc
  have HN := Lib.hid hn
  clear hn
  go_enter Tryd.func28, Tryd.ntmps28
  go_wp2_with fail
  refine (anyPrime_any _ _ _ HN.out (by omega)).mono ?_
  rintro e w1 ⟨p, rfl, hp, c1, g1⟩
  have hb := anyP_bd hp
  have C1 := Lib.hid c1; have G1 := Lib.hid g1; have HP := Lib.hid hp; clear c1 g1 hp
  go_wp2_with fail
  refine (anyElem_any _ _ _ _ C1.out (by omega) (by omega) (by omega)).mono ?_
  rintro e w2 ⟨a, rfl, ha, c2, g2⟩
  have C2 := Lib.hid c2; have G2 := Lib.hid g2; have HA := Lib.hid ha; clear c2 g2 ha
  go_wp2_with fail
  refine (anyElem_any _ _ _ _ C2.out (by omega) (by omega) (by omega)).mono ?_
  rintro e w3 ⟨b, rfl, hb', c3, g3⟩
  have C3 := Lib.hid c3; have G3 := Lib.hid g3; have HB := Lib.hid hb'; clear c3 g3 hb'
  go_wp2
  go_ret3
  exact ⟨p, a, b, rfl, HP.out, by have := HA.out; omega, by have := HB.out; omega, grownBy_own (grownBy_trans (grownBy_trans G1.out G2.out) G3.out)⟩

theorem drawFieldMul_any (cv : Value) (w : World) (hc : CodeAt w cv) : Calls Tryd.prog 7 #[cv] w (D3 w) := by
  have HC := Lib.hid hc
  obtain ⟨a0, len, cap, rfl, _, _⟩ := hc
  go_enter Tryd.func7, Tryd.ntmps7
  go_wp2_with fail
  refine (drawFieldAdd_any _ _ HC.out).mono ?_
  rintro e w1 ⟨p, a, b, rfl, h1, h2, h3, h4⟩
  have H := Lib.hid (And.intro h1 (And.intro h2 (And.intro h3 h4))); clear h1 h2 h3 h4
  go_wp2
  go_ret3
  exact ⟨p, a, b, rfl, H.out⟩

theorem drawDiscreteLog_any (cv : Value) (w : World) (hc : CodeAt w cv) : Calls Tryd.prog 14 #[cv] w (D3 w) := by
  have HC := Lib.hid hc
  obtain ⟨a0, len, cap, rfl, _, _⟩ := hc
  go_enter Tryd.func14, Tryd.ntmps14
  go_wp2_with fail
  refine (drawFieldAdd_any _ _ HC.out).mono ?_
  rintro e w1 ⟨p, a, b, rfl, h1, h2, h3, h4⟩
  have H := Lib.hid (And.intro h1 (And.intro h2 (And.intro h3 h4))); clear h1 h2 h3 h4
  go_wp2
  go_ret3
  exact ⟨p, a, b, rfl, H.out⟩

theorem drawFieldInverse_any (cv : Value) (w : World) (hc : CodeAt w cv) : Calls Tryd.prog 36 #[cv] w (D2 w) := by
  have hn := cur_new hc
  obtain ⟨a0, len, cap, rfl, _, _⟩ := hc
  have HN := Lib.hid hn
  clear hn
  go_enter Tryd.func36, Tryd.ntmps36
  go_wp2_with fail
  refine (anyPrime_any _ _ _ HN.out (by omega)).mono ?_
  rintro e w1 ⟨p, rfl, hp, c1, g1⟩
  have hb := anyP_bd hp
  have C1 := Lib.hid c1; have G1 := Lib.hid g1; have HP := Lib.hid hp; clear c1 g1 hp
  go_wp2_with fail
  refine (anyElem_any _ _ _ _ C1.out (by omega) (by omega) (by omega)).mono ?_
  rintro e w2 ⟨a, rfl, ha, c2, g2⟩
  have C2 := Lib.hid c2; have G2 := Lib.hid g2; have HA := Lib.hid ha; clear c2 g2 ha
  go_wp2
  go_ret2
  exact ⟨p, a, rfl, HP.out, by have := HA.out; omega, grownBy_own (grownBy_trans G1.out G2.out)⟩

theorem drawSquareRoot_any (cv : Value) (w : World) (hc : CodeAt w cv) : Calls Tryd.prog 17 #[cv] w (D2 w) := by
  have HC := Lib.hid hc
  obtain ⟨a0, len, cap, rfl, _, _⟩ := hc
  go_enter Tryd.func17, Tryd.ntmps17
  go_wp2_with fail
  refine (drawFieldInverse_any _ _ HC.out).mono ?_
  rintro e w1 ⟨p, a, rfl, h1, h2, h4⟩
  have H := Lib.hid (And.intro h1 (And.intro h2 h4)); clear h1 h2 h4
  go_wp2
  go_ret2
  exact ⟨p, a, rfl, H.out⟩

theorem drawQuadraticRoots_any (cv : Value) (w : World) (hc : CodeAt w cv) : Calls Tryd.prog 23 #[cv] w (D4 w) := by
  have hn := cur_new hc
  obtain ⟨a0, len, cap, rfl, _, _⟩ := hc
  have HN := Lib.hid hn
  clear hn
  go_enter Tryd.func23, Tryd.ntmps23
  go_wp2_with fail
  refine (anyPrime_any _ _ _ HN.out (by omega)).mono ?_
  rintro e w1 ⟨p, rfl, hp, c1, g1⟩
  have hb := anyP_bd hp
  have C1 := Lib.hid c1; have G1 := Lib.hid g1; have HP := Lib.hid hp; clear c1 g1 hp
  go_wp2_with fail
  refine (anyElem_any _ _ _ _ C1.out (by omega) (by omega) (by omega)).mono ?_
  rintro e w2 ⟨a, rfl, ha, c2, g2⟩
  have C2 := Lib.hid c2; have G2 := Lib.hid g2; have HA := Lib.hid ha; clear c2 g2 ha
  go_wp2_with fail
  refine (anyElem_any _ _ _ _ C2.out (by omega) (by omega) (by omega)).mono ?_
  rintro e w3 ⟨b, rfl, hb', c3, g3⟩
  have C3 := Lib.hid c3; have G3 := Lib.hid g3; have HB := Lib.hid hb'; clear c3 g3 hb'
  go_wp2_with fail
  refine (anyElem_any _ _ _ _ C3.out (by omega) (by omega) (by omega)).mono ?_
  rintro e w4 ⟨c, rfl, hc', c4, g4⟩
  have C4 := Lib.hid c4; have G4 := Lib.hid g4; have HC := Lib.hid hc'; clear c4 g4 hc'
  go_wp2
  exact bodyPost_ret (v := .tuple #[.int .i64 p, .int .i64 a, .int .i64 b, .int .i64 c]) (by simp [results, Tryd.results23, go_sem]) rfl
    ⟨p, a, b, c, rfl, HP.out, by have := HA.out; omega, by have := HB.out; omega, by have := HC.out; omega, grownBy_own (grownBy_trans (grownBy_trans (grownBy_trans G1.out G2.out) G3.out) G4.out)⟩

end Go.Proofs.YtmnpcooaijpigaaDoor

/-
  Fields, bounds and lists of bounded numbers, in the program and in the reference. Conditions: the table of small primes holds what its text lays; lengths are small.
-/
import Derived.Test.YtkamcgonacmieaaDoorNa00
import Derived.Test.YtkamcgonacmieaaDoorCards
import Derived.Test.YtkamcgonacmieaaDoorTie
import Derived.WalkKit
import Derived.ProofKit
import Derived.OpenShut
import Derived.ShutString
import Derived.ChangeOld
import Derived.OpenVars
import Derived.Below
import Derived.Deep.DeepHandedRow
import Derived.Lib.LaidTab
import Derived.Test.YtkamcgonacmieaaDoorProg
import Derived.Lib.Hide
import Derived.Deep.Slices
import Derived.Lib.SmallJoins
namespace Go.Proofs.YtkamcgonacmieaaDoor
open Go.RowKit
set_option linter.unusedVariables false
set_option maxRecDepth 100000

/-- The table of small primes. -/
structure Tab (w : World) : Prop where
  c0 : w.cell? ⟨0, 0, none⟩ = some (.int .i64 2)
  c1 : w.cell? ⟨0, 1, none⟩ = some (.int .i64 3)
  c2 : w.cell? ⟨0, 2, none⟩ = some (.int .i64 5)
  c3 : w.cell? ⟨0, 3, none⟩ = some (.int .i64 7)
  lt : 0 < w.heap.size
theorem Tab.carry {w w' : World} (h : Tab w) (hw : ∀ k, k < w.heap.size → w'.heap[k]? = w.heap[k]?) (hs : w.heap.size ≤ w'.heap.size) : Tab w' := by
  have e := hw 0 h.lt
  exact ⟨(World.cell?_of_block (a := ⟨0, 0, none⟩) e).trans h.c0, (World.cell?_of_block (a := ⟨0, 1, none⟩) e).trans h.c1, (World.cell?_of_block (a := ⟨0, 2, none⟩) e).trans h.c2, (World.cell?_of_block (a := ⟨0, 3, none⟩) e).trans h.c3, Nat.lt_of_lt_of_le h.lt hs⟩
theorem Tab.grown {w w' : World} (h : Tab w) (hg : w.grownBy w' none) : Tab w' := h.carry (fun k hk => hg.block k hk (by simp)) hg.size
theorem Tab.alloc {w : World} (h : Tab w) (o : Obj) : Tab (w.alloc o) := h.carry (fun k hk => alloc_heap_old w o k hk) (by simp)
theorem isElement_any (p a : Int) (w : World) : Calls Tryd.prog 192 #[.int .i64 p, .int .i64 a] w fun e w' => e = .returned (.bool (elB p a)) ∧ w = w' := by
  by_cases h0 : 0 ≤ a <;> by_cases h1 : a < p
  all_goals
    go_enter Tryd.func192, Tryd.ntmps192
    go_wp2
    go_ret
    exact ⟨by simp [elB, h0, h1], rfl⟩

theorem l1In_any (n lo hi : Int) (w : World) : Calls Tryd.prog 110 #[.int .i64 n, .int .i64 lo, .int .i64 hi] w fun e w' => e = .returned (.bool (decide (lo ≤ n ∧ n ≤ hi))) ∧ w = w' := by
  by_cases h0 : lo ≤ n <;> by_cases h1 : n ≤ hi
  all_goals
    go_enter Tryd.func110, Tryd.ntmps110
    go_wp2
    go_ret
    exact ⟨by simp [h0, h1], rfl⟩
def okTo (p : Int) : Nat → Prop
  | 0 => True
  | 1 => p % 2 ≠ 0 ∨ p = 2
  | 2 => (p % 2 ≠ 0 ∨ p = 2) ∧ (p % 3 ≠ 0 ∨ p = 3)
  | 3 => (p % 2 ≠ 0 ∨ p = 2) ∧ (p % 3 ≠ 0 ∨ p = 3) ∧ (p % 5 ≠ 0 ∨ p = 5)
  | _ => (p % 2 ≠ 0 ∨ p = 2) ∧ (p % 3 ≠ 0 ∨ p = 3) ∧ (p % 5 ≠ 0 ∨ p = 5) ∧ (p % 7 ≠ 0 ∨ p = 7)

theorem isField_in (p : Int) (w : World) (ht : Tab w) (h0 : 2 ≤ p) (h1 : p ≤ 97) : Calls Tryd.prog 123 #[.int .i64 p] w fun e w' => e = .returned (.bool (fldB p)) ∧ w = w' := by
  obtain ⟨c0, c1, c2, c3, _⟩ := ht
  have i0 : ∀ w, (Instr.index 195 (.agg #[.int .i64 2, .int .i64 3, .int .i64 5, .int .i64 7]) (.int .i64 0)).run Tryd.prog w = .ok (.int .i64 2) w := fun _ => by kernel_rfl
  have i1 : ∀ w, (Instr.index 195 (.agg #[.int .i64 2, .int .i64 3, .int .i64 5, .int .i64 7]) (.int .i64 1)).run Tryd.prog w = .ok (.int .i64 3) w := fun _ => by kernel_rfl
  have i2 : ∀ w, (Instr.index 195 (.agg #[.int .i64 2, .int .i64 3, .int .i64 5, .int .i64 7]) (.int .i64 2)).run Tryd.prog w = .ok (.int .i64 5) w := fun _ => by kernel_rfl
  have i3 : ∀ w, (Instr.index 195 (.agg #[.int .i64 2, .int .i64 3, .int .i64 5, .int .i64 7]) (.int .i64 3)).run Tryd.prog w = .ok (.int .i64 7) w := fun _ => by kernel_rfl
  have m2 := Int.emod_nonneg p (show (2 : Int) ≠ 0 by omega)
  have m3 := Int.emod_nonneg p (show (3 : Int) ≠ 0 by omega)
  have m5 := Int.emod_nonneg p (show (5 : Int) ≠ 0 by omega)
  have m7 := Int.emod_nonneg p (show (7 : Int) ≠ 0 by omega)
  go_enter Tryd.func123, Tryd.ntmps123
  go_wp2
  go_loop [12] (fun i => ∃ k : Nat, k ≤ 4 ∧ i = .int .i64 k ∧ okTo p k) (fun i => 4 - (intOf i).toNat)
  case atStart => exact ⟨0, by omega, rfl, trivial⟩
  case round =>
    obtain ⟨k, hk, rfl, ho⟩ := hrel
    have HO := Lib.hid ho
    clear ho
    match k, hk with
    | 0, _ =>
      by_cases hd : p % 2 = 0
      · by_cases he : p = 2
        · obtain rfl := he
          go_wp2
          go_round
          case rel => exact ⟨1, by omega, by go_num, Or.inr rfl⟩
          case measure => simp [intOf]
        · have hdb : (p % 2 == 0) = true := by simp [hd]
          have heb : (p != 2) = true := by simp [he]
          have hfin : fldB p = false := by simp [fldB, hd, he]
          clear hd
          go_wp2
          go_ret
          exact ⟨by simp, rfl⟩
      · have hdb : (p % 2 == 0) = false := by simp [hd]
        have HD := Lib.hid hd
        clear hd
        go_wp2
        go_round
        case rel => exact ⟨1, by omega, by go_num, Or.inl HD.out⟩
        case measure => simp [intOf]
    | 1, _ =>
      by_cases hd : p % 3 = 0
      · by_cases he : p = 3
        · obtain rfl := he
          go_wp2
          go_round
          case rel => exact ⟨2, by omega, by go_num, HO.out, Or.inr rfl⟩
          case measure => simp [intOf]
        · have hdb : (p % 3 == 0) = true := by simp [hd]
          have heb : (p != 3) = true := by simp [he]
          have hfin : fldB p = false := by simp [fldB, hd, he]
          clear hd
          go_wp2
          go_ret
          exact ⟨by simp, rfl⟩
      · have hdb : (p % 3 == 0) = false := by simp [hd]
        have HD := Lib.hid hd
        clear hd
        go_wp2
        go_round
        case rel => exact ⟨2, by omega, by go_num, HO.out, Or.inl HD.out⟩
        case measure => simp [intOf]
    | 2, _ =>
      by_cases hd : p % 5 = 0
      · by_cases he : p = 5
        · obtain rfl := he
          go_wp2
          go_round
          case rel => exact ⟨3, by omega, by go_num, HO.out.1, HO.out.2, Or.inr rfl⟩
          case measure => simp [intOf]
        · have hdb : (p % 5 == 0) = true := by simp [hd]
          have heb : (p != 5) = true := by simp [he]
          have hfin : fldB p = false := by simp [fldB, hd, he]
          clear hd
          go_wp2
          go_ret
          exact ⟨by simp, rfl⟩
      · have hdb : (p % 5 == 0) = false := by simp [hd]
        have HD := Lib.hid hd
        clear hd
        go_wp2
        go_round
        case rel => exact ⟨3, by omega, by go_num, HO.out.1, HO.out.2, Or.inl HD.out⟩
        case measure => simp [intOf]
    | 3, _ =>
      by_cases hd : p % 7 = 0
      · by_cases he : p = 7
        · obtain rfl := he
          go_wp2
          go_round
          case rel => exact ⟨4, by omega, by go_num, HO.out.1, HO.out.2.1, HO.out.2.2, Or.inr rfl⟩
          case measure => simp [intOf]
        · have hdb : (p % 7 == 0) = true := by simp [hd]
          have heb : (p != 7) = true := by simp [he]
          have hfin : fldB p = false := by simp [fldB, hd, he]
          clear hd
          go_wp2
          go_ret
          exact ⟨by simp, rfl⟩
      · have hdb : (p % 7 == 0) = false := by simp [hd]
        have HD := Lib.hid hd
        clear hd
        go_wp2
        go_round
        case rel => exact ⟨4, by omega, by go_num, HO.out.1, HO.out.2.1, HO.out.2.2, Or.inl HD.out⟩
        case measure => simp [intOf]
    | 4, _ =>
      have hfin : fldB p = true := fldB_iff.2 ⟨h0, h1, HO.out⟩
      go_wp2
      go_ret
      exact ⟨by simp, rfl⟩

theorem isField_any (p : Int) (w : World) (ht : Tab w) : Calls Tryd.prog 123 #[.int .i64 p] w fun e w' => e = .returned (.bool (fldB p)) ∧ w = w' := by
  by_cases h2 : p < 2
  · have hf : fldB p = false := by simp [fldB]; omega
    have HF := Lib.hid hf
    clear hf
    clear ht
    go_enter Tryd.func123, Tryd.ntmps123
    go_wp2
    go_ret
    exact ⟨by rw [HF.out]; rfl, rfl⟩
  · by_cases h : 97 < p
    · have hf : fldB p = false := by simp [fldB]; omega
      have HF := Lib.hid hf
      clear hf
      clear ht
      go_enter Tryd.func123, Tryd.ntmps123
      go_wp2
      go_ret
      exact ⟨by rw [HF.out]; rfl, rfl⟩
    · exact isField_in p w ht (by omega) (by omega)
theorem fdGood_any (p : Int) (w : World) : Calls Tryd.prog 109 #[.int .i64 p] w fun e w' => e = .returned (.bool (fldB p)) ∧ w = w' := by
  by_cases hin : 2 ≤ p ∧ p ≤ 97
  · have hd : decide (2 ≤ p ∧ p ≤ 97) = true := by simpa using hin
    obtain ⟨g0, g1⟩ := hin
    go_enter Tryd.func109, Tryd.ntmps109
    go_wp2_with (go_at_call 110; refine (l1In_any _ _ _ _).mono ?_; rintro e w' ⟨rfl, rfl⟩)
    go_loop [3] (fun k => ∃ k' : Nat, k = .int .i64 k' ∧ 2 ≤ k' ∧ k' ≤ 10 ∧ ∀ j : Int, 2 ≤ j → j < k' → p % j ≠ 0) (fun k => 200 - (intOf k).toNat)
    case atStart => exact ⟨2, rfl, by omega, by omega, fun j h1 h2 => by omega⟩
    case round =>
      obtain ⟨k, rfl, hk2, hk10, hr⟩ := hrel
      have HR := Lib.hid hr
      clear hr
      have hkk : ((k : Int) * k) = ((k * k : Nat) : Int) := by push_cast; rfl
      have hkk2 : k * k ≤ 100 := Nat.mul_le_mul hk10 hk10
      have HKK := Lib.hid hkk
      clear hkk
      have hq0 : (0 : Int) ≤ (k : Int) * k := by rw [HKK.out]; omega
      have hq1 : (k : Int) * k ≤ 100 := by rw [HKK.out]; omega
      have e0 := Int.emod_nonneg p (show (k : Int) ≠ 0 by omega)
      by_cases hle : (k : Int) * k ≤ p
      · by_cases hd0 : p % (k : Int) = 0
        · have hb : (p % (k : Int) == 0) = true := by rw [beq_iff_eq]; exact hd0
          have hfin : fldB p = false := fld_no g0 g1 (by omega) hle hd0
          have HF := Lib.hid hfin
          clear hfin hd0
          go_wp2
          go_ret
          exact ⟨by rw [HF.out]; rfl, rfl⟩
        · have hb : (p % (k : Int) == 0) = false := by rw [beq_eq_false_iff_ne]; exact hd0
          have HD := Lib.hid hd0
          clear hd0
          have hk9 : k < 10 := by
            rcases Nat.lt_or_ge k 10 with h | h
            · exact h
            · obtain rfl : k = 10 := by omega
              omega
          go_wp2
          go_round
          case rel => exact ⟨k + 1, by go_num, by omega, by omega, fun j h1 h2 => by
            by_cases hj : j = k
            · subst hj; exact HD.out
            · exact HR.out j h1 (by omega)⟩
          case measure => simp [intOf]; omega
      · have hfin : fldB p = true := fld_yes g0 g1 (k := k) (by omega) (by omega) (by omega) HR.out
        have HF := Lib.hid hfin
        clear hfin
        go_wp2
        go_ret
        exact ⟨by rw [HF.out]; rfl, rfl⟩
  · have hd : decide (2 ≤ p ∧ p ≤ 97) = false := by simpa using hin
    have hfin : fldB p = false := by
      unfold fldB
      rw [decide_eq_false_iff_not]
      exact fun h => hin ⟨h.1, h.2.1⟩
    have HF := Lib.hid hfin
    clear hfin hin
    go_enter Tryd.func109, Tryd.ntmps109
    go_wp2_with (go_at_call 110; refine (l1In_any _ _ _ _).mono ?_; rintro e w' ⟨rfl, rfl⟩)
    go_ret
    exact ⟨by rw [HF.out]; rfl, rfl⟩

theorem IntsV.at {w : World} {a : Option Addr} {n cap : Nat} {zs : List Int} (h : IntsV w (.slice a n cap) zs) {i : Nat} (hi : i < zs.length) :
    ∃ d : Addr, a = some d ∧ d.spot = none ∧ d.block < w.heap.size ∧ w.cell? ⟨d.block, d.off + i, none⟩ = some (.int .i64 zs[i]) := by
  obtain ⟨a', cap', he, h⟩ := h
  cases he
  obtain ⟨d, ha, hs, hd, hz⟩ := h (by intro h0; rw [h0] at hi; simp at hi)
  exact ⟨d, ha, hs, hd, hz i hi⟩
theorem within_any (n lo hi : Int) (w : World) : Calls Tryd.prog 124 #[.int .i64 n, .int .i64 lo, .int .i64 hi] w fun e w' => e = .returned (.bool (decide (lo ≤ n ∧ n ≤ hi))) ∧ w = w' := by
  by_cases h0 : lo ≤ n <;> by_cases h1 : n ≤ hi
  all_goals
    go_enter Tryd.func124, Tryd.ntmps124
    go_wp2
    go_ret
    exact ⟨by simp [h0, h1], rfl⟩
theorem l1All_any (lo hi : Int) (v : Value) (zs : List Int) (w : World) (hv : IntsV w v zs) (hl : zs.length ≤ 1000000) :
    Calls Tryd.prog 111 #[v, .int .i64 lo, .int .i64 hi] w fun e w' => e = .returned (.bool (zs.all fun n => decide (lo ≤ n ∧ n ≤ hi))) ∧ w = w' := by
  have HV := Lib.hid hv
  obtain ⟨a, c, rfl, hx⟩ := hv
  clear hx
  generalize hlen : zs.length = l at *
  have HL := Lib.hid hlen
  clear hlen
  generalize hbb : (zs.all fun n => decide (lo ≤ n ∧ n ≤ hi)) = bb
  have HBB := Lib.hid hbb
  clear hbb
  go_enter Tryd.func111, Tryd.ntmps111
  go_wp2
  go_loop [11] (fun i => ∃ k : Nat, k ≤ l ∧ i = .int .i64 k ∧ ∀ j (h : j < zs.length), j < k → decide (lo ≤ zs[j] ∧ zs[j] ≤ hi) = true) (fun i => l - (intOf i).toNat)
  case atStart => exact ⟨0, by omega, rfl, fun _ _ h => absurd h (by omega)⟩
  case round =>
    obtain ⟨k, hk, rfl, ho⟩ := hrel
    have HO := Lib.hid ho
    clear ho
    by_cases hlt : k < l
    · have hkl : k < zs.length := by rw [HL.out]; exact hlt
      obtain ⟨d, rfl, hs, hd, hc⟩ := HV.out.at hkl
      obtain ⟨db, dof, _⟩ := d
      simp only at hs hc
      subst hs
      generalize hz : zs[k] = z at *
      have HZ := Lib.hid hz
      clear hz hd
      have A := Lib.hid (l1In_any z lo hi w)
      cases he : decide (lo ≤ z ∧ z ≤ hi)
      · rw [he] at A
        have hfin : (zs.all fun n => decide (lo ≤ n ∧ n ≤ hi)) = false := by
          refine List.all_eq_false.2 ⟨zs[k], List.getElem_mem _, ?_⟩
          rw [HZ.out, he]
          simp
        have HF := Lib.hid hfin
        clear hfin he
        go_wp2_with (go_at_call 110; with_reducible refine A.out.mono ?_; rintro e w' ⟨rfl, rfl⟩)
        go_ret
        exact ⟨by rw [← HBB.out, HF.out]; rfl, rfl⟩
      · rw [he] at A
        have HE := Lib.hid he
        clear he
        go_wp2_with (go_at_call 110; with_reducible refine A.out.mono ?_; rintro e w' ⟨rfl, rfl⟩)
        go_round
        case rel => exact ⟨k + 1, by omega, by go_num, fun j h hj => by
          by_cases hjk : j = k
          · subst hjk; rw [HZ.out]; exact HE.out
          · exact HO.out j h (by omega)⟩
        case measure => simp [intOf]; omega
    · have hfin : (zs.all fun n => decide (lo ≤ n ∧ n ≤ hi)) = true := by
        refine List.all_eq_true.2 fun x hx => ?_
        obtain ⟨j, hj, rfl⟩ := List.getElem_of_mem hx
        exact HO.out j hj (by have := HL.out; omega)
      have HF := Lib.hid hfin
      clear hfin
      go_wp2
      go_ret
      exact ⟨by rw [← HBB.out, HF.out]; rfl, rfl⟩
end Go.Proofs.YtkamcgonacmieaaDoor

/-
  What the frames of the exact laws share. Conditions: none.
-/
namespace Go.Proofs.YtkamcgonacmieaaDoor
open Go.ChangeShapes Go.WideShapes Go.ChangeAt Go.RowKit

theorem own : ownKnob Tryd.prog.godebug = none := by kernel_rfl
theorem laidOut : laidOutB Tryd.prog = true := by kernel_rfl
theorem gTab : Tryd.prog.globalNamed "loop.example/g01073/impl.smallPrimes" = some 0 := by kernel_rfl
theorem gTabType : (Tryd.prog.globals[0]?).map (·.type) = some 195 := by kernel_rfl
theorem cellsTab : Tryd.prog.cellsOf 195 = 4 := by kernel_rfl
theorem cellsInt : Tryd.prog.cellsOf 3 = 1 := by kernel_rfl
theorem below_of_grown {w w' : World} (h : w.grownBy w' none) : Below w.heap.size w w' := ⟨h.os, h.tape, h.output, h.size, fun k hk => h.block k hk (by simp)⟩
end Go.Proofs.YtkamcgonacmieaaDoor

/-
  Circuits in plain Lean: what a circuit is, the order in which gates are made, ranks. Conditions: none.
-/
namespace Go.Proofs.YtkamcgonacmieaaDoor
open Go.RowKit
set_option linter.unusedVariables false

/-- A gate: its kind, its operands, its value. -/
structure Gt where
  k : Int
  a : Int
  b : Int
  v : Int
theorem Gt.ext' {x y : Gt} (h1 : x.k = y.k) (h2 : x.a = y.a) (h3 : x.b = y.b) (h4 : x.v = y.v) : x = y := by
  cases x; cases y; simp_all
instance : DecidableEq Gt := fun x y => decidable_of_iff (x.k = y.k ∧ x.a = y.a ∧ x.b = y.b ∧ x.v = y.v) ⟨fun ⟨h1, h2, h3, h4⟩ => Gt.ext' h1 h2 h3 h4, fun h => by subst h; exact ⟨rfl, rfl, rfl, rfl⟩⟩
/-- The gate that stands at no index. -/
def g0 : Gt := ⟨0, 0, 0, 0⟩
/-- A circuit: the number of inputs, the gates, the outputs. -/
structure Circ where
  n : Int
  gs : List Gt
  os : List Int
def circ0 : Circ := ⟨0, [], []⟩
theorem Circ.ext' {x y : Circ} (h1 : x.n = y.n) (h2 : x.gs = y.gs) (h3 : x.os = y.os) : x = y := by
  cases x; cases y; simp_all
instance : DecidableEq Circ := fun x y => decidable_of_iff (x.n = y.n ∧ x.gs = y.gs ∧ x.os = y.os) ⟨fun ⟨h1, h2, h3⟩ => Circ.ext' h1 h2 h3, fun h => by subst h; exact ⟨rfl, rfl, rfl⟩⟩

def opsL (g : Gt) : List Int := if g.k = 3 then [g.a, g.b] else if g.k = 4 ∨ g.k = 5 then [g.a] else []
def needsL (g : Gt) : List Int := if g.k = 3 ∨ g.k = 4 then opsL g else []
def combB (g : Gt) : Bool := decide (g.k = 3 ∨ g.k = 4)
def inB (x lo hi : Int) : Bool := decide (lo ≤ x ∧ x ≤ hi)
def gateB (p inp n : Int) (g : Gt) : Bool :=
  (opsL g).all (fun x => inB x 0 (n - 1)) &&
  (if g.k = 1 then decide (g.a = 0) && decide (g.b = 0) && inB g.v 0 (inp - 1)
   else if g.k = 2 then decide (g.a = 0) && decide (g.b = 0) && decide (g.v = 0)
   else if g.k = 3 then decide (g.v = 0)
   else if g.k = 4 then decide (g.b = 0) && inB g.v 0 (p - 1)
   else if g.k = 5 then decide (g.b = 0) && decide (g.v = 0)
   else false)

/-! ### the order -/
/-- May gate i be made? (op: the gates that are still to be made.) -/
def readyB (gs : List Gt) (op : List Bool) (i : Nat) : Bool := op.getD i false && !(needsL (gs.getD i g0)).any (fun k => op.getD k.toNat false)
def nextI (gs : List Gt) (op : List Bool) : Option Nat := (List.range gs.length).find? (readyB gs op)
def schedGo (gs : List Gt) : Nat → List Bool → List Int → List Int × List Bool
  | 0, op, out => (out, op)
  | f + 1, op, out => match nextI gs op with
    | none => (out, op)
    | some i => schedGo gs f (op.set i false) (out ++ [(i : Int)])
def open0 (gs : List Gt) : List Bool := gs.map combB
def sched (gs : List Gt) : List Int × List Bool := schedGo gs gs.length (open0 gs) []
def nOpen (op : List Bool) : Nat := op.countP (fun b => b)
def schedB (gs : List Gt) : Bool := decide (nOpen (sched gs).2 = 0)

theorem nOpen_set {op : List Bool} {i : Nat} (h : op.getD i false = true) : nOpen (op.set i false) + 1 = nOpen op := by
  induction op generalizing i with
  | nil => simp at h
  | cons b l ih =>
    cases i with
    | zero =>
      simp at h
      subst h
      simp [nOpen]
    | succ i =>
      simp only [List.getD_cons_succ] at h
      have := ih h
      simp only [nOpen, List.set_cons_succ, List.countP_cons] at this ⊢
      omega
theorem nextI_some {gs : List Gt} {op : List Bool} {i : Nat} (h : nextI gs op = some i) : i < gs.length ∧ op.getD i false = true ∧ (∀ k ∈ needsL (gs.getD i g0), op.getD k.toNat false = false) ∧ ∀ j, j < i → readyB gs op j = false := by
  unfold nextI at h
  rw [List.find?_eq_some_iff_getElem] at h
  obtain ⟨h1, j, hj, h2, h3⟩ := h
  simp only [List.getElem_range] at h2
  subst h2
  simp only [List.length_range] at hj
  unfold readyB at h1
  simp only [Bool.and_eq_true, Bool.not_eq_true', List.any_eq_false, Bool.not_eq_true] at h1
  refine ⟨hj, h1.1, h1.2, fun k hk => ?_⟩
  have := h3 k hk
  simpa using this
theorem nextI_none {gs : List Gt} {op : List Bool} (h : nextI gs op = none) : ∀ j, j < gs.length → readyB gs op j = false := by
  unfold nextI at h
  rw [List.find?_eq_none] at h
  intro j hj
  have := h j (List.mem_range.2 hj)
  simpa using this
theorem nextI_of {gs : List Gt} {op : List Bool} {i : Nat} (hi : i < gs.length) (h : readyB gs op i = true) (hb : ∀ j, j < i → readyB gs op j = false) : nextI gs op = some i := by
  unfold nextI
  rw [List.find?_eq_some_iff_getElem]
  refine ⟨h, i, by simpa using hi, by simp, fun j hj => ?_⟩
  simp [hb j hj]
theorem nextI_of_none {gs : List Gt} {op : List Bool} (hb : ∀ j, j < gs.length → readyB gs op j = false) : nextI gs op = none := by
  unfold nextI
  rw [List.find?_eq_none]
  intro j hj
  simp [hb j (List.mem_range.1 hj)]

theorem nOpen_zero {op : List Bool} : nOpen op = 0 ↔ ∀ i, op.getD i false = false := by
  induction op with
  | nil => simp [nOpen]
  | cons b l ih =>
    simp only [nOpen, List.countP_cons] at ih ⊢
    constructor
    · intro h i
      cases i with
      | zero => cases b <;> simp_all
      | succ i => simp only [List.getD_cons_succ]; exact ih.1 (by omega) i
    · intro h
      have h1 := ih.2 fun i => by have := h (i + 1); simpa only [List.getD_cons_succ] using this
      have h2 := h 0
      simp at h2
      subst h2
      simpa using h1
/-- enough fuel is enough -/
theorem schedGo_fuel (gs : List Gt) : ∀ f f' op out, nOpen op ≤ f → nOpen op ≤ f' → schedGo gs f op out = schedGo gs f' op out := by
  intro f
  induction f with
  | zero =>
    intro f' op out h _
    cases f' with
    | zero => rfl
    | succ f' =>
      have h0 : nOpen op = 0 := by omega
      have hn : nextI gs op = none := nextI_of_none fun j _ => by unfold readyB; rw [nOpen_zero.1 h0 j]; rfl
      simp only [schedGo, hn]
  | succ f ih =>
    intro f' op out h h'
    cases f' with
    | zero =>
      have h0 : nOpen op = 0 := by omega
      have hn : nextI gs op = none := nextI_of_none fun j _ => by unfold readyB; rw [nOpen_zero.1 h0 j]; rfl
      simp only [schedGo, hn]
    | succ f' =>
      simp only [schedGo]
      cases hn : nextI gs op with
      | none => rfl
      | some i =>
        have := nOpen_set (nextI_some hn).2.1
        exact ih f' _ _ (by omega) (by omega)
theorem sched_stop {gs : List Gt} {op : List Bool} {out : List Int} {f : Nat} (hn : nextI gs op = none) : schedGo gs f op out = (out, op) := by
  cases f with
  | zero => rfl
  | succ f => simp only [schedGo, hn]
theorem sched_step {gs : List Gt} {op : List Bool} {out : List Int} {f i : Nat} (hf : nOpen op ≤ f) (hn : nextI gs op = some i) : schedGo gs f op out = schedGo gs f (op.set i false) (out ++ [(i : Int)]) := by
  have h1 := nOpen_set (nextI_some hn).2.1
  cases f with
  | zero => omega
  | succ f =>
    rw [show schedGo gs (f + 1) op out = schedGo gs f (op.set i false) (out ++ [(i : Int)]) by simp only [schedGo, hn]]
    exact schedGo_fuel gs _ _ _ _ (by omega) (by omega)
theorem schedGo_len (gs : List Gt) : ∀ f op out, (schedGo gs f op out).1.length + nOpen (schedGo gs f op out).2 = out.length + nOpen op := by
  intro f
  induction f with
  | zero => intro op out; rfl
  | succ f ih =>
    intro op out
    simp only [schedGo]
    cases hn : nextI gs op with
    | none => rfl
    | some i =>
      have := nOpen_set (nextI_some hn).2.1
      rw [ih]
      simp only [List.length_append, List.length_singleton]
      omega
theorem open0_getD (gs : List Gt) (i : Nat) : (open0 gs).getD i false = combB (gs.getD i g0) := by
  unfold open0
  rw [List.getD_eq_getElem?_getD, List.getElem?_map, List.getD_eq_getElem?_getD]
  cases gs[i]? <;> rfl
theorem le_sum {l : List Nat} {x : Nat} (h : x ∈ l) : x ≤ l.sum := by
  induction l with
  | nil => cases h
  | cons y l ih =>
    rw [List.sum_cons]
    rcases List.mem_cons.1 h with rfl | h
    · omega
    · have := ih h; omega
/-- the closed gates have ranks -/
def RankB (gs : List Gt) (op : List Bool) (r : Nat → Nat) : Prop := ∀ i, i < gs.length → op.getD i false = false → combB (gs.getD i g0) = true → ∀ k ∈ needsL (gs.getD i g0), op.getD k.toNat false = false ∧ r k.toNat < r i
theorem getD_set_bool (op : List Bool) (i j : Nat) : (op.set i false).getD j false = if j = i then false else op.getD j false := by
  rw [List.getD_eq_getElem?_getD, List.getElem?_set]
  by_cases h : i = j
  · subst h
    simp only [if_true]
    split <;> rfl
  · rw [if_neg h, if_neg (fun e => h e.symm), List.getD_eq_getElem?_getD]
theorem schedGo_rank (gs : List Gt) : ∀ f op out, (∃ r, RankB gs op r) → ∃ r, RankB gs (schedGo gs f op out).2 r := by
  intro f
  induction f with
  | zero => intro op out h; exact h
  | succ f ih =>
    intro op out h
    simp only [schedGo]
    cases hn : nextI gs op with
    | none => exact h
    | some i =>
      obtain ⟨r, hr⟩ := h
      obtain ⟨h1, h2, h3, h4⟩ := nextI_some hn
      refine ih _ _ ⟨fun j => if j = i then ((needsL (gs.getD i g0)).map (fun k => r k.toNat)).sum + 1 else r j, fun j hj hop hc k hk => ?_⟩
      rw [getD_set_bool] at hop ⊢
      by_cases hji : j = i
      · subst hji
        have hki : k.toNat ≠ j := by intro e; have := h3 k hk; rw [e, h2] at this; cases this
        simp only [if_neg hki, if_true]
        refine ⟨h3 k hk, ?_⟩
        have : r k.toNat ≤ ((needsL (gs.getD j g0)).map (fun k => r k.toNat)).sum := le_sum (List.mem_map.2 ⟨k, hk, rfl⟩)
        omega
      · rw [if_neg hji] at hop
        obtain ⟨h5, h6⟩ := hr j hj hop hc k hk
        have hki : k.toNat ≠ i := by intro e; rw [e, h2] at h5; cases h5
        simp only [if_neg hki, if_neg hji]
        exact ⟨h5, h6⟩
theorem sched_rank {gs : List Gt} (h : schedB gs = true) : ∃ r : Nat → Nat, ∀ i, i < gs.length → ∀ k ∈ needsL (gs.getD i g0), r k.toNat < r i := by
  unfold schedB at h
  have h0 := of_decide_eq_true h
  obtain ⟨r, hr⟩ := schedGo_rank gs gs.length (open0 gs) [] ⟨fun _ => 0, fun i _ hop hc => by rw [open0_getD, hc] at hop; cases hop⟩
  refine ⟨r, fun i hi k hk => ?_⟩
  refine (hr i hi (nOpen_zero.1 h0 i) ?_ k hk).2
  unfold needsL at hk
  unfold combB
  split at hk
  · next h => exact decide_eq_true h
  · cases hk
theorem nOpen_open0 (gs : List Gt) : nOpen (open0 gs) = gs.countP combB := by
  unfold nOpen open0
  rw [List.countP_map]
  rfl
theorem sched_count (gs : List Gt) : ((sched gs).1.length = gs.countP combB) ↔ schedB gs = true := by
  have := schedGo_len gs gs.length (open0 gs) []
  rw [nOpen_open0] at this
  unfold schedB sched
  rw [decide_eq_true_iff]
  simp only [List.length_nil] at this
  omega

end Go.Proofs.YtkamcgonacmieaaDoor

/-
  What simplifying makes of a circuit, in plain Lean. Conditions: none.
-/
namespace Go.Proofs.YtkamcgonacmieaaDoor
open Go.RowKit
set_option linter.unusedVariables false

def at3 (gs : List Gt) (k : Int) : Gt := gs.getD k.toNat g0
/-- the gate for which gate k stands -/
def standL (gs : List Gt) (k : Int) : Int :=
  if (at3 gs k).k = 4 ∧ (at3 gs k).v = 1 then (at3 gs k).a
  else if (at3 gs k).k = 3 ∧ (at3 gs (at3 gs k).a).k = 2 then (at3 gs k).b
  else if (at3 gs k).k = 3 ∧ (at3 gs (at3 gs k).b).k = 2 then (at3 gs k).a
  else k
def iterL (f : Int → Int) : Nat → Int → Int
  | 0, k => k
  | n + 1, k => f (iterL f n k)
/-- A circuit's gates: operands and outputs are gates, and there are ranks. -/
structure Gates (gs : List Gt) : Prop where
  ops : ∀ g ∈ gs, ∀ x ∈ opsL g, 0 ≤ x ∧ x < gs.length
  rank : ∃ r : Nat → Nat, ∀ i, i < gs.length → ∀ k ∈ needsL (gs.getD i g0), r k.toNat < r i
theorem at3_mem {gs : List Gt} {k : Int} (h0 : 0 ≤ k) (h : k < gs.length) : at3 gs k ∈ gs := by
  unfold at3
  rw [List.getD_eq_getElem?_getD, List.getElem?_eq_getElem (by omega)]
  exact List.getElem_mem _
theorem stand_cases {gs : List Gt} {k : Int} : standL gs k = k ∨ standL gs k ∈ needsL (at3 gs k) := by
  unfold standL
  split
  · next h => right; unfold needsL opsL; rw [if_pos (Or.inr h.1), if_neg (by omega), if_pos (Or.inl h.1)]; simp
  · split
    · next h => right; unfold needsL opsL; rw [if_pos (Or.inl h.1), if_pos h.1]; simp
    · split
      · next h => right; unfold needsL opsL; rw [if_pos (Or.inl h.1), if_pos h.1]; simp
      · exact Or.inl rfl
theorem needs_ops {g : Gt} {x : Int} (h : x ∈ needsL g) : x ∈ opsL g := by
  unfold needsL at h
  split at h
  · exact h
  · cases h
theorem Gates.stand {gs : List Gt} (h : Gates gs) {k : Int} (h0 : 0 ≤ k) (hk : k < gs.length) : 0 ≤ standL gs k ∧ standL gs k < gs.length := by
  rcases stand_cases (gs := gs) (k := k) with h1 | h1
  · rw [h1]; exact ⟨h0, hk⟩
  · exact h.ops _ (at3_mem h0 hk) _ (needs_ops h1)
theorem Gates.iter {gs : List Gt} (h : Gates gs) {k : Int} (h0 : 0 ≤ k) (hk : k < gs.length) : ∀ n, 0 ≤ iterL (standL gs) n k ∧ iterL (standL gs) n k < gs.length := by
  intro n
  induction n with
  | zero => exact ⟨h0, hk⟩
  | succ n ih => exact h.stand ih.1 ih.2
theorem iter_fix {f : Int → Int} {k : Int} {n : Nat} (h : f (iterL f n k) = iterL f n k) : ∀ m, n ≤ m → iterL f m k = iterL f n k := by
  intro m hm
  induction m with
  | zero => have : n = 0 := by omega
            subst this; rfl
  | succ m ih =>
    by_cases e : n = m + 1
    · subst e; rfl
    · have := ih (by omega)
      show f (iterL f m k) = _
      rw [this, h]
/-- The last gate of the chain from k. -/
noncomputable def finL (gs : List Gt) (k : Int) : Int :=
  open Classical in if h : ∃ n, standL gs (iterL (standL gs) n k) = iterL (standL gs) n k then iterL (standL gs) h.choose k else k
theorem fin_of {gs : List Gt} {k : Int} {n : Nat} (h : standL gs (iterL (standL gs) n k) = iterL (standL gs) n k) : finL gs k = iterL (standL gs) n k := by
  have he : ∃ n, standL gs (iterL (standL gs) n k) = iterL (standL gs) n k := ⟨n, h⟩
  unfold finL
  rw [dif_pos he]
  have h1 := he.choose_spec
  rcases Nat.le_total n he.choose with h2 | h2
  · exact iter_fix h _ h2
  · exact (iter_fix h1 _ h2).symm
/-- ranks along the chain -/
theorem Gates.chain {gs : List Gt} (h : Gates gs) : ∃ r : Nat → Nat, ∀ k : Int, 0 ≤ k → k < gs.length → standL gs k ≠ k → r (standL gs k).toNat < r k.toNat := by
  obtain ⟨r, hr⟩ := h.rank
  refine ⟨r, fun k h0 hk hne => ?_⟩
  rcases stand_cases (gs := gs) (k := k) with h1 | h1
  · exact absurd h1 hne
  · exact hr k.toNat (by omega) _ h1
theorem Gates.fin {gs : List Gt} (h : Gates gs) {k : Int} (h0 : 0 ≤ k) (hk : k < gs.length) : 0 ≤ finL gs k ∧ finL gs k < gs.length := by
  unfold finL
  split
  · exact h.iter h0 hk _
  · exact ⟨h0, hk⟩

def withL (f : Int → Int) (g : Gt) : Gt := if g.k = 3 then ⟨g.k, f g.a, f g.b, g.v⟩ else if g.k = 4 ∨ g.k = 5 then ⟨g.k, f g.a, g.b, g.v⟩ else g
def redirL (f : Int → Int) (c : Circ) : Circ := ⟨c.n, c.gs.map (withL f), c.os.map f⟩
noncomputable def simpC (c : Circ) : Circ := redirL (finL c.gs) c

/-- Is it a circuit over a field? (fb: is p a field?) -/
def circB (fb : Bool) (p : Int) (c : Circ) : Bool :=
  fb && inB c.n 0 8 && decide (1 ≤ c.gs.length ∧ c.gs.length ≤ 40) && decide (c.os.length ≤ 8) && c.os.all (fun x => inB x 0 (c.gs.length - 1)) && c.gs.all (gateB p c.n c.gs.length) && schedB c.gs
theorem inB_iff {x lo hi : Int} : inB x lo hi = true ↔ lo ≤ x ∧ x ≤ hi := by unfold inB; rw [decide_eq_true_iff]
theorem circB_gates {fb : Bool} {p : Int} {c : Circ} (h : circB fb p c = true) : Gates c.gs ∧ (∀ x ∈ c.os, 0 ≤ x ∧ x < c.gs.length) ∧ 1 ≤ c.gs.length ∧ c.gs.length ≤ 40 ∧ c.os.length ≤ 8 := by
  unfold circB at h
  simp only [Bool.and_eq_true, decide_eq_true_iff, List.all_eq_true] at h
  obtain ⟨⟨⟨⟨⟨⟨_, _⟩, h1⟩, h2⟩, h3⟩, h4⟩, h5⟩ := h
  refine ⟨⟨fun g hg x hx => ?_, sched_rank h5⟩, fun x hx => ?_, h1.1, h1.2, h2⟩
  · have := h4 g hg
    unfold gateB at this
    simp only [Bool.and_eq_true, List.all_eq_true] at this
    have := inB_iff.1 (this.1 x hx)
    omega
  · have := inB_iff.1 (h3 x hx)
    omega
end Go.Proofs.YtkamcgonacmieaaDoor

/-
  Gates and circuits in memory. Conditions: lengths are small.
-/
namespace Go.Proofs.YtkamcgonacmieaaDoor
open Go.RowKit
set_option linter.unusedVariables false

def gateC (g : Gt) : List Value := [.int .i64 g.k, .int .i64 g.a, .int .i64 g.b, .int .i64 g.v]
def gateE : Lay Gt := ⟨130, 4, gateC, fun _ => rfl, by decide⟩
def argE : Lay Gt := ⟨138, 4, gateC, fun _ => rfl, by decide⟩
def boolE : Lay Bool := ⟨4, 1, fun b => [.bool b], fun _ => rfl, by decide⟩
theorem info_gate : (Tryd.prog.info? gateE.ty).map (fun i => (i.zero, i.size, i.bytes)) = some (some (.agg #[.int .i64 0, .int .i64 0, .int .i64 0, .int .i64 0]), gateE.sz, 32) := by kernel_rfl
theorem info_bool : (Tryd.prog.info? boolE.ty).map (fun i => (i.zero, i.size, i.bytes)) = some (some (.bool false), boolE.sz, 1) := by kernel_rfl
/-- A gate, a circuit as a value. -/
def gtV (g : Gt) : Value := .agg #[.int .i64 g.k, .int .i64 g.a, .int .i64 g.b, .int .i64 g.v]
def cirV (n : Int) (g o : Value) : Value := .agg #[.int .i64 n, g, o]
/-- The four cells of gate i of a list that can be read. -/
theorem gate_at {E : Lay Gt} (hs : E.sz = 4) (hc : E.cs = gateC) {w : World} {a : Option Addr} {n cap : Nat} {gs : List Gt} (h : RdR E w (.slice a n cap) gs) {i : Nat} (hi : i < gs.length) :
    ∃ b o, a = some ⟨b, o, none⟩ ∧ b < w.heap.size ∧ w.cell? ⟨b, o + i * 4, none⟩ = some (.int .i64 (gs.getD i g0).k) ∧ w.cell? ⟨b, o + i * 4 + 1, none⟩ = some (.int .i64 (gs.getD i g0).a) ∧
      w.cell? ⟨b, o + i * 4 + 2, none⟩ = some (.int .i64 (gs.getD i g0).b) ∧ w.cell? ⟨b, o + i * 4 + 3, none⟩ = some (.int .i64 (gs.getD i g0).v) := by
  obtain ⟨b, o, ha, hb, h⟩ := h.at hi
  rw [hs, hc] at h
  have e : gs.getD i g0 = gs[i] := by rw [List.getD_eq_getElem?_getD, List.getElem?_eq_getElem hi]; rfl
  rw [e]
  exact ⟨b, o, ha, hb, h 0 (by omega), h 1 (by omega), h 2 (by omega), h 3 (by omega)⟩
theorem gate_cells {w : World} {g n cap B : Nat} {gs : List Gt} (h : OwnR gateE B w (.slice (some ⟨g, 0, none⟩) n cap) gs) (hn : n = gs.length) {i : Nat} (hi : i < gs.length) :
    w.cell? ⟨g, i * 4, none⟩ = some (.int .i64 (gs.getD i g0).k) ∧ w.cell? ⟨g, i * 4 + 1, none⟩ = some (.int .i64 (gs.getD i g0).a) ∧
      w.cell? ⟨g, i * 4 + 2, none⟩ = some (.int .i64 (gs.getD i g0).b) ∧ w.cell? ⟨g, i * 4 + 3, none⟩ = some (.int .i64 (gs.getD i g0).v) := by
  have e : gs.getD i g0 = gs[i] := by rw [List.getD_eq_getElem?_getD, List.getElem?_eq_getElem hi]; rfl
  rw [e]
  exact ⟨h.cell hn hi (j := 0) (by decide), h.cell hn hi (j := 1) (by decide), h.cell hn hi (j := 2) (by decide), h.cell hn hi (j := 3) (by decide)⟩
theorem gate_cellsQ {w : World} {g n cap B : Nat} {gs : List Gt} (h : OwnR gateE B w (.slice (some ⟨g, 0, none⟩) n cap) gs) (hn : n = gs.length) {i : Nat} (hi : i < gs.length) :
    ∃ q : Gt, w.cell? ⟨g, i * 4, none⟩ = some (.int .i64 q.k) ∧ w.cell? ⟨g, i * 4 + 1, none⟩ = some (.int .i64 q.a) ∧
      w.cell? ⟨g, i * 4 + 2, none⟩ = some (.int .i64 q.b) ∧ w.cell? ⟨g, i * 4 + 3, none⟩ = some (.int .i64 q.v) := ⟨_, gate_cells h hn hi⟩
theorem gate_free {w : World} {g n cap B : Nat} {gs : List Gt} (h : OwnR gateE B w (.slice (some ⟨g, 0, none⟩) n cap) gs) (hn : n = gs.length) (i : Nat) :
    w.frozen? ⟨g, i * 4, none⟩ = false ∧ w.frozen? ⟨g, i * 4 + 1, none⟩ = false ∧ w.frozen? ⟨g, i * 4 + 2, none⟩ = false ∧ w.frozen? ⟨g, i * 4 + 3, none⟩ = false :=
  ⟨h.free hn _, h.free hn _, h.free hn _, h.free hn _⟩
theorem set_set_self {l : List Gt} {i : Nat} {x y : Gt} : (l.set i x).set i y = l.set i y := List.set_set _
theorem getD_set_eq {l : List Gt} {i : Nat} {x : Gt} (hi : i < l.length) : (l.set i x).getD i g0 = x := by
  rw [List.getD_eq_getElem?_getD, List.getElem?_set_self hi]; rfl
/-- all four cells of a gate are written -/
theorem Sep.setG {w : World} {g n cap : Nat} {gs : List Gt} {l : List Asrt} (h : Sep w (OR gateE (.slice (some ⟨g, 0, none⟩) n cap) gs :: l)) (hn : n = gs.length) {i : Nat} (hi : i < gs.length) (y : Gt) :
    Sep ((((w.setCell ⟨g, i * 4, none⟩ (.int .i64 y.k)).setCell ⟨g, i * 4 + 1, none⟩ (.int .i64 y.a)).setCell ⟨g, i * 4 + 2, none⟩ (.int .i64 y.b)).setCell ⟨g, i * 4 + 3, none⟩ (.int .i64 y.v))
      (OR gateE (.slice (some ⟨g, 0, none⟩) n cap) (gs.set i y) :: l) := by
  have h1 := h.setR (E := gateE) hn (i := i) (j := 0) (y := ⟨y.k, gs[i].a, gs[i].b, gs[i].v⟩) (u := .int .i64 y.k) hi (by decide) rfl
  have h2 := h1.setR (E := gateE) (by simpa using hn) (i := i) (j := 1) (y := ⟨y.k, y.a, gs[i].b, gs[i].v⟩) (u := .int .i64 y.a) (by simpa using hi) (by decide) (by simp [gateE, gateC])
  have h3 := h2.setR (E := gateE) (by simpa using hn) (i := i) (j := 2) (y := ⟨y.k, y.a, y.b, gs[i].v⟩) (u := .int .i64 y.b) (by simpa using hi) (by decide) (by simp [gateE, gateC])
  have h4 := h3.setR (E := gateE) (by simpa using hn) (i := i) (j := 3) (y := y) (u := .int .i64 y.v) (by simpa using hi) (by decide) (by simp [gateE, gateC])
  simp only [List.set_set] at h4
  exact h4
theorem gate_one (y : Gt) : ∀ u ∈ gateE.cs y, u.oneCell' = true := by
  intro u hu
  simp only [gateE, gateC, List.mem_cons, List.not_mem_nil, or_false] at hu
  rcases hu with rfl | rfl | rfl | rfl <;> rfl
theorem bool_one (y : Bool) : ∀ u ∈ boolE.cs y, u.oneCell' = true := by
  intro u hu
  simp only [boolE, List.mem_cons, List.not_mem_nil, or_false] at hu
  subst hu
  rfl

end Go.Proofs.YtkamcgonacmieaaDoor

/-
  A circuit that came in: its gates and its outputs can be read. Conditions: none.
-/
namespace Go.Proofs.YtkamcgonacmieaaDoor
open Go.ChangeShapes Go.WideShapes Go.ChangeAt Go.RowKit Go.Deep Go.Joins
set_option linter.unusedVariables false
set_option maxRecDepth 100000

section
variable {H : Type} {enc : TypeId × Value → H} {W : World} {sp : Nat → Bool} {held : Bool}
theorem add_off (b off k : Nat) : (⟨b, off, none⟩ : Addr).add k = ⟨b, off + k, none⟩ := by
  unfold Addr.add
  split
  · rename_i h; subst h; rfl
  · rfl
theorem ints_in {fuel : Nat} {cs : List Value} {x : DataW H × List MemPlace} (h : DataW.trod enc Tryd.prog W 0 sp held fuel 23 cs = some x) : ∃ v zs, cs = [v] ∧ IntsV W v zs ∧ zs.length ≤ 9223372036854775807 := by
  rcases open_ints Tryd.underlying23 Tryd.underlying3 (by kernel_rfl) h with ⟨hcs, _⟩ | ⟨x, l, c, zs, hcs, _, hl, hm, hz, _, hcell, hwz⟩
  · exact ⟨_, [], hcs, IntsV.nil W, by decide⟩
  · unfold maxLen at hm
    have hlz : l ≤ zs.length := by rw [hz]; split <;> omega
    refine ⟨_, zs.take l, hcs, ?_, by rw [List.length_take]; omega⟩
    have hlen : (zs.take l).length = l := by rw [List.length_take]; omega
    refine ⟨some x, c, by rw [hlen], fun hne => ?_⟩
    have h0 : 0 < l := by
      rcases Nat.eq_zero_or_pos l with h | h
      · subst h; exact absurd rfl hne
      · exact h
    obtain ⟨b, off, spot⟩ := x
    have hspot : spot = none := by
      have := World.cell?_spot (hcell 0 (by omega))
      simpa [Addr.add] using this
    subst hspot
    refine ⟨⟨b, off, none⟩, rfl, rfl, ?_, fun i hi => ?_⟩
    · have h1 := hcell 0 (by omega)
      exact World.block_lt_of_cell? W _ h1
    · have h1 := hcell i (by omega)
      rw [add_off] at h1
      rw [h1, List.getElem_take, List.getD_eq_getElem?_getD, List.getElem?_eq_getElem (by omega)]
      rfl
theorem gates_in {fuel : Nat} {cs : List Value} {x : DataW H × List MemPlace} (h : DataW.trod enc Tryd.prog W 0 sp held fuel 22 cs = some x) : ∃ v gs, cs = [v] ∧ RdR argE W v gs ∧ gs.length ≤ 9223372036854775807 := by
  rcases open_slice Tryd.underlying22 h with ⟨hcs, _⟩ | ⟨a, len, cap, m, n, D, Pl, rfl, hb, hl, hm, hmm, rfl, hx⟩
  · exact ⟨_, [], hcs, RdR.nil argE W, by decide⟩
  · unfold maxLen at hm
    have hlm : len ≤ m := by rw [hmm]; split <;> omega
    have hc4 : Tryd.prog.cellsOf 138 = 4 := by kernel_rfl
    have hc1 : Tryd.prog.cellsOf 3 = 1 := by kernel_rfl
    have each : ∀ i, i < len → ∃ g : Gt, ∀ j, j < 4 → W.cell? ((a.add (i * 4)).add j) = (gateC g)[j]? := by
      intro i hi
      obtain ⟨cs', h1, h2⟩ := hx i (by omega)
      rw [hc4] at h1
      obtain ⟨_, hlen, hcell⟩ := World.cells?_some h1
      obtain ⟨y0, y1, y2, y3, k, _, _, f0, f1, f2, f3⟩ := trod_struct4 Tryd.underlying138 h2
      simp only [hc1] at f0 f1 f2 f3
      obtain ⟨n0, e0, _⟩ := DataW.trod_int Tryd.underlying3 f0
      obtain ⟨n1, e1, _⟩ := DataW.trod_int Tryd.underlying3 f1
      obtain ⟨n2, e2, _⟩ := DataW.trod_int Tryd.underlying3 f2
      obtain ⟨n3, e3, _⟩ := DataW.trod_int Tryd.underlying3 f3
      match cs', hlen with
      | [c0, c1, c2, c3], _ =>
        simp at e0 e1 e2 e3
        subst e0 e1 e2 e3
        exact ⟨⟨n0, n1, n2, n3⟩, fun j hj => hcell j hj⟩
    have hch : ∃ G : Nat → Gt, ∀ i, i < len → ∀ j, j < 4 → W.cell? ((a.add (i * 4)).add j) = (gateC (G i))[j]? := by
      haveI : Inhabited Gt := ⟨g0⟩
      exact choose_lt each
    obtain ⟨G, hG⟩ := hch
    refine ⟨_, (List.range len).map G, rfl, ⟨some a, cap, by simp, fun hne => ?_⟩, by simp; omega⟩
    have h0 : 0 < len := by
      rcases Nat.eq_zero_or_pos len with h | h
      · subst h; exact absurd rfl hne
      · exact h
    obtain ⟨b, off, spot⟩ := a
    have hc00 : W.cell? ((⟨b, off, spot⟩ : Addr).add (0 * 4) |>.add 0) = some (.int .i64 (G 0).k) := hG 0 h0 0 (by omega)
    have hspot : spot = none := by
      have := World.cell?_spot hc00
      simpa [Addr.add] using this
    subst hspot
    refine ⟨⟨b, off, none⟩, rfl, rfl, ?_, fun i hi j hj => ?_⟩
    · have h1 := World.block_lt_of_cell? W _ hc00
      simpa [Addr.add] using h1
    · have hi' : i < len := by simpa using hi
      have h1 := hG i hi' j hj
      rw [add_off, add_off] at h1
      show W.cell? ⟨b, off + i * 4 + j, none⟩ = _
      rw [h1]
      simp [argE]
theorem circ_in {r : Reach} {b0 : Nat} {v : Value} {d : DataW H} {p : List MemPlace} (hv : Value.okWide Tryd.prog W r b0 25 v) (h : DataW.Trod enc Tryd.prog W 0 sp held 25 v d p) :
    ∃ n gv ov gs os, v = .agg #[.int .i64 n, gv, ov] ∧ RdR argE W gv gs ∧ IntsV W ov os ∧ gs.length ≤ 9223372036854775807 ∧ os.length ≤ 9223372036854775807 := by
  obtain ⟨v0, v1, v2, y0, y1, y2, k, rfl, _, _, h0, h1, h2⟩ := open_agg3 Tryd.underlying25 (by kernel_rfl) (by kernel_rfl) hv h
  obtain ⟨n, e0, _⟩ := DataW.trod_int Tryd.underlying3 h0
  obtain ⟨gv, gs, e1, hg, l1⟩ := gates_in h1
  obtain ⟨ov, os, e2, ho, l2⟩ := ints_in h2
  simp only [List.cons.injEq, and_true] at e0 e1 e2
  subst e0 e1 e2
  exact ⟨n, _, _, gs, os, rfl, hg, ho, l1, l2⟩
end
end Go.Proofs.YtkamcgonacmieaaDoor

/-
  The laws' own helpers on lists of integers: comparison and marks. Conditions: lengths are small.
-/
namespace Go.Proofs.YtkamcgonacmieaaDoor
open Go.RowKit
set_option linter.unusedVariables false
set_option maxRecDepth 100000

theorem eqIntS_any (v1 v2 : Value) (x y : List Int) (w : World) (h1 : IntsV w v1 x) (h2 : IntsV w v2 y) (l1 : x.length ≤ 1000000000) (l2 : y.length ≤ 1000000000) :
    Calls Tryd.prog 65 #[v1, v2] w fun e w' => e = .returned (.bool (decide (x = y))) ∧ w.grownBy w' none := by
  have H1 := Lib.hid h1; have H2 := Lib.hid h2
  obtain ⟨a1, c1, rfl⟩ := h1.shape
  obtain ⟨a2, c2, rfl⟩ := h2.shape
  clear h1 h2
  by_cases hl : x.length = y.length
  · generalize hlx : x.length = l at *
    have HLX := Lib.hid hlx; have HLY := Lib.hid hl
    rw [← HLY.out]
    clear hlx hl
    go_enter Tryd.func65, Tryd.ntmps65
    go_wp2
    go_loopw [5] (fun i wr => ∃ k : Nat, k ≤ l ∧ i = .int .i64 k ∧ (∀ j, j < k → x.getD j 0 = y.getD j 0) ∧ w.grownBy wr none) (fun i _ => l - (intOf i).toNat)
    case atStart => exact ⟨0, by omega, rfl, fun _ h => absurd h (by omega), grownBy_refl _ _⟩
    case round =>
      obtain ⟨k, hk, rfl, ho, hg⟩ := hrel
      have HO := Lib.hid ho; have HG := Lib.hid hg
      clear ho hg
      by_cases hlt : k < l
      · obtain ⟨b1, o1, rfl, hb1, hc1⟩ := (H1.out.carry HG.out).atD (i := k) (by rw [HLX.out]; exact hlt)
        obtain ⟨b2, o2, rfl, hb2, hc2⟩ := (H2.out.carry HG.out).atD (i := k) (by rw [← HLY.out]; exact hlt)
        generalize hzx : x.getD k 0 = zx at hc1
        generalize hzy : y.getD k 0 = zy at hc2
        have HZX := Lib.hid hzx; have HZY := Lib.hid hzy
        clear hzx hzy hb1 hb2
        by_cases he : zx = zy
        · subst he
          go_wp2
          go_quiet (fail)
          go_wp2
          go_roundw
          case rel => exact ⟨k + 1, by omega, by go_num, fun j hj => by
            by_cases hjk : j = k
            · subst hjk; rw [HZX.out, HZY.out]
            · exact HO.out j (by omega), ⟨HG.out.os, HG.out.tape, HG.out.output, HG.out.size, HG.out.block⟩⟩
          case measure => simp [intOf]; omega
        · have hb : (zx != zy) = true := by rw [bne_iff_ne]; exact he
          have hfin : decide (x = y) = false := by
            rw [decide_eq_false_iff_not]
            intro h
            subst h
            exact he (HZX.out.symm.trans HZY.out)
          have HF := Lib.hid hfin
          clear hfin he
          go_wp2
          go_quiet (fail)
          go_wp2
          go_ret
          exact ⟨by rw [HF.out]; rfl, ⟨HG.out.os, HG.out.tape, HG.out.output, HG.out.size, HG.out.block⟩⟩
      · have hfin : decide (x = y) = true := by
          rw [decide_eq_true_iff]
          refine List.ext_getElem (by rw [HLX.out, HLY.out]) fun j h h' => ?_
          have := HO.out j (by have := HLX.out; omega)
          rwa [List.getD_eq_getElem?_getD, List.getElem?_eq_getElem h, List.getD_eq_getElem?_getD, List.getElem?_eq_getElem h'] at this
        have HF := Lib.hid hfin
        clear hfin
        go_wp2
        go_ret
        exact ⟨by rw [HF.out]; rfl, HG.out⟩
  · have hfin : decide (x = y) = false := by
      rw [decide_eq_false_iff_not]
      intro h
      exact hl (by rw [h])
    have hb : ((x.length : Int) != y.length) = true := by rw [bne_iff_ne]; omega
    have HF := Lib.hid hfin
    clear hfin hl
    go_enter Tryd.func65, Tryd.ntmps65
    go_wp2
    go_ret
    exact ⟨by rw [HF.out]; rfl, grownBy_refl _ _⟩

/-- k, k + 1, .. -/
def cntI (k : Int) (n : Nat) : List Int := (List.range n).map fun (i : Nat) => k + (i : Int)
theorem cntI_len (k : Int) (n : Nat) : (cntI k n).length = n := by simp [cntI]
theorem cntI_at (k : Int) {n i : Nat} (h : i < n) : (cntI k n).getD i 0 = k + i := by
  unfold cntI
  rw [List.getD_eq_getElem?_getD, List.getElem?_map, List.getElem?_range h]
  rfl
theorem cntI_succ (k : Int) (n : Nat) : cntI k (n + 1) = cntI k n ++ [k + n] := by simp [cntI, List.range_succ]
theorem mark_set {zs : List Int} {n j : Nat} {k : Int} (hl : zs.length = n) (hj : j < n) : (cntI k j ++ zs.drop j).set j (k + j) = cntI k (j + 1) ++ zs.drop (j + 1) := by
  rw [List.set_append_right _ _ (by rw [cntI_len]; omega), cntI_len, Nat.sub_self, List.drop_eq_getElem_cons (by omega), List.set_cons_zero, cntI_succ]
  simp

theorem markIntS_any (a : Option Addr) (n c : Nat) (zs : List Int) (k : Int) (w : World) (l : List Asrt) (hs : Sep w (OI (.slice a n c) zs :: l)) (hn : n = zs.length) (hl : n ≤ 2000000) (h0 : 0 ≤ k) (h1 : k ≤ 100000000) :
    Calls Tryd.prog 67 #[.slice a n c, .int .i64 k] w fun e w' => e = .returned (.int .i64 (k + n)) ∧ Sep w' (OI (.slice a n c) (cntI k n) :: l) := by
  have HS := Lib.hid hs; have HL := Lib.hid hn.symm
  clear hs hn
  go_enter Tryd.func67, Tryd.ntmps67
  go_wp2
  go_loopw [1, 5] (fun kv i wr => ∃ j : Nat, j ≤ n ∧ i = .int .i64 j ∧ kv = .int .i64 (k + j) ∧ Sep wr (OI (.slice a n c) (cntI k j ++ zs.drop j) :: l)) (fun _ i _ => n - (intOf i).toNat)
  case atStart => exact ⟨0, by omega, rfl, by simp, by simpa [cntI] using HS.out⟩
  case round =>
    obtain ⟨j, hj, rfl, rfl, hs⟩ := hrel
    have HSX := Lib.hid hs
    clear hs
    by_cases hlt : j < n
    · have hll : n = (cntI k j ++ zs.drop j).length := by rw [List.length_append, cntI_len, List.length_drop, HL.out]; omega
      obtain ⟨g, cap, he, _, _, _⟩ := HSX.out.hd.parts (by intro h; have := congrArg List.length h; rw [← hll, List.length_nil] at this; omega)
      rw [← hll] at he
      cases he
      have hf := HSX.out.hd.free hll j
      obtain ⟨q, hc⟩ := HSX.out.hd.cellQ hll (j := j) hlt
      have hset := HSX.out.setI hll j (k + j)
      rw [mark_set HL.out hlt] at hset
      have HSET := Lib.hid hset
      have hw := wrap_id (x := k + j + 1) (by omega) (by omega)
      have hw2 := wrap_id (x := (j : Int) + 1) (by omega) (by omega)
      clear hll hset
      go_wp2
      go_roundw
      case rel => exact ⟨j + 1, by omega, by go_num, by congr 1; omega, HSET.out⟩
      case measure => simp [intOf]; omega
    · have hjn : j = n := by omega
      subst hjn
      clear hlt
      go_wp2
      go_ret
      have := HSX.out
      rw [List.drop_of_length_le (by rw [HL.out]; omega), List.append_nil] at this
      exact ⟨rfl, this⟩

theorem heldIntS_any (a : Option Addr) (n c : Nat) (k : Int) (w : World) (hv : IntsV w (.slice a n c) (cntI k n)) (hl : n ≤ 2000000) (h0 : 0 ≤ k) (h1 : k ≤ 100000000) :
    Calls Tryd.prog 69 #[.slice a n c, .int .i64 k] w fun e w' => e = .returned (.int .i64 (k + n)) ∧ w = w' := by
  have HV := Lib.hid hv
  clear hv
  go_enter Tryd.func69, Tryd.ntmps69
  go_wp2
  go_loop [1, 5] (fun kv i => ∃ j : Nat, j ≤ n ∧ i = .int .i64 j ∧ kv = .int .i64 (k + j)) (fun _ i => n - (intOf i).toNat)
  case atStart => exact ⟨0, by omega, rfl, by simp⟩
  case round =>
    obtain ⟨j, hj, rfl, rfl⟩ := hrel
    by_cases hlt : j < n
    · obtain ⟨b, o, rfl, hb, hc⟩ := HV.out.atD (i := j) (by rw [cntI_len]; exact hlt)
      rw [cntI_at k hlt] at hc
      have hw := wrap_id (x := k + j + 1) (by omega) (by omega)
      go_wp2
      go_round
      case rel => exact ⟨j + 1, by omega, by go_num, by congr 1; omega⟩
      case measure => simp [intOf]; omega
    · have hjn : j = n := by omega
      subst hjn
      clear hlt
      go_wp2
      go_ret
      exact ⟨rfl, rfl⟩
end Go.Proofs.YtkamcgonacmieaaDoor

/-
  The laws' own helpers on gates. Conditions: lengths are small.
-/
namespace Go.Proofs.YtkamcgonacmieaaDoor
open Go.RowKit
set_option linter.unusedVariables false
set_option maxRecDepth 100000

theorem szGateS_any (a : Option Addr) (n c : Nat) (left : Int) (w : World) (h0 : 0 ≤ left) (h1 : left ≤ 1048576) (hn : n ≤ 9223372036854775807) :
    Calls Tryd.prog 46 #[.slice a n c, .int .i64 left] w fun e w' => e = .returned (.int .i64 (if left - n < 0 then -1 else left - n)) ∧ w = w' := by
  have hw := wrap_id (x := left - n) (by omega) (by omega)
  by_cases h : left - n < 0
  · rw [if_pos h]
    go_enter Tryd.func46, Tryd.ntmps46
    go_wp2
    go_ret
    exact ⟨rfl, rfl⟩
  · rw [if_neg h]
    go_enter Tryd.func46, Tryd.ntmps46
    go_wp2
    go_ret
    exact ⟨rfl, rfl⟩

theorem gr1 (w : World) (a : Obj) : w.grownBy (w.alloc a) none := World.grownBy_alloc w a none
theorem gr2 (w : World) (a b : Obj) : w.grownBy ((w.alloc a).alloc b) none := grownBy_trans (gr1 w a) (gr1 _ b)
theorem gr3 (w : World) (a b c : Obj) : w.grownBy (((w.alloc a).alloc b).alloc c) none := grownBy_trans (gr2 w a b) (gr1 _ c)
theorem toGate_any (g : Gt) (w : World) : Calls Tryd.prog 122 #[gtV g] w fun e w' => e = .returned (gtV g) ∧ w.grownBy w' none := by
  unfold gtV
  obtain ⟨k, a, b, v⟩ := g
  go_enter Tryd.func122, Tryd.ntmps122
  go_wp2
  refine bodyPost_ret_by (v := .agg #[.int .i64 k, .int .i64 a, .int .i64 b, .int .i64 v]) ?_ rfl ⟨rfl, ?_⟩
  · simp [results, go_sem, *]
  · exact gr3 _ _ _ _
theorem eqGate_any (g h : Gt) (w : World) : Calls Tryd.prog 141 #[gtV g, gtV h] w fun e w' => e = .returned (.bool (decide (g = h))) ∧ w.grownBy w' none := by
  unfold gtV
  have hd : decide (g = h) = (decide (g.k = h.k) && (decide (g.a = h.a) && (decide (g.b = h.b) && decide (g.v = h.v)))) := by
    obtain ⟨k, a, b, v⟩ := g
    obtain ⟨k', a', b', v'⟩ := h
    simp
  rw [hd]
  obtain ⟨k, a, b, v⟩ := g
  obtain ⟨k', a', b', v'⟩ := h
  clear hd
  by_cases h1 : k = k' <;> by_cases h2 : a = a' <;> by_cases h3 : b = b' <;> by_cases h4 : v = v'
  all_goals
    have h1' : (k != k') = !decide (k = k') := by simp [bne, h1]
    have h2' : (a != a') = !decide (a = a') := by simp [bne, h2]
    have h3' : (b != b') = !decide (b = b') := by simp [bne, h3]
    have h4' : (v != v') = !decide (v = v') := by simp [bne, h4]
    go_enter Tryd.func141, Tryd.ntmps141
    go_wp2
    go_ret
    exact ⟨by simp [h1, h2, h3, h4], gr2 _ _ _⟩

theorem zeroGate_cells : (Value.agg #[.int .i64 0, .int .i64 0, .int .i64 0, .int .i64 0]).cells.toList = gateE.cs g0 := rfl
theorem fillG_set {gs : List Gt} {n k : Nat} (hl : gs.length = n) (hk : k < n) : (gs.take k ++ List.replicate (n - k) g0).set k (gs.getD k g0) = gs.take (k + 1) ++ List.replicate (n - (k + 1)) g0 := by
  have h1 : (gs.take k).length = k := by rw [List.length_take]; omega
  have h2 : n - k = (n - (k + 1)) + 1 := by omega
  rw [List.set_append_right _ _ (by omega), h1, Nat.sub_self, h2, List.replicate_succ, List.set_cons_zero]
  rw [List.take_succ_eq_append_getElem (by omega), List.getD_eq_getElem?_getD, List.getElem?_eq_getElem (by omega), List.append_assoc]
  rfl
theorem toGateS_any (v : Value) (gs : List Gt) (w : World) (hv : RdR argE w v gs) (hl : gs.length ≤ 2000000) :
    Calls Tryd.prog 55 #[v] w fun e w' => ∃ g c, e = .returned (.slice (some ⟨g, 0, none⟩) gs.length c) ∧ Sep w' [OR gateE (.slice (some ⟨g, 0, none⟩) gs.length c) gs, KeepA w] := by
  obtain ⟨i0, hi, hz0, hz1, hz2⟩ := info_parts info_gate
  have HI := Lib.hid hi; have HZ0 := Lib.hid hz0; have HZ1 := Lib.hid hz1; have HZ2 := Lib.hid hz2
  have HV := Lib.hid hv
  obtain ⟨a, cap, rfl⟩ := hv.shape
  generalize hlen : gs.length = n at *
  have HL := Lib.hid hlen
  clear hi hz0 hz1 hz2 hv hlen
  go_enter Tryd.func55, Tryd.ntmps55
  go_wp2_with (
    at_make
    refine wpList_make_full _ rfl _ _ 27 rfl w.heap.size 130 i0 _ 4 Tryd.underlying27 HI.out HZ0.out HZ1.out _ _ _ _ n rfl rfl rfl rfl (by rw [HZ2.out]; omega) (by unfold maxLen; omega) (Nat.le_refl _) ?_
    intro w1 hown' hgr'
    have hs0 : Sep w1 [OR gateE (.slice (some ⟨w.heap.size, 0, none⟩) n n) (List.replicate n g0), KeepA w] := (Sep.start w).newR hgr' (OwnR.made zeroGate_cells hown')
    have HS := Lib.hid hs0
    clear hs0 hown' hgr')
  go_loopw [4] (fun i wr => ∃ k : Nat, k ≤ n ∧ i = .int .i64 k ∧ Sep wr [OR gateE (.slice (some ⟨w.heap.size, 0, none⟩) n n) (gs.take k ++ List.replicate (n - k) g0), KeepA w]) (fun i _ => n - (intOf i).toNat)
  case atStart => exact ⟨0, by omega, rfl, by simpa using HS.out⟩
  case round =>
    obtain ⟨k, hk, rfl, hs⟩ := hrel
    have HSX := Lib.hid hs
    clear hs
    by_cases hlt : k < n
    · obtain ⟨b, o, rfl, hb, c0, c1, c2, c3⟩ := gate_at rfl rfl (HV.out.carry HSX.out.tl.hd) (i := k) (by rw [HL.out]; exact hlt)
      have HSET := Lib.hid (fillG_set HL.out hlt)
      generalize gs.getD k g0 = y at *
      have HT := Lib.hid (toGate_any y wr)
      unfold gtV at HT
      go_wp2_with (
        go_at_call 122
        refine HT.out.mono ?_
        rintro e w2 ⟨rfl, hg⟩
        have HS2 := Lib.hid (HSX.out.grown hg)
        have hll : n = (gs.take k ++ List.replicate (n - k) g0).length := by rw [List.length_append, List.length_take, List.length_replicate, HL.out]; omega
        obtain ⟨f0, f1, f2, f3⟩ := gate_free HS2.out.hd hll k
        obtain ⟨q, d0, d1, d2, d3⟩ := gate_cellsQ HS2.out.hd hll (i := k) (by rw [← hll]; exact hlt)
        have HS3 := Lib.hid (HS2.out.setG hll (by rw [← hll]; exact hlt) y)
        clear hg hll)
      go_roundw
      case rel => exact ⟨k + 1, by omega, by go_num, by
        have := HS3.out
        rw [HSET.out] at this
        exact this⟩
      case measure => simp [intOf]; omega
    · have hkn : k = n := by omega
      subst hkn
      clear hlt
      go_wp2
      go_ret
      have := HSX.out
      rw [List.take_of_length_le (by rw [HL.out]; omega), Nat.sub_self, List.replicate_zero, List.append_nil] at this
      exact ⟨_, _, rfl, this⟩
end Go.Proofs.YtkamcgonacmieaaDoor

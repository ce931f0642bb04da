/-
  The walks of chapter 1's functions, of the program and of the reference. Conditions: the table of small primes holds what its text lays; arguments within some bounds.
-/
import Derived.Test.YtpeaeminjbjlnaaDoorFp
import Derived.Test.YtpeaeminjbjlnaaDoorCur
namespace Go.Proofs.YtpeaeminjbjlnaaDoor
open Go.RowKit
set_option linter.unusedVariables false

/-- The table of small primes. -/
structure Tab (w : World) : Prop where
  c0 : w.cell? ⟨0, 0, none⟩ = some (.int .i64 2)
  c1 : w.cell? ⟨0, 1, none⟩ = some (.int .i64 3)
  c2 : w.cell? ⟨0, 2, none⟩ = some (.int .i64 5)
  c3 : w.cell? ⟨0, 3, none⟩ = some (.int .i64 7)
  lt : 0 < w.heap.size
theorem Tab.carry {w w' : World} (h : Tab w) (hw : ∀ k, k < w.heap.size → w'.heap[k]? = w.heap[k]?) (hs : w.heap.size ≤ w'.heap.size) : Tab w' := by
  have e := hw 0 h.lt
  exact ⟨(World.cell?_of_block (a := ⟨0, 0, none⟩) e).trans h.c0, (World.cell?_of_block (a := ⟨0, 1, none⟩) e).trans h.c1, (World.cell?_of_block (a := ⟨0, 2, none⟩) e).trans h.c2, (World.cell?_of_block (a := ⟨0, 3, none⟩) e).trans h.c3, Nat.lt_of_lt_of_le h.lt hs⟩
theorem Tab.grown {w w' : World} (h : Tab w) (hg : w.grownBy w' none) : Tab w' := h.carry (fun k hk => hg.block k hk (by simp)) hg.size
theorem Tab.alloc {w : World} (h : Tab w) (o : Obj) : Tab (w.alloc o) := h.carry (fun k hk => alloc_heap_old w o k hk) (by simp)

theorem bit_any (b : Bool) (w : World) : Calls Tryd.prog 250 #[.bool b] w fun e w' => e = .returned (.int .i64 (if b then 1 else 0)) ∧ w = w' := by
  cases b
  all_goals
    go_enter Tryd.func250, Tryd.ntmps250
    go_wp2
    go_ret
    exact ⟨rfl, rfl⟩

theorem isElement_any (p a : Int) (w : World) : Calls Tryd.prog 114 #[.int .i64 p, .int .i64 a] w fun e w' => e = .returned (.bool (elB p a)) ∧ w = w' := by
  by_cases h0 : 0 ≤ a <;> by_cases h1 : a < p
  all_goals
    go_enter Tryd.func114, Tryd.ntmps114
    go_wp2
    go_ret
    exact ⟨by simp [elB, h0, h1], rfl⟩

theorem l1In_any (n lo hi : Int) (w : World) : Calls Tryd.prog 137 #[.int .i64 n, .int .i64 lo, .int .i64 hi] w fun e w' => e = .returned (.bool (decide (lo ≤ n ∧ n ≤ hi))) ∧ w = w' := by
  by_cases h0 : lo ≤ n <;> by_cases h1 : n ≤ hi
  all_goals
    go_enter Tryd.func137, Tryd.ntmps137
    go_wp2
    go_ret
    exact ⟨by simp [h0, h1], rfl⟩

theorem mod_any (p a : Int) (hp : 1 ≤ p) (hp2 : p ≤ 1000) (h0 : 0 ≤ a) (ha : a ≤ 1000000000) (w : World) : Calls Tryd.prog 236 #[.int .i64 p, .int .i64 a] w fun e w' => e = .returned (.int .i64 (a % p)) ∧ w = w' := by
  have h1 := Int.emod_nonneg a (show p ≠ 0 by omega)
  have h2 := Int.emod_lt_of_pos a (show 0 < p by omega)
  go_enter Tryd.func236, Tryd.ntmps236
  go_wp2
  go_ret
  exact ⟨rfl, rfl⟩

/-! ### isField -/
def okTo (p : Int) : Nat → Prop
  | 0 => True
  | 1 => p % 2 ≠ 0 ∨ p = 2
  | 2 => (p % 2 ≠ 0 ∨ p = 2) ∧ (p % 3 ≠ 0 ∨ p = 3)
  | 3 => (p % 2 ≠ 0 ∨ p = 2) ∧ (p % 3 ≠ 0 ∨ p = 3) ∧ (p % 5 ≠ 0 ∨ p = 5)
  | _ => (p % 2 ≠ 0 ∨ p = 2) ∧ (p % 3 ≠ 0 ∨ p = 3) ∧ (p % 5 ≠ 0 ∨ p = 5) ∧ (p % 7 ≠ 0 ∨ p = 7)

theorem isField_in (p : Int) (w : World) (ht : Tab w) (h0 : 2 ≤ p) (h1 : p ≤ 97) : Calls Tryd.prog 204 #[.int .i64 p] w fun e w' => e = .returned (.bool (fldB p)) ∧ w = w' := by
  obtain ⟨c0, c1, c2, c3, _⟩ := ht
  have i0 : ∀ w, (Instr.index 231 (.agg #[.int .i64 2, .int .i64 3, .int .i64 5, .int .i64 7]) (.int .i64 0)).run Tryd.prog w = .ok (.int .i64 2) w := fun _ => by kernel_rfl
  have i1 : ∀ w, (Instr.index 231 (.agg #[.int .i64 2, .int .i64 3, .int .i64 5, .int .i64 7]) (.int .i64 1)).run Tryd.prog w = .ok (.int .i64 3) w := fun _ => by kernel_rfl
  have i2 : ∀ w, (Instr.index 231 (.agg #[.int .i64 2, .int .i64 3, .int .i64 5, .int .i64 7]) (.int .i64 2)).run Tryd.prog w = .ok (.int .i64 5) w := fun _ => by kernel_rfl
  have i3 : ∀ w, (Instr.index 231 (.agg #[.int .i64 2, .int .i64 3, .int .i64 5, .int .i64 7]) (.int .i64 3)).run Tryd.prog w = .ok (.int .i64 7) w := fun _ => by kernel_rfl
  have m2 := Int.emod_nonneg p (show (2 : Int) ≠ 0 by omega)
  have m3 := Int.emod_nonneg p (show (3 : Int) ≠ 0 by omega)
  have m5 := Int.emod_nonneg p (show (5 : Int) ≠ 0 by omega)
  have m7 := Int.emod_nonneg p (show (7 : Int) ≠ 0 by omega)
  go_enter Tryd.func204, Tryd.ntmps204
  go_wp2
  go_loop [12] (fun i => ∃ k : Nat, k ≤ 4 ∧ i = .int .i64 k ∧ okTo p k) (fun i => 4 - (intOf i).toNat)
  case atStart => exact ⟨0, by omega, rfl, trivial⟩
  case round =>
    obtain ⟨k, hk, rfl, ho⟩ := hrel
    have HO := Lib.hid ho
    clear ho
    match k, hk with
    | 0, _ =>
      by_cases hd : p % 2 = 0
      · by_cases he : p = 2
        · obtain rfl := he
          go_wp2
          go_round
          case rel => exact ⟨1, by omega, by go_num, Or.inr rfl⟩
          case measure => simp [intOf]
        · have hdb : (p % 2 == 0) = true := by simp [hd]
          have heb : (p != 2) = true := by simp [he]
          have hfin : fldB p = false := by simp [fldB, hd, he]
          clear hd
          go_wp2
          go_ret
          exact ⟨by simp, rfl⟩
      · have hdb : (p % 2 == 0) = false := by simp [hd]
        have HD := Lib.hid hd
        clear hd
        go_wp2
        go_round
        case rel => exact ⟨1, by omega, by go_num, Or.inl HD.out⟩
        case measure => simp [intOf]
    | 1, _ =>
      by_cases hd : p % 3 = 0
      · by_cases he : p = 3
        · obtain rfl := he
          go_wp2
          go_round
          case rel => exact ⟨2, by omega, by go_num, HO.out, Or.inr rfl⟩
          case measure => simp [intOf]
        · have hdb : (p % 3 == 0) = true := by simp [hd]
          have heb : (p != 3) = true := by simp [he]
          have hfin : fldB p = false := by simp [fldB, hd, he]
          clear hd
          go_wp2
          go_ret
          exact ⟨by simp, rfl⟩
      · have hdb : (p % 3 == 0) = false := by simp [hd]
        have HD := Lib.hid hd
        clear hd
        go_wp2
        go_round
        case rel => exact ⟨2, by omega, by go_num, HO.out, Or.inl HD.out⟩
        case measure => simp [intOf]
    | 2, _ =>
      by_cases hd : p % 5 = 0
      · by_cases he : p = 5
        · obtain rfl := he
          go_wp2
          go_round
          case rel => exact ⟨3, by omega, by go_num, HO.out.1, HO.out.2, Or.inr rfl⟩
          case measure => simp [intOf]
        · have hdb : (p % 5 == 0) = true := by simp [hd]
          have heb : (p != 5) = true := by simp [he]
          have hfin : fldB p = false := by simp [fldB, hd, he]
          clear hd
          go_wp2
          go_ret
          exact ⟨by simp, rfl⟩
      · have hdb : (p % 5 == 0) = false := by simp [hd]
        have HD := Lib.hid hd
        clear hd
        go_wp2
        go_round
        case rel => exact ⟨3, by omega, by go_num, HO.out.1, HO.out.2, Or.inl HD.out⟩
        case measure => simp [intOf]
    | 3, _ =>
      by_cases hd : p % 7 = 0
      · by_cases he : p = 7
        · obtain rfl := he
          go_wp2
          go_round
          case rel => exact ⟨4, by omega, by go_num, HO.out.1, HO.out.2.1, HO.out.2.2, Or.inr rfl⟩
          case measure => simp [intOf]
        · have hdb : (p % 7 == 0) = true := by simp [hd]
          have heb : (p != 7) = true := by simp [he]
          have hfin : fldB p = false := by simp [fldB, hd, he]
          clear hd
          go_wp2
          go_ret
          exact ⟨by simp, rfl⟩
      · have hdb : (p % 7 == 0) = false := by simp [hd]
        have HD := Lib.hid hd
        clear hd
        go_wp2
        go_round
        case rel => exact ⟨4, by omega, by go_num, HO.out.1, HO.out.2.1, HO.out.2.2, Or.inl HD.out⟩
        case measure => simp [intOf]
    | 4, _ =>
      have hfin : fldB p = true := fldB_iff.2 ⟨h0, h1, HO.out⟩
      go_wp2
      go_ret
      exact ⟨by simp, rfl⟩

theorem isField_any (p : Int) (w : World) (ht : Tab w) : Calls Tryd.prog 204 #[.int .i64 p] w fun e w' => e = .returned (.bool (fldB p)) ∧ w = w' := by
  by_cases h2 : p < 2
  · have hf : fldB p = false := by simp [fldB]; omega
    have HF := Lib.hid hf
    clear hf
    clear ht
    go_enter Tryd.func204, Tryd.ntmps204
    go_wp2
    go_ret
    exact ⟨by rw [HF.out]; rfl, rfl⟩
  · by_cases h : 97 < p
    · have hf : fldB p = false := by simp [fldB]; omega
      have HF := Lib.hid hf
      clear hf
      clear ht
      go_enter Tryd.func204, Tryd.ntmps204
      go_wp2
      go_ret
      exact ⟨by rw [HF.out]; rfl, rfl⟩
    · exact isField_in p w ht (by omega) (by omega)

end Go.Proofs.YtpeaeminjbjlnaaDoor

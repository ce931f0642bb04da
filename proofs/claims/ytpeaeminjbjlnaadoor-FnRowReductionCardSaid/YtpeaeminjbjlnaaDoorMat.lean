/-
  Lists of lists of integers in memory: what can be read, what is the call's own; and the walks that only read them. Conditions: the lists are short.
-/
import Derived.Test.YtpeaeminjbjlnaaDoorInts
import Derived.Test.YtpeaeminjbjlnaaDoorFld
import Derived.Test.YtpeaeminjbjlnaaDoorGe
namespace Go.Proofs.YtpeaeminjbjlnaaDoor
open Go.RowKit
set_option linter.unusedVariables false

/-- A slice of slices of integers that can be read. -/
def MatV (w : World) (v : Value) (rows : List (List Int)) : Prop :=
  ∃ a cap, v = .slice a rows.length cap ∧ (rows ≠ [] → ∃ d, a = some d ∧ d.spot = none ∧ d.block < w.heap.size ∧
    ∀ i (h : i < rows.length), ∃ u, w.cell? ⟨d.block, d.off + i, none⟩ = some u ∧ IntsV w u rows[i])
theorem MatV.carry {w w' : World} {v : Value} {rows : List (List Int)} (h : MatV w v rows) (hg : w.grownBy w' none) : MatV w' v rows := by
  obtain ⟨a, cap, rfl, h⟩ := h
  refine ⟨a, cap, rfl, fun hz => ?_⟩
  obtain ⟨d, ha, hs, hd, hi⟩ := h hz
  refine ⟨d, ha, hs, Nat.lt_of_lt_of_le hd hg.size, fun i hi' => ?_⟩
  obtain ⟨u, hu, hr⟩ := hi i hi'
  exact ⟨u, (World.cell?_of_block (w := w) (a := ⟨d.block, d.off + i, none⟩) (hg.block _ hd (by simp))).trans hu, hr.carry hg⟩
/-- One row: its cell, and its shape. -/
theorem MatV.row {w : World} {a : Option Addr} {n cap : Nat} {rows : List (List Int)} (h : MatV w (.slice a n cap) rows) {i : Nat} (hi : i < rows.length) :
    ∃ (d : Addr) (r : Option Addr) (c : Nat), a = some d ∧ d.spot = none ∧ d.block < w.heap.size ∧ w.cell? ⟨d.block, d.off + i, none⟩ = some (.slice r rows[i].length c) ∧ IntsV w (.slice r rows[i].length c) rows[i] := by
  obtain ⟨a', cap', he, h⟩ := h
  cases he
  obtain ⟨d, ha, hs, hd, hi'⟩ := h (by intro h0; rw [h0] at hi; simp at hi)
  obtain ⟨u, hu, hr⟩ := hi' i hi
  obtain ⟨r, c, rfl, _⟩ := id hr
  exact ⟨d, r, c, ha, hs, hd, hu, hr⟩
theorem IntsV.at {w : World} {a : Option Addr} {n cap : Nat} {zs : List Int} (h : IntsV w (.slice a n cap) zs) {i : Nat} (hi : i < zs.length) :
    ∃ d : Addr, a = some d ∧ d.spot = none ∧ d.block < w.heap.size ∧ w.cell? ⟨d.block, d.off + i, none⟩ = some (.int .i64 zs[i]) := by
  obtain ⟨a', cap', he, h⟩ := h
  cases he
  obtain ⟨d, ha, hs, hd, hz⟩ := h (by intro h0; rw [h0] at hi; simp at hi)
  exact ⟨d, ha, hs, hd, hz i hi⟩

/-! ### checks -/
def vecB (p n : Int) (v : List Int) : Bool := decide ((v.length : Int) = n) && v.all (elB p)
def rowsB (p n : Int) (L : List (List Int)) : Bool := L.all (vecB p n)
theorem vecB_ok {p : Int} {n : Nat} {v : List Int} : vecB p n v = true ↔ VecOk p n v := by
  unfold vecB VecOk
  rw [Bool.and_eq_true, decide_eq_true_eq, List.all_eq_true]
  simp only [elB_iff]
  constructor
  · rintro ⟨h1, h2⟩; exact ⟨by omega, h2⟩
  · rintro ⟨h1, h2⟩; exact ⟨by omega, h2⟩
theorem rowsB_ok {p : Int} {n : Nat} {L : List (List Int)} : rowsB p n L = true ↔ RowsOk p n L := by
  unfold rowsB RowsOk
  rw [List.all_eq_true]
  simp only [vecB_ok]

theorem within_any (n lo hi : Int) (w : World) : Calls Tryd.prog 125 #[.int .i64 n, .int .i64 lo, .int .i64 hi] w fun e w' => e = .returned (.bool (decide (lo ≤ n ∧ n ≤ hi))) ∧ w = w' := by
  by_cases h0 : lo ≤ n <;> by_cases h1 : n ≤ hi
  all_goals
    go_enter Tryd.func125, Tryd.ntmps125
    go_wp2
    go_ret
    exact ⟨by simp [h0, h1], rfl⟩

theorem isVector_any (p n : Int) (v : Value) (zs : List Int) (w : World) (hv : IntsV w v zs) (hl : zs.length ≤ 1000000) :
    Calls Tryd.prog 173 #[.int .i64 p, v, .int .i64 n] w fun e w' => e = .returned (.bool (vecB p n zs)) ∧ w = w' := by
  have HV := Lib.hid hv
  obtain ⟨a, cap, rfl, _⟩ := hv
  generalize hlen : zs.length = l at *
  have HL := Lib.hid hlen
  clear hlen
  by_cases hn : (l : Int) = n
  · subst hn
    go_enter Tryd.func173, Tryd.ntmps173
    go_wp2
    go_loop [15] (fun i => ∃ k : Nat, k ≤ l ∧ i = .int .i64 k ∧ ∀ j (h : j < zs.length), j < k → elB p zs[j] = true) (fun i => l - (intOf i).toNat)
    case atStart => exact ⟨0, by omega, rfl, fun _ _ h => absurd h (by omega)⟩
    case round =>
      obtain ⟨k, hk, rfl, ho⟩ := hrel
      have HO := Lib.hid ho
      clear ho
      by_cases hlt : k < l
      · have hkl : k < zs.length := by rw [HL.out]; exact hlt
        obtain ⟨d, rfl, hs, hd, hcell⟩ := HV.out.at hkl
        obtain ⟨db, dof, _⟩ := d
        simp only at hs hcell
        subst hs
        generalize hzk : zs[k] = z at hcell
        have HK := Lib.hid hzk
        clear hzk hd
        cases he : elB p z
        · have hfin : vecB p l zs = false := by
            unfold vecB
            rw [Bool.and_eq_false_iff]
            refine Or.inr (List.all_eq_false.2 ⟨zs[k], List.getElem_mem _, ?_⟩)
            rw [HK.out, he]
            simp
          have HF := Lib.hid hfin
          clear hfin
          go_wp2_with (go_at_call 114; refine (isElement_any _ _ _).mono ?_; rintro e w' ⟨rfl, rfl⟩)
          go_ret
          exact ⟨by rw [HF.out]; rfl, rfl⟩
        · have HE := Lib.hid he
          go_wp2_with (go_at_call 114; refine (isElement_any _ _ _).mono ?_; rintro e w' ⟨rfl, rfl⟩)
          go_round
          case rel => exact ⟨k + 1, by omega, by go_num, fun j h hj => by
            by_cases hjk : j = k
            · subst hjk; rw [HK.out]; exact HE.out
            · exact HO.out j h (by omega)⟩
          case measure => simp [intOf]; omega
      · have hfin : vecB p l zs = true := by
          unfold vecB
          rw [Bool.and_eq_true]
          refine ⟨decide_eq_true (by rw [HL.out]), List.all_eq_true.2 fun x hx => ?_⟩
          obtain ⟨j, hj, rfl⟩ := List.getElem_of_mem hx
          exact HO.out j hj (by have := HL.out; omega)
        have HF := Lib.hid hfin
        clear hfin
        go_wp2
        go_ret
        exact ⟨by rw [HF.out]; rfl, rfl⟩
  · have hb : ((l : Int) != n) = true := by rw [bne_iff_ne]; exact hn
    have hfin : vecB p n zs = false := by
      unfold vecB
      rw [Bool.and_eq_false_iff]
      exact Or.inl (decide_eq_false (by rw [HL.out]; exact hn))
    have HF := Lib.hid hfin
    clear hfin hn
    go_enter Tryd.func173, Tryd.ntmps173
    go_wp2
    go_ret
    exact ⟨by rw [HF.out]; rfl, rfl⟩

theorem areVectors_any (p n : Int) (v : Value) (rows : List (List Int)) (w : World) (hv : MatV w v rows) (hl : rows.length ≤ 1000000) (hll : ∀ row ∈ rows, row.length ≤ 1000000) :
    Calls Tryd.prog 205 #[.int .i64 p, v, .int .i64 n] w fun e w' => e = .returned (.bool (rowsB p n rows)) ∧ w = w' := by
  have HV := Lib.hid hv
  have HLL := Lib.hid hll
  obtain ⟨a, cap, rfl, hx⟩ := hv
  clear hx
  generalize hlen : rows.length = l at *
  have HL := Lib.hid hlen
  clear hlen hll
  go_enter Tryd.func205, Tryd.ntmps205
  go_wp2
  go_loop [11] (fun i => ∃ k : Nat, k ≤ l ∧ i = .int .i64 k ∧ ∀ j (h : j < rows.length), j < k → vecB p n rows[j] = true) (fun i => l - (intOf i).toNat)
  case atStart => exact ⟨0, by omega, rfl, fun _ _ h => absurd h (by omega)⟩
  case round =>
    obtain ⟨k, hk, rfl, ho⟩ := hrel
    have HO := Lib.hid ho
    clear ho
    by_cases hlt : k < l
    · have hkl : k < rows.length := by rw [HL.out]; exact hlt
      obtain ⟨d, r, c, rfl, hs, hd, hcell, hrow⟩ := HV.out.row hkl
      have hlr := HLL.out rows[k] (List.getElem_mem _)
      obtain ⟨db, dof, _⟩ := d
      simp only at hs hcell
      subst hs
      generalize hzk : rows[k] = z at *
      have HK := Lib.hid hzk
      have HR := Lib.hid (isVector_any p n _ z w hrow hlr)
      clear hzk hd hrow hlr
      generalize z.length = zl at *
      cases he : vecB p n z
      · have hfin : rowsB p n rows = false := by
          unfold rowsB
          refine List.all_eq_false.2 ⟨rows[k], List.getElem_mem _, ?_⟩
          rw [HK.out, he]
          simp
        have HF := Lib.hid hfin
        rw [he] at HR
        clear hfin he
        go_wp2_with (go_at_call 173; refine HR.out.mono ?_; rintro e w' ⟨rfl, rfl⟩)
        go_ret
        exact ⟨by rw [HF.out]; rfl, rfl⟩
      · have HE := Lib.hid he
        rw [he] at HR
        clear he
        go_wp2_with (go_at_call 173; refine HR.out.mono ?_; rintro e w' ⟨rfl, rfl⟩)
        go_round
        case rel => exact ⟨k + 1, by omega, by go_num, fun j h hj => by
          by_cases hjk : j = k
          · subst hjk; rw [HK.out]; exact HE.out
          · exact HO.out j h (by omega)⟩
        case measure => simp [intOf]; omega
    · have hfin : rowsB p n rows = true := by
        unfold rowsB
        refine List.all_eq_true.2 fun x hx => ?_
        obtain ⟨j, hj, rfl⟩ := List.getElem_of_mem hx
        exact HO.out j hj (by have := HL.out; omega)
      have HF := Lib.hid hfin
      clear hfin
      go_wp2
      go_ret
      exact ⟨by rw [HF.out]; rfl, rfl⟩

end Go.Proofs.YtpeaeminjbjlnaaDoor

/-
  Scripts: the reference's IsScript and the law's walk. Conditions: at most 4,000,000 bytes; the law: none.
-/
import Derived.Test.YtmnpcooaijpigaaDoorScr
namespace Go.Proofs.YtmnpcooaijpigaaDoor
open Go.RowKit
set_option linter.unusedVariables false

theorem ends_nonempty (s : ByteArray) (h : 0 < s.size) : endsB s.data.toList = (((s[s.size - 1].toNat : Nat) : Int) == 10) := by
  have hl : s.data.toList.getLast? = some s[s.size - 1] := by
    rw [List.getLast?_eq_getElem?, ← Lib.size_eq, Lib.data_getElem? s _ (by omega)]
  have he : s.data.toList.isEmpty = false := by
    rw [List.isEmpty_eq_false_iff]
    intro h0
    have h2 := Lib.size_eq s
    rw [h0, List.length_nil] at h2
    omega
  unfold endsB
  rw [hl, he, Bool.false_or, Bool.eq_iff_iff, beq_iff_eq, beq_iff_eq, Option.some.injEq]
  constructor
  · intro h1; rw [h1]; rfl
  · intro h1
    exact UInt8.toNat_inj.1 (by have : s[s.size - 1].toNat = 10 := by omega
                                exact this)
theorem ends_empty (s : ByteArray) (h : s.size = 0) : endsB s.data.toList = true := by
  have h2 := Lib.size_eq s
  have : s.data.toList = [] := List.eq_nil_of_length_eq_zero (by omega)
  rw [this]; rfl

theorem l1Split_cap (s : ByteArray) (w : World) (hs : s.size ≤ 4000000) (n : Nat) (hn : nl s.data.toList = n) :
    Calls Tryd.prog 51 #[.string s, .int .u8 10] w fun e w' => (∃ a c, e = .returned (.slice (some a) (n + 1) c) ∧ n + 1 ≤ c) ∧ Below w.heap.size w w' := by
  subst hn
  exact l1Split_any s w hs

theorem scLines_any (s : ByteArray) (w : World) (hs : s.size ≤ 4000000) :
    Calls Tryd.prog 43 #[.string s] w fun e w' => (∃ v, e = .returned (.tuple #[v, .bool (scriptB s)])) ∧ Below w.heap.size w w' := by
  by_cases hl : s.size ≤ 3000
  · have hd : decide (3000 < (s.size : Int)) = false := by simp; omega
    have hle := nl_le s
    generalize hn : nl s.data.toList = n at hle
    have HC := Lib.hid (l1Split_cap s w hs n hn)
    have hscr : scriptB s = (endsB s.data.toList && decide (n ≤ 60)) := by
      unfold scriptB
      rw [hn, decide_eq_true hl, Bool.true_and]
    clear hn
    have main : endsB s.data.toList = true → ∀ (_ : decide ((n : Int) ≤ 60) = decide (n ≤ 60)), scriptB s = decide ((n : Int) ≤ 60) := by
      intro h1 h2
      rw [hscr, h1, h2, Bool.true_and]
    have hcast : decide ((n : Int) ≤ 60) = decide (n ≤ 60) := decide_eq_decide.2 (by omega)
    by_cases h0 : s.size = 0
    · have HSB := Lib.hid (main (ends_empty s h0) hcast)
      have hemp : s.toList = [] := by
        rw [Lib.toList_data]
        have h2 := Lib.size_eq s
        exact List.eq_nil_of_length_eq_zero (by omega)
      have hemp2 : s.toList.isEmpty = true := by rw [hemp]; rfl
      clear h0 hscr main hcast
      go_enter Tryd.func43, Tryd.ntmps43
      go_wp2_with fail
      refine HC.out.mono ?_
      rintro e w1 ⟨⟨a, c, rfl, hcap⟩, hbel⟩
      have HW := Lib.hid hbel
      clear hbel
      have HCC := Lib.hid hcap
      go_wp2_with fail
      go_ret2
      exact ⟨⟨_, by rw [HSB.out]; rfl⟩, HW.out⟩
    · have hpos : 0 < s.size := by omega
      have hne : s.toList.isEmpty = false := by
        rw [Lib.toList_data, List.isEmpty_eq_false_iff]
        intro h
        have h2 := Lib.size_eq s
        rw [h, List.length_nil] at h2
        omega
      have HE := Lib.hid (ends_nonempty s hpos)
      have HSC := Lib.hid hscr
      have HM := Lib.hid main
      have HCA := Lib.hid hcast
      clear h0 hscr main hcast
      go_enter Tryd.func43, Tryd.ntmps43
      go_wp2_with fail
      · have ht : (((s[s.size - 1].toNat : Nat) : Int) != 10) = true := by assumption
        have hb : endsB s.data.toList = false := by
          rw [HE.out, beq_eq_false_iff_ne]
          exact bne_iff_ne.1 ht
        have HSB := Lib.hid (show scriptB s = false by rw [HSC.out, hb]; rfl)
        go_ret2
        exact ⟨⟨_, by rw [HSB.out]; rfl⟩, Below.refl _ _⟩
      · have ht : (((s[s.size - 1].toNat : Nat) : Int) != 10) = false := by assumption
        have hb : endsB s.data.toList = true := by
          rw [HE.out, beq_iff_eq]
          exact bne_eq_false_iff_eq.1 ht
        have HSB := Lib.hid (HM.out hb HCA.out)
        refine HC.out.mono ?_
        rintro e w1 ⟨⟨a, c, rfl, hcap⟩, hbel⟩
        have HW := Lib.hid hbel
        clear hbel hb ht
        go_wp2_with fail
        go_ret2
        exact ⟨⟨_, by rw [HSB.out]; rfl⟩, HW.out⟩
  · have hd : decide (3000 < (s.size : Int)) = true := by simp; omega
    have HSB := Lib.hid (show scriptB s = false by unfold scriptB; rw [decide_eq_false hl]; rfl)
    go_enter Tryd.func43, Tryd.ntmps43
    go_wp2_with fail
    go_ret2
    exact ⟨⟨_, by rw [HSB.out]; rfl⟩, Below.refl _ _⟩

theorem sIsScript_any (s : ByteArray) (w : World) (hs : s.size ≤ 4000000) :
    Calls Tryd.prog 26 #[.string s] w fun e w' => e = .returned (.bool (scriptB s)) ∧ Below w.heap.size w w' := by
  have HC := Lib.hid (scLines_any s w hs)
  go_enter Tryd.func26, Tryd.ntmps26
  go_wp2_with fail
  refine HC.out.mono ?_
  rintro e w1 ⟨⟨v, rfl⟩, hbel⟩
  have HW := Lib.hid hbel
  clear hbel
  go_wp2
  go_ret
  exact ⟨rfl, HW.out⟩

theorem fnIsScript_any (s : ByteArray) (m : Int) (w : World) (hm : w.cell? ⟨1, 0, none⟩ = some (.int .i64 m)) (hw : 1 < w.heap.size) (hs : s.size ≤ 9223372036854775807) :
    Calls Tryd.prog 5 #[.string s] w fun e w' => e = .returned (.bool true) ∧ Below w.heap.size w w' := by
  have HM := Lib.hid hm
  clear hm
  by_cases hb : 1048576 < s.size
  · have hd : decide (1048576 < (s.size : Int)) = true := by simp; omega
    go_enter Tryd.func5, Tryd.ntmps5
    go_wp2
    go_ret
    exact ⟨rfl, Below.refl _ _⟩
  · have hd : decide (1048576 < (s.size : Int)) = false := by simp; omega
    go_enter Tryd.func5, Tryd.ntmps5
    go_wp2_with fail
    refine (sIsScript_any s w (by omega)).mono ?_
    rintro e w1 ⟨rfl, hbel⟩
    have hc : w1.cell? ⟨1, 0, none⟩ = some (.int .i64 m) := (hbel.cell (p := ⟨1, 0, none⟩) hw).trans HM.out
    have HC := Lib.hid hc
    have HW := Lib.hid hbel
    clear hbel hc
    go_wp2_with fail
    refine (iIsScript_any s m w1 (by omega) HC.out).mono ?_
    rintro e w2 ⟨rfl, hbel⟩
    have HW2 := Lib.hid hbel
    clear hbel
    go_wp2
    go_ret
    exact ⟨rfl, HW.out.trans (HW2.out.mono HW.out.size)⟩

end Go.Proofs.YtmnpcooaijpigaaDoor

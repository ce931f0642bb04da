/-
  The functions on matrices: what is a matrix, reduced lists, kernels. Conditions: lengths are small.
-/
import Derived.Test.YtpeaeminjbjlnaaDoorReduce
namespace Go.Proofs.YtpeaeminjbjlnaaDoor
open Go.RowKit
set_option linter.unusedVariables false

def mxV (cols : Int) (v : Value) : Value := .agg #[.int .i64 cols, v]
def matB (p cols : Int) (L : List (List Int)) : Bool := fldB p && (decide (0 ≤ cols ∧ cols ≤ 24) && (decide (L.length ≤ 24) && rowsB p cols L))
theorem MatV.shape {w : World} {v : Value} {L : List (List Int)} (h : MatV w v L) : ∃ a c, v = .slice a L.length c := by
  obtain ⟨a, c, rfl, _⟩ := h
  exact ⟨a, c, rfl⟩

set_option maxHeartbeats 1000000 in
theorem isMatrix_any (p cols : Int) (v : Value) (L : List (List Int)) (w : World) (ht : Tab w) (hv : MatV w v L) (hl : L.length ≤ 1000000) (hll : ∀ row ∈ L, row.length ≤ 1000000) :
    Calls Tryd.prog 117 #[.int .i64 p, mxV cols v] w fun e w' => e = .returned (.bool (matB p cols L)) ∧ w.grownBy w' none := by
  unfold mxV
  have hgr := fun v => grownBy_alloc w (.cells #[.int .i64 cols, v] 39) none
  have HT := Lib.hid (fun v => isField_any p _ (ht.alloc (.cells #[.int .i64 cols, v] 39)))
  have HA := Lib.hid (areVectors_any p cols v L _ (hv.carry (hgr v)) hl hll)
  have HG := Lib.hid hgr
  obtain ⟨a, c, rfl⟩ := hv.shape
  clear hv hgr ht hll
  generalize hlen : L.length = l at *
  have HL := Lib.hid hlen
  clear hlen
  cases h1 : fldB p
  · have hm : matB p cols L = false := by unfold matB; rw [h1]; rfl
    have HM := Lib.hid hm
    rw [h1] at HT
    clear hm h1
    go_enter Tryd.func117, Tryd.ntmps117
    go_wp2_with (go_at_call 204; refine (HT.out _).mono ?_; rintro e w' ⟨rfl, rfl⟩)
    go_ret
    exact ⟨by rw [HM.out]; rfl, HG.out _⟩
  · by_cases h2 : 0 ≤ cols ∧ cols ≤ 24
    · have h2' : decide (0 ≤ cols ∧ cols ≤ 24) = true := decide_eq_true h2
      by_cases h3 : l ≤ 24
      · have h3' : decide ((l : Int) ≤ 24) = true := decide_eq_true (by omega)
        have hm : matB p cols L = rowsB p cols L := by unfold matB; rw [h1, decide_eq_true h2, HL.out, decide_eq_true h3]; rfl
        have HM := Lib.hid hm
        rw [h1] at HT
        clear hm h1
        generalize rowsB p cols L = b at *
        go_enter Tryd.func117, Tryd.ntmps117
        go_wp2_with (first
          | (go_at_call 204; refine (HT.out _).mono ?_; rintro e w' ⟨rfl, rfl⟩)
          | (go_at_call 125; refine (within_any _ _ _ _).mono ?_; rintro e w' ⟨rfl, rfl⟩)
          | (go_at_call 205; refine HA.out.mono ?_; rintro e w' ⟨rfl, rfl⟩))
        go_ret
        exact ⟨by rw [HM.out]; rfl, HG.out _⟩
      · have h3' : decide ((l : Int) ≤ 24) = false := decide_eq_false (by omega)
        have hm : matB p cols L = false := by unfold matB; rw [h1, decide_eq_true h2, HL.out, decide_eq_false h3]; rfl
        have HM := Lib.hid hm
        rw [h1] at HT
        clear hm h1
        go_enter Tryd.func117, Tryd.ntmps117
        go_wp2_with (first
          | (go_at_call 204; refine (HT.out _).mono ?_; rintro e w' ⟨rfl, rfl⟩)
          | (go_at_call 125; refine (within_any _ _ _ _).mono ?_; rintro e w' ⟨rfl, rfl⟩))
        go_ret
        exact ⟨by rw [HM.out]; rfl, HG.out _⟩
    · have h2' : decide (0 ≤ cols ∧ cols ≤ 24) = false := decide_eq_false h2
      have hm : matB p cols L = false := by unfold matB; rw [h1, decide_eq_false h2]; rfl
      have HM := Lib.hid hm
      rw [h1] at HT
      clear hm h1
      go_enter Tryd.func117, Tryd.ntmps117
      go_wp2_with (first
        | (go_at_call 204; refine (HT.out _).mono ?_; rintro e w' ⟨rfl, rfl⟩)
        | (go_at_call 125; refine (within_any _ _ _ _).mono ?_; rintro e w' ⟨rfl, rfl⟩))
      go_ret
      exact ⟨by rw [HM.out]; rfl, HG.out _⟩

end Go.Proofs.YtpeaeminjbjlnaaDoor

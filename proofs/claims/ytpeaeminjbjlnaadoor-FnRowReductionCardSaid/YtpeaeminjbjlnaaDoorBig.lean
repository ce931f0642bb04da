/-
  The laws' test of the lengths. Conditions: none.
-/
import Derived.Test.YtpeaeminjbjlnaaDoorDrawF
import Derived.Test.YtpeaeminjbjlnaaDoorFld
namespace Go.Proofs.YtpeaeminjbjlnaaDoor
open Go.RowKit
set_option linter.unusedVariables false

def Gives (v : Value) (w : World) (e : Ending) (w' : World) : Prop := e = .returned v ∧ w.grownBy w' none
theorem Gives.mono {v v' : Value} {w w' : World} {e : Ending} (h : Gives v w e w') (hv : v = v') : Gives v' w e w' := by subst hv; exact h

def bigB (l m : Nat) : Bool := decide (1048576 < (l : Int)) || decide (1048576 - (l : Int) < m)
theorem bigB_no {l m : Nat} (h : bigB l m = false) : l ≤ 1048576 ∧ m ≤ 1048576 := by
  unfold bigB at h
  rw [Bool.or_eq_false_iff, decide_eq_false_iff_not, decide_eq_false_iff_not] at h
  omega
theorem big_any (a b : Option Addr) (l m c d : Nat) (w : World) (hl : l ≤ 9223372036854775807) (hm : m ≤ 9223372036854775807) : Calls Tryd.prog 13 #[.slice a l c, .slice b m d] w fun e w' => e = .returned (.bool (bigB l m)) ∧ w = w' := by
  by_cases h1 : 1048576 < (l : Int)
  · have HF := Lib.hid (show bigB l m = true by unfold bigB; simp only [h1, decide_true, Bool.true_or])
    go_enter Tryd.func13, Tryd.ntmps13
    go_wp2
    go_ret
    exact ⟨by rw [HF.out]; rfl, rfl⟩
  · have hd : decide (1048576 < (l : Int)) = false := by simpa using h1
    by_cases h2 : 1048576 - (l : Int) < m
    · have HF := Lib.hid (show bigB l m = true by unfold bigB; simp only [h2, decide_true, Bool.or_true])
      go_enter Tryd.func13, Tryd.ntmps13
      go_wp2
      go_ret
      exact ⟨by rw [HF.out]; rfl, rfl⟩
    · have hd2 : decide (1048576 - (l : Int) < m) = false := by simpa using h2
      have HF := Lib.hid (show bigB l m = false by unfold bigB; rw [hd, hd2]; rfl)
      go_enter Tryd.func13, Tryd.ntmps13
      go_wp2
      go_ret
      exact ⟨by rw [HF.out]; rfl, rfl⟩

end Go.Proofs.YtpeaeminjbjlnaaDoor

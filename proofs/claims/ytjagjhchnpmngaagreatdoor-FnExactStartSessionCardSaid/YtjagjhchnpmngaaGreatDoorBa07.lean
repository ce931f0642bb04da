/-
  A circuit that came in: its gates and its outputs can be read. Conditions: none.
-/
import Derived.Test.YtjagjhchnpmngaaGreatDoorBa00
import Derived.Test.YtjagjhchnpmngaaGreatDoorBa01
import Derived.WalkKit
import Derived.ProofKit
import Derived.OpenShut
import Derived.ChangeOld
import Derived.OpenVars
import Derived.Deep.Slices
import Derived.Lib.SmallJoins
import Derived.Test.YtjagjhchnpmngaaGreatDoorBa03
namespace Go.Proofs.YtjagjhchnpmngaaGreatDoor
open Go.ChangeShapes Go.WideShapes Go.ChangeAt Go.RowKit Go.Deep Go.Joins
set_option linter.unusedVariables false
set_option maxRecDepth 100000

section
variable {H : Type} {enc : TypeId × Value → H} {W : World} {sp : Nat → Bool} {held : Bool}
theorem add_off (b off k : Nat) : (⟨b, off, none⟩ : Addr).add k = ⟨b, off + k, none⟩ := by
  unfold Addr.add
  split
  · rename_i h; subst h; rfl
  · rfl
theorem ints_in {fuel : Nat} {cs : List Value} {x : DataW H × List MemPlace} (h : DataW.trod enc Tryz.prog W 0 sp held fuel 28 cs = some x) : ∃ v zs, cs = [v] ∧ IntsV W v zs ∧ zs.length ≤ 9223372036854775807 := by
  rcases open_ints Tryz.underlying28 Tryz.underlying3 (by kernel_rfl) h with ⟨hcs, _⟩ | ⟨x, l, c, zs, hcs, _, hl, hm, hz, _, hcell, hwz⟩
  · exact ⟨_, [], hcs, IntsV.nil W, by decide⟩
  · unfold maxLen at hm
    have hlz : l ≤ zs.length := by rw [hz]; split <;> omega
    refine ⟨_, zs.take l, hcs, ?_, by rw [List.length_take]; omega⟩
    have hlen : (zs.take l).length = l := by rw [List.length_take]; omega
    refine ⟨some x, c, by rw [hlen], fun hne => ?_⟩
    have h0 : 0 < l := by
      rcases Nat.eq_zero_or_pos l with h | h
      · subst h; exact absurd rfl hne
      · exact h
    obtain ⟨b, off, spot⟩ := x
    have hspot : spot = none := by
      have := World.cell?_spot (hcell 0 (by omega))
      simpa [Addr.add] using this
    subst hspot
    refine ⟨⟨b, off, none⟩, rfl, rfl, ?_, fun i hi => ?_⟩
    · have h1 := hcell 0 (by omega)
      exact World.block_lt_of_cell? W _ h1
    · have h1 := hcell i (by omega)
      rw [add_off] at h1
      rw [h1, List.getElem_take, List.getD_eq_getElem?_getD, List.getElem?_eq_getElem (by omega)]
      rfl
end
end Go.Proofs.YtjagjhchnpmngaaGreatDoor

/-
  A graph that came in: its edges and its lists of wires can be read. Conditions: none.
-/
namespace Go.Proofs.YtjagjhchnpmngaaGreatDoor
open Go.ChangeShapes Go.WideShapes Go.ChangeAt Go.RowKit Go.Deep Go.Joins
set_option linter.unusedVariables false
set_option maxRecDepth 100000

section
variable {H : Type} {enc : TypeId × Value → H} {W : World} {sp : Nat → Bool} {held : Bool}
end
end Go.Proofs.YtjagjhchnpmngaaGreatDoor

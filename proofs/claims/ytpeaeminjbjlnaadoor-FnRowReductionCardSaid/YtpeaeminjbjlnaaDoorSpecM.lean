/-
  The specification's row functions. Conditions: the numbers are small.
-/
import Derived.Test.YtpeaeminjbjlnaaDoorSpecF
namespace Go.Proofs.YtpeaeminjbjlnaaDoor
open Go.RowKit
set_option linter.unusedVariables false

theorem l1All_any (lo hi : Int) (v : Value) (zs : List Int) (w : World) (hv : IntsV w v zs) (hl : zs.length ≤ 1000000) :
    Calls Tryd.prog 278 #[v, .int .i64 lo, .int .i64 hi] w fun e w' => e = .returned (.bool (zs.all fun n => decide (lo ≤ n ∧ n ≤ hi))) ∧ w = w' := by
  have HV := Lib.hid hv
  obtain ⟨a, c, rfl, hx⟩ := hv
  clear hx
  generalize hlen : zs.length = l at *
  have HL := Lib.hid hlen
  clear hlen
  generalize hbb : (zs.all fun n => decide (lo ≤ n ∧ n ≤ hi)) = bb
  have HBB := Lib.hid hbb
  clear hbb
  go_enter Tryd.func278, Tryd.ntmps278
  go_wp2
  go_loop [11] (fun i => ∃ k : Nat, k ≤ l ∧ i = .int .i64 k ∧ ∀ j (h : j < zs.length), j < k → decide (lo ≤ zs[j] ∧ zs[j] ≤ hi) = true) (fun i => l - (intOf i).toNat)
  case atStart => exact ⟨0, by omega, rfl, fun _ _ h => absurd h (by omega)⟩
  case round =>
    obtain ⟨k, hk, rfl, ho⟩ := hrel
    have HO := Lib.hid ho
    clear ho
    by_cases hlt : k < l
    · have hkl : k < zs.length := by rw [HL.out]; exact hlt
      obtain ⟨d, rfl, hs, hd, hc⟩ := HV.out.at hkl
      obtain ⟨db, dof, _⟩ := d
      simp only at hs hc
      subst hs
      generalize hz : zs[k] = z at *
      have HZ := Lib.hid hz
      clear hz hd
      have A := Lib.hid (l1In_any z lo hi w)
      cases he : decide (lo ≤ z ∧ z ≤ hi)
      · rw [he] at A
        have hfin : (zs.all fun n => decide (lo ≤ n ∧ n ≤ hi)) = false := by
          refine List.all_eq_false.2 ⟨zs[k], List.getElem_mem _, ?_⟩
          rw [HZ.out, he]
          simp
        have HF := Lib.hid hfin
        clear hfin he
        go_wp2_with (go_at_call 137; with_reducible refine A.out.mono ?_; rintro e w' ⟨rfl, rfl⟩)
        go_ret
        exact ⟨by rw [← HBB.out, HF.out]; rfl, rfl⟩
      · rw [he] at A
        have HE := Lib.hid he
        clear he
        go_wp2_with (go_at_call 137; with_reducible refine A.out.mono ?_; rintro e w' ⟨rfl, rfl⟩)
        go_round
        case rel => exact ⟨k + 1, by omega, by go_num, fun j h hj => by
          by_cases hjk : j = k
          · subst hjk; rw [HZ.out]; exact HE.out
          · exact HO.out j h (by omega)⟩
        case measure => simp [intOf]; omega
    · have hfin : (zs.all fun n => decide (lo ≤ n ∧ n ≤ hi)) = true := by
        refine List.all_eq_true.2 fun x hx => ?_
        obtain ⟨j, hj, rfl⟩ := List.getElem_of_mem hx
        exact HO.out j hj (by have := HL.out; omega)
      have HF := Lib.hid hfin
      clear hfin
      go_wp2
      go_ret
      exact ⟨by rw [← HBB.out, HF.out]; rfl, rfl⟩
theorem fdIn_any (p : Int) (v : Value) (zs : List Int) (w : World) (hv : IntsV w v zs) (hl : zs.length ≤ 1000000) (hp : -1000000 ≤ p) (hp2 : p ≤ 1000000) :
    Calls Tryd.prog 192 #[.int .i64 p, v] w fun e w' => e = .returned (.bool (zs.all (elB p))) ∧ w = w' := by
  have A := l1All_any 0 (p - 1) v zs w hv hl
  have e : (fun n : Int => decide (0 ≤ n ∧ n ≤ p - 1)) = elB p := by
    funext n
    unfold elB
    exact decide_eq_decide.2 (by omega)
  rw [e] at A
  have A := Lib.hid A
  obtain ⟨a, c, rfl, _⟩ := hv
  clear e
  go_enter Tryd.func192, Tryd.ntmps192
  go_wp2_with (go_at_call 278; with_reducible refine A.out.mono ?_; rintro e w' ⟨rfl, rfl⟩)
  go_ret
  exact ⟨rfl, rfl⟩

end Go.Proofs.YtpeaeminjbjlnaaDoor

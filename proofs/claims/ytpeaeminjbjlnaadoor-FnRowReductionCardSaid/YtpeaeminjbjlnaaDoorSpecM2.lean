/-
  The specification's matrix check. Conditions: the numbers are small.
-/
import Derived.Test.YtpeaeminjbjlnaaDoorSpecM
namespace Go.Proofs.YtpeaeminjbjlnaaDoor
open Go.RowKit
set_option linter.unusedVariables false

set_option maxRecDepth 100000 in
set_option maxHeartbeats 1000000 in
theorem mxGood_any (p cols : Int) (v : Value) (L : List (List Int)) (w : World) (hv : MatV w v L) (hl : L.length ≤ 1000000) (hll : ∀ row ∈ L, row.length ≤ 1000000) (hp0 : -1000 ≤ p) (hp1 : p ≤ 1000) :
    Calls Tryd.prog 121 #[.int .i64 p, mxV cols v] w fun e w' => e = .returned (.bool (matB p cols L)) ∧ w.grownBy w' none := by
  have HV := Lib.hid hv; have HLL := Lib.hid hll
  obtain ⟨a, c, rfl⟩ := hv.shape
  clear hv hll
  have HA := Lib.hid fun w => fdGood_any p w hp0 hp1
  have HI := Lib.hid fun w => l1In_any cols 0 24 w
  unfold mxV
  generalize hbb : matB p cols L = bb
  have HBB := Lib.hid hbb
  clear hbb
  generalize hlen : L.length = l at *
  have HL := Lib.hid hlen
  clear hlen
  have HG := Lib.hid fun o => grownBy_alloc w o none
  cases h1 : fldB p
  · rw [h1] at HA
    have hm : matB p cols L = false := by unfold matB; rw [h1]; rfl
    have HM := Lib.hid hm
    clear hm h1
    go_enter Tryd.func121, Tryd.ntmps121
    go_wp2_with (go_at_call 206; with_reducible refine (HA.out _).mono ?_; rintro e w' ⟨rfl, rfl⟩)
    go_ret
    exact ⟨by rw [← HBB.out, HM.out]; rfl, HG.out _⟩
  · rw [h1] at HA
    cases h2 : decide (0 ≤ cols ∧ cols ≤ 24)
    · rw [h2] at HI
      have hm : matB p cols L = false := by unfold matB; rw [h1, h2]; rfl
      have HM := Lib.hid hm
      clear hm h1 h2
      go_enter Tryd.func121, Tryd.ntmps121
      go_wp2_with (first
        | (go_at_call 206; with_reducible refine (HA.out _).mono ?_; rintro e w' ⟨rfl, rfl⟩)
        | (go_at_call 137; with_reducible refine (HI.out _).mono ?_; rintro e w' ⟨rfl, rfl⟩))
      go_ret
      exact ⟨by rw [← HBB.out, HM.out]; rfl, HG.out _⟩
    · rw [h2] at HI
      by_cases h3 : l ≤ 24
      · have hm : matB p cols L = rowsB p cols L := by unfold matB; rw [h1, h2, HL.out, decide_eq_true h3]; rfl
        have HM := Lib.hid hm
        clear hm h1 h2
        go_enter Tryd.func121, Tryd.ntmps121
        go_wp2_with (first
          | (go_at_call 206; with_reducible refine (HA.out _).mono ?_; rintro e w' ⟨rfl, rfl⟩)
          | (go_at_call 137; with_reducible refine (HI.out _).mono ?_; rintro e w' ⟨rfl, rfl⟩))
        have hgr := HG.out (.cells #[.int .i64 cols, .slice a l c] 39)
        have c0 : (w.alloc (.cells #[.int .i64 cols, .slice a l c] 39)).cell? ⟨w.heap.size, 0, none⟩ = some (.int .i64 cols) := box_cell _ _ _ _
        generalize w.alloc (.cells #[.int .i64 cols, .slice a l c] 39) = w1 at *
        have HGR := Lib.hid hgr
        have HV1 := Lib.hid (HV.out.carry hgr)
        clear hgr
        generalize w.heap.size = b at *
        go_loop [25] (fun i => ∃ k : Nat, k ≤ l ∧ i = .int .i64 k ∧ ∀ j (h : j < L.length), j < k → vecB p cols L[j] = true) (fun i => l - (intOf i).toNat)
        case atStart => exact ⟨0, by omega, rfl, fun _ _ h => absurd h (by omega)⟩
        case round =>
          obtain ⟨k, hk, rfl, ho⟩ := hrel
          have HO := Lib.hid ho
          clear ho
          by_cases hlt : k < l
          · have hkl : k < L.length := by rw [HL.out]; exact hlt
            obtain ⟨d, r, rc, rfl, hs, hd, hcell, hrow⟩ := HV1.out.row hkl
            have hlr := HLL.out L[k] (List.getElem_mem _)
            obtain ⟨db, dof, _⟩ := d
            simp only at hs hcell
            subst hs
            have hbad : vecB p cols L[k] = false → rowsB p cols L = false := by
              intro h
              unfold rowsB
              exact List.all_eq_false.2 ⟨L[k], List.getElem_mem _, by rw [h]; simp⟩
            have HBAD := Lib.hid hbad
            have HF := Lib.hid (fdIn_any p _ L[k] w1 hrow hlr (by omega) (by omega))
            have hvb : vecB p cols L[k] = (decide ((L[k].length : Int) = cols) && L[k].all (elB p)) := rfl
            have HVB := Lib.hid hvb
            clear hbad hvb hd hrow hlr
            generalize hrl : L[k].length = rl at *
            clear hrl
            by_cases hq : (rl : Int) = cols
            · have hb1 : ((rl : Int) != cols) = false := by rw [bne_eq_false_iff_eq]; exact hq
              cases he : L[k].all (elB p)
              · rw [he] at HF
                have hfin := HBAD.out (by rw [HVB.out, he, Bool.and_false])
                have HFIN := Lib.hid hfin
                clear hfin he
                go_wp2_with (go_at_call 192; with_reducible refine HF.out.mono ?_; rintro e w' ⟨rfl, rfl⟩)
                go_ret
                exact ⟨by rw [← HBB.out, HM.out, HFIN.out]; rfl, HGR.out⟩
              · rw [he] at HF
                have hv1 : vecB p cols L[k] = true := by rw [HVB.out, he, decide_eq_true hq]; rfl
                have HV2 := Lib.hid hv1
                clear hv1 he
                go_wp2_with (go_at_call 192; with_reducible refine HF.out.mono ?_; rintro e w' ⟨rfl, rfl⟩)
                go_round
                case rel => exact ⟨k + 1, by omega, by go_num, fun j h hj => by
                  by_cases hjk : j = k
                  · subst hjk; exact HV2.out
                  · exact HO.out j h (by omega)⟩
                case measure => simp [intOf]; omega
            · have hb1 : ((rl : Int) != cols) = true := by rw [bne_iff_ne]; exact hq
              have hfin := HBAD.out (by rw [HVB.out, decide_eq_false hq, Bool.false_and])
              have HFIN := Lib.hid hfin
              clear hfin hq
              go_wp2
              go_ret
              exact ⟨by rw [← HBB.out, HM.out, HFIN.out]; rfl, HGR.out⟩
          · have hfin : rowsB p cols L = true := by
              unfold rowsB
              refine List.all_eq_true.2 fun x hx => ?_
              obtain ⟨j, hj, rfl⟩ := List.getElem_of_mem hx
              exact HO.out j hj (by have := HL.out; omega)
            have HFIN := Lib.hid hfin
            clear hfin
            go_wp2
            go_ret
            exact ⟨by rw [← HBB.out, HM.out, HFIN.out]; rfl, HGR.out⟩
      · have hm : matB p cols L = false := by unfold matB; rw [h1, h2, HL.out, decide_eq_false h3]; rfl
        have HM := Lib.hid hm
        clear hm h1 h2
        have hgt : (24 : Int) < l := by omega
        go_enter Tryd.func121, Tryd.ntmps121
        go_wp2_with (first
          | (go_at_call 206; with_reducible refine (HA.out _).mono ?_; rintro e w' ⟨rfl, rfl⟩)
          | (go_at_call 137; with_reducible refine (HI.out _).mono ?_; rintro e w' ⟨rfl, rfl⟩))
        go_ret
        exact ⟨by rw [← HBB.out, HM.out]; rfl, HG.out _⟩

end Go.Proofs.YtpeaeminjbjlnaaDoor

/-
  What tells whether a matrix is one, for lists up to 1100000. Conditions: as each says.
-/
import Derived.Test.YtghfifpicklonaaDoorYu06
import Derived.Test.YtghfifpicklonaaDoorYu04
namespace Go.Proofs.YtghfifpicklonaaDoor
open Go.RowKit
set_option linter.unusedVariables false
set_option maxRecDepth 100000

theorem isVector_anyLB (p n : Int) (v : Value) (zs : List Int) (w : World) (hv : IntsV w v zs) (hl : zs.length ≤ 1100000) :
    Calls Tryd.prog 118 #[.int .i64 p, v, .int .i64 n] w fun e w' => e = .returned (.bool (vecB p n zs)) ∧ w = w' := by
  have HV := Lib.hid hv
  obtain ⟨a, cap, rfl, _⟩ := hv
  generalize hlen : zs.length = l at *
  have HL := Lib.hid hlen
  clear hlen
  by_cases hn : (l : Int) = n
  · subst hn
    go_enter Tryd.func118, Tryd.ntmps118
    go_wp2
    go_loop [15] (fun i => ∃ k : Nat, k ≤ l ∧ i = .int .i64 k ∧ ∀ j (h : j < zs.length), j < k → elB p zs[j] = true) (fun i => l - (intOf i).toNat)
    case atStart => exact ⟨0, by omega, rfl, fun _ _ h => absurd h (by omega)⟩
    case round =>
      obtain ⟨k, hk, rfl, ho⟩ := hrel
      have HO := Lib.hid ho
      clear ho
      by_cases hlt : k < l
      · have hkl : k < zs.length := by rw [HL.out]; exact hlt
        obtain ⟨d, rfl, hs, hd, hcell⟩ := HV.out.at hkl
        obtain ⟨db, dof, _⟩ := d
        simp only at hs hcell
        subst hs
        generalize hzk : zs[k] = z at hcell
        have HK := Lib.hid hzk
        clear hzk hd
        cases he : elB p z
        · have hfin : vecB p l zs = false := by
            unfold vecB
            rw [Bool.and_eq_false_iff]
            refine Or.inr (List.all_eq_false.2 ⟨zs[k], List.getElem_mem _, ?_⟩)
            rw [HK.out, he]
            simp
          have HF := Lib.hid hfin
          clear hfin
          go_wp2_with (go_at_call 145; refine (isElement_any _ _ _).mono ?_; rintro e w' ⟨rfl, rfl⟩)
          go_ret
          exact ⟨by rw [HF.out]; rfl, rfl⟩
        · have HE := Lib.hid he
          go_wp2_with (go_at_call 145; refine (isElement_any _ _ _).mono ?_; rintro e w' ⟨rfl, rfl⟩)
          go_round
          case rel => exact ⟨k + 1, by omega, by go_num, fun j h hj => by
            by_cases hjk : j = k
            · subst hjk; rw [HK.out]; exact HE.out
            · exact HO.out j h (by omega)⟩
          case measure => simp [intOf]; omega
      · have hfin : vecB p l zs = true := by
          unfold vecB
          rw [Bool.and_eq_true]
          refine ⟨decide_eq_true (by rw [HL.out]), List.all_eq_true.2 fun x hx => ?_⟩
          obtain ⟨j, hj, rfl⟩ := List.getElem_of_mem hx
          exact HO.out j hj (by have := HL.out; omega)
        have HF := Lib.hid hfin
        clear hfin
        go_wp2
        go_ret
        exact ⟨by rw [HF.out]; rfl, rfl⟩
  · have hb : ((l : Int) != n) = true := by rw [bne_iff_ne]; exact hn
    have hfin : vecB p n zs = false := by
      unfold vecB
      rw [Bool.and_eq_false_iff]
      exact Or.inl (decide_eq_false (by rw [HL.out]; exact hn))
    have HF := Lib.hid hfin
    clear hfin hn
    go_enter Tryd.func118, Tryd.ntmps118
    go_wp2
    go_ret
    exact ⟨by rw [HF.out]; rfl, rfl⟩
theorem areVectors_anyLB (p n : Int) (v : Value) (rows : List (List Int)) (w : World) (hv : MatV w v rows) (hl : rows.length ≤ 1100000) (hll : ∀ row ∈ rows, row.length ≤ 1100000) :
    Calls Tryd.prog 76 #[.int .i64 p, v, .int .i64 n] w fun e w' => e = .returned (.bool (rowsB p n rows)) ∧ w = w' := by
  have HV := Lib.hid hv
  have HLL := Lib.hid hll
  obtain ⟨a, cap, rfl, hx⟩ := hv
  clear hx
  generalize hlen : rows.length = l at *
  have HL := Lib.hid hlen
  clear hlen hll
  go_enter Tryd.func76, Tryd.ntmps76
  go_wp2
  go_loop [11] (fun i => ∃ k : Nat, k ≤ l ∧ i = .int .i64 k ∧ ∀ j (h : j < rows.length), j < k → vecB p n rows[j] = true) (fun i => l - (intOf i).toNat)
  case atStart => exact ⟨0, by omega, rfl, fun _ _ h => absurd h (by omega)⟩
  case round =>
    obtain ⟨k, hk, rfl, ho⟩ := hrel
    have HO := Lib.hid ho
    clear ho
    by_cases hlt : k < l
    · have hkl : k < rows.length := by rw [HL.out]; exact hlt
      obtain ⟨d, r, c, rfl, hs, hd, hcell, hrow⟩ := HV.out.row hkl
      have hlr := HLL.out rows[k] (List.getElem_mem _)
      obtain ⟨db, dof, _⟩ := d
      simp only at hs hcell
      subst hs
      generalize hzk : rows[k] = z at *
      have HK := Lib.hid hzk
      have HR := Lib.hid (isVector_anyLB p n _ z w hrow hlr)
      clear hzk hd hrow hlr
      generalize z.length = zl at *
      cases he : vecB p n z
      · have hfin : rowsB p n rows = false := by
          unfold rowsB
          refine List.all_eq_false.2 ⟨rows[k], List.getElem_mem _, ?_⟩
          rw [HK.out, he]
          simp
        have HF := Lib.hid hfin
        rw [he] at HR
        clear hfin he
        go_wp2_with (go_at_call 118; refine HR.out.mono ?_; rintro e w' ⟨rfl, rfl⟩)
        go_ret
        exact ⟨by rw [HF.out]; rfl, rfl⟩
      · have HE := Lib.hid he
        rw [he] at HR
        clear he
        go_wp2_with (go_at_call 118; refine HR.out.mono ?_; rintro e w' ⟨rfl, rfl⟩)
        go_round
        case rel => exact ⟨k + 1, by omega, by go_num, fun j h hj => by
          by_cases hjk : j = k
          · subst hjk; rw [HK.out]; exact HE.out
          · exact HO.out j h (by omega)⟩
        case measure => simp [intOf]; omega
    · have hfin : rowsB p n rows = true := by
        unfold rowsB
        refine List.all_eq_true.2 fun x hx => ?_
        obtain ⟨j, hj, rfl⟩ := List.getElem_of_mem hx
        exact HO.out j hj (by have := HL.out; omega)
      have HF := Lib.hid hfin
      clear hfin
      go_wp2
      go_ret
      exact ⟨by rw [HF.out]; rfl, rfl⟩
set_option maxHeartbeats 1000000 in
theorem isMatrix_anyB (p cols : Int) (v : Value) (L : List (List Int)) (w : World) (ht : Tab w) (hv : MatV w v L) (hl : L.length ≤ 1100000) (hll : ∀ row ∈ L, row.length ≤ 1100000) :
    Calls Tryd.prog 90 #[.int .i64 p, mxV cols v] w fun e w' => e = .returned (.bool (matB p cols L)) ∧ w.grownBy w' none := by
  unfold mxV
  have hgr := fun v => grownBy_alloc w (.cells #[.int .i64 cols, v] 44) none
  have HT := Lib.hid (fun v => isField_any p _ (ht.alloc (.cells #[.int .i64 cols, v] 44)))
  have HA := Lib.hid (areVectors_anyLB p cols v L _ (hv.carry (hgr v)) hl hll)
  have HG := Lib.hid hgr
  obtain ⟨a, c, rfl⟩ := hv.shape
  clear hv hgr ht hll
  generalize hlen : L.length = l at *
  have HL := Lib.hid hlen
  clear hlen
  cases h1 : fldB p
  · have hm : matB p cols L = false := by unfold matB; rw [h1]; rfl
    have HM := Lib.hid hm
    rw [h1] at HT
    clear hm h1
    go_enter Tryd.func90, Tryd.ntmps90
    go_wp2_with (go_at_call 73; refine (HT.out _).mono ?_; rintro e w' ⟨rfl, rfl⟩)
    go_ret
    exact ⟨by rw [HM.out]; rfl, HG.out _⟩
  · by_cases h2 : 0 ≤ cols ∧ cols ≤ 24
    · have h2' : decide (0 ≤ cols ∧ cols ≤ 24) = true := decide_eq_true h2
      by_cases h3 : l ≤ 24
      · have h3' : decide ((l : Int) ≤ 24) = true := decide_eq_true (by omega)
        have hm : matB p cols L = rowsB p cols L := by unfold matB; rw [h1, decide_eq_true h2, HL.out, decide_eq_true h3]; rfl
        have HM := Lib.hid hm
        rw [h1] at HT
        clear hm h1
        generalize rowsB p cols L = b at *
        go_enter Tryd.func90, Tryd.ntmps90
        go_wp2_with (first
          | (go_at_call 73; refine (HT.out _).mono ?_; rintro e w' ⟨rfl, rfl⟩)
          | (go_at_call 74; refine (within_any _ _ _ _).mono ?_; rintro e w' ⟨rfl, rfl⟩)
          | (go_at_call 76; refine HA.out.mono ?_; rintro e w' ⟨rfl, rfl⟩))
        go_ret
        exact ⟨by rw [HM.out]; rfl, HG.out _⟩
      · have h3' : decide ((l : Int) ≤ 24) = false := decide_eq_false (by omega)
        have hm : matB p cols L = false := by unfold matB; rw [h1, decide_eq_true h2, HL.out, decide_eq_false h3]; rfl
        have HM := Lib.hid hm
        rw [h1] at HT
        clear hm h1
        go_enter Tryd.func90, Tryd.ntmps90
        go_wp2_with (first
          | (go_at_call 73; refine (HT.out _).mono ?_; rintro e w' ⟨rfl, rfl⟩)
          | (go_at_call 74; refine (within_any _ _ _ _).mono ?_; rintro e w' ⟨rfl, rfl⟩))
        go_ret
        exact ⟨by rw [HM.out]; rfl, HG.out _⟩
    · have h2' : decide (0 ≤ cols ∧ cols ≤ 24) = false := decide_eq_false h2
      have hm : matB p cols L = false := by unfold matB; rw [h1, decide_eq_false h2]; rfl
      have HM := Lib.hid hm
      rw [h1] at HT
      clear hm h1
      go_enter Tryd.func90, Tryd.ntmps90
      go_wp2_with (first
        | (go_at_call 73; refine (HT.out _).mono ?_; rintro e w' ⟨rfl, rfl⟩)
        | (go_at_call 74; refine (within_any _ _ _ _).mono ?_; rintro e w' ⟨rfl, rfl⟩))
      go_ret
      exact ⟨by rw [HM.out]; rfl, HG.out _⟩
theorem isSquare_anyB (cols : Int) (v : Value) (L : List (List Int)) (w : World) (hv : MatV w v L) (hl : L.length ≤ 1100000) :
    Calls Tryd.prog 91 #[mxV cols v] w fun e w' => e = .returned (.bool (decide ((L.length : Int) = cols))) ∧ w.grownBy w' none := by
  unfold mxV
  obtain ⟨a, c, rfl⟩ := hv.shape
  clear hv
  by_cases h : (L.length : Int) = cols
  · have hd : decide ((L.length : Int) = cols) = true := decide_eq_true h
    have hb : ((L.length : Int) == cols) = true := by rw [beq_iff_eq]; exact h
    have HD := Lib.hid hd
    clear hd h
    generalize L.length = l at *
    go_enter Tryd.func91, Tryd.ntmps91
    go_wp2
    go_ret
    exact ⟨by rw [HD.out]; rfl, grownBy_alloc _ _ _⟩
  · have hd : decide ((L.length : Int) = cols) = false := decide_eq_false h
    have hb : ((L.length : Int) == cols) = false := by rw [beq_eq_false_iff_ne]; exact h
    have HD := Lib.hid hd
    clear hd h
    generalize L.length = l at *
    go_enter Tryd.func91, Tryd.ntmps91
    go_wp2
    go_ret
    exact ⟨by rw [HD.out]; rfl, grownBy_alloc _ _ _⟩
theorem l1All_anyB (lo hi : Int) (v : Value) (zs : List Int) (w : World) (hv : IntsV w v zs) (hl : zs.length ≤ 1100000) :
    Calls Tryd.prog 99 #[v, .int .i64 lo, .int .i64 hi] w fun e w' => e = .returned (.bool (zs.all fun n => decide (lo ≤ n ∧ n ≤ hi))) ∧ w = w' := by
  have HV := Lib.hid hv
  obtain ⟨a, c, rfl, hx⟩ := hv
  clear hx
  generalize hlen : zs.length = l at *
  have HL := Lib.hid hlen
  clear hlen
  generalize hbb : (zs.all fun n => decide (lo ≤ n ∧ n ≤ hi)) = bb
  have HBB := Lib.hid hbb
  clear hbb
  go_enter Tryd.func99, Tryd.ntmps99
  go_wp2
  go_loop [11] (fun i => ∃ k : Nat, k ≤ l ∧ i = .int .i64 k ∧ ∀ j (h : j < zs.length), j < k → decide (lo ≤ zs[j] ∧ zs[j] ≤ hi) = true) (fun i => l - (intOf i).toNat)
  case atStart => exact ⟨0, by omega, rfl, fun _ _ h => absurd h (by omega)⟩
  case round =>
    obtain ⟨k, hk, rfl, ho⟩ := hrel
    have HO := Lib.hid ho
    clear ho
    by_cases hlt : k < l
    · have hkl : k < zs.length := by rw [HL.out]; exact hlt
      obtain ⟨d, rfl, hs, hd, hc⟩ := HV.out.at hkl
      obtain ⟨db, dof, _⟩ := d
      simp only at hs hc
      subst hs
      generalize hz : zs[k] = z at *
      have HZ := Lib.hid hz
      clear hz hd
      have A := Lib.hid (l1In_any z lo hi w)
      cases he : decide (lo ≤ z ∧ z ≤ hi)
      · rw [he] at A
        have hfin : (zs.all fun n => decide (lo ≤ n ∧ n ≤ hi)) = false := by
          refine List.all_eq_false.2 ⟨zs[k], List.getElem_mem _, ?_⟩
          rw [HZ.out, he]
          simp
        have HF := Lib.hid hfin
        clear hfin he
        go_wp2_with (go_at_call 68; with_reducible refine A.out.mono ?_; rintro e w' ⟨rfl, rfl⟩)
        go_ret
        exact ⟨by rw [← HBB.out, HF.out]; rfl, rfl⟩
      · rw [he] at A
        have HE := Lib.hid he
        clear he
        go_wp2_with (go_at_call 68; with_reducible refine A.out.mono ?_; rintro e w' ⟨rfl, rfl⟩)
        go_round
        case rel => exact ⟨k + 1, by omega, by go_num, fun j h hj => by
          by_cases hjk : j = k
          · subst hjk; rw [HZ.out]; exact HE.out
          · exact HO.out j h (by omega)⟩
        case measure => simp [intOf]; omega
    · have hfin : (zs.all fun n => decide (lo ≤ n ∧ n ≤ hi)) = true := by
        refine List.all_eq_true.2 fun x hx => ?_
        obtain ⟨j, hj, rfl⟩ := List.getElem_of_mem hx
        exact HO.out j hj (by have := HL.out; omega)
      have HF := Lib.hid hfin
      clear hfin
      go_wp2
      go_ret
      exact ⟨by rw [← HBB.out, HF.out]; rfl, rfl⟩
theorem fdIn_anyLB (p : Int) (v : Value) (zs : List Int) (w : World) (hv : IntsV w v zs) (hl : zs.length ≤ 1100000) (hp : -1000000 ≤ p) (hp2 : p ≤ 1100000) :
    Calls Tryd.prog 83 #[.int .i64 p, v] w fun e w' => e = .returned (.bool (zs.all (elB p))) ∧ w = w' := by
  have A := l1All_anyB 0 (p - 1) v zs w hv hl
  have e : (fun n : Int => decide (0 ≤ n ∧ n ≤ p - 1)) = elB p := by
    funext n
    unfold elB
    exact decide_eq_decide.2 (by omega)
  rw [e] at A
  have A := Lib.hid A
  obtain ⟨a, c, rfl, _⟩ := hv
  clear e
  go_enter Tryd.func83, Tryd.ntmps83
  go_wp2_with (go_at_call 99; with_reducible refine A.out.mono ?_; rintro e w' ⟨rfl, rfl⟩)
  go_ret
  exact ⟨rfl, rfl⟩
set_option maxRecDepth 100000 in
set_option maxHeartbeats 1000000 in
theorem mxGood_anyB (p cols : Int) (v : Value) (L : List (List Int)) (w : World) (hv : MatV w v L) (hl : L.length ≤ 1100000) (hll : ∀ row ∈ L, row.length ≤ 1100000) (hp0 : -1000 ≤ p) (hp1 : p ≤ 1000) :
    Calls Tryd.prog 44 #[.int .i64 p, mxV cols v] w fun e w' => e = .returned (.bool (matB p cols L)) ∧ w.grownBy w' none := by
  have HV := Lib.hid hv; have HLL := Lib.hid hll
  obtain ⟨a, c, rfl⟩ := hv.shape
  clear hv hll
  have HA := Lib.hid fun w => fdGood_anyL p w hp0 hp1
  have HI := Lib.hid fun w => l1In_any cols 0 24 w
  unfold mxV
  generalize hbb : matB p cols L = bb
  have HBB := Lib.hid hbb
  clear hbb
  generalize hlen : L.length = l at *
  have HL := Lib.hid hlen
  clear hlen
  have HG := Lib.hid fun o => grownBy_alloc w o none
  cases h1 : fldB p
  · rw [h1] at HA
    have hm : matB p cols L = false := by unfold matB; rw [h1]; rfl
    have HM := Lib.hid hm
    clear hm h1
    go_enter Tryd.func44, Tryd.ntmps44
    go_wp2_with (go_at_call 67; with_reducible refine (HA.out _).mono ?_; rintro e w' ⟨rfl, rfl⟩)
    go_ret
    exact ⟨by rw [← HBB.out, HM.out]; rfl, HG.out _⟩
  · rw [h1] at HA
    cases h2 : decide (0 ≤ cols ∧ cols ≤ 24)
    · rw [h2] at HI
      have hm : matB p cols L = false := by unfold matB; rw [h1, h2]; rfl
      have HM := Lib.hid hm
      clear hm h1 h2
      go_enter Tryd.func44, Tryd.ntmps44
      go_wp2_with (first
        | (go_at_call 67; with_reducible refine (HA.out _).mono ?_; rintro e w' ⟨rfl, rfl⟩)
        | (go_at_call 68; with_reducible refine (HI.out _).mono ?_; rintro e w' ⟨rfl, rfl⟩))
      go_ret
      exact ⟨by rw [← HBB.out, HM.out]; rfl, HG.out _⟩
    · rw [h2] at HI
      by_cases h3 : l ≤ 24
      · have hm : matB p cols L = rowsB p cols L := by unfold matB; rw [h1, h2, HL.out, decide_eq_true h3]; rfl
        have HM := Lib.hid hm
        clear hm h1 h2
        go_enter Tryd.func44, Tryd.ntmps44
        go_wp2_with (first
          | (go_at_call 67; with_reducible refine (HA.out _).mono ?_; rintro e w' ⟨rfl, rfl⟩)
          | (go_at_call 68; with_reducible refine (HI.out _).mono ?_; rintro e w' ⟨rfl, rfl⟩))
        have hgr := HG.out (.cells #[.int .i64 cols, .slice a l c] 44)
        have c0 : (w.alloc (.cells #[.int .i64 cols, .slice a l c] 44)).cell? ⟨w.heap.size, 0, none⟩ = some (.int .i64 cols) := box_cell _ _ _ _
        generalize w.alloc (.cells #[.int .i64 cols, .slice a l c] 44) = w1 at *
        have HGR := Lib.hid hgr
        have HV1 := Lib.hid (HV.out.carry hgr)
        clear hgr
        generalize w.heap.size = b at *
        go_loop [25] (fun i => ∃ k : Nat, k ≤ l ∧ i = .int .i64 k ∧ ∀ j (h : j < L.length), j < k → vecB p cols L[j] = true) (fun i => l - (intOf i).toNat)
        case atStart => exact ⟨0, by omega, rfl, fun _ _ h => absurd h (by omega)⟩
        case round =>
          obtain ⟨k, hk, rfl, ho⟩ := hrel
          have HO := Lib.hid ho
          clear ho
          by_cases hlt : k < l
          · have hkl : k < L.length := by rw [HL.out]; exact hlt
            obtain ⟨d, r, rc, rfl, hs, hd, hcell, hrow⟩ := HV1.out.row hkl
            have hlr := HLL.out L[k] (List.getElem_mem _)
            obtain ⟨db, dof, _⟩ := d
            simp only at hs hcell
            subst hs
            have hbad : vecB p cols L[k] = false → rowsB p cols L = false := by
              intro h
              unfold rowsB
              exact List.all_eq_false.2 ⟨L[k], List.getElem_mem _, by rw [h]; simp⟩
            have HBAD := Lib.hid hbad
            have HF := Lib.hid (fdIn_anyLB p _ L[k] w1 hrow hlr (by omega) (by omega))
            have hvb : vecB p cols L[k] = (decide ((L[k].length : Int) = cols) && L[k].all (elB p)) := rfl
            have HVB := Lib.hid hvb
            clear hbad hvb hd hrow hlr
            generalize hrl : L[k].length = rl at *
            clear hrl
            by_cases hq : (rl : Int) = cols
            · have hb1 : ((rl : Int) != cols) = false := by rw [bne_eq_false_iff_eq]; exact hq
              cases he : L[k].all (elB p)
              · rw [he] at HF
                have hfin := HBAD.out (by rw [HVB.out, he, Bool.and_false])
                have HFIN := Lib.hid hfin
                clear hfin he
                go_wp2_with (go_at_call 83; with_reducible refine HF.out.mono ?_; rintro e w' ⟨rfl, rfl⟩)
                go_ret
                exact ⟨by rw [← HBB.out, HM.out, HFIN.out]; rfl, HGR.out⟩
              · rw [he] at HF
                have hv1 : vecB p cols L[k] = true := by rw [HVB.out, he, decide_eq_true hq]; rfl
                have HV2 := Lib.hid hv1
                clear hv1 he
                go_wp2_with (go_at_call 83; with_reducible refine HF.out.mono ?_; rintro e w' ⟨rfl, rfl⟩)
                go_round
                case rel => exact ⟨k + 1, by omega, by go_num, fun j h hj => by
                  by_cases hjk : j = k
                  · subst hjk; exact HV2.out
                  · exact HO.out j h (by omega)⟩
                case measure => simp [intOf]; omega
            · have hb1 : ((rl : Int) != cols) = true := by rw [bne_iff_ne]; exact hq
              have hfin := HBAD.out (by rw [HVB.out, decide_eq_false hq, Bool.false_and])
              have HFIN := Lib.hid hfin
              clear hfin hq
              go_wp2
              go_ret
              exact ⟨by rw [← HBB.out, HM.out, HFIN.out]; rfl, HGR.out⟩
          · have hfin : rowsB p cols L = true := by
              unfold rowsB
              refine List.all_eq_true.2 fun x hx => ?_
              obtain ⟨j, hj, rfl⟩ := List.getElem_of_mem hx
              exact HO.out j hj (by have := HL.out; omega)
            have HFIN := Lib.hid hfin
            clear hfin
            go_wp2
            go_ret
            exact ⟨by rw [← HBB.out, HM.out, HFIN.out]; rfl, HGR.out⟩
      · have hm : matB p cols L = false := by unfold matB; rw [h1, h2, HL.out, decide_eq_false h3]; rfl
        have HM := Lib.hid hm
        clear hm h1 h2
        have hgt : (24 : Int) < l := by omega
        go_enter Tryd.func44, Tryd.ntmps44
        go_wp2_with (first
          | (go_at_call 67; with_reducible refine (HA.out _).mono ?_; rintro e w' ⟨rfl, rfl⟩)
          | (go_at_call 68; with_reducible refine (HI.out _).mono ?_; rintro e w' ⟨rfl, rfl⟩))
        go_ret
        exact ⟨by rw [← HBB.out, HM.out]; rfl, HG.out _⟩
set_option maxHeartbeats 1000000 in
theorem inverseOf_noB (p cols : Int) (u : Value) (L : List (List Int)) (w : World) (ht : Tab w) (hv : MatV w u L) (hl : L.length ≤ 1100000) (hll : ∀ row ∈ L, row.length ≤ 1100000) (hb : (matB p cols L && decide ((L.length : Int) = cols)) = false) :
    Calls Tryd.prog 47 #[.int .i64 p, mxV cols u] w fun e w' => e = .returned (.tuple #[mxV 0 nilS, .bool false]) ∧ w.grownBy w' none := by
  have HIS := Lib.hid fun w1 (hg : w.grownBy w1 none) => isMatrix_anyB p cols u L w1 (ht.grown hg) (hv.carry hg) hl hll
  have HSQ := Lib.hid fun w1 (hg : w.grownBy w1 none) => isSquare_anyB cols u L w1 (hv.carry hg) hl
  obtain ⟨ua, uc, rfl⟩ := hv.shape
  generalize L.length = n at *
  have hs0 := ((Sep.start w).boxAt w.heap.size rfl #[.int .i64 cols, .slice ua n uc] 44).boxAt (w.heap.size + 1) (by simp) #[.int .i64 0, .slice none 0 0] 44
  have HS0 := Lib.hid hs0
  have HK0 := Lib.hid (show w.grownBy _ none from hs0.tl.tl.hd)
  unfold mxV nilS at *
  clear hv ht hll hs0
  cases hm : matB p cols L
  · rw [hm] at HIS
    clear hm hb
    go_enter Tryd.func47, Tryd.ntmps47
    go_wp2_with (
      go_at_call 90
      with_reducible refine (HIS.out _ HK0.out).mono ?_
      rintro e w1 ⟨rfl, hg⟩
      have hs1 := HS0.out.grown hg
      obtain ⟨_, _, r0, r1⟩ := bb2 hs1.hd
      have hs2 := (hs1.setB 0 (.int .i64 0)).setB 1 (.slice none 0 0)
      obtain ⟨t0, t1, _⟩ := bb2 hs2.hd
      have HKF := Lib.hid (show w.grownBy _ none from hs2.tl.tl.hd)
      clear hg hs1 hs2)
    refine bodyPost_ret_by (v := .tuple #[.agg #[.int .i64 0, .slice none 0 0], .bool false]) ?_ rfl ⟨rfl, HKF.out⟩
    simp [results, go_sem, *]
  · rw [hm] at HIS hb
    have hq : decide ((n : Int) = cols) = false := by simpa using hb
    rw [hq] at HSQ
    clear hm hb hq
    go_enter Tryd.func47, Tryd.ntmps47
    go_wp2_with (first
      | (go_at_call 90
         with_reducible refine (HIS.out _ HK0.out).mono ?_
         rintro e w1 ⟨rfl, hg⟩
         have hs1 := HS0.out.grown hg
         obtain ⟨x0, x1, _⟩ := bb2 hs1.tl.hd
         have HS1 := Lib.hid hs1
         have HK1 := Lib.hid (show w.grownBy w1 none from hs1.tl.tl.hd)
         clear hg hs1)
      | (go_at_call 91
         with_reducible refine (HSQ.out _ HK1.out).mono ?_
         rintro e w2 ⟨rfl, hg⟩
         have hs1 := HS1.out.grown hg
         obtain ⟨_, _, r0, r1⟩ := bb2 hs1.hd
         have hs2 := (hs1.setB 0 (.int .i64 0)).setB 1 (.slice none 0 0)
         obtain ⟨t0, t1, _⟩ := bb2 hs2.hd
         have HKF := Lib.hid (show w.grownBy _ none from hs2.tl.tl.hd)
         clear hg hs1 hs2 x0 x1))
    refine bodyPost_ret_by (v := .tuple #[.agg #[.int .i64 0, .slice none 0 0], .bool false]) ?_ rfl ⟨rfl, HKF.out⟩
    simp [results, go_sem, *]
end Go.Proofs.YtghfifpicklonaaDoor

/-
  TransformSpace of the program. Conditions: the lists' lengths are small; the table of small primes holds what its text lays.
-/
namespace Go.Proofs.YtghfifpicklonaaDoor
open Go.RowKit
set_option linter.unusedVariables false
set_option maxRecDepth 100000

def invOk (p cols : Int) (M : List (List Int)) : Bool := matB p cols M && decide ((M.length : Int) = cols) && invB p M
def trOk (p : Int) (s : StSp) (cols : Int) (M : List (List Int)) : Bool := ssB p s && invOk p cols M && decide ((M.length : Int) = s.S)
def ss0 : StSp := ⟨0, 0, 0, [], [], [], []⟩
def trRes (p : Int) (s : StSp) (cols : Int) (M : List (List Int)) : StSp := if trOk p s cols M = true then movedS p s.S.toNat s.O.toNat s M (invR p M) else ss0
/-- What hands back a state space of its own and whether it is one. -/
def GivesB (s : StSp) (b : Bool) (w : World) (e : Ending) (w' : World) : Prop :=
  ∃ (sa sb sc sd : Option Addr) (ta tb tc td : Nat) (xa xb xc xd : List XR), e = .returned (.tuple #[.agg #[.int .i64 s.S, .int .i64 s.I, .int .i64 s.O, .slice sa s.A.length ta, .slice sb s.B.length tb, .slice sc s.C.length tc, .slice sd s.D.length td], .bool b]) ∧ rws xa = s.A ∧ rws xb = s.B ∧ rws xc = s.C ∧ rws xd = s.D ∧ Sep w' [OX4 (.slice sa s.A.length ta) xa (.slice sb s.B.length tb) xb (.slice sc s.C.length tc) xc (.slice sd s.D.length td) xd, KeepA w]
theorem Sep.emptyS {w : World} {l : List Asrt} (h : Sep w l) : Sep w (OS nilS [] :: l) := Sep.bag (l := [OR rowE nilS []]) (Sep.nilR rowE h)
theorem GivesB.zero {w w' : World} (h : w.grownBy w' none) : GivesB ss0 false w (.returned (.tuple #[.agg #[.int .i64 0, .int .i64 0, .int .i64 0, .slice none 0 0, .slice none 0 0, .slice none 0 0, .slice none 0 0], .bool false])) w' := by
  refine ⟨none, none, none, none, 0, 0, 0, 0, [], [], [], [], rfl, rfl, rfl, rfl, rfl, ?_⟩
  exact Sep.bag (l := [OS nilS [], OS nilS [], OS nilS [], OS nilS []]) ((Sep.start w).grown h).emptyS.emptyS.emptyS.emptyS
theorem inverseM_any (p cols : Int) (u : Value) (M : List (List Int)) (w : World) (ht : Tab w) (hv : MatV w u M) (hl : M.length ≤ 1100000) (hll : ∀ row ∈ M, row.length ≤ 1100000) :
    Calls Tryd.prog 47 #[.int .i64 p, mxV cols u] w fun e w' => (if invOk p cols M = true then ∃ o, e = .returned (.tuple #[mxV cols o, .bool true]) ∧ MatV w' o (invR p M) else e = .returned (.tuple #[mxV 0 nilS, .bool false])) ∧ w.grownBy w' none := by
  cases hq : matB p cols M && decide ((M.length : Int) = cols)
  · have h0 : invOk p cols M = false := by unfold invOk; rw [hq]; rfl
    rw [h0]
    exact inverseOf_noB p cols u M w ht hv hl hll hq
  · have h0 : invOk p cols M = invB p M := by unfold invOk; rw [hq]; rfl
    obtain ⟨hm, hc⟩ := Bool.and_eq_true_iff.1 hq
    have hc := of_decide_eq_true hc
    have hf : fldB p = true := by unfold matB at hm; exact (Bool.and_eq_true_iff.1 hm).1
    have hp := fldB_bd hf
    obtain ⟨q, rfl⟩ : ∃ q : Nat, p = q := ⟨p.toNat, by omega⟩
    haveI : NeZero q := ⟨by omega⟩
    subst hc
    obtain ⟨hfld, _, n, hn, _, _, hM⟩ := matB_parts hm
    have hn : M.length = n := by omega
    have hrm := (ge hfld hM hn).rm
    rw [h0]
    rw [hn] at hm ⊢
    rcases Nat.lt_or_ge (redTo q M (idL n) n).r n with hr | hr
    · rw [inv_no hfld hM hn hr]
      exact inverseOf_low q n u M w ht hv hm hn hr
    · have hr : (redTo q M (idL n) n).r = n := by omega
      obtain ⟨h1, h2⟩ := inv_yes hfld hM hn hr
      rw [h1, h2]
      refine (inverseOf_yes q n u M w ht hv hm hn hr).mono ?_
      rintro e w' ⟨o, h3, h4, h5⟩
      exact ⟨⟨o, h3, h4⟩, h5⟩
set_option maxHeartbeats 8000000 in
theorem iTrans_no (p cols : Int) (s : StSp) (av bv cv dv u : Value) (M : List (List Int)) (w : World) (ht : Tab w) (h : RdSs w s av bv cv dv) (hs : SmS s) (hv : MatV w u M) (hl : M.length ≤ 1100000) (hll : ∀ row ∈ M, row.length ≤ 1100000) (hb : trOk p s cols M = false) :
    Calls Tryd.prog 18 #[.int .i64 p, .agg #[.int .i64 s.S, .int .i64 s.I, .int .i64 s.O, av, bv, cv, dv], mxV cols u] w (GivesB ss0 false w) := by
  have HT := Lib.hid ht
  have HIS := Lib.hid fun W (hw : w.grownBy W none) => isSS_any p s av bv cv dv W (ht.grown hw) (h.carry hw) hs
  have HIN := Lib.hid fun W (hw : w.grownBy W none) => inverseM_any p cols u M W (ht.grown hw) (hv.carry hw) hl hll
  unfold trOk at hb
  generalize invR p M = K at *
  generalize invOk p cols M = bi at *
  generalize ssB p s = bs at *
  obtain ⟨sa, ta, rfl⟩ := h.a.shape
  obtain ⟨sb, tb, rfl⟩ := h.b.shape
  obtain ⟨sc, tc, rfl⟩ := h.c.shape
  obtain ⟨sd, td, rfl⟩ := h.d.shape
  obtain ⟨ua, uc, rfl⟩ := hv.shape
  clear h hs hv ht hll
  obtain ⟨sS, sI, sO, sA, sB, sC, sD⟩ := s
  simp only at *
  generalize sA.length = nA at *
  generalize sB.length = nB at *
  generalize sC.length = nC at *
  generalize sD.length = nD at *
  generalize M.length = m at *
  unfold mxV at *
  have hs0 := (((Sep.start w).boxAt w.heap.size rfl #[.int .i64 sS, .int .i64 sI, .int .i64 sO, .slice sa nA ta, .slice sb nB tb, .slice sc nC tc, .slice sd nD td] 32).boxAt (w.heap.size + 1) (by simp) #[.int .i64 cols, .slice ua m uc] 44).boxAt (w.heap.size + 1 + 1) (by simp) #[.int .i64 0, .int .i64 0, .int .i64 0, .slice none 0 0, .slice none 0 0, .slice none 0 0, .slice none 0 0] 32
  have HS0 := Lib.hid hs0
  have HK0 := Lib.hid (show w.grownBy _ none from hs0.tl.tl.tl.hd)
  clear hs0
  cases bs
  · cases bi
    · clear hb
      clear HT
      go_enter Tryd.func18, Tryd.ntmps18
      go_wp2_with (first
        | (go_at_call 47
           with_reducible refine (HIN.out _ HK0.out).mono ?_
           rintro e w1 ⟨hr, hg⟩
           simp only [Bool.false_eq_true, if_false] at hr
           subst hr
           unfold nilS
           have hs1 := (HS0.out.grown hg).boxAt w1.heap.size rfl #[.int .i64 0, .slice none 0 0] 44
           obtain ⟨x0, x1, x2, x3, x4, x5, x6⟩ := bq7 hs1.tl.tl.tl.hd
           obtain ⟨m0, m1, _⟩ := bb2 hs1.tl.tl.hd
           obtain ⟨i0, i1, _⟩ := bb2 hs1.hd
           have HS1 := Lib.hid hs1
           have HK1 := Lib.hid (show w.grownBy _ none from hs1.tl.tl.tl.tl.hd)
           clear hs1 hg)
        | (go_at_call 33
           with_reducible refine (HIS.out _ HK1.out).mono ?_
           rintro e w2 ⟨rfl, hg⟩
           have hs2 := HS1.out.grown hg
           clear x0 x1 x2 x3 x4 x5 x6 m0 m1 i0 i1
           obtain ⟨x0, x1, x2, x3, x4, x5, x6⟩ := bq7 hs2.tl.tl.tl.hd
           obtain ⟨m0, m1, _⟩ := bb2 hs2.tl.tl.hd
           have hs3 := Sep.blk (A := [_]) (B := [_]) hs2
           obtain ⟨r0, r1, r2, r3, r4, r5, r6⟩ := bq7 hs3.hd
           obtain ⟨y0, y1, y2, y3, y4, y5, y6⟩ := bf7 hs3.hd
           have hs4 := (((((((hs3.setB 0 (.int .i64 0)).setB 1 (.int .i64 0)).setB 2 (.int .i64 0)).setB 3 (.slice none 0 0)).setB 4 (.slice none 0 0)).setB 5 (.slice none 0 0)).setB 6 (.slice none 0 0))
           obtain ⟨k0, k1, k2, k3, k4, k5, k6⟩ := bq7 hs4.hd
           have HKF := Lib.hid (show w.grownBy _ none from hs4.tl.tl.tl.tl.hd)
           clear hs2 hs3 hs4 hg))
      refine bodyPost_ret_by (v := .tuple #[.agg #[.int .i64 0, .int .i64 0, .int .i64 0, .slice none 0 0, .slice none 0 0, .slice none 0 0, .slice none 0 0], .bool false]) ?_ rfl (GivesB.zero HKF.out)
      simp [results, go_sem, *]
    · clear hb
      clear HT
      go_enter Tryd.func18, Tryd.ntmps18
      go_wp2_with (first
        | (go_at_call 47
           with_reducible refine (HIN.out _ HK0.out).mono ?_
           rintro e w1 ⟨hr, hg⟩
           simp only [if_true] at hr
           obtain ⟨o, rfl, ho⟩ := hr
           obtain ⟨oa, oc, rfl⟩ := ho.shape
           generalize K.length = on at *
           have hs1 := (HS0.out.grown hg).boxAt w1.heap.size rfl #[.int .i64 cols, .slice oa on oc] 44
           obtain ⟨x0, x1, x2, x3, x4, x5, x6⟩ := bq7 hs1.tl.tl.tl.hd
           obtain ⟨m0, m1, _⟩ := bb2 hs1.tl.tl.hd
           obtain ⟨i0, i1, _⟩ := bb2 hs1.hd
           have HS1 := Lib.hid hs1
           have HK1 := Lib.hid (show w.grownBy _ none from hs1.tl.tl.tl.tl.hd)
           clear hs1 hg ho)
        | (go_at_call 33
           with_reducible refine (HIS.out _ HK1.out).mono ?_
           rintro e w2 ⟨rfl, hg⟩
           have hs2 := HS1.out.grown hg
           clear x0 x1 x2 x3 x4 x5 x6 m0 m1 i0 i1
           obtain ⟨x0, x1, x2, x3, x4, x5, x6⟩ := bq7 hs2.tl.tl.tl.hd
           obtain ⟨m0, m1, _⟩ := bb2 hs2.tl.tl.hd
           have hs3 := Sep.blk (A := [_]) (B := [_]) hs2
           obtain ⟨r0, r1, r2, r3, r4, r5, r6⟩ := bq7 hs3.hd
           obtain ⟨y0, y1, y2, y3, y4, y5, y6⟩ := bf7 hs3.hd
           have hs4 := (((((((hs3.setB 0 (.int .i64 0)).setB 1 (.int .i64 0)).setB 2 (.int .i64 0)).setB 3 (.slice none 0 0)).setB 4 (.slice none 0 0)).setB 5 (.slice none 0 0)).setB 6 (.slice none 0 0))
           obtain ⟨k0, k1, k2, k3, k4, k5, k6⟩ := bq7 hs4.hd
           have HKF := Lib.hid (show w.grownBy _ none from hs4.tl.tl.tl.tl.hd)
           clear hs2 hs3 hs4 hg))
      refine bodyPost_ret_by (v := .tuple #[.agg #[.int .i64 0, .int .i64 0, .int .i64 0, .slice none 0 0, .slice none 0 0, .slice none 0 0, .slice none 0 0], .bool false]) ?_ rfl (GivesB.zero HKF.out)
      simp [results, go_sem, *]
  · cases bi
    · clear hb
      clear HT
      go_enter Tryd.func18, Tryd.ntmps18
      go_wp2_with (first
        | (go_at_call 47
           with_reducible refine (HIN.out _ HK0.out).mono ?_
           rintro e w1 ⟨hr, hg⟩
           simp only [Bool.false_eq_true, if_false] at hr
           subst hr
           unfold nilS
           have hs1 := (HS0.out.grown hg).boxAt w1.heap.size rfl #[.int .i64 0, .slice none 0 0] 44
           obtain ⟨x0, x1, x2, x3, x4, x5, x6⟩ := bq7 hs1.tl.tl.tl.hd
           obtain ⟨m0, m1, _⟩ := bb2 hs1.tl.tl.hd
           obtain ⟨i0, i1, _⟩ := bb2 hs1.hd
           have HS1 := Lib.hid hs1
           have HK1 := Lib.hid (show w.grownBy _ none from hs1.tl.tl.tl.tl.hd)
           clear hs1 hg)
        | (go_at_call 33
           with_reducible refine (HIS.out _ HK1.out).mono ?_
           rintro e w2 ⟨rfl, hg⟩
           have hs2 := HS1.out.grown hg
           clear x0 x1 x2 x3 x4 x5 x6 m0 m1 i0 i1
           obtain ⟨x0, x1, x2, x3, x4, x5, x6⟩ := bq7 hs2.tl.tl.tl.hd
           obtain ⟨m0, m1, _⟩ := bb2 hs2.tl.tl.hd
           have hs3 := Sep.blk (A := [_]) (B := [_]) hs2
           obtain ⟨r0, r1, r2, r3, r4, r5, r6⟩ := bq7 hs3.hd
           obtain ⟨y0, y1, y2, y3, y4, y5, y6⟩ := bf7 hs3.hd
           have hs4 := (((((((hs3.setB 0 (.int .i64 0)).setB 1 (.int .i64 0)).setB 2 (.int .i64 0)).setB 3 (.slice none 0 0)).setB 4 (.slice none 0 0)).setB 5 (.slice none 0 0)).setB 6 (.slice none 0 0))
           obtain ⟨k0, k1, k2, k3, k4, k5, k6⟩ := bq7 hs4.hd
           have HKF := Lib.hid (show w.grownBy _ none from hs4.tl.tl.tl.tl.hd)
           clear hs2 hs3 hs4 hg))
      refine bodyPost_ret_by (v := .tuple #[.agg #[.int .i64 0, .int .i64 0, .int .i64 0, .slice none 0 0, .slice none 0 0, .slice none 0 0, .slice none 0 0], .bool false]) ?_ rfl (GivesB.zero HKF.out)
      simp [results, go_sem, *]
    · have hne : ((m : Int) != sS) = true := by
        have h1 : ¬ (m : Int) = sS := by simpa using hb
        rw [bne_iff_ne]; exact h1
      clear hb
      clear HT
      go_enter Tryd.func18, Tryd.ntmps18
      go_wp2_with (first
        | (go_at_call 47
           with_reducible refine (HIN.out _ HK0.out).mono ?_
           rintro e w1 ⟨hr, hg⟩
           simp only [if_true] at hr
           obtain ⟨o, rfl, ho⟩ := hr
           obtain ⟨oa, oc, rfl⟩ := ho.shape
           generalize K.length = on at *
           have hs1 := (HS0.out.grown hg).boxAt w1.heap.size rfl #[.int .i64 cols, .slice oa on oc] 44
           obtain ⟨x0, x1, x2, x3, x4, x5, x6⟩ := bq7 hs1.tl.tl.tl.hd
           obtain ⟨m0, m1, _⟩ := bb2 hs1.tl.tl.hd
           obtain ⟨i0, i1, _⟩ := bb2 hs1.hd
           have HS1 := Lib.hid hs1
           have HK1 := Lib.hid (show w.grownBy _ none from hs1.tl.tl.tl.tl.hd)
           clear hs1 hg ho)
        | (go_at_call 33
           with_reducible refine (HIS.out _ HK1.out).mono ?_
           rintro e w2 ⟨rfl, hg⟩
           have hs2 := HS1.out.grown hg
           clear x0 x1 x2 x3 x4 x5 x6 m0 m1 i0 i1
           obtain ⟨x0, x1, x2, x3, x4, x5, x6⟩ := bq7 hs2.tl.tl.tl.hd
           obtain ⟨m0, m1, _⟩ := bb2 hs2.tl.tl.hd
           have hs3 := Sep.blk (A := [_]) (B := [_]) hs2
           obtain ⟨r0, r1, r2, r3, r4, r5, r6⟩ := bq7 hs3.hd
           obtain ⟨y0, y1, y2, y3, y4, y5, y6⟩ := bf7 hs3.hd
           have hs4 := (((((((hs3.setB 0 (.int .i64 0)).setB 1 (.int .i64 0)).setB 2 (.int .i64 0)).setB 3 (.slice none 0 0)).setB 4 (.slice none 0 0)).setB 5 (.slice none 0 0)).setB 6 (.slice none 0 0))
           obtain ⟨k0, k1, k2, k3, k4, k5, k6⟩ := bq7 hs4.hd
           have HKF := Lib.hid (show w.grownBy _ none from hs4.tl.tl.tl.tl.hd)
           clear hs2 hs3 hs4 hg))
      refine bodyPost_ret_by (v := .tuple #[.agg #[.int .i64 0, .int .i64 0, .int .i64 0, .slice none 0 0, .slice none 0 0, .slice none 0 0, .slice none 0 0], .bool false]) ?_ rfl (GivesB.zero HKF.out)
      simp [results, go_sem, *]
set_option maxHeartbeats 16000000 in
theorem iTrans_yes (p : Nat) [NeZero p] (cols : Int) (s : StSp) (av bv cv dv u : Value) (M : List (List Int)) (nS nI nO : Nat) (w : World) (ht : Tab w) (h : RdSs w s av bv cv dv) (hs : SmS s) (hv : MatV w u M) (hp : 1 < p) (hp2 : p ≤ 1000) (hss : ssB p s = true) (hk : SsK p s nS nI nO) (hii : invOk p cols M = true) (hm : M.length = nS) (hM : RowsOk p nS M) (hKo : RowsOk p nS (invR p M)) (hKl : (invR p M).length = nS) :
    Calls Tryd.prog 18 #[.int .i64 p, .agg #[.int .i64 s.S, .int .i64 s.I, .int .i64 s.O, av, bv, cv, dv], mxV cols u] w (GivesB (movedS p nS nO s M (invR p M)) true w) := by
  have hls := hk.ls; have hli := hk.li; have hlo := hk.lo
  have HIS := Lib.hid fun W (hw : w.grownBy W none) => isSS_any p s av bv cv dv W (ht.grown hw) (h.carry hw) hs
  have HCP := Lib.hid fun W (hw : w.grownBy W none) => icopy_any s av bv cv dv p nS nI nO W (h.carry hw) hk
  have HIN := Lib.hid fun W (hw : w.grownBy W none) => inverseM_any p cols u M W (ht.grown hw) (hv.carry hw) (by omega) (fun r hr => by rw [(hM r hr).1]; omega)
  rw [hss] at HIS
  simp only [hii, if_true] at HIN
  generalize invR p M = K at *
  have HT0 := Lib.hid fun W (hw : w.grownBy W none) => product_any p u av M s.A nS W hp hp2 (hv.carry hw) (h.a.carry hw).mat (by rw [hk.la]; exact hM) hk.oa (by rw [hk.la]; omega) (by omega) (by omega)
  have HT1 := Lib.hid fun (q o : Value) W (hq : MatV W q (prodL p M s.A nS)) (ho : MatV W o K) => product_any p q o (prodL p M s.A nS) K nS W hp hp2 hq ho (by rw [hKl]; exact prodL_ok hp hk.oa) hKo (by omega) (by omega) (by rw [prodL_len]; omega)
  have HT2 := Lib.hid fun (o : Value) W (ho : MatV W o K) (hw : w.grownBy W none) => product_any p bv o s.B K nS W hp hp2 (h.b.carry hw).mat ho (by rw [hKl]; exact hk.ob) hKo (by omega) (by omega) (by rw [hk.lb]; omega)
  have HT3 := Lib.hid fun W (hw : w.grownBy W none) => product_any p u cv M s.C nO W hp hp2 (hv.carry hw) (h.c.carry hw).mat (by rw [hk.lc]; exact hM) hk.oc (by rw [hk.lc]; omega) (by omega) (by omega)
  obtain ⟨P0, hP0⟩ : ∃ P0, prodL p M s.A nS = P0 := ⟨_, rfl⟩
  have hl0 : P0.length = nS := by rw [← hP0, prodL_len]; exact hm
  obtain ⟨PA, hPA⟩ : ∃ PA, prodL p P0 K nS = PA := ⟨_, rfl⟩
  have hlA : PA.length = nS := by rw [← hPA, prodL_len]; exact hl0
  obtain ⟨PB, hPB⟩ : ∃ PB, prodL p s.B K nS = PB := ⟨_, rfl⟩
  have hlB : PB.length = nI := by rw [← hPB, prodL_len]; exact hk.lb
  obtain ⟨PC, hPC⟩ : ∃ PC, prodL p M s.C nO = PC := ⟨_, rfl⟩
  have hlC : PC.length = nS := by rw [← hPC, prodL_len]; exact hm
  have hlD := hk.ld
  rw [hP0] at HT0 HT1
  rw [hPA] at HT1
  rw [hPB] at HT2
  rw [hPC] at HT3
  obtain ⟨sa, ta, rfl⟩ := h.a.shape
  obtain ⟨sb, tb, rfl⟩ := h.b.shape
  obtain ⟨sc, tc, rfl⟩ := h.c.shape
  obtain ⟨sd, td, rfl⟩ := h.d.shape
  unfold GivesB movedS
  unfold GivesS at HCP
  simp only [hP0, hPA, hPB, hPC, hk.es, hk.ei, hk.eo] at HIS HCP ⊢
  have e1 := hk.la; have e2 := hk.lb; have e3 := hk.lc
  rw [hlA, hlB, hlC]
  rw [e1] at HT0 HIS HCP ⊢
  rw [e2] at HT2 HIS HCP ⊢
  rw [e3] at HT3 HIS HCP ⊢
  rw [hlD] at HIS HCP ⊢
  obtain ⟨ua, uc, rfl⟩ := hv.shape
  rw [hm] at HIN HT0 HT3 ⊢
  generalize s.D = PD at *
  generalize s.A = QA at *
  generalize s.B = QB at *
  generalize s.C = QC at *
  clear h hs hk hv hM hKo hP0 hPA hPB hPC e1 e2 e3 hss hii hm ht hlD
  have HS0 := Lib.hid fun W vs v (W2 : World) l (h : OwnM W.heap.size W2 v vs P0) (hg : W.grownBy W2 none) (hs : Sep W l) => h.sepE hg hs
  have HSA := Lib.hid fun W vs v (W2 : World) l (h : OwnM W.heap.size W2 v vs PA) (hg : W.grownBy W2 none) (hs : Sep W l) => h.sepE hg hs
  have HSB := Lib.hid fun W vs v (W2 : World) l (h : OwnM W.heap.size W2 v vs PB) (hg : W.grownBy W2 none) (hs : Sep W l) => h.sepE hg hs
  have HSC := Lib.hid fun W vs v (W2 : World) l (h : OwnM W.heap.size W2 v vs PC) (hg : W.grownBy W2 none) (hs : Sep W l) => h.sepE hg hs
  rw [hl0] at HS0
  rw [hlA] at HSA
  rw [hlB] at HSB
  rw [hlC] at HSC
  clear hl0 hlA hlB hlC
  unfold mxV at *
  have hs0 := (((Sep.start w).boxAt w.heap.size rfl #[.int .i64 nS, .int .i64 nI, .int .i64 nO, .slice sa nS ta, .slice sb nI tb, .slice sc nS tc, .slice sd nI td] 32).boxAt (w.heap.size + 1) (by simp) #[.int .i64 cols, .slice ua nS uc] 44).boxAt (w.heap.size + 1 + 1) (by simp) #[.int .i64 0, .int .i64 0, .int .i64 0, .slice none 0 0, .slice none 0 0, .slice none 0 0, .slice none 0 0] 32
  have HS0_ := Lib.hid hs0
  have HK0 := Lib.hid (show w.grownBy _ none from hs0.tl.tl.tl.hd)
  clear hs0
  have hne : ((nS : Int) != (nS : Int)) = false := by simp
  go_enter Tryd.func18, Tryd.ntmps18
  go_upto_region 5 with (first
    | (go_at_call 47
       with_reducible refine (HIN.out _ HK0.out).mono ?_
       rintro e w1 ⟨⟨o, rfl, ho⟩, hg⟩
       obtain ⟨oa, oc, rfl⟩ := ho.shape
       rw [hKl] at ho ⊢
       have hs1 := (HS0_.out.grown hg).boxAt w1.heap.size rfl #[.int .i64 cols, .slice oa nS oc] 44
       have ho1 := ho.carry (grownBy_alloc w1 (.cells #[.int .i64 cols, .slice oa nS oc] 44) none)
       obtain ⟨x0, x1, x2, x3, x4, x5, x6⟩ := bq7 hs1.tl.tl.tl.hd
       obtain ⟨m0, m1, _⟩ := bb2 hs1.tl.tl.hd
       obtain ⟨i0, i1, _⟩ := bb2 hs1.hd
       have HS1 := Lib.hid hs1
       have HK1 := Lib.hid (show w.grownBy _ none from hs1.tl.tl.tl.tl.hd)
       have HO1 := Lib.hid ho1
       have HSt := Lib.hid (Sep.start (w1.alloc (.cells #[.int .i64 cols, .slice oa nS oc] 44)))
       clear hs1 hg ho ho1)
    | (go_at_call 33
       with_reducible refine (HIS.out _ HK1.out).mono ?_
       rintro e w2 ⟨rfl, hg⟩
       clear x0 x1 x2 x3 x4 x5 x6 m0 m1 i0 i1
       have hs2 := HS1.out.grown hg
       obtain ⟨x0, x1, x2, x3, x4, x5, x6⟩ := bq7 hs2.tl.tl.tl.hd
       obtain ⟨m0, m1, _⟩ := bb2 hs2.tl.tl.hd
       have HK2 := Lib.hid (show w.grownBy _ none from hs2.tl.tl.tl.tl.hd)
       have HSu := Lib.hid (HSt.out.grown hg)
       clear hs2 hg)
    | (go_at_call 48
       with_reducible refine (HCP.out _ HK2.out).mono ?_
       rintro e w3 ⟨ka, kb, kc, kd, ja, jb, jc, jd, za, zb, zc, xd, rfl, _, _, _, hx, hsg⟩
       clear x0 x1 x2 x3 x4 x5 x6 m0 m1
       have HXd := Lib.hid hx
       have hs3 := (Sep.unbag (HSu.out.graft1 hsg OX4_own)).tl.tl.tl
       have HR0 := Lib.hid (hs3.boxAt w3.heap.size rfl #[.int .i64 nS, .int .i64 nI, .int .i64 nO, .slice ka nS ja, .slice kb nI jb, .slice kc nS jc, .slice kd nI jd] 32)
       clear hx hsg hs3))
  generalize w1.alloc (.cells #[.int .i64 cols, .slice oa nS oc] 44) = wb at *
  have HBM := Lib.hid fun (W1 : World) (hg : wb.grownBy W1 none) => show (W1.cell? ⟨w.heap.size, 0, none⟩ = some (.int .i64 nS) ∧ W1.cell? ⟨w.heap.size, 1, none⟩ = some (.int .i64 nI) ∧ W1.cell? ⟨w.heap.size, 2, none⟩ = some (.int .i64 nO) ∧ W1.cell? ⟨w.heap.size, 3, none⟩ = some (.slice sa nS ta) ∧ W1.cell? ⟨w.heap.size, 4, none⟩ = some (.slice sb nI tb) ∧ W1.cell? ⟨w.heap.size, 5, none⟩ = some (.slice sc nS tc) ∧ W1.cell? ⟨w.heap.size, 6, none⟩ = some (.slice sd nI td)) ∧ W1.cell? ⟨w.heap.size + 1, 1, none⟩ = some (.slice ua nS uc) ∧ W1.cell? ⟨w1.heap.size, 1, none⟩ = some (.slice oa nS oc) from by
    have hs := HS1.out.grown hg
    exact ⟨bq7 hs.tl.tl.tl.hd, (bb2 hs.tl.tl.hd).2.1, (bb2 hs.hd).2.1⟩
  have HKW := Lib.hid fun (W1 : World) (hg : wb.grownBy W1 none) => show w.grownBy W1 none from (HS1.out.grown hg).tl.tl.tl.tl.hd
  have HRd := Lib.hid HR0.out.dr
  have X0 := Lib.hid (HBM.out _ HRd.out.tl.tl.hd)
  refine AnyL.start (fun W1 => (W1.cell? ⟨w.heap.size, 0, none⟩ = some (.int .i64 nS) ∧ W1.cell? ⟨w.heap.size, 1, none⟩ = some (.int .i64 nI) ∧ W1.cell? ⟨w.heap.size, 2, none⟩ = some (.int .i64 nO) ∧ W1.cell? ⟨w.heap.size, 3, none⟩ = some (.slice sa nS ta) ∧ W1.cell? ⟨w.heap.size, 4, none⟩ = some (.slice sb nI tb) ∧ W1.cell? ⟨w.heap.size, 5, none⟩ = some (.slice sc nS tc) ∧ W1.cell? ⟨w.heap.size, 6, none⟩ = some (.slice sd nI td)) ∧ W1.cell? ⟨w.heap.size + 1, 1, none⟩ = some (.slice ua nS uc) ∧ W1.cell? ⟨w1.heap.size, 1, none⟩ = some (.slice oa nS oc)) (fun _ => True) 99 (by kernel_rfl) ?_
  refine AnyL.take (i := 0) (v := ?vx1) (by rfl) (by kernel_rfl) (by kernel_rfl) (by kernel_rfl) rfl (by exact fun _ _ _ h => h) (by rfl) ?hyx1 (by exact ⟨X0.out, fun _ => trivial⟩) ?restx1
  case hyx1 => intro W hSW; (try dsimp only at hSW); first | (go_simp; done) | (go_simp; with_reducible rfl)
  try simp only [Act.put, List.setIfInBounds_toArray, List.set_cons_zero, List.set_cons_succ]
  refine AnyL.take (i := 1) (v := ?vx2) (by rfl) (by kernel_rfl) (by kernel_rfl) (by kernel_rfl) rfl (by exact fun _ _ _ h => h) (by rfl) ?hyx2 (by exact ⟨X0.out, fun _ => trivial⟩) ?restx2
  case hyx2 => intro W hSW; (try dsimp only at hSW); first | (go_simp; done) | (go_simp; with_reducible rfl)
  try simp only [Act.put, List.setIfInBounds_toArray, List.set_cons_zero, List.set_cons_succ]
  refine AnyL.take (i := 2) (v := ?vx3) (by rfl) (by kernel_rfl) (by kernel_rfl) (by kernel_rfl) rfl (by exact fun _ _ _ h => h) (by rfl) ?hyx3 (by exact ⟨X0.out, fun _ => trivial⟩) ?restx3
  case hyx3 => intro W hSW; (try dsimp only at hSW); first | (go_simp; done) | (go_simp; with_reducible rfl)
  try simp only [Act.put, List.setIfInBounds_toArray, List.set_cons_zero, List.set_cons_succ]
  refine AnyL.take (i := 3) (v := ?vx4) (by rfl) (by kernel_rfl) (by kernel_rfl) (by kernel_rfl) rfl (by exact fun _ _ _ h => h) (by rfl) ?hyx4 (by exact ⟨X0.out, fun _ => trivial⟩) ?restx4
  case hyx4 => intro W hSW; (try dsimp only at hSW); first | (go_simp; done) | (go_simp; with_reducible rfl)
  try simp only [Act.put, List.setIfInBounds_toArray, List.set_cons_zero, List.set_cons_succ]
  refine AnyL.take (i := 4) (v := ?vx5) (by rfl) (by kernel_rfl) (by kernel_rfl) (by kernel_rfl) rfl (by exact fun _ _ _ h => h) (by rfl) ?hyx5 (by exact ⟨X0.out, fun _ => trivial⟩) ?restx5
  case hyx5 => intro W hSW; (try dsimp only at hSW); first | (go_simp; done) | (go_simp; with_reducible rfl)
  try simp only [Act.put, List.setIfInBounds_toArray, List.set_cons_zero, List.set_cons_succ]
  refine AnyL.take (i := 5) (v := ?vx6) (by rfl) (by kernel_rfl) (by kernel_rfl) (by kernel_rfl) rfl (by exact fun _ _ _ h => h) (by rfl) ?hyx6 (by exact ⟨X0.out, fun _ => trivial⟩) ?restx6
  case hyx6 => intro W hSW; (try dsimp only at hSW); first | (go_simp; done) | (go_simp; with_reducible rfl)
  try simp only [Act.put, List.setIfInBounds_toArray, List.set_cons_zero, List.set_cons_succ]
  refine AnyL.take (i := 6) (v := ?vx7) (by rfl) (by kernel_rfl) (by kernel_rfl) (by kernel_rfl) rfl (by exact fun _ _ _ h => h) (by rfl) ?hyx7 (by exact ⟨X0.out, fun _ => trivial⟩) ?restx7
  case hyx7 => intro W hSW; (try dsimp only at hSW); first | (go_simp; done) | (go_simp; with_reducible rfl)
  try simp only [Act.put, List.setIfInBounds_toArray, List.set_cons_zero, List.set_cons_succ]
  refine AnyL.take (i := 7) (v := ?vx8) (by rfl) (by kernel_rfl) (by kernel_rfl) (by kernel_rfl) rfl (by exact fun _ _ _ h => h) (by rfl) ?hyx8 (by exact ⟨X0.out, fun _ => trivial⟩) ?restx8
  case hyx8 => intro W hSW; (try dsimp only at hSW); first | (go_simp; done) | (go_simp; with_reducible rfl)
  try simp only [Act.put, List.setIfInBounds_toArray, List.set_cons_zero, List.set_cons_succ]
  refine AnyL.take (i := 9) (v := ?vx9) (by rfl) (by kernel_rfl) (by kernel_rfl) (by kernel_rfl) rfl (by exact fun _ _ _ h => h) (by rfl) ?hyx9 (by exact ⟨X0.out, fun _ => trivial⟩) ?restx9
  case hyx9 => intro W hSW; (try dsimp only at hSW); first | (go_simp; done) | (go_simp; with_reducible rfl)
  try simp only [Act.put, List.setIfInBounds_toArray, List.set_cons_zero, List.set_cons_succ]
  refine AnyL.take (i := 10) (v := ?vx10) (by rfl) (by kernel_rfl) (by kernel_rfl) (by kernel_rfl) rfl (by exact fun _ _ _ h => h) (by rfl) ?hyx10 (by exact ⟨X0.out, fun _ => trivial⟩) ?restx10
  case hyx10 => intro W hSW; (try dsimp only at hSW); first | (go_simp; done) | (go_simp; with_reducible rfl)
  try simp only [Act.put, List.setIfInBounds_toArray, List.set_cons_zero, List.set_cons_succ]
  refine AnyL.take (i := 11) (v := ?vx11) (by rfl) (by kernel_rfl) (by kernel_rfl) (by kernel_rfl) rfl (by exact fun _ _ _ h => h) (by rfl) ?hyx11 (by exact ⟨X0.out, fun _ => trivial⟩) ?restx11
  case hyx11 => intro W hSW; (try dsimp only at hSW); first | (go_simp; done) | (go_simp; with_reducible rfl)
  try simp only [Act.put, List.setIfInBounds_toArray, List.set_cons_zero, List.set_cons_succ]
  refine AnyL.take (i := 12) (v := ?vx12) (by rfl) (by kernel_rfl) (by kernel_rfl) (by kernel_rfl) rfl (by exact fun _ _ _ h => h) (by rfl) ?hyx12 (by exact ⟨X0.out, fun _ => trivial⟩) ?restx12
  case hyx12 => intro W hSW; (try dsimp only at hSW); first | (go_simp; done) | (go_simp; with_reducible rfl)
  try simp only [Act.put, List.setIfInBounds_toArray, List.set_cons_zero, List.set_cons_succ]
  refine AnyL.step (i := 8) (by kernel_rfl) (by rfl) (fun K hK => ?_)
  have hkE := HKW.out _ HRd.out.tl.tl.hd
  have HCE := Lib.hid (HT0.out _ hkE)
  clear hkE
  go_simp
  go_at_call 49
  with_reducible refine HCE.out.mono ?_
  rintro e w4 ⟨uo, uso, rfl, ho, hg⟩
  obtain ⟨go_, co, xo, rfl, hx, hsg⟩ := HS0.out _ _ _ _ _ ho hg HRd.out
  have HXo := Lib.hid hx
  have HR1 := Lib.hid hsg
  clear ho hg hx hsg HCE
  refine hK.out _ _ (by exact HBM.out _ HR1.out.tl.tl.tl.hd) (by exact fun _ => trivial) ?_
  clear hK K
  try simp only [Act.put, List.setIfInBounds_toArray, List.set_cons_zero, List.set_cons_succ]
  refine AnyL.step (i := 13) (by kernel_rfl) (by rfl) (fun K hK => ?_)
  have HCE := Lib.hid (HT1.out _ _ _ (by have := OS.read HR1.out.hd; rw [HXo.out] at this; exact this.mat) (HO1.out.carry HR1.out.tl.tl.tl.hd))
  go_simp
  go_at_call 49
  with_reducible refine HCE.out.mono ?_
  rintro e w5 ⟨uo, uso, rfl, ho, hg⟩
  obtain ⟨ga, ca, xa, rfl, hx, hsg⟩ := HSA.out _ _ _ _ _ ho hg HR1.out
  have HXa := Lib.hid hx
  have HR2 := Lib.hid hsg
  clear ho hg hx hsg HCE
  refine hK.out _ _ (by exact HBM.out _ HR2.out.tl.tl.tl.tl.hd) (by exact fun _ => trivial) ?_
  clear hK K
  try simp only [Act.put, List.setIfInBounds_toArray, List.set_cons_zero, List.set_cons_succ]
  refine AnyL.take (i := 14) (v := ?vx13) (by rfl) (by kernel_rfl) (by kernel_rfl) (by kernel_rfl) rfl (by exact fun _ _ _ h => h) (by rfl) ?hyx13 (by exact ⟨HBM.out _ HR2.out.tl.tl.tl.tl.hd, fun _ => trivial⟩) ?restx13
  case hyx13 => intro W hSW; (try dsimp only at hSW); first | (go_simp; done) | (go_simp; with_reducible rfl)
  try simp only [Act.put, List.setIfInBounds_toArray, List.set_cons_zero, List.set_cons_succ]
  have hs := Sep.blk (A := [_, _]) (B := [_]) HR2.out
  obtain ⟨a0, a1, a2, a3, a4, a5, a6⟩ := bq7 hs.hd
  obtain ⟨f0, f1, f2, f3, f4, f5, f6⟩ := bf7 hs.hd
  have HR3 := Lib.hid (hs.setB 3 (.slice ga nS ca))
  clear hs X0
  refine AnyL.step (i := 15) (by kernel_rfl) (by rfl) (fun K hK => ?_)
  go_simp
  refine hK.out _ _ (by exact HBM.out _ HR3.out.tl.tl.tl.tl.hd) (by exact fun _ => trivial) ?_
  clear hK K
  try simp only [Act.put, List.setIfInBounds_toArray, List.set_cons_zero, List.set_cons_succ]
  refine AnyL.done (by kernel_rfl) ?_ _
  clear a0 a1 a2 a3 a4 a5 a6 f0 f1 f2 f3 f4 f5 f6
  generalize w5.setCell ⟨w3.heap.size, 3, none⟩ (.slice ga nS ca) = w6 at *
  obtain ⟨⟨x0, x1, x2, x3, x4, x5, x6⟩, m1, i1⟩ := HBM.out _ HR3.out.tl.tl.tl.tl.hd
  go_wp2_with (first
    | (go_at_call 49
       with_reducible refine (HT2.out _ _ (HO1.out.carry HR3.out.tl.tl.tl.tl.hd) (HKW.out _ HR3.out.tl.tl.tl.tl.hd)).mono ?_
       rintro e w7 ⟨uo, uso, rfl, ho, hg⟩
       obtain ⟨gb, cb, xb, rfl, hx, hsg⟩ := HSB.out _ _ _ _ _ ho hg HR3.out
       have HXb := Lib.hid hx
       have hs := Sep.blk (A := [_]) (B := [_]) hsg
       obtain ⟨a0, a1, a2, a3, a4, a5, a6⟩ := bq7 hs.hd
       obtain ⟨f0, f1, f2, f3, f4, f5, f6⟩ := bf7 hs.hd
       have hs2 := hs.setB 4 (.slice gb nI cb)
       have HR4 := Lib.hid hs2
       clear x0 x1 x2 x3 x4 x5 x6 m1 i1
       obtain ⟨⟨x0, x1, x2, x3, x4, x5, x6⟩, m1, i1⟩ := HBM.out _ hs2.tl.tl.tl.tl.tl.hd
       clear ho hg hx hsg hs hs2)
    | (go_at_call 49
       with_reducible refine (HT3.out _ (HKW.out _ HR4.out.tl.tl.tl.tl.tl.hd)).mono ?_
       rintro e w8 ⟨uo, uso, rfl, ho, hg⟩
       obtain ⟨gc, cc, xc, rfl, hx, hsg⟩ := HSC.out _ _ _ _ _ ho hg HR4.out
       have HXc := Lib.hid hx
       have hs := Sep.blk (A := [_]) (B := [_]) hsg
       obtain ⟨a0, a1, a2, a3, a4, a5, a6⟩ := bq7 hs.hd
       obtain ⟨f0, f1, f2, f3, f4, f5, f6⟩ := bf7 hs.hd
       have hs2 := hs.setB 5 (.slice gc nS cc)
       have HR5 := Lib.hid hs2
       obtain ⟨k0, k1, k2, k3, k4, k5, k6⟩ := bq7 hs2.hd
       have hs3 := Sep.cutA (X := [_, _, _]) (A := [_]) hs2.tl
       have hs4 := Sep.bag (l := [_, _, _, _]) (r := [KeepA wb]) (show Sep _ [OS (.slice ga nS ca) xa, OS (.slice gb nI cb) xb, OS (.slice gc nS cc) xc, OS (.slice kd nI jd) xd, KeepA wb] from Sep.perm (List.Perm.append_right [OS (.slice kd nI jd) xd, KeepA wb] (List.reverse_perm [OS (.slice ga nS ca) xa, OS (.slice gb nI cb) xb, OS (.slice gc nS cc) xc])) hs3)
       have hs5 := Sep.blk (A := [_, _]) (B := [_]) (HS1.out.graft1 hs4 OX4_own)
       obtain ⟨r0, r1, r2, r3, r4, r5, r6⟩ := bq7 hs5.hd
       obtain ⟨y0, y1, y2, y3, y4, y5, y6⟩ := bf7 hs5.hd
       have hs6 := (((((((hs5.setB 0 (.int .i64 nS)).setB 1 (.int .i64 nI)).setB 2 (.int .i64 nO)).setB 3 (.slice ga nS ca)).setB 4 (.slice gb nI cb)).setB 5 (.slice gc nS cc)).setB 6 (.slice kd nI jd))
       obtain ⟨z0, z1, z2, z3, z4, z5, z6⟩ := bq7 hs6.hd
       have HSF := Lib.hid (Sep.cutA (X := [_]) (A := [_, _, _]) (r := [KeepA w]) hs6.tl)
       clear x0 x1 x2 x3 x4 x5 x6 m1 i1 ho hg hx hsg hs hs2 hs3 hs4 hs5 hs6))
  refine bodyPost_ret_by (v := .tuple #[.agg #[.int .i64 nS, .int .i64 nI, .int .i64 nO, .slice ga nS ca, .slice gb nI cb, .slice gc nS cc, .slice kd nI jd], .bool true]) ?_ rfl ⟨_, _, _, _, _, _, _, _, xa, xb, xc, xd, rfl, HXa.out, HXb.out, HXc.out, HXd.out, HSF.out⟩
  simp [results, go_sem, *]
end Go.Proofs.YtghfifpicklonaaDoor

/-
  TransformSpace of the reference, and both writings as one. Conditions: the lists' lengths are small; the table of small primes holds what its text lays.
-/
namespace Go.Proofs.YtghfifpicklonaaDoor
open Go.RowKit
set_option linter.unusedVariables false
set_option maxRecDepth 100000

set_option maxHeartbeats 8000000 in
theorem sTrans_no (p cols : Int) (s : StSp) (av bv cv dv u : Value) (M : List (List Int)) (w : World) (h : RdSs w s av bv cv dv) (hs : SmS s) (hv : MatV w u M) (hl : M.length ≤ 1100000) (hll : ∀ row ∈ M, row.length ≤ 1100000) (hb : (ssB p s && (matB p cols M && (decide ((M.length : Int) = s.S) && decide (cols = s.S)))) = false) :
    Calls Tryd.prog 16 #[.int .i64 p, .agg #[.int .i64 s.S, .int .i64 s.I, .int .i64 s.O, av, bv, cv, dv], mxV cols u] w (GivesB ss0 false w) := by
  have HGD := Lib.hid fun W (hw : w.grownBy W none) => ssGood_any p s av bv cv dv W (h.carry hw) hs
  have HMG := Lib.hid fun (h0 : ssB p s = true) W (hw : w.grownBy W none) => mxGood_anyB p cols u M W (hv.carry hw) hl hll (by have := fldB_bd (ss_k h0).1; omega) (by have := fldB_bd (ss_k h0).1; omega)
  generalize matB p cols M = bm at *
  generalize ssB p s = bs at *
  obtain ⟨sa, ta, rfl⟩ := h.a.shape
  obtain ⟨sb, tb, rfl⟩ := h.b.shape
  obtain ⟨sc, tc, rfl⟩ := h.c.shape
  obtain ⟨sd, td, rfl⟩ := h.d.shape
  obtain ⟨ua, uc, rfl⟩ := hv.shape
  clear h hs hv hll
  obtain ⟨sS, sI, sO, sA, sB, sC, sD⟩ := s
  simp only at *
  generalize sA.length = nA at *
  generalize sB.length = nB at *
  generalize sC.length = nC at *
  generalize sD.length = nD at *
  generalize M.length = m at *
  unfold mxV at *
  have hs0 := (((Sep.start w).boxAt w.heap.size rfl #[.int .i64 sS, .int .i64 sI, .int .i64 sO, .slice sa nA ta, .slice sb nB tb, .slice sc nC tc, .slice sd nD td] 32).boxAt (w.heap.size + 1) (by simp) #[.int .i64 cols, .slice ua m uc] 44).boxAt (w.heap.size + 1 + 1) (by simp) #[.int .i64 0, .int .i64 0, .int .i64 0, .slice none 0 0, .slice none 0 0, .slice none 0 0, .slice none 0 0] 32
  have HS0 := Lib.hid hs0
  have HK0 := Lib.hid (show w.grownBy _ none from hs0.tl.tl.tl.hd)
  clear hs0
  cases bs
  · clear hb HMG
    go_enter Tryd.func16, Tryd.ntmps16
    go_wp2_with (
      go_at_call 29
      with_reducible refine (HGD.out _ HK0.out).mono ?_
      rintro e w1 ⟨rfl, hg⟩
      have hs3 := HS0.out.grown hg
      obtain ⟨x0, x1, x2, x3, x4, x5, x6⟩ := bq7 hs3.tl.tl.hd
      obtain ⟨m0, m1, _⟩ := bb2 hs3.tl.hd
      obtain ⟨r0, r1, r2, r3, r4, r5, r6⟩ := bq7 hs3.hd
      obtain ⟨y0, y1, y2, y3, y4, y5, y6⟩ := bf7 hs3.hd
      have hs4 := (((((((hs3.setB 0 (.int .i64 0)).setB 1 (.int .i64 0)).setB 2 (.int .i64 0)).setB 3 (.slice none 0 0)).setB 4 (.slice none 0 0)).setB 5 (.slice none 0 0)).setB 6 (.slice none 0 0))
      obtain ⟨k0, k1, k2, k3, k4, k5, k6⟩ := bq7 hs4.hd
      have HKF := Lib.hid (show w.grownBy _ none from hs4.tl.tl.tl.hd)
      clear hs3 hs4 hg)
    refine bodyPost_ret_by (v := .tuple #[.agg #[.int .i64 0, .int .i64 0, .int .i64 0, .slice none 0 0, .slice none 0 0, .slice none 0 0, .slice none 0 0], .bool false]) ?_ rfl (GivesB.zero HKF.out)
    simp [results, go_sem, *]
  · have HMG2 := Lib.hid (HMG.out rfl)
    clear HMG
    cases bm
    · clear hb
      go_enter Tryd.func16, Tryd.ntmps16
      go_wp2_with (first
        | (go_at_call 29
           with_reducible refine (HGD.out _ HK0.out).mono ?_
           rintro e w1 ⟨rfl, hg⟩
           have hs1 := HS0.out.grown hg
           obtain ⟨x0, x1, x2, x3, x4, x5, x6⟩ := bq7 hs1.tl.tl.hd
           obtain ⟨m0, m1, _⟩ := bb2 hs1.tl.hd
           have HS1 := Lib.hid hs1
           have HK1 := Lib.hid (show w.grownBy _ none from hs1.tl.tl.tl.hd)
           clear hs1 hg)
        | (go_at_call 44
           go_loud (
           with_reducible refine (HMG2.out _ HK1.out).mono ?_
           rintro e w2 ⟨rfl, hg⟩
           clear x0 x1 x2 x3 x4 x5 x6 m0 m1
           have hs3 := HS1.out.grown hg
           obtain ⟨x0, x1, x2, x3, x4, x5, x6⟩ := bq7 hs3.tl.tl.hd
           obtain ⟨m0, m1, _⟩ := bb2 hs3.tl.hd
           obtain ⟨r0, r1, r2, r3, r4, r5, r6⟩ := bq7 hs3.hd
           obtain ⟨y0, y1, y2, y3, y4, y5, y6⟩ := bf7 hs3.hd
           have hs4 := (((((((hs3.setB 0 (.int .i64 0)).setB 1 (.int .i64 0)).setB 2 (.int .i64 0)).setB 3 (.slice none 0 0)).setB 4 (.slice none 0 0)).setB 5 (.slice none 0 0)).setB 6 (.slice none 0 0))
           obtain ⟨k0, k1, k2, k3, k4, k5, k6⟩ := bq7 hs4.hd
           have HKF := Lib.hid (show w.grownBy _ none from hs4.tl.tl.tl.hd)
           clear hs3 hs4 hg)))
      refine bodyPost_ret_by (v := .tuple #[.agg #[.int .i64 0, .int .i64 0, .int .i64 0, .slice none 0 0, .slice none 0 0, .slice none 0 0, .slice none 0 0], .bool false]) ?_ rfl (GivesB.zero HKF.out)
      simp [results, go_sem, *]
    · by_cases h1 : (m : Int) = sS
      · have hne1 : ((m : Int) != sS) = false := by rw [h1]; simp
        have h2 : ¬ cols = sS := by simpa [h1] using hb
        have hne2 : (cols != sS) = true := by rw [bne_iff_ne]; exact h2
        clear hb
        go_enter Tryd.func16, Tryd.ntmps16
        go_wp2_with (first
          | (go_at_call 29
             with_reducible refine (HGD.out _ HK0.out).mono ?_
             rintro e w1 ⟨rfl, hg⟩
             have hs1 := HS0.out.grown hg
             obtain ⟨x0, x1, x2, x3, x4, x5, x6⟩ := bq7 hs1.tl.tl.hd
             obtain ⟨m0, m1, _⟩ := bb2 hs1.tl.hd
             have HS1 := Lib.hid hs1
             have HK1 := Lib.hid (show w.grownBy _ none from hs1.tl.tl.tl.hd)
             clear hs1 hg)
          | (go_at_call 44
             go_loud (
             with_reducible refine (HMG2.out _ HK1.out).mono ?_
             rintro e w2 ⟨rfl, hg⟩
             clear x0 x1 x2 x3 x4 x5 x6 m0 m1
             have hs3 := HS1.out.grown hg
             obtain ⟨x0, x1, x2, x3, x4, x5, x6⟩ := bq7 hs3.tl.tl.hd
             obtain ⟨m0, m1, _⟩ := bb2 hs3.tl.hd
             obtain ⟨r0, r1, r2, r3, r4, r5, r6⟩ := bq7 hs3.hd
             obtain ⟨y0, y1, y2, y3, y4, y5, y6⟩ := bf7 hs3.hd
             have hs4 := (((((((hs3.setB 0 (.int .i64 0)).setB 1 (.int .i64 0)).setB 2 (.int .i64 0)).setB 3 (.slice none 0 0)).setB 4 (.slice none 0 0)).setB 5 (.slice none 0 0)).setB 6 (.slice none 0 0))
             obtain ⟨k0, k1, k2, k3, k4, k5, k6⟩ := bq7 hs4.hd
             have HKF := Lib.hid (show w.grownBy _ none from hs4.tl.tl.tl.hd)
             clear hs3 hs4 hg)))
        refine bodyPost_ret_by (v := .tuple #[.agg #[.int .i64 0, .int .i64 0, .int .i64 0, .slice none 0 0, .slice none 0 0, .slice none 0 0, .slice none 0 0], .bool false]) ?_ rfl (GivesB.zero HKF.out)
        simp [results, go_sem, *]
      · have hne1 : ((m : Int) != sS) = true := by rw [bne_iff_ne]; exact h1
        clear hb
        go_enter Tryd.func16, Tryd.ntmps16
        go_wp2_with (first
          | (go_at_call 29
             with_reducible refine (HGD.out _ HK0.out).mono ?_
             rintro e w1 ⟨rfl, hg⟩
             have hs1 := HS0.out.grown hg
             obtain ⟨x0, x1, x2, x3, x4, x5, x6⟩ := bq7 hs1.tl.tl.hd
             obtain ⟨m0, m1, _⟩ := bb2 hs1.tl.hd
             have HS1 := Lib.hid hs1
             have HK1 := Lib.hid (show w.grownBy _ none from hs1.tl.tl.tl.hd)
             clear hs1 hg)
          | (go_at_call 44
             go_loud (
             with_reducible refine (HMG2.out _ HK1.out).mono ?_
             rintro e w2 ⟨rfl, hg⟩
             clear x0 x1 x2 x3 x4 x5 x6 m0 m1
             have hs3 := HS1.out.grown hg
             obtain ⟨x0, x1, x2, x3, x4, x5, x6⟩ := bq7 hs3.tl.tl.hd
             obtain ⟨m0, m1, _⟩ := bb2 hs3.tl.hd
             obtain ⟨r0, r1, r2, r3, r4, r5, r6⟩ := bq7 hs3.hd
             obtain ⟨y0, y1, y2, y3, y4, y5, y6⟩ := bf7 hs3.hd
             have hs4 := (((((((hs3.setB 0 (.int .i64 0)).setB 1 (.int .i64 0)).setB 2 (.int .i64 0)).setB 3 (.slice none 0 0)).setB 4 (.slice none 0 0)).setB 5 (.slice none 0 0)).setB 6 (.slice none 0 0))
             obtain ⟨k0, k1, k2, k3, k4, k5, k6⟩ := bq7 hs4.hd
             have HKF := Lib.hid (show w.grownBy _ none from hs4.tl.tl.tl.hd)
             clear hs3 hs4 hg)))
        refine bodyPost_ret_by (v := .tuple #[.agg #[.int .i64 0, .int .i64 0, .int .i64 0, .slice none 0 0, .slice none 0 0, .slice none 0 0, .slice none 0 0], .bool false]) ?_ rfl (GivesB.zero HKF.out)
        simp [results, go_sem, *]
set_option maxHeartbeats 8000000 in
theorem sTrans_inv (p : Nat) [NeZero p] (s : StSp) (av bv cv dv u : Value) (M : List (List Int)) (nS nI nO : Nat) (w : World) (h : RdSs w s av bv cv dv) (hs : SmS s) (hv : MatV w u M) (hfld : fldN p = true) (hp2 : p ≤ 1000) (hss : ssB p s = true) (hk : SsK p s nS nI nO) (hmB : matB p nS M = true) (hm : M.length = nS) (hM : RowsOk p nS M) :
    Calls Tryd.prog 16 #[.int .i64 p, .agg #[.int .i64 s.S, .int .i64 s.I, .int .i64 s.O, av, bv, cv, dv], mxV nS u] w (GivesB (if invB p M = true then movedS p nS nO s M (invR p M) else ss0) (invB p M) w) := by
  have hp := lt_p hfld
  have hls := hk.ls; have hli := hk.li; have hlo := hk.lo
  have HGD := Lib.hid fun W (hw : w.grownBy W none) => ssGood_any p s av bv cv dv W (h.carry hw) hs
  have HMG := Lib.hid fun W (hw : w.grownBy W none) => mxGood_anyB p nS u M W (hv.carry hw) (by omega) (fun r hr => by rw [(hM r hr).1]; omega) (by omega) (by omega)
  rw [hss] at HGD
  rw [hmB] at HMG
  have HIN := Lib.hid fun W (hw : w.grownBy W none) => ssInverse_any p nS u M W hfld hp2 (hv.carry hw) hM hm (by omega)
  have hKl : invB p M = true → (invR p M).length = nS ∧ RowsOk p nS (invR p M) := fun hb => by
    have hr := inv_rank hfld hM hm hb
    rw [(inv_yes hfld hM hm hr).2]
    exact ⟨(ge hfld hM hm).lenT, (ge hfld hM hm).okT⟩
  have HMV := Lib.hid fun (hb : invB p M = true) (v : Value) W (hw : w.grownBy W none) (hv2 : MatV W v (invR p M)) => ssMoved_any p s av bv cv dv u v M (invR p M) nS nI nO W hp hp2 (h.carry hw) hk (hv.carry hw) hv2 hM (hKl hb).2 hm (hKl hb).1
  have HSH := Lib.hid fun (hb : invB p M = true) (v : Value) W vs B (hv2 : OwnM B W v vs (invR p M)) => show ∃ a c, v = .slice a nS c from by
    obtain ⟨a, c, h1⟩ := hv2.read.shape
    rw [(hKl hb).1] at h1
    exact ⟨a, c, h1⟩
  generalize invR p M = K at *
  obtain ⟨T, hT⟩ : ∃ T, movedS p nS nO s M K = T := ⟨_, rfl⟩
  rw [hT] at HMV ⊢
  generalize invB p M = bi at *
  obtain ⟨sa, ta, rfl⟩ := h.a.shape
  obtain ⟨sb, tb, rfl⟩ := h.b.shape
  obtain ⟨sc, tc, rfl⟩ := h.c.shape
  obtain ⟨sd, td, rfl⟩ := h.d.shape
  have e1 := hk.la; have e2 := hk.lb; have e3 := hk.lc; have e4 := hk.ld
  simp only [hk.es, hk.ei, hk.eo] at HGD HMV ⊢
  rw [e1] at HGD HMV ⊢
  rw [e2] at HGD HMV ⊢
  rw [e3] at HGD HMV ⊢
  rw [e4] at HGD HMV ⊢
  obtain ⟨ua, uc, rfl⟩ := hv.shape
  rw [hm] at HMG HIN HMV ⊢
  clear h hs hv hss hk hmB hm hM hKl hT e1 e2 e3 e4
  unfold mxV at *
  have hne : ((nS : Int) != (nS : Int)) = false := by simp
  have hs0 := (((Sep.start w).boxAt w.heap.size rfl #[.int .i64 nS, .int .i64 nI, .int .i64 nO, .slice sa nS ta, .slice sb nI tb, .slice sc nS tc, .slice sd nI td] 32).boxAt (w.heap.size + 1) (by simp) #[.int .i64 nS, .slice ua nS uc] 44).boxAt (w.heap.size + 1 + 1) (by simp) #[.int .i64 0, .int .i64 0, .int .i64 0, .slice none 0 0, .slice none 0 0, .slice none 0 0, .slice none 0 0] 32
  have HS0 := Lib.hid hs0
  have HK0 := Lib.hid (show w.grownBy _ none from hs0.tl.tl.tl.hd)
  clear hs0
  cases bi
  · simp only [Bool.false_eq_true, if_false] at HIN ⊢
    clear HMV HSH
    unfold nilS at HIN
    go_enter Tryd.func16, Tryd.ntmps16
    go_wp2_with (first
      | (go_at_call 29
         with_reducible refine (HGD.out _ HK0.out).mono ?_
         rintro e w1 ⟨rfl, hg⟩
         have hs1 := HS0.out.grown hg
         obtain ⟨x0, x1, x2, x3, x4, x5, x6⟩ := bq7 hs1.tl.tl.hd
         obtain ⟨m0, m1, _⟩ := bb2 hs1.tl.hd
         have HS1 := Lib.hid hs1
         have HK1 := Lib.hid (show w.grownBy _ none from hs1.tl.tl.tl.hd)
         clear hs1 hg)
      | (go_at_call 44
         with_reducible refine (HMG.out _ HK1.out).mono ?_
         rintro e w2 ⟨rfl, hg⟩
         have hs1 := HS1.out.grown hg
         clear x0 x1 x2 x3 x4 x5 x6 m0 m1
         obtain ⟨x0, x1, x2, x3, x4, x5, x6⟩ := bq7 hs1.tl.tl.hd
         obtain ⟨m0, m1, _⟩ := bb2 hs1.tl.hd
         have HS2 := Lib.hid hs1
         have HK2 := Lib.hid (show w.grownBy _ none from hs1.tl.tl.tl.hd)
         clear hs1 hg)
      | (go_at_call 45
         with_reducible refine (HIN.out _ HK2.out).mono ?_
         rintro e w3 ⟨rfl, hg⟩
         clear x0 x1 x2 x3 x4 x5 x6 m0 m1
         have hs3 := HS2.out.grown hg
         obtain ⟨x0, x1, x2, x3, x4, x5, x6⟩ := bq7 hs3.tl.tl.hd
         obtain ⟨m0, m1, _⟩ := bb2 hs3.tl.hd
         obtain ⟨r0, r1, r2, r3, r4, r5, r6⟩ := bq7 hs3.hd
         obtain ⟨y0, y1, y2, y3, y4, y5, y6⟩ := bf7 hs3.hd
         have hs4 := (((((((hs3.setB 0 (.int .i64 0)).setB 1 (.int .i64 0)).setB 2 (.int .i64 0)).setB 3 (.slice none 0 0)).setB 4 (.slice none 0 0)).setB 5 (.slice none 0 0)).setB 6 (.slice none 0 0))
         obtain ⟨k0, k1, k2, k3, k4, k5, k6⟩ := bq7 hs4.hd
         have HKF := Lib.hid (show w.grownBy _ none from hs4.tl.tl.tl.hd)
         clear hs3 hs4 hg))
    refine bodyPost_ret_by (v := .tuple #[.agg #[.int .i64 0, .int .i64 0, .int .i64 0, .slice none 0 0, .slice none 0 0, .slice none 0 0, .slice none 0 0], .bool false]) ?_ rfl (GivesB.zero HKF.out)
    simp [results, go_sem, *]
  · simp only [if_true] at HIN ⊢
    have HMV2 := Lib.hid (HMV.out rfl)
    have HSH2 := Lib.hid (HSH.out rfl)
    clear HMV HSH
    unfold GivesB
    unfold GivesS at HMV2
    obtain ⟨tS, tI, tO, tA, tB, tC, tD⟩ := T
    simp only at HMV2 ⊢
    generalize tA.length = lA at *
    generalize tB.length = lB at *
    generalize tC.length = lC at *
    generalize tD.length = lD at *
    go_enter Tryd.func16, Tryd.ntmps16
    go_wp2_with (first
      | (go_at_call 29
         with_reducible refine (HGD.out _ HK0.out).mono ?_
         rintro e w1 ⟨rfl, hg⟩
         have hs1 := HS0.out.grown hg
         obtain ⟨x0, x1, x2, x3, x4, x5, x6⟩ := bq7 hs1.tl.tl.hd
         obtain ⟨m0, m1, _⟩ := bb2 hs1.tl.hd
         have HS1 := Lib.hid hs1
         have HK1 := Lib.hid (show w.grownBy _ none from hs1.tl.tl.tl.hd)
         clear hs1 hg)
      | (go_at_call 44
         with_reducible refine (HMG.out _ HK1.out).mono ?_
         rintro e w2 ⟨rfl, hg⟩
         have hs1 := HS1.out.grown hg
         clear x0 x1 x2 x3 x4 x5 x6 m0 m1
         obtain ⟨x0, x1, x2, x3, x4, x5, x6⟩ := bq7 hs1.tl.tl.hd
         obtain ⟨m0, m1, _⟩ := bb2 hs1.tl.hd
         have HS2 := Lib.hid hs1
         have HK2 := Lib.hid (show w.grownBy _ none from hs1.tl.tl.tl.hd)
         clear hs1 hg)
      | (go_at_call 45
         with_reducible refine (HIN.out _ HK2.out).mono ?_
         rintro e w3 ⟨⟨o, vs, rfl, ho⟩, hg⟩
         obtain ⟨oa, oc, rfl⟩ := HSH2.out _ _ _ _ ho
         have hs1 := HS2.out.grown hg
         clear x0 x1 x2 x3 x4 x5 x6 m0 m1
         obtain ⟨x0, x1, x2, x3, x4, x5, x6⟩ := bq7 hs1.tl.tl.hd
         obtain ⟨m0, m1, _⟩ := bb2 hs1.tl.hd
         have HS3 := Lib.hid hs1
         have HK3 := Lib.hid (show w.grownBy _ none from hs1.tl.tl.tl.hd)
         have HO3 := Lib.hid ho.read
         clear hs1 hg ho)
      | (go_at_call 46
         go_loud (
         with_reducible refine (HMV2.out _ _ HK3.out HO3.out).mono ?_
         rintro e w4 ⟨ga, gb, gc, gd, ca, cb, cc, cd, xa, xb, xc, xd, rfl, ha, hb, hc, hd, hsg⟩
         have HXA := Lib.hid ha; have HXB := Lib.hid hb; have HXC := Lib.hid hc; have HXD := Lib.hid hd
         have hs5 := Sep.blk (A := [_]) (B := [_]) (HS3.out.graft1 hsg OX4_own)
         obtain ⟨r0, r1, r2, r3, r4, r5, r6⟩ := bq7 hs5.hd
         obtain ⟨y0, y1, y2, y3, y4, y5, y6⟩ := bf7 hs5.hd
         have hs6 := (((((((hs5.setB 0 (.int .i64 tS)).setB 1 (.int .i64 tI)).setB 2 (.int .i64 tO)).setB 3 (.slice ga lA ca)).setB 4 (.slice gb lB cb)).setB 5 (.slice gc lC cc)).setB 6 (.slice gd lD cd))
         obtain ⟨z0, z1, z2, z3, z4, z5, z6⟩ := bq7 hs6.hd
         have HSF := Lib.hid (Sep.cutA (X := [_]) (A := [_, _]) (r := [KeepA w]) hs6.tl)
         clear x0 x1 x2 x3 x4 x5 x6 m0 m1 ha hb hc hd hsg hs5 hs6)))
    refine bodyPost_ret_by (v := .tuple #[.agg #[.int .i64 tS, .int .i64 tI, .int .i64 tO, .slice ga lA ca, .slice gb lB cb, .slice gc lC cc, .slice gd lD cd], .bool true]) ?_ rfl ⟨_, _, _, _, _, _, _, _, xa, xb, xc, xd, rfl, HXA.out, HXB.out, HXC.out, HXD.out, HSF.out⟩
    simp [results, go_sem, *]
theorem ss_nat' {p : Int} {s : StSp} (h : ssB p s = true) : SsK p s s.S.toNat s.I.toNat s.O.toNat := by
  obtain ⟨_, nS, nI, nO, hk⟩ := ss_k h
  have e1 : s.S.toNat = nS := by rw [hk.es]; rfl
  have e2 : s.I.toNat = nI := by rw [hk.ei]; rfl
  have e3 : s.O.toNat = nO := by rw [hk.eo]; rfl
  rw [e1, e2, e3]
  exact hk
/-- TransformSpace of the program. -/
theorem iTransform_any (p cols : Int) (s : StSp) (av bv cv dv u : Value) (M : List (List Int)) (w : World) (ht : Tab w) (h : RdSs w s av bv cv dv) (hs : SmS s) (hv : MatV w u M) (hl : M.length ≤ 1100000) (hll : ∀ row ∈ M, row.length ≤ 1100000) :
    Calls Tryd.prog 18 #[.int .i64 p, .agg #[.int .i64 s.S, .int .i64 s.I, .int .i64 s.O, av, bv, cv, dv], mxV cols u] w (GivesB (trRes p s cols M) (trOk p s cols M) w) := by
  unfold trRes
  cases hb : trOk p s cols M
  · simp only [Bool.false_eq_true, if_false]
    exact iTrans_no p cols s av bv cv dv u M w ht h hs hv hl hll hb
  · simp only [if_true]
    unfold trOk at hb
    simp only [Bool.and_eq_true, decide_eq_true_iff] at hb
    obtain ⟨⟨h1, h2⟩, h3⟩ := hb
    have hk := ss_nat' h1
    have hp := fldB_bd (ss_k h1).1
    obtain ⟨q, rfl⟩ : ∃ q : Nat, p = q := ⟨p.toNat, by omega⟩
    haveI : NeZero q := ⟨by omega⟩
    have h2' := h2
    unfold invOk at h2'
    simp only [Bool.and_eq_true, decide_eq_true_iff] at h2'
    obtain ⟨⟨h4, h5⟩, h6⟩ := h2'
    obtain ⟨hfld, hp2, n, hn, _, _, hM⟩ := matB_parts h4
    have e : n = s.S.toNat := by omega
    subst e
    have hm : M.length = s.S.toNat := by omega
    have hr := inv_rank hfld hM hm h6
    have g := ge hfld hM hm
    exact iTrans_yes q cols s av bv cv dv u M _ _ _ w ht h hs hv (lt_p hfld) hp2 h1 hk h2 hm hM (by rw [(inv_yes hfld hM hm hr).2]; exact g.okT) (by rw [(inv_yes hfld hM hm hr).2]; exact g.lenT)
/-- TransformSpace of the reference. -/
theorem sTransform_any (p cols : Int) (s : StSp) (av bv cv dv u : Value) (M : List (List Int)) (w : World) (h : RdSs w s av bv cv dv) (hs : SmS s) (hv : MatV w u M) (hl : M.length ≤ 1100000) (hll : ∀ row ∈ M, row.length ≤ 1100000) :
    Calls Tryd.prog 16 #[.int .i64 p, .agg #[.int .i64 s.S, .int .i64 s.I, .int .i64 s.O, av, bv, cv, dv], mxV cols u] w (GivesB (trRes p s cols M) (trOk p s cols M) w) := by
  unfold trRes
  cases hb : (ssB p s && (matB p cols M && (decide ((M.length : Int) = s.S) && decide (cols = s.S))))
  · have h0 : trOk p s cols M = false := by
      cases h : trOk p s cols M
      · rfl
      · unfold trOk invOk at h
        simp only [Bool.and_eq_true, decide_eq_true_iff] at h
        obtain ⟨⟨h1, ⟨h4, h5⟩, h6⟩, h3⟩ := h
        rw [h1, h4, decide_eq_true h3, decide_eq_true (show cols = s.S by omega)] at hb
        cases hb
    rw [h0]
    simp only [Bool.false_eq_true, if_false]
    exact sTrans_no p cols s av bv cv dv u M w h hs hv hl hll hb
  · simp only [Bool.and_eq_true, decide_eq_true_iff] at hb
    obtain ⟨h1, h4, h3, h5⟩ := hb
    have h0 : trOk p s cols M = invB p M := by
      unfold trOk invOk
      rw [h1, h4, decide_eq_true h3, decide_eq_true (show (M.length : Int) = cols by omega)]
      simp
    rw [h0]
    have hk := ss_nat' h1
    have hp := fldB_bd (ss_k h1).1
    obtain ⟨q, rfl⟩ : ∃ q : Nat, p = q := ⟨p.toNat, by omega⟩
    haveI : NeZero q := ⟨by omega⟩
    obtain ⟨hfld, hp2, n, hn, _, _, hM⟩ := matB_parts h4
    have e : n = s.S.toNat := by omega
    subst e
    subst hn
    exact sTrans_inv q s av bv cv dv u M _ _ _ w h hs hv hfld hp2 h1 hk h4 (by omega) hM
end Go.Proofs.YtghfifpicklonaaDoor

/-
  State spaces marked and held, and matrices sized, copied, compared and marked in the laws. Conditions: lengths are small.
-/
namespace Go.Proofs.YtghfifpicklonaaDoor
open Go.RowKit
set_option linter.unusedVariables false
set_option maxRecDepth 100000

/-- Rows counted through from k on. -/
def ctrL (k : Int) : List (List Int) → List (List Int)
  | [] => []
  | r :: R => cntI k r.length :: ctrL (k + r.length) R
theorem rws_mk (xs : List XR) : ∀ k : Int, rws (mkXRs k xs) = ctrL k (rws xs) := by
  induction xs with
  | nil => intro k; rfl
  | cons x r ih =>
    intro k
    show cntI k x.zs.length :: rws (mkXRs (k + x.zs.length) r) = cntI k x.zs.length :: ctrL (k + x.zs.length) (rws r)
    rw [ih]
theorem ctrL_len (L : List (List Int)) : ∀ k : Int, (ctrL k L).length = L.length := by
  induction L with
  | nil => intro k; rfl
  | cons x r ih => intro k; simp only [ctrL, List.length_cons, ih]
theorem ctrL_at (L : List (List Int)) : ∀ (k : Int) (i : Nat), i < L.length → (ctrL k L).getD i [] = cntI (k + totS (L.take i)) (L.getD i []).length := by
  induction L with
  | nil => intro k i hi; simp at hi
  | cons x r ih =>
    intro k i hi
    cases i with
    | zero => simp [ctrL, totS]
    | succ i =>
      have := ih (k + x.length) i (by simpa using hi)
      simp only [ctrL, List.getD_cons_succ, List.take_succ_cons, totS]
      rw [this, show k + (x.length : Int) + (totS (r.take i) : Int) = k + ((x.length + totS (r.take i) : Nat) : Int) by omega]
set_option maxHeartbeats 4000000 in
theorem heldIntSS_any (a : Option Addr) (n c : Nat) (L : List (List Int)) (k : Int) (w : World) (hv : RdS w (.slice a n c) (ctrL k L)) (hn : n = L.length) (hn2 : n ≤ 2000000) (hl : totS L ≤ 2000000) (h0 : 0 ≤ k) (h1 : k ≤ 50000000) :
    Calls Tryd.prog 50 #[.slice a n c, .int .i64 k] w fun e w' => e = .returned (.int .i64 (k + totS L)) ∧ w.grownBy w' none := by
  have HV := Lib.hid hv; have HN := Lib.hid hn.symm
  clear hv hn
  go_enter Tryd.func50, Tryd.ntmps50
  go_wp2
  go_loopw [1, 5] (fun kv i wr => ∃ (j : Nat), j ≤ n ∧ i = .int .i64 j ∧ kv = .int .i64 (k + totS (L.take j)) ∧ w.grownBy wr none) (fun _ i _ => n - (intOf i).toNat)
  case atStart => exact ⟨0, by omega, rfl, by simp [totS], grownBy_refl _ _⟩
  case round =>
    obtain ⟨j, hj, rfl, rfl, hg⟩ := hrel
    have HG := Lib.hid hg
    clear hg
    by_cases hlt : j < n
    · have hjl : j < L.length := by rw [HN.out]; exact hlt
      have HT := Lib.hid (totS_take L j hjl)
      have hle := totS_le L (j + 1)
      obtain ⟨b, o, rv, rfl, _, q0, hr⟩ := (HV.out.carry HG.out).at (show j < (ctrL k L).length by rw [ctrL_len]; exact hjl)
      rw [ctrL_at L k j hjl] at hr
      have ht := HT.out
      generalize (L.getD j []).length = m at *
      obtain ⟨ra, rc, he⟩ := hr.shape
      rw [cntI_len] at he
      subst he
      obtain ⟨q, hq⟩ : ∃ q : Int, k + totS (L.take j) = q := ⟨_, rfl⟩
      rw [hq] at hr
      have HC := Lib.hid (heldIntS_any ra m rc q wr hr (by omega) (by omega) (by omega))
      have hq2 : k + totS (L.take (j + 1)) = q + m := by omega
      have hneg : ¬ (q + (m : Int) < 0) := by omega
      have HQ2 := Lib.hid hq2
      have hji : (j : Int) < (n : Int) := by omega
      rw [hq]
      clear hr hq hq2 ht hle hjl
      go_wp2_with (
        go_at_call 43
        with_reducible refine HC.out.mono ?_
        rintro e w2 ⟨rfl, rfl⟩)
      go_roundw
      case rel => exact ⟨j + 1, by omega, by go_num, by rw [HQ2.out], HG.out⟩
      case measure => simp [intOf]; omega
    · have hjn : n = j := by omega
      subst hjn
      have hT : L.take n = L := List.take_of_length_le (by rw [HN.out]; exact Nat.le_refl _)
      rw [hT]
      clear hT
      go_wp2
      go_ret
      exact ⟨rfl, HG.out⟩
/-- How many numbers a state space holds in its rows. -/
def cntSS (s : StSp) : Nat := totS s.A + totS s.B + totS s.C + totS s.D
/-- Its rows counted through from k on. -/
def mkSS (k : Int) (s : StSp) : StSp := ⟨s.S, s.I, s.O, ctrL k s.A, ctrL (k + totS s.A) s.B, ctrL (k + totS s.A + totS s.B) s.C, ctrL (k + totS s.A + totS s.B + totS s.C) s.D⟩
set_option maxHeartbeats 4000000 in
theorem markSS2_any (s : StSp) (sa sb sc sd : Option Addr) (ta tb tc td : Nat) (xa xb xc xd : List XR) (k : Int) (w : World) (l : List Asrt) (hs : Sep w (OX4 (.slice sa s.A.length ta) xa (.slice sb s.B.length tb) xb (.slice sc s.C.length tc) xc (.slice sd s.D.length td) xd :: l)) (ha : rws xa = s.A) (hb : rws xb = s.B) (hc : rws xc = s.C) (hd : rws xd = s.D) (ht : totSS s ≤ 1048576) (h0 : 0 ≤ k) (h1 : k ≤ 10000000) :
    Calls Tryd.prog 12 #[.agg #[.int .i64 s.S, .int .i64 s.I, .int .i64 s.O, .slice sa s.A.length ta, .slice sb s.B.length tb, .slice sc s.C.length tc, .slice sd s.D.length td], .int .i64 k] w fun e w' => e = .returned (.int .i64 (k + cntSS s)) ∧ ∃ ya yb yc yd, rws ya = (mkSS k s).A ∧ rws yb = (mkSS k s).B ∧ rws yc = (mkSS k s).C ∧ rws yd = (mkSS k s).D ∧ Sep w' (OX4 (.slice sa s.A.length ta) ya (.slice sb s.B.length tb) yb (.slice sc s.C.length tc) yc (.slice sd s.D.length td) yd :: l) := by
  unfold totSS tS at ht
  have lA : s.A.length = xa.length := by rw [← ha, rws_len]
  have uA : totS (rws xa) ≤ 1048576 := by rw [ha]; omega
  have lB : s.B.length = xb.length := by rw [← hb, rws_len]
  have uB : totS (rws xb) ≤ 1048576 := by rw [hb]; omega
  have lC : s.C.length = xc.length := by rw [← hc, rws_len]
  have uC : totS (rws xc) ≤ 1048576 := by rw [hc]; omega
  have lD : s.D.length = xd.length := by rw [← hd, rws_len]
  have uD : totS (rws xd) ≤ 1048576 := by rw [hd]; omega
  obtain ⟨k1, e1⟩ : ∃ q, q = k + (totS (rws xa) : Int) := ⟨_, rfl⟩
  have HM1 := Lib.hid fun W l (h : Sep W (OS (.slice sa s.A.length ta) xa :: l)) => markIntSS_any sa s.A.length ta xa k W l h lA (by omega) (by omega) (by omega) (by omega)
  rw [← e1] at HM1
  obtain ⟨k2, e2⟩ : ∃ q, q = k1 + (totS (rws xb) : Int) := ⟨_, rfl⟩
  have HM2 := Lib.hid fun W l (h : Sep W (OS (.slice sb s.B.length tb) xb :: l)) => markIntSS_any sb s.B.length tb xb k1 W l h lB (by omega) (by omega) (by omega) (by omega)
  rw [← e2] at HM2
  obtain ⟨k3, e3⟩ : ∃ q, q = k2 + (totS (rws xc) : Int) := ⟨_, rfl⟩
  have HM3 := Lib.hid fun W l (h : Sep W (OS (.slice sc s.C.length tc) xc :: l)) => markIntSS_any sc s.C.length tc xc k2 W l h lC (by omega) (by omega) (by omega) (by omega)
  rw [← e3] at HM3
  obtain ⟨k4, e4⟩ : ∃ q, q = k3 + (totS (rws xd) : Int) := ⟨_, rfl⟩
  have HM4 := Lib.hid fun W l (h : Sep W (OS (.slice sd s.D.length td) xd :: l)) => markIntSS_any sd s.D.length td xd k3 W l h lD (by omega) (by omega) (by omega) (by omega)
  rw [← e4] at HM4
  have HE := Lib.hid (show k4 = k + cntSS s from by unfold cntSS; rw [e4, e3, e2, e1, ha, hb, hc, hd]; omega)
  have HXA := Lib.hid (show rws (mkXRs k xa) = (mkSS k s).A from by rw [rws_mk, ha]; rfl)
  have HXB := Lib.hid (show rws (mkXRs k1 xb) = (mkSS k s).B from by rw [rws_mk, hb, e1, ha]; rfl)
  have HXC := Lib.hid (show rws (mkXRs k2 xc) = (mkSS k s).C from by rw [rws_mk, hc, e2, e1, ha, hb]; rfl)
  have HXD := Lib.hid (show rws (mkXRs k3 xd) = (mkSS k s).D from by rw [rws_mk, hd, e3, e2, e1, ha, hb, hc]; rfl)
  have hs0 := (Sep.unbag (l := [_, _, _, _]) hs).box #[.int .i64 s.S, .int .i64 s.I, .int .i64 s.O, .slice sa s.A.length ta, .slice sb s.B.length tb, .slice sc s.C.length tc, .slice sd s.D.length td] 32
  have HS0 := Lib.hid (Sep.blk (A := [_]) (B := [_, _, _, _]) hs0)
  clear hs hs0 ht ha hb hc hd e1 e2 e3 e4 uA uB uC uD lA lB lC lD
  rw [← HE.out]
  generalize (mkSS k s).A = qA at *
  generalize (mkSS k s).B = qB at *
  generalize (mkSS k s).C = qC at *
  generalize (mkSS k s).D = qD at *
  generalize cntSS s = cs at *
  generalize s.A.length = nA at *
  generalize s.B.length = nB at *
  generalize s.C.length = nC at *
  generalize s.D.length = nD at *
  go_enter Tryd.func12, Tryd.ntmps12
  go_wp2_with (first
    | (go_at_call 39
       with_reducible refine (HM1.out _ _ HS0.out).mono ?_
       rintro e w1 ⟨rfl, hs⟩
       have hs2 := Sep.blk (A := [_]) (B := [_, _, _]) hs
       obtain ⟨x0, x1, x2, x3, x4, x5, x6⟩ := bq7 hs2.tl.tl.tl.tl.hd
       have HS1 := Lib.hid hs2
       clear hs hs2)
    | (go_at_call 39
       with_reducible refine (HM2.out _ _ HS1.out).mono ?_
       rintro e w2 ⟨rfl, hs⟩
       clear x0 x1 x2 x3 x4 x5 x6
       have hs2 := Sep.blk (A := [_]) (B := [_, _, _]) hs
       obtain ⟨x0, x1, x2, x3, x4, x5, x6⟩ := bq7 hs2.tl.tl.tl.tl.hd
       have HS2 := Lib.hid hs2
       clear hs hs2)
    | (go_at_call 39
       with_reducible refine (HM3.out _ _ HS2.out).mono ?_
       rintro e w3 ⟨rfl, hs⟩
       clear x0 x1 x2 x3 x4 x5 x6
       have hs2 := Sep.blk (A := [_]) (B := [_, _, _]) hs
       obtain ⟨x0, x1, x2, x3, x4, x5, x6⟩ := bq7 hs2.tl.tl.tl.tl.hd
       have HS3 := Lib.hid hs2
       clear hs hs2)
    | (go_at_call 39
       with_reducible refine (HM4.out _ _ HS3.out).mono ?_
       rintro e w4 ⟨rfl, hs⟩
       clear x0 x1 x2 x3 x4 x5 x6
       have hs2 := Sep.blk (A := [_]) (B := [_, _, _]) hs
       obtain ⟨x0, x1, x2, x3, x4, x5, x6⟩ := bq7 hs2.tl.tl.tl.tl.hd
       have HS4 := Lib.hid hs2
       clear hs hs2))
  go_ret
  exact ⟨rfl, _, _, _, _, HXA.out, HXB.out, HXC.out, HXD.out, Sep.bag (l := [_, _, _, _]) (Sep.cutA (X := [_, _, _, _]) (A := [_]) HS4.out)⟩
set_option maxHeartbeats 4000000 in
theorem heldSS_any (s : StSp) (av bv cv dv : Value) (k : Int) (w : World) (h : RdSs w (mkSS k s) av bv cv dv) (ht : totSS s ≤ 1048576) (h0 : 0 ≤ k) (h1 : k ≤ 10000000) :
    Calls Tryd.prog 21 #[.agg #[.int .i64 s.S, .int .i64 s.I, .int .i64 s.O, av, bv, cv, dv], .int .i64 k] w fun e w' => e = .returned (.int .i64 (k + cntSS s)) ∧ w.grownBy w' none := by
  unfold totSS tS at ht
  obtain ⟨sa, ta, ea⟩ := h.a.shape
  have ea2 : (mkSS k s).A.length = s.A.length := ctrL_len _ _
  rw [ea2] at ea
  subst ea
  obtain ⟨sb, tb, eb⟩ := h.b.shape
  have eb2 : (mkSS k s).B.length = s.B.length := ctrL_len _ _
  rw [eb2] at eb
  subst eb
  obtain ⟨sc, tc, ec⟩ := h.c.shape
  have ec2 : (mkSS k s).C.length = s.C.length := ctrL_len _ _
  rw [ec2] at ec
  subst ec
  obtain ⟨sd, td, ed⟩ := h.d.shape
  have ed2 : (mkSS k s).D.length = s.D.length := ctrL_len _ _
  rw [ed2] at ed
  subst ed
  have HM1 := Lib.hid fun W (hw : w.grownBy W none) => heldIntSS_any sa s.A.length ta s.A (k) W (h.a.carry hw) rfl (by omega) (by omega) (by omega) (by omega)
  obtain ⟨k1, f1⟩ : ∃ q : Int, k + (totS s.A : Int) = q := ⟨_, rfl⟩
  have HM2 := Lib.hid fun W (hw : w.grownBy W none) => heldIntSS_any sb s.B.length tb s.B (k + (totS s.A : Int)) W (h.b.carry hw) rfl (by omega) (by omega) (by omega) (by omega)
  obtain ⟨k2, f2⟩ : ∃ q : Int, k + (totS s.A : Int) + (totS s.B : Int) = q := ⟨_, rfl⟩
  have HM3 := Lib.hid fun W (hw : w.grownBy W none) => heldIntSS_any sc s.C.length tc s.C (k + (totS s.A : Int) + (totS s.B : Int)) W (h.c.carry hw) rfl (by omega) (by omega) (by omega) (by omega)
  obtain ⟨k3, f3⟩ : ∃ q : Int, k + (totS s.A : Int) + (totS s.B : Int) + (totS s.C : Int) = q := ⟨_, rfl⟩
  have HM4 := Lib.hid fun W (hw : w.grownBy W none) => heldIntSS_any sd s.D.length td s.D (k + (totS s.A : Int) + (totS s.B : Int) + (totS s.C : Int)) W (h.d.carry hw) rfl (by omega) (by omega) (by omega) (by omega)
  obtain ⟨k4, f4⟩ : ∃ q : Int, k + (totS s.A : Int) + (totS s.B : Int) + (totS s.C : Int) + (totS s.D : Int) = q := ⟨_, rfl⟩
  rw [f1] at HM1
  rw [f2] at HM2
  rw [f3] at HM3
  rw [f4] at HM4
  rw [f1] at HM2
  rw [f2] at HM3
  rw [f3] at HM4
  have HE := Lib.hid (show k4 = k + cntSS s from by unfold cntSS; omega)
  rw [← HE.out]
  have g1 : ¬ k1 < 0 := by omega
  have g2 : ¬ k2 < 0 := by omega
  have g3 : ¬ k3 < 0 := by omega
  have g4 : ¬ k4 < 0 := by omega
  have hs0 := (Sep.start w).box #[.int .i64 s.S, .int .i64 s.I, .int .i64 s.O, .slice sa s.A.length ta, .slice sb s.B.length tb, .slice sc s.C.length tc, .slice sd s.D.length td] 32
  have HS0 := Lib.hid hs0
  have HK0 := Lib.hid (show w.grownBy _ none from hs0.tl.hd)
  clear h ht hs0 f1 f2 f3 f4 ea2 eb2 ec2 ed2
  generalize cntSS s = cs at *
  generalize s.A.length = nA at *
  generalize s.B.length = nB at *
  generalize s.C.length = nC at *
  generalize s.D.length = nD at *
  go_enter Tryd.func21, Tryd.ntmps21
  go_wp2_with (first
    | (go_at_call 50
       with_reducible refine (HM1.out _ HK0.out).mono ?_
       rintro e w1 ⟨rfl, hg⟩
       have hs := HS0.out.grown hg
       obtain ⟨x0, x1, x2, x3, x4, x5, x6⟩ := bq7 hs.hd
       have HS1 := Lib.hid hs
       have HK1 := Lib.hid (show w.grownBy _ none from hs.tl.hd)
       clear hg hs)
    | (go_at_call 50
       with_reducible refine (HM2.out _ HK1.out).mono ?_
       rintro e w2 ⟨rfl, hg⟩
       clear x0 x1 x2 x3 x4 x5 x6
       have hs := HS1.out.grown hg
       obtain ⟨x0, x1, x2, x3, x4, x5, x6⟩ := bq7 hs.hd
       have HS2 := Lib.hid hs
       have HK2 := Lib.hid (show w.grownBy _ none from hs.tl.hd)
       clear hg hs)
    | (go_at_call 50
       with_reducible refine (HM3.out _ HK2.out).mono ?_
       rintro e w3 ⟨rfl, hg⟩
       clear x0 x1 x2 x3 x4 x5 x6
       have hs := HS2.out.grown hg
       obtain ⟨x0, x1, x2, x3, x4, x5, x6⟩ := bq7 hs.hd
       have HS3 := Lib.hid hs
       have HK3 := Lib.hid (show w.grownBy _ none from hs.tl.hd)
       clear hg hs)
    | (go_at_call 50
       with_reducible refine (HM4.out _ HK3.out).mono ?_
       rintro e w4 ⟨rfl, hg⟩
       clear x0 x1 x2 x3 x4 x5 x6
       have hs := HS3.out.grown hg
       obtain ⟨x0, x1, x2, x3, x4, x5, x6⟩ := bq7 hs.hd
       have HS4 := Lib.hid hs
       have HK4 := Lib.hid (show w.grownBy _ none from hs.tl.hd)
       clear hg hs))
  go_ret
  exact ⟨rfl, HK4.out⟩
/-! ### matrices -/
set_option maxHeartbeats 4000000 in
theorem szMx_any (cols : Int) (v : Value) (L : List (List Int)) (left : Int) (w : World) (h : RdS w v L) (h0 : 0 ≤ left) (h1 : left ≤ 1048576) (hok : okS L) :
    Calls Tryd.prog 15 #[mxV cols v, .int .i64 left] w fun e w' => e = .returned (.int .i64 (lft left (tS L))) ∧ w.grownBy w' none := by
  obtain ⟨a, c, rfl⟩ := h.shape
  have HC := Lib.hid fun W (hw : w.grownBy W none) => show Calls Tryd.prog 28 #[.slice a L.length c, .int .i64 left] W fun e w' => e = .returned (.int .i64 (lft left (tS L))) ∧ W.grownBy w' none from szIntSS_any a L.length c L left W (h.carry hw) rfl h0 h1 hok
  unfold mxV
  have hs0 := (Sep.start w).box #[.int .i64 cols, .slice a L.length c] 40
  have HS0 := Lib.hid hs0
  have HK0 := Lib.hid (show w.grownBy _ none from hs0.tl.hd)
  have hq : lft left (tS L) < 0 → lft left (tS L) = -1 := lft_eq
  clear h hok hs0
  generalize L.length = n at *
  generalize lft left (tS L) = r at *
  by_cases hr : r < 0
  · have hr2 := hq hr
    subst hr2
    clear hq
    go_enter Tryd.func15, Tryd.ntmps15
    go_wp2_with (
      go_at_call 28
      with_reducible refine (HC.out _ HK0.out).mono ?_
      rintro e w1 ⟨rfl, hg⟩
      have HK1 := Lib.hid (grownBy_trans HK0.out hg)
      clear hg)
    go_ret
    exact ⟨rfl, HK1.out⟩
  · clear hq
    go_enter Tryd.func15, Tryd.ntmps15
    go_wp2_with (
      go_at_call 28
      with_reducible refine (HC.out _ HK0.out).mono ?_
      rintro e w1 ⟨rfl, hg⟩
      have HK1 := Lib.hid (grownBy_trans HK0.out hg)
      clear hg)
    go_ret
    exact ⟨rfl, HK1.out⟩
/-- What hands back a matrix of its own. -/
def GivesM (cols : Int) (L : List (List Int)) (w : World) (e : Ending) (w' : World) : Prop :=
  ∃ (a : Option Addr) (c : Nat) (xs : List XR), e = .returned (.agg #[.int .i64 cols, .slice a L.length c]) ∧ rws xs = L ∧ Sep w' [OS (.slice a L.length c) xs, KeepA w]
set_option maxHeartbeats 4000000 in
theorem toMx_any (cols : Int) (v : Value) (L : List (List Int)) (w : World) (h : RdS w v L) (hl : L.length ≤ 2000000) (hle : ∀ r ∈ L, r.length ≤ 2000000) :
    Calls Tryd.prog 17 #[mxV cols v] w (GivesM cols L w) := by
  have HT := Lib.hid fun W (hw : w.grownBy W none) => toIntSS_any v L W (h.carry hw) hl hle
  unfold GivesM OwnS mxV at *
  obtain ⟨sa, ta, rfl⟩ := h.shape
  have HS0 := Lib.hid ((((Sep.start w).box #[.int .i64 cols, .slice sa L.length ta] 40).boxAt (w.heap.size + 1) (by simp) #[.int .i64 0, .slice none 0 0] 44).boxAt (w.heap.size + 1 + 1) (by simp) #[.int .i64 cols, .slice none 0 0] 44)
  have HK0 := Lib.hid (show w.grownBy _ none from HS0.out.tl.tl.tl.hd)
  clear h hl hle
  generalize L.length = n at *
  go_enter Tryd.func17, Tryd.ntmps17
  go_wp2_with (
    go_at_call 32
    go_loud (
    with_reducible refine (HT.out _ HK0.out).mono ?_
    rintro e v1 ⟨ga, ca, xa, rfl, hx, hsg⟩
    have HXA := Lib.hid hx
    have hs1 := Sep.blk (A := [_]) (B := [_]) (HS0.out.graft1 hsg OS_own)
    obtain ⟨x0, x1, y0, y1⟩ := bb2 hs1.hd
    have hs2 := hs1.setB 1 (.slice ga n ca)
    obtain ⟨z0, z1, _, _⟩ := bb2 hs2.hd
    have hs3 := Sep.blk (A := [_, _]) (B := [_]) hs2
    obtain ⟨r0, r1, q0, q1⟩ := bb2 hs3.hd
    have hs4 := (hs3.setB 0 (.int .i64 cols)).setB 1 (.slice ga n ca)
    obtain ⟨k0, k1, _, _⟩ := bb2 hs4.hd
    have HSF := Lib.hid (Sep.cutA (X := [_]) (A := [_]) (r := [KeepA w]) hs4.tl.tl)
    clear hx hsg hs1 hs2 hs3 hs4))
  refine bodyPost_ret_by (v := .agg #[.int .i64 cols, .slice ga n ca]) ?_ rfl ⟨_, _, xa, rfl, HXA.out, HSF.out⟩
  simp [results, go_sem, *]
set_option maxHeartbeats 4000000 in
theorem eqMx_same (cols : Int) (v v' : Value) (L : List (List Int)) (w : World) (h : RdS w v L) (h' : RdS w v' L) (hl : L.length ≤ 2000000) (hle : ∀ r ∈ L, r.length ≤ 1000000000) :
    Calls Tryd.prog 19 #[mxV cols v, mxV cols v'] w fun e w' => e = .returned (.bool true) ∧ w.grownBy w' none := by
  have HE := Lib.hid fun W (hw : w.grownBy W none) => eqIntSS_same v v' L W (h.carry hw) (h'.carry hw) hl hle
  unfold mxV
  obtain ⟨sa, ta, rfl⟩ := h.shape
  obtain ⟨sb, tb, rfl⟩ := h'.shape
  have hs0 := ((Sep.start w).box #[.int .i64 cols, .slice sa L.length ta] 44).boxAt (w.heap.size + 1) (by simp) #[.int .i64 cols, .slice sb L.length tb] 44
  obtain ⟨x0, x1, _, _⟩ := bb2 hs0.hd
  obtain ⟨y0, y1, _, _⟩ := bb2 hs0.tl.hd
  have HK0 := Lib.hid (show w.grownBy _ none from hs0.tl.tl.hd)
  have hne : (cols != cols) = false := by simp
  clear h h' hl hle hs0
  generalize L.length = n at *
  go_enter Tryd.func19, Tryd.ntmps19
  go_wp2_with (
    go_at_call 38
    with_reducible refine (HE.out _ HK0.out).mono ?_
    rintro e w1 ⟨rfl, hg⟩
    have HK1 := Lib.hid (grownBy_trans HK0.out hg)
    clear hg)
  go_ret
  exact ⟨rfl, HK1.out⟩
set_option maxHeartbeats 4000000 in
theorem markMx_any (cols : Int) (a : Option Addr) (c : Nat) (L : List (List Int)) (xs : List XR) (k : Int) (w : World) (l : List Asrt) (hs : Sep w (OS (.slice a L.length c) xs :: l)) (hx : rws xs = L) (ht : tS L ≤ 1048576) (h0 : 0 ≤ k) (h1 : k ≤ 10000000) :
    Calls Tryd.prog 20 #[mxV cols (.slice a L.length c), .int .i64 k] w (MarkR (k + 1048576) l) := by
  have hl : L.length = xs.length := by rw [← hx, rws_len]
  have ht' := ht
  unfold tS at ht'
  have HM := Lib.hid fun W l (h : Sep W (OS (.slice a L.length c) xs :: l)) => markIntSS_any a L.length c xs k W l h hl (by omega) (by rw [hx]; omega) h0 (by omega)
  rw [hx] at HM
  have hb : totS L ≤ 1048576 := by omega
  unfold MarkR mxV
  generalize totS L = tt at *
  generalize L.length = n at *
  have hs0 := hs.box #[.int .i64 cols, .slice a n c] 44
  obtain ⟨x0, x1, _, _⟩ := bb2 hs0.hd
  have HS0 := Lib.hid hs0.s2
  clear hs hs0 hx hl ht ht'
  obtain ⟨q, hq⟩ : ∃ q : Int, k + (tt : Int) = q := ⟨_, rfl⟩
  rw [hq] at HM
  have HQ := Lib.hid (show 0 ≤ q ∧ q ≤ k + 1048576 from by omega)
  clear hq hb
  go_enter Tryd.func20, Tryd.ntmps20
  go_wp2_with (
    go_at_call 39
    with_reducible refine (HM.out _ _ HS0.out).mono ?_
    rintro e w1 ⟨rfl, hs⟩
    have HSF := Lib.hid hs.tl.tl
    clear hs)
  go_ret
  exact ⟨q, rfl, HQ.out.1, HQ.out.2, HSF.out⟩
end Go.Proofs.YtghfifpicklonaaDoor

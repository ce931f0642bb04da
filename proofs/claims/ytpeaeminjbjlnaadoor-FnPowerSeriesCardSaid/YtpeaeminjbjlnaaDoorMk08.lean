/-
  The specification's field functions and its matrix check. Conditions: the numbers are small.
-/
import Derived.Test.YtpeaeminjbjlnaaDoorMk07
import Derived.Deep.AppendLies
import Derived.Deep.RegionLaw
namespace Go.Proofs.YtpeaeminjbjlnaaDoor
open Go.RowKit
set_option linter.unusedVariables false

theorem pSame_any (ca cb : Int) (u v : Value) (A L : List (List Int)) (w : World) (hu : MatV w u A) (hv : MatV w v L) (l1 : A.length ≤ 1000000) (l2 : L.length ≤ 1000000) (m1 : ∀ row ∈ A, row.length ≤ 1000000) (m2 : ∀ row ∈ L, row.length ≤ 1000000) :
    Calls Tryd.prog 28 #[mxV ca u, mxV cb v] w fun e w' => e = .returned (.bool (ca == cb && A == L)) ∧ w.grownBy w' none := by
  have HS := Lib.hid fun w1 (hg : w.grownBy w1 none) => sameLists_q u v A L w1 (hu.carry hg) (hv.carry hg) l1 l2 m1 m2
  obtain ⟨ua, uc, rfl⟩ := hu.shape
  obtain ⟨va, vc, rfl⟩ := hv.shape
  clear hu hv m1 m2
  unfold mxV
  generalize A.length = la at *
  generalize L.length = ll at *
  have HG := Lib.hid fun o1 o2 => (grownBy_alloc w o1 none).trans (grownBy_alloc _ o2 none)
  by_cases h : ca = cb
  · have hb : (ca == cb) = true := beq_iff_eq.2 h
    have HB := Lib.hid hb
    generalize hx : (A == L) = x at *
    have HX := Lib.hid hx
    clear hx
    go_enter Tryd.func28, Tryd.ntmps28
    go_wp2_with (go_at_call 53; with_reducible refine (HS.out _ (HG.out _ _)).mono ?_; rintro e w' ⟨rfl, q, rfl⟩)
    go_ret
    exact ⟨by rw [HB.out]; rfl, (HG.out _ _).trans (grown_drewN _ _)⟩
  · have hb : (ca == cb) = false := beq_eq_false_iff_ne.2 h
    have HB := Lib.hid hb
    go_enter Tryd.func28, Tryd.ntmps28
    go_wp2
    go_ret
    exact ⟨by rw [HB.out]; rfl, HG.out _ _⟩

theorem fdMulS_any (p a b : Int) (w : World) (hp : 1 ≤ p) (hp2 : p ≤ 1000) (ha : 0 ≤ a) (ha2 : a ≤ 1000) (hb : 0 ≤ b) (hb2 : b ≤ 1000) : Calls Tryd.prog 199 #[.int .i64 p, .int .i64 a, .int .i64 b] w fun e w' => e = .returned (.int .i64 (a * b % p)) ∧ w = w' := by
  have h := mul_bd ha ha2 hb hb2
  have h1 := Int.emod_nonneg (a * b) (show p ≠ 0 by omega)
  have h2 := Int.emod_lt_of_pos (a * b) (show 0 < p by omega)
  go_enter Tryd.func199, Tryd.ntmps199
  go_wp2
  go_ret
  exact ⟨rfl, rfl⟩
theorem fdSubS_any (p a b : Int) (w : World) (hp : 1 ≤ p) (hp2 : p ≤ 1000) (ha : 0 ≤ a) (ha2 : a ≤ 1000) (hb : 0 ≤ b) (hb2 : b ≤ p) : Calls Tryd.prog 245 #[.int .i64 p, .int .i64 a, .int .i64 b] w fun e w' => e = .returned (.int .i64 ((a + p - b) % p)) ∧ w = w' := by
  have h1 := Int.emod_nonneg (a + p - b) (show p ≠ 0 by omega)
  have h2 := Int.emod_lt_of_pos (a + p - b) (show 0 < p by omega)
  have h3 : 0 ≤ a + p - b := by omega
  go_enter Tryd.func245, Tryd.ntmps245
  go_wp2
  go_ret
  exact ⟨rfl, rfl⟩

theorem fdNegS_any (p a : Int) (w : World) (hp : 1 ≤ p) (hp2 : p ≤ 1000) (ha : 0 ≤ a) (ha2 : a ≤ p) : Calls Tryd.prog 237 #[.int .i64 p, .int .i64 a] w fun e w' => ∃ r, e = .returned (.int .i64 r) ∧ 0 ≤ r ∧ r < p ∧ w = w' := by
  have h1 := Int.emod_nonneg (p - a) (show p ≠ 0 by omega)
  have h2 := Int.emod_lt_of_pos (p - a) (show 0 < p by omega)
  have H := Lib.hid (And.intro h1 h2)
  obtain ⟨d, hd⟩ : ∃ d, d = p - a := ⟨_, rfl⟩
  clear h1 h2
  go_enter Tryd.func237, Tryd.ntmps237
  go_wp2
  go_ret
  refine ⟨_, rfl, ?_, ?_, rfl⟩
  · have := H.out.1; simpa using this
  · have := H.out.2; simpa using this

theorem inv_unique {p : Nat} [NeZero p] {a x : Int} (hf : fldN p = true) (ha : 0 < a) (ha2 : a < p) (hx : 0 ≤ x) (hx2 : x < p) (h : a * x % p = 1) : x = invI p a := by
  have h1 := toF_inv hf ha ha2
  have hp := lt_p hf
  have h2 : toF p a * toF p x = 1 := by
    rw [← toF_mul, ← toF_one, toF_eq, h, Int.emod_eq_of_lt (by omega) (by omega)]
  have h3 : toF p x = toF p (invI p a) := by
    have : toF p x = toF p x * (toF p a * toF p (invI p a)) := by rw [h1]; grind
    rw [this]
    grind
  have hb : 0 ≤ invI p a ∧ invI p a < p := by
    unfold invI
    exact ⟨Int.emod_nonneg _ (by omega), Int.emod_lt_of_pos _ (by omega)⟩
  exact toF_inj hx hx2 hb.1 hb.2 h3
theorem inv_ok {p : Nat} [NeZero p] {a : Int} (hf : fldN p = true) (ha : 0 < a) (ha2 : a < p) : a * invI p a % p = 1 ∧ 1 ≤ invI p a ∧ invI p a < p := by
  have h1 := toF_inv hf ha ha2
  have hp := lt_p hf
  rw [← toF_mul, ← toF_one, toF_eq, Int.emod_eq_of_lt (show (0 : Int) ≤ 1 by omega) (by omega)] at h1
  have hb : 0 ≤ invI p a ∧ invI p a < p := by
    unfold invI
    exact ⟨Int.emod_nonneg _ (by omega), Int.emod_lt_of_pos _ (by omega)⟩
  refine ⟨h1, ?_, hb.2⟩
  rcases Int.lt_or_le (invI p a) 1 with h | h
  · have : invI p a = 0 := by omega
    rw [this] at h1
    simp at h1
  · exact h

theorem fdInvS_any (p : Nat) [NeZero p] (a : Int) (w : World) (hf : fldN p = true) (hp2 : p ≤ 1000) (ha : 0 < a) (ha2 : a < p) : Calls Tryd.prog 198 #[.int .i64 p, .int .i64 a] w fun e w' => e = .returned (.int .i64 (invI p a)) ∧ w = w' := by
  have hp := lt_p hf
  have HU := Lib.hid fun x h1 h2 h3 => inv_unique (x := x) hf ha ha2 h1 h2 h3
  have HOK := Lib.hid (inv_ok hf ha ha2)
  clear hf
  go_enter Tryd.func198, Tryd.ntmps198
  go_wp2
  go_loop [5] (fun i => ∃ k : Nat, 1 ≤ k ∧ k ≤ p ∧ i = .int .i64 k ∧ ∀ j : Nat, 1 ≤ j → j < k → a * j % p ≠ 1) (fun i => p - (intOf i).toNat)
  case atStart => exact ⟨1, by omega, by omega, rfl, fun j h1 h2 => absurd h1 (by omega)⟩
  case round =>
    obtain ⟨k, hk1, hk, rfl, ho⟩ := hrel
    have HO := Lib.hid ho
    clear ho
    by_cases hlt : k < p
    · have b1 := mul_bd (x := a) (y := k) (X := 1000) (Y := 1000) (by omega) (by omega) (by omega) (by omega)
      have b2 := Int.emod_nonneg (a * k) (show (p : Int) ≠ 0 by omega)
      have b3 := Int.emod_lt_of_pos (a * k) (show (0 : Int) < p by omega)
      by_cases h1 : a * k % p = 1
      · have hb : (a * k % p == 1) = true := beq_iff_eq.2 h1
        have HE := Lib.hid (HU.out k (by omega) (by omega) h1)
        clear h1
        go_wp2
        go_ret
        exact ⟨by rw [← HE.out]; rfl, rfl⟩
      · have hb : (a * k % p == 1) = false := beq_eq_false_iff_ne.2 h1
        have HE := Lib.hid h1
        clear h1
        go_wp2
        go_round
        case rel => exact ⟨k + 1, by omega, by omega, by go_num, fun j h2 h3 => by
          by_cases hj : j = k
          · subst hj; exact HE.out
          · exact HO.out j h2 (by omega)⟩
        case measure => simp [intOf]; omega
    · exfalso
      obtain ⟨h1, h2, h3⟩ := HOK.out
      refine HO.out (invI p a).toNat (by omega) (by omega) ?_
      rw [Int.toNat_of_nonneg (by omega)]
      exact h1
theorem fdNegE_any (p a : Int) (w : World) (hp : 1 ≤ p) (hp2 : p ≤ 1000) (ha : 0 ≤ a) (ha2 : a ≤ p) : Calls Tryd.prog 237 #[.int .i64 p, .int .i64 a] w fun e w' => e = .returned (.int .i64 ((p - a) % p)) ∧ w = w' := by
  have h1 := Int.emod_nonneg (p - a) (show p ≠ 0 by omega)
  have h2 := Int.emod_lt_of_pos (p - a) (show 0 < p by omega)
  go_enter Tryd.func237, Tryd.ntmps237
  go_wp2
  go_ret
  exact ⟨rfl, rfl⟩
end Go.Proofs.YtpeaeminjbjlnaaDoor

/-
  The specification's row functions. Conditions: the numbers are small.
-/
namespace Go.Proofs.YtpeaeminjbjlnaaDoor
open Go.RowKit
set_option linter.unusedVariables false

theorem l1All_any (lo hi : Int) (v : Value) (zs : List Int) (w : World) (hv : IntsV w v zs) (hl : zs.length ≤ 1000000) :
    Calls Tryd.prog 278 #[v, .int .i64 lo, .int .i64 hi] w fun e w' => e = .returned (.bool (zs.all fun n => decide (lo ≤ n ∧ n ≤ hi))) ∧ w = w' := by
  have HV := Lib.hid hv
  obtain ⟨a, c, rfl, hx⟩ := hv
  clear hx
  generalize hlen : zs.length = l at *
  have HL := Lib.hid hlen
  clear hlen
  generalize hbb : (zs.all fun n => decide (lo ≤ n ∧ n ≤ hi)) = bb
  have HBB := Lib.hid hbb
  clear hbb
  go_enter Tryd.func278, Tryd.ntmps278
  go_wp2
  go_loop [11] (fun i => ∃ k : Nat, k ≤ l ∧ i = .int .i64 k ∧ ∀ j (h : j < zs.length), j < k → decide (lo ≤ zs[j] ∧ zs[j] ≤ hi) = true) (fun i => l - (intOf i).toNat)
  case atStart => exact ⟨0, by omega, rfl, fun _ _ h => absurd h (by omega)⟩
  case round =>
    obtain ⟨k, hk, rfl, ho⟩ := hrel
    have HO := Lib.hid ho
    clear ho
    by_cases hlt : k < l
    · have hkl : k < zs.length := by rw [HL.out]; exact hlt
      obtain ⟨d, rfl, hs, hd, hc⟩ := HV.out.at hkl
      obtain ⟨db, dof, _⟩ := d
      simp only at hs hc
      subst hs
      generalize hz : zs[k] = z at *
      have HZ := Lib.hid hz
      clear hz hd
      have A := Lib.hid (l1In_any z lo hi w)
      cases he : decide (lo ≤ z ∧ z ≤ hi)
      · rw [he] at A
        have hfin : (zs.all fun n => decide (lo ≤ n ∧ n ≤ hi)) = false := by
          refine List.all_eq_false.2 ⟨zs[k], List.getElem_mem _, ?_⟩
          rw [HZ.out, he]
          simp
        have HF := Lib.hid hfin
        clear hfin he
        go_wp2_with (go_at_call 137; with_reducible refine A.out.mono ?_; rintro e w' ⟨rfl, rfl⟩)
        go_ret
        exact ⟨by rw [← HBB.out, HF.out]; rfl, rfl⟩
      · rw [he] at A
        have HE := Lib.hid he
        clear he
        go_wp2_with (go_at_call 137; with_reducible refine A.out.mono ?_; rintro e w' ⟨rfl, rfl⟩)
        go_round
        case rel => exact ⟨k + 1, by omega, by go_num, fun j h hj => by
          by_cases hjk : j = k
          · subst hjk; rw [HZ.out]; exact HE.out
          · exact HO.out j h (by omega)⟩
        case measure => simp [intOf]; omega
    · have hfin : (zs.all fun n => decide (lo ≤ n ∧ n ≤ hi)) = true := by
        refine List.all_eq_true.2 fun x hx => ?_
        obtain ⟨j, hj, rfl⟩ := List.getElem_of_mem hx
        exact HO.out j hj (by have := HL.out; omega)
      have HF := Lib.hid hfin
      clear hfin
      go_wp2
      go_ret
      exact ⟨by rw [← HBB.out, HF.out]; rfl, rfl⟩
theorem fdIn_any (p : Int) (v : Value) (zs : List Int) (w : World) (hv : IntsV w v zs) (hl : zs.length ≤ 1000000) (hp : -1000000 ≤ p) (hp2 : p ≤ 1000000) :
    Calls Tryd.prog 192 #[.int .i64 p, v] w fun e w' => e = .returned (.bool (zs.all (elB p))) ∧ w = w' := by
  have A := l1All_any 0 (p - 1) v zs w hv hl
  have e : (fun n : Int => decide (0 ≤ n ∧ n ≤ p - 1)) = elB p := by
    funext n
    unfold elB
    exact decide_eq_decide.2 (by omega)
  rw [e] at A
  have A := Lib.hid A
  obtain ⟨a, c, rfl, _⟩ := hv
  clear e
  go_enter Tryd.func192, Tryd.ntmps192
  go_wp2_with (go_at_call 278; with_reducible refine A.out.mono ?_; rintro e w' ⟨rfl, rfl⟩)
  go_ret
  exact ⟨rfl, rfl⟩

end Go.Proofs.YtpeaeminjbjlnaaDoor

/-
  The specification's matrix check. Conditions: the numbers are small.
-/
namespace Go.Proofs.YtpeaeminjbjlnaaDoor
open Go.RowKit
set_option linter.unusedVariables false

set_option maxRecDepth 100000 in
set_option maxHeartbeats 1000000 in
theorem mxGood_any (p cols : Int) (v : Value) (L : List (List Int)) (w : World) (hv : MatV w v L) (hl : L.length ≤ 1000000) (hll : ∀ row ∈ L, row.length ≤ 1000000) (hp0 : -1000 ≤ p) (hp1 : p ≤ 1000) :
    Calls Tryd.prog 121 #[.int .i64 p, mxV cols v] w fun e w' => e = .returned (.bool (matB p cols L)) ∧ w.grownBy w' none := by
  have HV := Lib.hid hv; have HLL := Lib.hid hll
  obtain ⟨a, c, rfl⟩ := hv.shape
  clear hv hll
  have HA := Lib.hid fun w => fdGood_any p w hp0 hp1
  have HI := Lib.hid fun w => l1In_any cols 0 24 w
  unfold mxV
  generalize hbb : matB p cols L = bb
  have HBB := Lib.hid hbb
  clear hbb
  generalize hlen : L.length = l at *
  have HL := Lib.hid hlen
  clear hlen
  have HG := Lib.hid fun o => grownBy_alloc w o none
  cases h1 : fldB p
  · rw [h1] at HA
    have hm : matB p cols L = false := by unfold matB; rw [h1]; rfl
    have HM := Lib.hid hm
    clear hm h1
    go_enter Tryd.func121, Tryd.ntmps121
    go_wp2_with (go_at_call 206; with_reducible refine (HA.out _).mono ?_; rintro e w' ⟨rfl, rfl⟩)
    go_ret
    exact ⟨by rw [← HBB.out, HM.out]; rfl, HG.out _⟩
  · rw [h1] at HA
    cases h2 : decide (0 ≤ cols ∧ cols ≤ 24)
    · rw [h2] at HI
      have hm : matB p cols L = false := by unfold matB; rw [h1, h2]; rfl
      have HM := Lib.hid hm
      clear hm h1 h2
      go_enter Tryd.func121, Tryd.ntmps121
      go_wp2_with (first
        | (go_at_call 206; with_reducible refine (HA.out _).mono ?_; rintro e w' ⟨rfl, rfl⟩)
        | (go_at_call 137; with_reducible refine (HI.out _).mono ?_; rintro e w' ⟨rfl, rfl⟩))
      go_ret
      exact ⟨by rw [← HBB.out, HM.out]; rfl, HG.out _⟩
    · rw [h2] at HI
      by_cases h3 : l ≤ 24
      · have hm : matB p cols L = rowsB p cols L := by unfold matB; rw [h1, h2, HL.out, decide_eq_true h3]; rfl
        have HM := Lib.hid hm
        clear hm h1 h2
        go_enter Tryd.func121, Tryd.ntmps121
        go_wp2_with (first
          | (go_at_call 206; with_reducible refine (HA.out _).mono ?_; rintro e w' ⟨rfl, rfl⟩)
          | (go_at_call 137; with_reducible refine (HI.out _).mono ?_; rintro e w' ⟨rfl, rfl⟩))
        have hgr := HG.out (.cells #[.int .i64 cols, .slice a l c] 39)
        have c0 : (w.alloc (.cells #[.int .i64 cols, .slice a l c] 39)).cell? ⟨w.heap.size, 0, none⟩ = some (.int .i64 cols) := box_cell _ _ _ _
        generalize w.alloc (.cells #[.int .i64 cols, .slice a l c] 39) = w1 at *
        have HGR := Lib.hid hgr
        have HV1 := Lib.hid (HV.out.carry hgr)
        clear hgr
        generalize w.heap.size = b at *
        go_loop [25] (fun i => ∃ k : Nat, k ≤ l ∧ i = .int .i64 k ∧ ∀ j (h : j < L.length), j < k → vecB p cols L[j] = true) (fun i => l - (intOf i).toNat)
        case atStart => exact ⟨0, by omega, rfl, fun _ _ h => absurd h (by omega)⟩
        case round =>
          obtain ⟨k, hk, rfl, ho⟩ := hrel
          have HO := Lib.hid ho
          clear ho
          by_cases hlt : k < l
          · have hkl : k < L.length := by rw [HL.out]; exact hlt
            obtain ⟨d, r, rc, rfl, hs, hd, hcell, hrow⟩ := HV1.out.row hkl
            have hlr := HLL.out L[k] (List.getElem_mem _)
            obtain ⟨db, dof, _⟩ := d
            simp only at hs hcell
            subst hs
            have hbad : vecB p cols L[k] = false → rowsB p cols L = false := by
              intro h
              unfold rowsB
              exact List.all_eq_false.2 ⟨L[k], List.getElem_mem _, by rw [h]; simp⟩
            have HBAD := Lib.hid hbad
            have HF := Lib.hid (fdIn_any p _ L[k] w1 hrow hlr (by omega) (by omega))
            have hvb : vecB p cols L[k] = (decide ((L[k].length : Int) = cols) && L[k].all (elB p)) := rfl
            have HVB := Lib.hid hvb
            clear hbad hvb hd hrow hlr
            generalize hrl : L[k].length = rl at *
            clear hrl
            by_cases hq : (rl : Int) = cols
            · have hb1 : ((rl : Int) != cols) = false := by rw [bne_eq_false_iff_eq]; exact hq
              cases he : L[k].all (elB p)
              · rw [he] at HF
                have hfin := HBAD.out (by rw [HVB.out, he, Bool.and_false])
                have HFIN := Lib.hid hfin
                clear hfin he
                go_wp2_with (go_at_call 192; with_reducible refine HF.out.mono ?_; rintro e w' ⟨rfl, rfl⟩)
                go_ret
                exact ⟨by rw [← HBB.out, HM.out, HFIN.out]; rfl, HGR.out⟩
              · rw [he] at HF
                have hv1 : vecB p cols L[k] = true := by rw [HVB.out, he, decide_eq_true hq]; rfl
                have HV2 := Lib.hid hv1
                clear hv1 he
                go_wp2_with (go_at_call 192; with_reducible refine HF.out.mono ?_; rintro e w' ⟨rfl, rfl⟩)
                go_round
                case rel => exact ⟨k + 1, by omega, by go_num, fun j h hj => by
                  by_cases hjk : j = k
                  · subst hjk; exact HV2.out
                  · exact HO.out j h (by omega)⟩
                case measure => simp [intOf]; omega
            · have hb1 : ((rl : Int) != cols) = true := by rw [bne_iff_ne]; exact hq
              have hfin := HBAD.out (by rw [HVB.out, decide_eq_false hq, Bool.false_and])
              have HFIN := Lib.hid hfin
              clear hfin hq
              go_wp2
              go_ret
              exact ⟨by rw [← HBB.out, HM.out, HFIN.out]; rfl, HGR.out⟩
          · have hfin : rowsB p cols L = true := by
              unfold rowsB
              refine List.all_eq_true.2 fun x hx => ?_
              obtain ⟨j, hj, rfl⟩ := List.getElem_of_mem hx
              exact HO.out j hj (by have := HL.out; omega)
            have HFIN := Lib.hid hfin
            clear hfin
            go_wp2
            go_ret
            exact ⟨by rw [← HBB.out, HM.out, HFIN.out]; rfl, HGR.out⟩
      · have hm : matB p cols L = false := by unfold matB; rw [h1, h2, HL.out, decide_eq_false h3]; rfl
        have HM := Lib.hid hm
        clear hm h1 h2
        have hgt : (24 : Int) < l := by omega
        go_enter Tryd.func121, Tryd.ntmps121
        go_wp2_with (first
          | (go_at_call 206; with_reducible refine (HA.out _).mono ?_; rintro e w' ⟨rfl, rfl⟩)
          | (go_at_call 137; with_reducible refine (HI.out _).mono ?_; rintro e w' ⟨rfl, rfl⟩))
        go_ret
        exact ⟨by rw [← HBB.out, HM.out]; rfl, HG.out _⟩

end Go.Proofs.YtpeaeminjbjlnaaDoor

/-
  More on lists of rows that are the call's own: a fresh row in a place, an element written, two lists' rows exchanged by four stores. Conditions: the indices are within.
-/
namespace Go.Proofs.YtpeaeminjbjlnaaDoor
open Go.RowKit
set_option linter.unusedVariables false

theorem getD_setV {vs : List Value} {i k : Nat} {u : Value} (hi : i < vs.length) : (vs.set i u).getD k nilS = if k = i then u else vs.getD k nilS := by
  simp only [List.getD_eq_getElem?_getD, List.getElem?_set]
  by_cases h : i = k
  · subst h; simp [hi]
  · simp [h, Ne.symm h]
theorem getD_setL {L : List (List Int)} {i k : Nat} {z : List Int} (hi : i < L.length) : (L.set i z).getD k [] = if k = i then z else L.getD k [] := by
  simp only [List.getD_eq_getElem?_getD, List.getElem?_set]
  by_cases h : i = k
  · subst h; simp [hi]
  · simp [h, Ne.symm h]

/-- a fresh row put into a place -/
theorem OwnM.putNew {B g n cap : Nat} {w : World} {vs : List Value} {L : List (List Int)} {u : Value} {zs : List Int} (h : OwnM B w (.slice (some ⟨g, 0, none⟩) n cap) vs L) (hn : n = L.length) {i : Nat} (hi : i < L.length)
    (hu : OwnInts B w u zs) (hua : ∀ j, Apart (vs.getD j nilS) u) :
    OwnM B (w.setCell ⟨g, i, none⟩ u) (.slice (some ⟨g, 0, none⟩) n cap) (vs.set i u) (L.set i zs) ∧ Only (· = g) w (w.setCell ⟨g, i, none⟩ u) := by
  subst hn
  have hlen := h.len
  have h2 := h.out
  rw [hlen] at h2
  have s1 := World.ownsRow.stored h2 i u
  have hon : Only (Hits (.slice (some ⟨g, 0, none⟩) L.length cap)) w (w.setCell ⟨g, i, none⟩ u) := Only.of_grown s1.2 fun k hk => hk
  refine ⟨⟨by simp [hlen], ?_, fun j => ?_, fun j k hjk => ?_⟩, hon.mono fun k hk => by simp [Hits, Value.ownBlock] at hk; exact hk.symm⟩
  · have e : (vs.set i u).length = L.length := by simp [hlen]
    rw [e]
    exact s1.1
  · rw [getD_setV (by omega), getD_setL hi]
    split
    · exact hu.only hon fun k hk hk' => apart_types h.out hu (by decide) k hk' hk
    · exact (h.row j).only hon fun k hk hk' => apart_types h.out (h.row j) (by decide) k hk' hk
  · rw [getD_setV (by omega), getD_setV (by omega)]
    split
    · rw [if_neg (by omega)]; exact (hua k).symm
    · split
      · exact hua j
      · exact h.ap j k hjk

/-- an element: where it lies, and writing it -/
theorem OwnM.elemAt {B g n cap : Nat} {w : World} {vs : List Value} {L : List (List Int)} (h : OwnM B w (.slice (some ⟨g, 0, none⟩) n cap) vs L) (hn : n = L.length) {i j : Nat} (hi : i < L.length) (hj : j < (L.getD i []).length) :
    ∃ gi ci, B ≤ gi ∧ gi ≠ g ∧ gi < w.heap.size ∧ Hits (vs.getD i nilS) gi ∧ w.cell? ⟨g, i, none⟩ = some (.slice (some ⟨gi, 0, none⟩) (L.getD i []).length ci) ∧ w.cell? ⟨gi, j, none⟩ = some (.int .i64 (at2 L i j)) ∧ w.frozen? ⟨gi, j, none⟩ = false ∧
      ∀ x, OwnM B (w.setCell ⟨gi, j, none⟩ (.int .i64 x)) (.slice (some ⟨g, 0, none⟩) n cap) vs (L.set i ((L.getD i []).set j x)) ∧ Only (· = gi) w (w.setCell ⟨gi, j, none⟩ (.int .i64 x)) := by
  have hrow := h.row i
  obtain ⟨gi, ci, he, hB, hlt, hh⟩ := hrow.parts (by intro h0; rw [h0] at hj; simp at hj)
  have hne : gi ≠ g := by
    intro e
    subst e
    exact apart_types h.out hrow (by decide) gi rfl hh
  have hc := h.cell hn hi
  have hrow' := hrow
  rw [he] at hc hrow'
  refine ⟨gi, ci, hB, hne, hlt, hh, hc, ?_, hrow'.free rfl j, fun x => ?_⟩
  · rw [hrow'.cell rfl hj]
    unfold at2
    rw [getD_lt hj]
  · obtain ⟨p1, p2⟩ := hrow'.put rfl j x
    refine ⟨h.setRow hi ?_ (by rw [he]; exact p1), p2⟩
    exact p2.mono fun k hk => by subst hk; exact hh

/-- two rows exchanged, whatever else was written in lists of rows -/
theorem OwnM.swapped {B g n cap : Nat} {w w' : World} {vs : List Value} {L : List (List Int)} {S : Nat → Prop} (h : OwnM B w (.slice (some ⟨g, 0, none⟩) n cap) vs L) {r i : Nat} (hr : r < L.length) (hi : i < L.length) (hne : r ≠ i)
    (ho : Only S w w') (hS : ∀ k, S k → ∀ j, ¬ Hits (vs.getD j nilS) k) (hout : w'.ownsRow B 24 1 (.slice (some ⟨g, 0, none⟩) n cap) vs.length ((vs.set i (vs.getD r nilS)).set r (vs.getD i nilS))) :
    OwnM B w' (.slice (some ⟨g, 0, none⟩) n cap) ((vs.set i (vs.getD r nilS)).set r (vs.getD i nilS)) (swapL L r i) ∧ (∀ x ∈ (vs.set i (vs.getD r nilS)).set r (vs.getD i nilS), x ∈ vs) := by
  have hlen := h.len
  have gv : ∀ k, ((vs.set i (vs.getD r nilS)).set r (vs.getD i nilS)).getD k nilS = vs.getD (La.tw r i k) nilS := by
    intro k
    unfold La.tw
    rw [getD_setV (by rw [List.length_set]; omega), getD_setV (by omega)]
    by_cases h1 : k = r
    · rw [if_pos h1, if_pos h1]
    · rw [if_neg h1, if_neg h1]
      by_cases h2 : k = i
      · rw [if_pos h2, if_pos h2]
      · rw [if_neg h2, if_neg h2]
  have tinj : ∀ a b, a ≠ b → La.tw r i a ≠ La.tw r i b := by
    intro a b hab
    unfold La.tw
    split <;> split <;> (try split) <;> (try split) <;> omega
  refine ⟨⟨by simp [swapL, hlen], by rw [List.length_set, List.length_set]; exact hout, fun k => ?_, fun a b hab => ?_⟩, fun x hx => ?_⟩
  · rw [gv, swapL_get hr hi]
    exact (h.row _).only ho fun q hq hq' => hS q hq' _ hq
  · rw [gv, gv]
    exact h.ap _ _ (tinj a b hab)
  · rcases List.mem_or_eq_of_mem_set hx with h1 | h1
    · rcases List.mem_or_eq_of_mem_set h1 with h3 | h3
      · exact h3
      · rw [h3, List.getD_eq_getElem?_getD, List.getElem?_eq_getElem (show r < vs.length by omega)]; exact List.getElem_mem _
    · rw [h1, List.getD_eq_getElem?_getD, List.getElem?_eq_getElem (show i < vs.length by omega)]; exact List.getElem_mem _

/-- four stores exchange two rows in two lists -/
theorem Two.swap4 {B ga gt m ca ct : Nat} {w : World} {vs us : List Value} {R T : List (List Int)} (h : Two B w (.slice (some ⟨ga, 0, none⟩) m ca) vs (.slice (some ⟨gt, 0, none⟩) m ct) us R T) (hR : R.length = m) (hT : T.length = m) {r i : Nat} (hr : r < m) (hi : i < m) (hne : r ≠ i) :
    ga ≠ gt ∧
    Two B ((((w.setCell ⟨ga, i, none⟩ (vs.getD r nilS)).setCell ⟨gt, i, none⟩ (us.getD r nilS)).setCell ⟨ga, r, none⟩ (vs.getD i nilS)).setCell ⟨gt, r, none⟩ (us.getD i nilS))
      (.slice (some ⟨ga, 0, none⟩) m ca) ((vs.set i (vs.getD r nilS)).set r (vs.getD i nilS)) (.slice (some ⟨gt, 0, none⟩) m ct) ((us.set i (us.getD r nilS)).set r (us.getD i nilS)) (swapL R r i) (swapL T r i) ∧
    (∀ x ∈ (vs.set i (vs.getD r nilS)).set r (vs.getD i nilS), x ∈ vs) ∧ (∀ x ∈ (us.set i (us.getD r nilS)).set r (us.getD i nilS), x ∈ us) ∧
    Only (fun k => k = ga ∨ k = gt) w ((((w.setCell ⟨ga, i, none⟩ (vs.getD r nilS)).setCell ⟨gt, i, none⟩ (us.getD r nilS)).setCell ⟨ga, r, none⟩ (vs.getD i nilS)).setCell ⟨gt, r, none⟩ (us.getD i nilS)) := by
  have lv := h.mR.len
  have lu := h.mT.len
  have o1 := h.mR.out
  have o2 := h.mT.out
  rw [lv, hR] at o1
  rw [lu, hT] at o2
  have hg : ga ≠ gt := fun e => h.ap ga (Or.inl rfl) (Or.inl (by rw [e]; rfl))
  have hitA : ∀ k, Hits (.slice (some ⟨ga, 0, none⟩) m ca) k → k = ga := fun k hk => by simp [Hits, Value.ownBlock] at hk; exact hk.symm
  have hitT : ∀ k, Hits (.slice (some ⟨gt, 0, none⟩) m ct) k → k = gt := fun k hk => by simp [Hits, Value.ownBlock] at hk; exact hk.symm
  have s1 := World.ownsRow.stored o1 i (vs.getD r nilS)
  have n1 : Only (· = ga) w _ := Only.of_grown s1.2 fun k hk => hitA k hk
  have t1 := owns_only o2 n1 fun k hk hk' => hg (hk'.symm.trans (hitT k hk))
  have s2 := World.ownsRow.stored t1 i (us.getD r nilS)
  have n2 : Only (· = gt) _ _ := Only.of_grown s2.2 fun k hk => hitT k hk
  have a2 := owns_only s1.1 n2 fun k hk hk' => hg ((hitA k hk).symm.trans hk')
  have s3 := World.ownsRow.stored a2 r (vs.getD i nilS)
  have n3 : Only (· = ga) _ _ := Only.of_grown s3.2 fun k hk => hitA k hk
  have t3 := owns_only s2.1 n3 fun k hk hk' => hg (hk'.symm.trans (hitT k hk))
  have s4 := World.ownsRow.stored t3 r (us.getD i nilS)
  have n4 : Only (· = gt) _ _ := Only.of_grown s4.2 fun k hk => hitT k hk
  have a4 := owns_only s3.1 n4 fun k hk hk' => hg ((hitA k hk).symm.trans hk')
  have n : Only (fun k => k = ga ∨ k = gt) w _ := (((n1.mono fun k hk => Or.inl hk).trans (n2.mono fun k hk => Or.inr hk)).trans (n3.mono fun k hk => Or.inl hk)).trans (n4.mono fun k hk => Or.inr hk)
  have S1 : ∀ k, (k = ga ∨ k = gt) → ∀ j, ¬ Hits (vs.getD j nilS) k := by
    intro k hk j hj
    rcases hk with rfl | rfl
    · exact apart_types h.mR.out (h.mR.row j) (by decide) _ rfl hj
    · exact h.ap _ (Foot.at hj) (Or.inl rfl)
  have S2 : ∀ k, (k = ga ∨ k = gt) → ∀ j, ¬ Hits (us.getD j nilS) k := by
    intro k hk j hj
    rcases hk with rfl | rfl
    · exact h.ap _ (Or.inl rfl) (Foot.at hj)
    · exact apart_types h.mT.out (h.mT.row j) (by decide) _ rfl hj
  obtain ⟨m1, b1⟩ := h.mR.swapped (by omega) (by omega) hne n S1 (by rw [lv, hR]; exact a4)
  obtain ⟨m2, b2⟩ := h.mT.swapped (by omega) (by omega) hne n S2 (by rw [lu, hT]; exact s4.1)
  exact ⟨hg, ⟨m1, m2, fun k hk hk' => h.ap k (hk.mono b1) (hk'.mono b2)⟩, b1, b2, n⟩

end Go.Proofs.YtpeaeminjbjlnaaDoor

/-
  What a walk knows about memory, in parts that are apart: each part names the blocks that it may write and those that it reads. Conditions: none.
-/
namespace Go.Proofs.YtpeaeminjbjlnaaDoor
open Go.RowKit
set_option linter.unusedVariables false

structure Asrt where
  foot : Nat → Prop
  sees : Nat → Prop
  holds : World → Prop
  sub : ∀ k, foot k → sees k
  lt : ∀ w k, holds w → sees k → k < w.heap.size
  keep : ∀ w w', holds w → Only (fun k => ¬ sees k) w w' → holds w'
def Apt (A C : Asrt) : Prop := (∀ k, A.foot k → ¬ C.sees k) ∧ (∀ k, C.foot k → ¬ A.sees k)
theorem Apt.symm {A C : Asrt} (h : Apt A C) : Apt C A := ⟨h.2, h.1⟩
def Sep (w : World) : List Asrt → Prop
  | [] => True
  | A :: l => A.holds w ∧ (∀ C ∈ l, Apt A C) ∧ Sep w l
section
variable {w w' : World} {A A' C D E F : Asrt} {l l' : List Asrt}
theorem Sep.hd (h : Sep w (A :: l)) : A.holds w := h.1
theorem Sep.tl (h : Sep w (A :: l)) : Sep w l := h.2.2
theorem Sep.apt (h : Sep w (A :: C :: l)) : Apt A C := h.2.1 _ (by simp)
theorem Sep.s2 (h : Sep w (A :: C :: l)) : Sep w (C :: A :: l) := by
  obtain ⟨h1, h2, h3, h4, h5⟩ := h
  refine ⟨h3, fun D hD => ?_, h1, fun D hD => h2 D (List.mem_cons_of_mem _ hD), h5⟩
  rcases List.mem_cons.1 hD with rfl | hD
  · exact (h2 C (by simp)).symm
  · exact h4 D hD
theorem Sep.under (h : Sep w (A :: l)) (p : Sep w l → Sep w l') (hm : ∀ C ∈ l', C ∈ l) : Sep w (A :: l') := ⟨h.1, fun C hC => h.2.1 C (hm C hC), p h.2.2⟩
theorem Sep.s3 (h : Sep w (A :: C :: D :: l)) : Sep w (D :: A :: C :: l) := (h.under Sep.s2 (by simp +contextual)).s2
theorem Sep.s4 (h : Sep w (A :: C :: D :: E :: l)) : Sep w (E :: A :: C :: D :: l) := (h.under Sep.s3 (by simp +contextual)).s2
theorem Sep.s5 (h : Sep w (A :: C :: D :: E :: F :: l)) : Sep w (F :: A :: C :: D :: E :: l) := (h.under Sep.s4 (by simp +contextual)).s2
theorem Sep.drop2 (h : Sep w (A :: C :: l)) : Sep w (A :: l) := h.under Sep.tl (by simp +contextual)
theorem Sep.only {S : Nat → Prop} (h : Sep w l) (ho : Only S w w') (hs : ∀ A ∈ l, ∀ k, A.sees k → ¬ S k) : Sep w' l := by
  induction l with
  | nil => trivial
  | cons A l ih =>
    exact ⟨A.keep _ _ h.1 (ho.mono fun k hk hk' => hs A (by simp) k hk' hk), h.2.1, ih h.2.2 fun C hC => hs C (by simp [hC])⟩
theorem Sep.quiet (h : Sep w l) (ho : Only (fun _ => False) w w') : Sep w' l := h.only ho fun _ _ _ _ h => h
theorem Sep.grown (h : Sep w l) (hg : w.grownBy w' none) : Sep w' l := h.quiet (Only.of_grown hg (by simp))
theorem Sep.all (h : Sep w l) : ∀ A ∈ l, A.holds w := by
  induction l with
  | nil => simp
  | cons A l ih =>
    intro C hC
    rcases List.mem_cons.1 hC with rfl | hC
    · exact h.1
    · exact ih h.2.2 C hC
/-- The first part is written, and may take new blocks. -/
theorem Sep.upd (h : Sep w (A :: l)) (ho : Only A.foot w w') (ha : A'.holds w') (hf : ∀ k, A'.foot k → A.foot k ∨ w.heap.size ≤ k) (hs : ∀ k, A'.sees k → A.sees k ∨ w.heap.size ≤ k) : Sep w' (A' :: l) := by
  obtain ⟨h1, h2, h3⟩ := h
  refine ⟨ha, fun C hC => ⟨fun k hk hk' => ?_, fun k hk hk' => ?_⟩, h3.only ho fun C hC k hk hk' => (h2 C hC).1 k hk' hk⟩
  · rcases hf k hk with h | h
    · exact (h2 C hC).1 k h hk'
    · have := C.lt _ _ (h3.all C hC) hk'; omega
  · rcases hs k hk' with h | h
    · exact (h2 C hC).2 k hk h
    · have := C.lt _ _ (h3.all C hC) (C.sub k hk); omega
/-- the same with parts whose blocks are all their own -/
theorem Sep.upd' (h : Sep w (A :: l)) (ho : Only A.foot w w') (ha : A'.holds w') (hf : ∀ k, A'.sees k → A.foot k ∨ w.heap.size ≤ k) : Sep w' (A' :: l) :=
  h.upd ho ha (fun k hk => hf k (A'.sub k hk)) fun k hk => (hf k hk).imp (A.sub k) id
/-- the first two parts become one -/
theorem Sep.join (h : Sep w (A :: C :: l)) (ho : Only (fun k => A.foot k ∨ C.foot k) w w') (ha : A'.holds w') (hf : ∀ k, A'.foot k → A.foot k ∨ C.foot k ∨ w.heap.size ≤ k) (hs : ∀ k, A'.sees k → A.sees k ∨ C.sees k ∨ w.heap.size ≤ k) : Sep w' (A' :: l) := by
  obtain ⟨h1, h2, h3, h4, h5⟩ := h
  refine ⟨ha, fun D hD => ⟨fun k hk hk' => ?_, fun k hk hk' => ?_⟩, h5.only ho fun D hD k hk hk' => ?_⟩
  · rcases hf k hk with h | h | h
    · exact (h2 D (by simp [hD])).1 k h hk'
    · exact (h4 D hD).1 k h hk'
    · have := D.lt _ _ (h5.all D hD) hk'; omega
  · rcases hs k hk' with h | h | h
    · exact (h2 D (by simp [hD])).2 k hk h
    · exact (h4 D hD).2 k hk h
    · have := D.lt _ _ (h5.all D hD) (D.sub k hk); omega
  · rcases hk' with h | h
    · exact (h2 D (by simp [hD])).1 k h hk
    · exact (h4 D hD).1 k h hk
/-- A new part, all of new blocks. -/
theorem Sep.new (h : Sep w l) (hg : w.grownBy w' none) (ha : A.holds w') (hs : ∀ k, A.sees k → w.heap.size ≤ k) : Sep w' (A :: l) := by
  have h' := h.grown hg
  refine ⟨ha, fun C hC => ⟨fun k hk hk' => ?_, fun k hk hk' => ?_⟩, h'⟩
  · have := C.lt _ _ (h.all C hC) hk'; have := hs k (A.sub k hk); omega
  · have := C.lt _ _ (h.all C hC) (C.sub k hk); have := hs k hk'; omega
/-- A part that writes nothing and reads what no part writes. -/
theorem Sep.share (h : Sep w l) (ha : A.holds w) (hf : ∀ k, ¬ A.foot k) (hs : ∀ C ∈ l, ∀ k, C.foot k → ¬ A.sees k) : Sep w (A :: l) :=
  ⟨ha, fun C hC => ⟨fun k hk => absurd hk (hf k), hs C hC⟩, h⟩
theorem Sep.al (h : Sep w l) (o : Obj) : Sep (w.alloc o) l := h.grown (grownBy_alloc w o none)
theorem Sep.dr (h : Sep w l) : Sep w.drew l := h.quiet (Only.drew _ w)
theorem Sep.drN (h : Sep w l) (n : Nat) : Sep (w.drewN n) l := h.quiet (Only.drewN _ w n)
end

/-! ### the parts -/
def KeepA (w0 : World) : Asrt := ⟨fun _ => False, fun k => k < w0.heap.size, fun w => w0.grownBy w none, fun _ h => h.elim, fun _ _ h hk => Nat.lt_of_lt_of_le hk h.size,
  fun w w' h ho => ⟨ho.os.trans h.os, ho.tape.trans h.tape, ho.output.trans h.output, Nat.le_trans h.size ho.size, fun k hk hn => (ho.block k (Nat.lt_of_lt_of_le hk h.size) fun h' => h' hk).trans (h.block k hk hn)⟩⟩
theorem Sep.start (w : World) : Sep w [KeepA w] := ⟨⟨rfl, rfl, rfl, Nat.le_refl _, fun _ _ _ => rfl⟩, by simp, trivial⟩
theorem blk_lt {w : World} {k : Nat} {o : Obj} (h : w.heap[k]? = some o) : k < w.heap.size := by
  rcases Nat.lt_or_ge k w.heap.size with h' | h'
  · exact h'
  · rw [Array.getElem?_eq_none h'] at h; cases h
def BxA (b : Nat) (cs : Array Value) (t : TypeId) : Asrt where
  foot := fun k => k = b
  sees := fun k => k = b
  holds := fun w => w.heap[b]? = some (.cells cs t (0, 0))
  sub := fun _ h => h
  lt := fun w k h hk => by have : k = b := hk; subst this; exact blk_lt h
  keep := fun w w' h ho => (ho.block b (blk_lt h) fun h' => h' rfl).trans h
def OI (v : Value) (zs : List Int) : Asrt := ⟨Hits v, Hits v, fun w => OwnInts 0 w v zs, fun _ h => h, fun w k h hk => (h.lt k hk).2, fun w w' h ho => h.only ho fun k hk h' => h' hk⟩
def OM (v : Value) (vs : List Value) (L : List (List Int)) : Asrt := ⟨Foot v vs, Foot v vs, fun w => OwnM 0 w v vs L, fun _ h => h, fun w k h hk => (h.lt hk).2, fun w w' h ho => h.only ho fun k hk h' => h' hk⟩
theorem OwnInts.rebase {B B' : Nat} {w : World} {v : Value} {zs : List Int} (h : OwnInts B w v zs) (hk : ∀ k, Hits v k → B' ≤ k) : OwnInts B' w v zs := by
  obtain ⟨h1, h2⟩ := h
  refine ⟨h1, ?_⟩
  rcases h2 with h2 | ⟨g, cap, cur, hv, hg, r⟩
  · exact Or.inl h2
  · exact Or.inr ⟨g, cap, cur, hv, hk g (by rw [hv]; rfl), r⟩
theorem OwnM.rebase {B B' : Nat} {w : World} {v : Value} {vs : List Value} {L : List (List Int)} (h : OwnM B w v vs L) (hk : ∀ k, Foot v vs k → B' ≤ k) : OwnM B' w v vs L := by
  refine ⟨h.len, ?_, fun i => (h.row i).rebase fun k hh => hk k (Foot.at hh), h.ap⟩
  obtain ⟨h1, h2⟩ := h.out
  refine ⟨h1, ?_⟩
  rcases h2 with h2 | ⟨g, cap, cur, hv, hg, r⟩
  · exact Or.inl h2
  · exact Or.inr ⟨g, cap, cur, hv, hk g (Or.inl (by rw [hv]; rfl)), r⟩
section
variable {w w0 w' : World} {l : List Asrt} {v u : Value} {vs : List Value} {L : List (List Int)} {zs : List Int}
theorem Sep.kept (h : Sep w (KeepA w0 :: l)) : w0.grownBy w none := h.1
theorem Sep.ints (h : Sep w (OI v zs :: KeepA w0 :: l)) : OwnInts w0.heap.size w v zs := h.hd.rebase fun k hk => Nat.le_of_not_lt (h.apt.1 k hk)
theorem Sep.mat (h : Sep w (OM v vs L :: KeepA w0 :: l)) : OwnM w0.heap.size w v vs L := h.hd.rebase fun k hk => Nat.le_of_not_lt (h.apt.1 k hk)
theorem Sep.newI (h : Sep w l) (hg : w.grownBy w' none) (ho : OwnInts w.heap.size w' v zs) : Sep w' (OI v zs :: l) := h.new hg (ho.rebase fun _ _ => Nat.zero_le _) fun k hk => (ho.lt k hk).1
theorem Sep.newM (h : Sep w l) (hg : w.grownBy w' none) (ho : OwnM w.heap.size w' v vs L) : Sep w' (OM v vs L :: l) := h.new hg (ho.rebase fun _ _ => Nat.zero_le _) fun k hk => (ho.lt hk).1
theorem Sep.box (h : Sep w l) (cs : Array Value) (t : TypeId) : Sep (w.alloc (.cells cs t)) (BxA w.heap.size cs t :: l) :=
  h.new (grownBy_alloc w _ none) (alloc_heap_new w _) fun k hk => by have : k = w.heap.size := hk; omega
theorem Sep.nilI (h : Sep w l) : Sep w (OI nilS [] :: l) := h.new (⟨rfl, rfl, rfl, Nat.le_refl _, fun _ _ _ => rfl⟩) (OwnInts.nil _ _) fun k hk => absurd hk nil_hits
theorem Sep.nilM (h : Sep w l) : Sep w (OM nilS [] [] :: l) := h.new (⟨rfl, rfl, rfl, Nat.le_refl _, fun _ _ _ => rfl⟩) (OwnM.start (World.ownsRow_nil _ _ _ _)) fun k hk => by
  rcases hk with hk | ⟨x, hx, _⟩
  · exact absurd hk nil_hits
  · simp at hx
theorem Sep.emptyI (h : Sep w l) : Sep (w.alloc (.cells #[] 3)) (OI (.slice (some ⟨w.heap.size, 0, none⟩) 0 0) [] :: l) :=
  h.newI (grownBy_alloc w _ none) (OwnInts.empty (Nat.le_refl _) rfl)
theorem Sep.emptyM (h : Sep w l) : Sep (w.alloc (.cells #[] 24)) (OM (.slice (some ⟨w.heap.size, 0, none⟩) 0 0) [] [] :: l) :=
  h.newM (grownBy_alloc w _ none) (OwnM.start (World.ownsRow_made w #[] 0 (Nat.le_refl _) (by unfold maxLen; omega) rfl))
theorem Sep.setI {g n cap : Nat} (h : Sep w (OI (.slice (some ⟨g, 0, none⟩) n cap) zs :: l)) (hn : n = zs.length) (j : Nat) (x : Int) : Sep (w.setCell ⟨g, j, none⟩ (.int .i64 x)) (OI (.slice (some ⟨g, 0, none⟩) n cap) (zs.set j x) :: l) := by
  obtain ⟨p1, p2⟩ := h.hd.put hn j x
  exact h.upd' (p2.mono fun k hk => by rw [hk]; rfl) p1 fun k hk => Or.inl hk
theorem Sep.setB {b : Nat} {cs : Array Value} {t : TypeId} (h : Sep w (BxA b cs t :: l)) (i : Nat) (x : Value) : Sep (w.setCell ⟨b, i, none⟩ x) (BxA b (cs.setIfInBounds i x) t :: l) :=
  h.upd' (A' := BxA b (cs.setIfInBounds i x) t) (set_only w ⟨b, i, none⟩ x) (heap_setCell_same w b i cs t x h.hd) fun k hk => Or.inl hk
/-- an element of a row is written -/
theorem Sep.setM {g n cap : Nat} (h : Sep w (OM (.slice (some ⟨g, 0, none⟩) n cap) vs L :: l)) (hn : n = L.length) {i j : Nat} (hi : i < L.length) (hj : j < (L.getD i []).length) :
    ∃ gi ci, gi ≠ g ∧ w.cell? ⟨g, i, none⟩ = some (.slice (some ⟨gi, 0, none⟩) (L.getD i []).length ci) ∧ w.cell? ⟨gi, j, none⟩ = some (.int .i64 (at2 L i j)) ∧ w.frozen? ⟨gi, j, none⟩ = false ∧
      ∀ x, Sep (w.setCell ⟨gi, j, none⟩ (.int .i64 x)) (OM (.slice (some ⟨g, 0, none⟩) n cap) vs (L.set i ((L.getD i []).set j x)) :: l) := by
  obtain ⟨gi, ci, h1, h2, h3, h4, h5, h6, h7, h8⟩ := h.hd.elemAt hn hi hj
  exact ⟨gi, ci, h2, h5, h6, h7, fun x => h.upd' ((h8 x).2.mono fun k hk => by rw [hk]; exact Foot.at h4) (h8 x).1 fun k hk => Or.inl hk⟩
/-- a new row is put into a place -/
theorem Sep.putM {g n cap : Nat} (h : Sep w (OI u zs :: OM (.slice (some ⟨g, 0, none⟩) n cap) vs L :: l)) (hn : n = L.length) {i : Nat} (hi : i < L.length) :
    Sep (w.setCell ⟨g, i, none⟩ u) (OM (.slice (some ⟨g, 0, none⟩) n cap) (vs.set i u) (L.set i zs) :: l) := by
  have hm := h.s2
  have hp := hm.hd.putNew hn hi h.hd fun j k hk => hm.apt.1 k (Foot.at hk)
  refine hm.join (hp.2.mono fun k hk => Or.inl (by rw [hk]; exact Or.inl rfl)) hp.1 (fun k hk => ?_) (fun k hk => ?_) <;>
  · rcases hk with hk | ⟨x, hx, hk⟩
    · exact Or.inl (Or.inl hk)
    · rcases List.mem_or_eq_of_mem_set hx with h' | rfl
      · exact Or.inl (Or.inr ⟨x, h', hk⟩)
      · exact Or.inr (Or.inl hk)
end

/-! ### append -/
theorem news_one {w : World} {u : Value} {t : TypeId} : ∀ j x, [u][j]? = some x → (w.alloc (.cells #[u] t)).cell? ((⟨w.heap.size, 0, none⟩ : Addr).add j) = some x := by
  intro j x hj
  match j, hj with
  | 0, hj =>
    simp at hj
    subst hj
    simp only [Addr.add, if_true, World.cell?]
    rw [alloc_heap_new]
    rfl
  | j + 1, hj => simp at hj
section
variable {ops : Array Oper} {rest : List Oper} {o : Oper} {a : Act} {Q : Exit → Act → World → Prop} {K : Act → World → Prop} {E : Prop} {w : World} {v u : Value} {vs : List Value} {zs : List Int} {L : List (List Int)} {l : List Asrt} {n : Int}
/-- 'out = append(out, x)'. -/
theorem wp_app_int (s x : Operand) (ho : o.op = .call { callee := .builtin .append, args := #[s, x], argTypes := #[24, 24] })
    (hs : a.eval s = v) (hx : a.eval x = .slice (some ⟨w.heap.size, 0, none⟩) 1 1) (H : Sep w (OI v zs :: l)) (hl : zs.length ≤ 1000000000)
    (h : ∀ g cap w', Sep w' (OI (.slice (some ⟨g, 0, none⟩) (zs.length + 1) cap) (zs ++ [n]) :: l) → K (a.put o.dst (.slice (some ⟨g, 0, none⟩) (zs.length + 1) cap)) w') :
    o.wp Tryd.prog a (w.alloc (.cells #[.int .i64 n] 3)) K Q := by
  obtain ⟨i0, hi, hz0, hz1, hz2⟩ := info_parts info_int
  have H1 := H.al (.cells #[.int .i64 n] 3)
  refine wp_append_lies (P := Tryd.prog) _ s x 24 ho 0 3 i0 (.int .i64 0) 1 8 Tryd.underlying24 hi hz0 hz1 hz2 rfl (by decide) v zs.length (zs.map (Value.int .i64)) hs H1.hd
    ⟨w.heap.size, 0, none⟩ 1 1 [.int .i64 n] hx rfl news_one (fun u hu => by simp at hu; subst hu; rfl) (by omega) (by unfold maxLen; omega) (by omega) (Nat.zero_le _) _ rfl ?_
  intro g cap w1 hown' hgrow hg _
  have ho' : OwnInts 0 w1 (.slice (some ⟨g, 0, none⟩) (zs.length + 1) cap) (zs ++ [n]) := by simpa [OwnInts] using hown'
  refine h g cap w1 (H1.upd' (Only.of_grown (S := Hits v) hgrow fun k hk => hk) ho' fun k hk => ?_)
  have : g = k := by simpa [OI, Hits, Value.ownBlock] using hk
  subst this
  exact hg.imp id (fun h => Nat.le_of_eq h.symm)
theorem app_intS (hgd : o.guard = none) (s x : Operand) (ho : o.op = .call { callee := .builtin .append, args := #[s, x], argTypes := #[24, 24] })
    (hs : a.eval s = v) (hx : a.eval x = .slice (some ⟨w.heap.size, 0, none⟩) 1 1) (H : Sep w (OI v zs :: l)) (hl : zs.length ≤ 1000000000)
    (h : ∀ g cap w', Sep w' (OI (.slice (some ⟨g, 0, none⟩) (zs.length + 1) cap) (zs ++ [n]) :: l) → wpList Tryd.prog ops Q rest (a.put o.dst (.slice (some ⟨g, 0, none⟩) (zs.length + 1) cap)) w') :
    wpList Tryd.prog ops Q (o :: rest) a (w.alloc (.cells #[.int .i64 n] 3)) :=
  wpList_plain hgd fun _ hK => wp_app_int s x ho hs hx H hl fun g cap w' h1 => hK _ _ (h g cap w' h1)
theorem step_app_intS (hgd : o.guard = none) (s x : Operand) (ho : o.op = .call { callee := .builtin .append, args := #[s, x], argTypes := #[24, 24] })
    (hs : a.eval s = v) (hx : a.eval x = .slice (some ⟨w.heap.size, 0, none⟩) 1 1) (H : Sep w (OI v zs :: l)) (hl : zs.length ≤ 1000000000)
    (h : ∀ g cap w', Sep w' (OI (.slice (some ⟨g, 0, none⟩) (zs.length + 1) cap) (zs ++ [n]) :: l) → K (a.put o.dst (.slice (some ⟨g, 0, none⟩) (zs.length + 1) cap)) w') :
    if Region.wanted o (yielded ops a.tmps) = true then Oper.wp Tryd.prog o a (w.alloc (.cells #[.int .i64 n] 3)) K Q else E := by
  rw [if_pos (by simp [Region.wanted, hgd])]
  exact wp_app_int s x ho hs hx H hl h
/-- 'out = append(out, row)': the row joins the list. -/
theorem wp_app_rowS (s x : Operand) (ho : o.op = .call { callee := .builtin .append, args := #[s, x], argTypes := #[37, 37] })
    (hs : a.eval s = v) (hx : a.eval x = .slice (some ⟨w.heap.size, 0, none⟩) 1 1) (H : Sep w (OI u zs :: OM v vs L :: l)) (hl : L.length ≤ 1000000)
    (h : ∀ g cap w', Sep w' (OM (.slice (some ⟨g, 0, none⟩) (L.length + 1) cap) (vs ++ [u]) (L ++ [zs]) :: l) → K (a.put o.dst (.slice (some ⟨g, 0, none⟩) (L.length + 1) cap)) w') :
    o.wp Tryd.prog a (w.alloc (.cells #[u] 24)) K Q := by
  obtain ⟨i0, hi, hz0, hz1, hz2⟩ := info_parts info_ints
  have H1 := H.al (.cells #[u] 24)
  have H2 := H1.s2
  have hown1 := H2.hd
  have hu1 := H1.hd
  have hlen := hown1.len
  refine wp_append_lies (P := Tryd.prog) _ s x 37 ho 0 24 i0 (.slice none 0 0) 1 24 Tryd.underlying37 hi hz0 hz1 hz2 rfl (by decide) v vs.length vs hs hown1.out
    ⟨w.heap.size, 0, none⟩ 1 1 [u] hx rfl news_one (fun u' hu' => by simp at hu'; subst hu'; exact ints_one hu1) (by omega) (by unfold maxLen; omega) (by omega) (Nat.zero_le _) _ rfl ?_
  intro g cap w1 hown' hgrow hg _
  have hon : Only (Hits v) (w.alloc (.cells #[u] 24)) w1 := Only.of_grown hgrow fun k hk => hk
  rw [hlen] at hown' ⊢
  refine h g cap w1 (H2.join (hon.mono fun k hk => Or.inl (Or.inl hk)) (OwnM.join hlen (fun i => (hown1.row i).only hon fun k hk hk' => ?_) hown1.ap (hu1.only hon fun k hk hk' => ?_) (fun i k hk => H2.apt.1 k (Foot.at hk)) (by simpa [hlen] using hown')) (fun k hk => ?_) fun k hk => ?_)
  · exact apart_types hown1.out (hown1.row i) (by decide) k hk' hk
  · exact apart_types hown1.out hu1 (by decide) k hk' hk
  all_goals
    rcases hk with hk | ⟨y, hy, hk⟩
    · have : g = k := by simpa [Hits, Value.ownBlock] using hk
      subst this
      rcases hg with h | h
      · exact Or.inl (Or.inl h)
      · exact Or.inr (Or.inr (Nat.le_of_eq h.symm))
    · rcases List.mem_append.1 hy with h' | h'
      · exact Or.inl (Or.inr ⟨y, h', hk⟩)
      · simp at h'
        subst h'
        exact Or.inr (Or.inl hk)
theorem app_rowS (hgd : o.guard = none) (s x : Operand) (ho : o.op = .call { callee := .builtin .append, args := #[s, x], argTypes := #[37, 37] })
    (hs : a.eval s = v) (hx : a.eval x = .slice (some ⟨w.heap.size, 0, none⟩) 1 1) (H : Sep w (OI u zs :: OM v vs L :: l)) (hl : L.length ≤ 1000000)
    (h : ∀ g cap w', Sep w' (OM (.slice (some ⟨g, 0, none⟩) (L.length + 1) cap) (vs ++ [u]) (L ++ [zs]) :: l) → wpList Tryd.prog ops Q rest (a.put o.dst (.slice (some ⟨g, 0, none⟩) (L.length + 1) cap)) w') :
    wpList Tryd.prog ops Q (o :: rest) a (w.alloc (.cells #[u] 24)) :=
  wpList_plain hgd fun _ hK => wp_app_rowS s x ho hs hx H hl fun g cap w' h1 => hK _ _ (h g cap w' h1)
theorem step_app_rowS (hgd : o.guard = none) (s x : Operand) (ho : o.op = .call { callee := .builtin .append, args := #[s, x], argTypes := #[37, 37] })
    (hs : a.eval s = v) (hx : a.eval x = .slice (some ⟨w.heap.size, 0, none⟩) 1 1) (H : Sep w (OI u zs :: OM v vs L :: l)) (hl : L.length ≤ 1000000)
    (h : ∀ g cap w', Sep w' (OM (.slice (some ⟨g, 0, none⟩) (L.length + 1) cap) (vs ++ [u]) (L ++ [zs]) :: l) → K (a.put o.dst (.slice (some ⟨g, 0, none⟩) (L.length + 1) cap)) w') :
    if Region.wanted o (yielded ops a.tmps) = true then Oper.wp Tryd.prog o a (w.alloc (.cells #[u] 24)) K Q else E := by
  rw [if_pos (by simp [Region.wanted, hgd])]
  exact wp_app_rowS s x ho hs hx H hl h
end

end Go.Proofs.YtpeaeminjbjlnaaDoor

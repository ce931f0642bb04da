/-
  The reduction of a list of rows, another beside it. Conditions: the elements are small.
-/
import Derived.Test.YtghfifpicklonaaDoorYu03
import Derived.Test.YtghfifpicklonaaDoorYu02
import Derived.Deep.RegionHeld3
import Derived.Deep.AppendLies
import Derived.Deep.RegionLaw
namespace Go.Proofs.YtghfifpicklonaaDoor
open Go.RowKit
set_option linter.unusedVariables false

theorem caps3 {w : World} {B : Nat} {v u : Value} {vs us : List Value} {R T : List (List Int)} (h2 : Two B w v vs u us R T) (p : Int) (tp tv tu : TypeId) :
    Mid B w.heap.size w.heap.size (w.heap.size + 1) (w.heap.size + 1 + 1) p v u vs us w R T (((w.alloc (.cells #[.int .i64 p] tp)).alloc (.cells #[v] tv)).alloc (.cells #[u] tu)) := by
  have s1 : (w.alloc (.cells #[.int .i64 p] tp)).heap.size = w.heap.size + 1 := by simp
  have s2 : ((w.alloc (.cells #[.int .i64 p] tp)).alloc (.cells #[v] tv)).heap.size = w.heap.size + 2 := by simp
  have s3 : (((w.alloc (.cells #[.int .i64 p] tp)).alloc (.cells #[v] tv)).alloc (.cells #[u] tu)).heap.size = w.heap.size + 3 := by simp
  have g1 := grownBy_alloc w (.cells #[.int .i64 p] tp) none
  have g2 := grownBy_alloc (w.alloc (.cells #[.int .i64 p] tp)) (.cells #[v] tv) none
  have g3 := grownBy_alloc ((w.alloc (.cells #[.int .i64 p] tp)).alloc (.cells #[v] tv)) (.cells #[u] tu) none
  have c1 := box_cell w #[.int .i64 p] tp 0
  have c2 := box_cell (w.alloc (.cells #[.int .i64 p] tp)) #[v] tv 0
  have c3 := box_cell ((w.alloc (.cells #[.int .i64 p] tp)).alloc (.cells #[v] tv)) #[u] tu 0
  generalize w.alloc (.cells #[.int .i64 p] tp) = w1 at *
  generalize w1.alloc (.cells #[v] tv) = w2 at *
  generalize w2.alloc (.cells #[u] tu) = w3 at *
  rw [s1] at c2
  rw [s2] at c3
  have o1 : Only (fun _ => False) w w1 := Only.of_grown g1 (by simp)
  have o2 : Only (fun _ => False) w1 w2 := Only.of_grown g2 (by simp)
  have o3 : Only (fun _ => False) w2 w3 := Only.of_grown g3 (by simp)
  have o := (o1.trans o2).trans o3
  have d2 : w2.cell? ⟨w.heap.size, 0, none⟩ = w1.cell? ⟨w.heap.size, 0, none⟩ := World.cell?_of_block (a := ⟨w.heap.size, 0, none⟩) (o2.block w.heap.size (by omega) (fun h => h))
  have d3 : w3.cell? ⟨w.heap.size, 0, none⟩ = w2.cell? ⟨w.heap.size, 0, none⟩ := World.cell?_of_block (a := ⟨w.heap.size, 0, none⟩) (o3.block w.heap.size (by omega) (fun h => h))
  have d4 : w3.cell? ⟨w.heap.size + 1, 0, none⟩ = w2.cell? ⟨w.heap.size + 1, 0, none⟩ := World.cell?_of_block (a := ⟨w.heap.size + 1, 0, none⟩) (o3.block (w.heap.size + 1) (by omega) (fun h => h))
  refine ⟨⟨vs, us, ⟨h2.mR.only o (fun _ _ h => h), h2.mT.only o (fun _ _ h => h), h2.ap⟩, fun x h => h, fun x h => h⟩, o.mono fun _ h => h.elim, ⟨?_, ?_, ?_, by omega, by omega, by omega, by omega, by omega, by omega⟩⟩
  · rw [d3, d2, c1]; rfl
  · rw [d4, c2]; rfl
  · rw [c3]; rfl
/-- the shape of the rows at a round -/
theorem at_round {p : Nat} [NeZero p] (hfld : fldN p = true) {m n n' k : Nat} {R T : List (List Int)} (hf : Fit p m n n' R T) (hk : k ≤ n) : Fit p m n n' (redTo p R T k).R (redTo p R T k).T ∧ (redTo p R T k).r ≤ m := by
  obtain ⟨h1, _⟩ := red_inv hfld hf.oR hf.oT hf.lR hf.lT k hk
  obtain ⟨piv, he⟩ := h1.elim
  exact ⟨⟨h1.lenR, h1.lenT, h1.okR, h1.okT⟩, he.rm⟩
theorem pivAt_is_none {R : List (List Int)} {c r : Nat} (hr : r ≤ R.length) (h : ∀ l, r ≤ l → l < R.length → at2 R l c = 0) : pivAt R c r = none := by
  cases hp : pivAt R c r with
  | none => rfl
  | some j =>
    obtain ⟨h1, h2, h3⟩ := pivAt_some hr hp
    exact absurd (h j h1 h2) h3
theorem pivAt_is_some {R : List (List Int)} {c r j : Nat} (hr : r ≤ R.length) (h : ∀ l, r ≤ l → l < j → at2 R l c = 0) (h1 : r ≤ j) (h2 : j < R.length) (h3 : at2 R j c ≠ 0) : pivAt R c r = some j := by
  cases hp : pivAt R c r with
  | none => exact absurd (pivAt_none hr hp j h1 h2) h3
  | some i =>
    obtain ⟨a1, a2, a3⟩ := pivAt_some hr hp
    obtain ⟨_, _, _, a4⟩ := firstFrom_some hp
    rcases Nat.lt_trichotomy i j with hij | hij | hij
    · exact absurd (h i a1 hij) a3
    · rw [hij]
    · have := a4 j h1 hij
      simp at this
      exact absurd this h3
theorem fit_swap {p : Nat} [NeZero p] {m n n' : Nat} {R T : List (List Int)} (h : Fit p m n n' R T) {r j : Nat} (hr : r < m) (hj : j < m) : Fit p m n n' (swapL R r j) (swapL T r j) := by
  have l1 := h.lR; have l2 := h.lT
  exact ⟨by rw [swapL_len]; exact l1, by rw [swapL_len]; exact l2, swapL_ok h.oR (by omega) (by omega), swapL_ok h.oT (by omega) (by omega)⟩
theorem fit_div {p : Nat} [NeZero p] {m n n' : Nat} {R T : List (List Int)} (h : Fit p m n n' R T) {r : Nat} (hr : r < m) (y : Int) : Fit p m n n' (divL p R r y) (divL p T r y) := by
  have l1 := h.lR; have l2 := h.lT
  exact ⟨by rw [divL_len]; exact l1, by rw [divL_len]; exact l2, divL_ok h.oR (by omega) y, divL_ok h.oT (by omega) y⟩
theorem fit_clear {p : Nat} [NeZero p] {m n n' : Nat} {R T : List (List Int)} (h : Fit p m n n' R T) {r : Nat} (hr : r < m) (c i : Nat) : Fit p m n n' (clearTo p R c r R i) (clearTo p R c r T i) := by
  have l1 := h.lR; have l2 := h.lT
  exact ⟨by rw [clearTo_len]; exact l1, by rw [clearTo_len]; exact l2, clearTo_ok h.oR (by omega), clearTo_ok h.oT (by omega)⟩
set_option maxRecDepth 100000 in
set_option maxHeartbeats 4000000 in
theorem reduction_any (p : Nat) [NeZero p] (v u : Value) (vs us : List Value) (R T : List (List Int)) (m n n' B : Nat) (w : World) (hfld : fldN p = true) (h2 : Two B w v vs u us R T) (hf : Fit p m n n' R T)
    (hm : m ≤ 1000) (hn : n ≤ 1000) (hn' : n' ≤ 1000) (hp2 : p ≤ 1000) :
    Calls Tryd.prog 94 #[.int .i64 p, v, .int .i64 n, u] w fun e w' => e = .returned (.int .i64 (redTo p R T n).r) ∧
      ∃ vs' us', Two B w' v vs' u us' (redTo p R T n).R (redTo p R T n).T ∧ Only (Feet v vs u us) w w' := by
  have hp1 := lt_p hfld
  have HN := Lib.hid (show ∀ k, Feet v vs u us k → k < w.heap.size from fun k hk => by
    rcases hk with hk | hk
    · exact (h2.mR.lt hk).2
    · exact (h2.mT.lt hk).2)
  have HM := Lib.hid (caps3 h2 p 3 22 22)
  have HAT := Lib.hid (fun k (hk : k ≤ n) => at_round hfld hf hk)
  have HF := Lib.hid hf
  have HP := Lib.hid hfld
  have hshape : ∃ a cap, v = .slice a m cap := by
    obtain ⟨a, c, h, _⟩ := h2.mR.read
    exact ⟨a, c, by rw [h, hf.lR]⟩
  obtain ⟨a, cap, rfl⟩ := hshape
  have hshape : ∃ a cap, u = .slice a m cap := by
    obtain ⟨a, c, h, _⟩ := h2.mT.read
    exact ⟨a, c, by rw [h, hf.lT]⟩
  obtain ⟨ua, ucap, rfl⟩ := hshape
  clear h2 hf hfld
  go_enter Tryd.func94, Tryd.ntmps94
  go_wp2_with fail
  generalize ((w.alloc (.cells #[.int .i64 p] 3)).alloc (.cells #[.slice a m cap] 22)).alloc (.cells #[.slice ua m ucap] 22) = w1 at *
  generalize w.heap.size + 1 + 1 = ba at *
  generalize w.heap.size + 1 = br at *
  generalize w.heap.size = N at *
  go_loopw [9, 11] (fun r c wr => ∃ k : Nat, k ≤ n ∧ c = .int .i64 k ∧ r = .int .i64 (redTo p R T k).r ∧ Mid B N N br ba p (.slice a m cap) (.slice ua m ucap) vs us w (redTo p R T k).R (redTo p R T k).T wr) (fun _ c _ => n - (intOf c).toNat)
  case atStart => exact ⟨0, by omega, rfl, rfl, HM.out⟩
  case round =>
    obtain ⟨k, hk, rfl, rfl, hmid⟩ := hrel
    have HMID := Lib.hid hmid
    obtain ⟨hfit, hrm⟩ := HAT.out k hk
    have HFIT := Lib.hid hfit
    clear hmid hfit
    have hstop : (redTo p R T k).r = m ∨ k = n → redTo p R T n = redTo p R T k := by
      rintro (h | h)
      · have e : n = k + (n - k) := by omega
        rw [e]
        exact redTo_stop (by rw [HFIT.out.lR]; omega) _
      · rw [h]
    have HSTOP := Lib.hid hstop
    have hnext : redTo p R T (k + 1) = stepL p k (redTo p R T k) := rfl
    have HNEXT := Lib.hid hnext
    clear hstop hnext
    generalize hs : redTo p R T k = s at *
    clear hs
    generalize hsr : s.r = r at *
    have HSR := Lib.hid hsr
    clear hsr
    have crr := HMID.out.cap.cr
    by_cases hkn : k < n
    · by_cases hrlt : r < m
      · obtain ⟨g, cap', _, _, hve, _, _⟩ := HMID.out.elem HFIT.out hrlt hkn
        simp only [Value.slice.injEq, true_and] at hve
        obtain ⟨rfl, rfl⟩ := hve
        go_wp2_with fail
        go_loop [12] (fun i => ∃ j : Nat, j ≤ m ∧ i = .int .i64 j ∧ r ≤ j ∧ ∀ l, r ≤ l → l < j → at2 s.R l k = 0) (fun i => m - (intOf i).toNat)
        case atStart => exact ⟨r, hrm, rfl, Nat.le_refl _, fun l h1 h2 => absurd h1 (by omega)⟩
        case round =>
          obtain ⟨j, hjm, rfl, hrj, hz⟩ := hrel
          have HZ := Lib.hid hz
          clear hz
          by_cases hj : j < m
          · obtain ⟨g', cap'', gj, cj, hve, e1, e2⟩ := HMID.out.elem HFIT.out hj hkn
            simp only [Value.slice.injEq, Option.some.injEq, Addr.mk.injEq, and_true, true_and] at hve
            obtain ⟨rfl, rfl⟩ := hve
            generalize hy : at2 s.R j k = y at *
            have HY := Lib.hid hy
            clear hy
            by_cases hy0 : y = 0
            · subst hy0
              go_wp2
              go_round
              case rel => exact ⟨j + 1, by omega, by go_num, by omega, fun l h1 h2 => by
                by_cases hlj : l = j
                · rw [hlj]; exact HY.out
                · exact HZ.out l h1 (by omega)⟩
              case measure => simp [intOf]; omega
            · have hyb : (y == 0) = false := by rw [beq_eq_false_iff_ne]; exact hy0
              have hjb : ((j : Int) == m) = false := by rw [beq_eq_false_iff_ne]; omega
              have S1 := mid_swap r j HMID.out HFIT.out HN.out hrlt hj hm
              unfold opV at S1
              have S1 := Lib.hid S1
              have hfit1 := fit_swap HFIT.out hrlt hj
              have HFIT1 := Lib.hid hfit1
              have hpiv : pivAt s.R k r = some j := pivAt_is_some (by rw [HFIT.out.lR]; exact hrm) HZ.out hrj (by rw [HFIT.out.lR]; exact hj) (by rw [HY.out]; exact hy0)
              have hstep : stepL p k s = stepWith p k j s := by unfold stepL; rw [HSR.out, hpiv]
              have HSTEP := Lib.hid hstep
              clear hstep hpiv hfit1
              have hyb2 : 0 ≤ at2 (swapL s.R r j) r k ∧ at2 (swapL s.R r j) r k < p := at2_ok HFIT1.out.oR
              generalize hR1 : swapL s.R r j = R1 at *
              generalize hT1 : swapL s.T r j = T1 at *
              have HR1 := Lib.hid hR1; have HT1 := Lib.hid hT1
              clear hR1 hT1
              generalize hy2 : at2 R1 r k = y2 at *
              have HY2 := Lib.hid hy2
              clear hy2
              have S2 := fun w2 h => mid_div (B := B) (N := N) (bp := N) (br := br) (ba := ba) (p := p) (v := .slice (some ⟨g, 0, none⟩) m cap) (u := .slice ua m ucap) (vs0 := vs) (us0 := us) (w0 := w) (w := w2) r y2 h HFIT1.out HN.out hrlt hm hn hn' (by omega) (by omega) (by omega)
              unfold opV at S2
              have S2 := Lib.hid S2
              have HFIT2 := Lib.hid (fit_div HFIT1.out hrlt (invI p y2))
              generalize hR2 : divL p R1 r (invI p y2) = R2 at *
              generalize hT2 : divL p T1 r (invI p y2) = T2 at *
              have HR2 := Lib.hid hR2; have HT2 := Lib.hid hT2
              clear hR2 hT2
              go_wp2_with (
                go_at_call 128
                first
                  | (with_reducible refine S1.out.mono ?_
                     rintro e w2 ⟨rfl, hm2⟩
                     have HM2 := Lib.hid hm2
                     have cr2 := hm2.cap.cr
                     obtain ⟨g2, cap2, gr2, cr2', hve, d1, d2⟩ := hm2.elem HFIT1.out hrlt hkn
                     simp only [Value.slice.injEq, Option.some.injEq, Addr.mk.injEq, and_true, true_and] at hve
                     obtain ⟨rfl, rfl⟩ := hve
                     rw [HY2.out] at d2
                     clear hm2)
                  | (with_reducible refine (S2.out _ HM2.out).mono ?_
                     rintro e w3 ⟨rfl, hm3⟩
                     have HM3 := Lib.hid hm3
                     have cr3 := hm3.cap.cr
                     clear hm3))
              go_loopw [65] (fun i wx => ∃ l : Nat, l ≤ m ∧ i = .int .i64 l ∧ Mid B N N br ba p (.slice (some ⟨g, 0, none⟩) m cap) (.slice ua m ucap) vs us w (clearTo p R2 k r R2 l) (clearTo p R2 k r T2 l) wx) (fun i _ => m - (intOf i).toNat)
              case atStart => exact ⟨0, by omega, rfl, by rw [clearTo_zero, clearTo_zero]; exact HM3.out⟩
              case round =>
                obtain ⟨l, hlm, rfl, hmid4⟩ := hrel
                have HM4 := Lib.hid hmid4
                have cr4 := hmid4.cap.cr
                clear hmid4
                by_cases hl : l < m
                · have hfit4 := fit_clear HFIT2.out hrlt k l
                  obtain ⟨g4, cap4, gl4, cl4, hve, d1', d2'⟩ := HM4.out.elem hfit4 hl hkn
                  simp only [Value.slice.injEq, Option.some.injEq, Addr.mk.injEq, and_true, true_and] at hve
                  obtain ⟨rfl, rfl⟩ := hve
                  rw [clearTo_at] at d2'
                  have hzb := at2_ok (i := l) (c := k) HFIT2.out.oR
                  by_cases hlr : l = r
                  · have hb1 : ((l : Int) != r) = false := by rw [bne_eq_false_iff_eq]; omega
                    have hskip : ¬ (l ≠ r ∧ at2 R2 l k ≠ 0) := fun h => h.1 hlr
                    have A1 := Lib.hid (clearTo_skip (p := p) (A := R2) hskip)
                    have A2 := Lib.hid (clearTo_skip (p := p) (A := T2) hskip)
                    clear hskip hfit4
                    go_wp2
                    go_roundw
                    case rel => exact ⟨l + 1, by omega, by go_num, by rw [A1.out, A2.out]; exact HM4.out⟩
                    case measure => simp [intOf]; omega
                  · have hb1 : ((l : Int) != r) = true := by rw [bne_iff_ne]; omega
                    by_cases hz0 : at2 R2 l k = 0
                    · have hskip : ¬ (l ≠ r ∧ at2 R2 l k ≠ 0) := fun h => h.2 hz0
                      have A1 := Lib.hid (clearTo_skip (p := p) (A := R2) hskip)
                      have A2 := Lib.hid (clearTo_skip (p := p) (A := T2) hskip)
                      rw [hz0] at d2'
                      clear hskip hfit4 hz0
                      go_wp2
                      go_roundw
                      case rel => exact ⟨l + 1, by omega, by go_num, by rw [A1.out, A2.out]; exact HM4.out⟩
                      case measure => simp [intOf]; omega
                    · have A1 := Lib.hid (clearTo_do (p := p) (A := R2) (by rw [HFIT2.out.lR]; exact hl) ⟨hlr, hz0⟩)
                      have A2 := Lib.hid (clearTo_do (p := p) (A := T2) (by rw [HFIT2.out.lT]; exact hl) ⟨hlr, hz0⟩)
                      generalize at2 R2 l k = z at *
                      have hb2 : (z != 0) = true := by rw [bne_iff_ne]; exact hz0
                      have S3 := mid_sub l r z HM4.out hfit4 HN.out hl hrlt hlr hm hn hn' (by omega) (by omega) (by omega)
                      unfold opV at S3
                      have S3 := Lib.hid S3
                      clear hfit4
                      go_wp2_with (
                        go_at_call 128
                        with_reducible refine S3.out.mono ?_
                        rintro e w5 ⟨rfl, hm5⟩
                        have HM5 := Lib.hid hm5
                        clear hm5)
                      go_roundw
                      case rel => exact ⟨l + 1, by omega, by go_num, by rw [A1.out, A2.out]; exact HM5.out⟩
                      case measure => simp [intOf]; omega
                · have A1 : clearTo p R2 k r R2 l = clearL p R2 k r R2 := by
                    have e : l = R2.length := by rw [HFIT2.out.lR]; omega
                    rw [e]; exact clearTo_all _ _ _ _ _
                  have A2 : clearTo p R2 k r T2 l = clearL p R2 k r T2 := by
                    have e : l = T2.length := by rw [HFIT2.out.lT]; omega
                    rw [e]; exact clearTo_all _ _ _ _ _
                  have B1 := Lib.hid A1; have B2 := Lib.hid A2
                  clear A1 A2
                  have hfin : stepWith p k j s = ⟨clearL p R2 k r R2, clearL p R2 k r T2, r + 1⟩ := by
                    unfold stepWith
                    simp only [HSR.out, HR1.out, HT1.out, HY2.out, HR2.out, HT2.out]
                  have HFIN := Lib.hid hfin
                  clear hfin
                  go_wp2
                  go_roundw
                  case rel =>
                   exact ⟨k + 1, by omega, by go_num, by rw [HNEXT.out, HSTEP.out, HFIN.out]; go_num, by rw [HNEXT.out, HSTEP.out, HFIN.out]; have := HM4.out; rw [B1.out, B2.out] at this; exact this⟩
                  case measure => simp [intOf]; omega
          · have hpiv : pivAt s.R k r = none := pivAt_is_none (by rw [HFIT.out.lR]; exact hrm) fun l h1 h2 => HZ.out l h1 (by have := HFIT.out.lR; omega)
            have hstep : stepL p k s = s := by unfold stepL; rw [HSR.out, hpiv]
            have HSTEP := Lib.hid hstep
            clear hstep hpiv
            have hjb : ((j : Int) == m) = true := by rw [beq_iff_eq]; omega
            go_wp2
            go_roundw
            case rel => exact ⟨k + 1, by omega, by go_num, by rw [HNEXT.out, HSTEP.out, HSR.out], by rw [HNEXT.out, HSTEP.out]; exact HMID.out⟩
            case measure => simp [intOf]; omega
      · have he := Lib.hid (HSTOP.out (Or.inl (by omega)))
        go_wp2
        go_ret
        obtain ⟨vs', us', t, _⟩ := HMID.out.ex
        exact ⟨by rw [he.out, HSR.out]; rfl, vs', us', by rw [he.out]; exact t, HMID.out.on⟩
    · have he := Lib.hid (HSTOP.out (Or.inr (by omega)))
      go_wp2
      go_ret
      obtain ⟨vs', us', t, _⟩ := HMID.out.ex
      exact ⟨by rw [he.out, HSR.out]; rfl, vs', us', by rw [he.out]; exact t, HMID.out.on⟩
end Go.Proofs.YtghfifpicklonaaDoor

/-
  The functions on matrices: what is a matrix, reduced lists, kernels. Conditions: lengths are small.
-/
namespace Go.Proofs.YtghfifpicklonaaDoor
open Go.RowKit
set_option linter.unusedVariables false

def mxV (cols : Int) (v : Value) : Value := .agg #[.int .i64 cols, v]
def matB (p cols : Int) (L : List (List Int)) : Bool := fldB p && (decide (0 ≤ cols ∧ cols ≤ 24) && (decide (L.length ≤ 24) && rowsB p cols L))
theorem MatV.shape {w : World} {v : Value} {L : List (List Int)} (h : MatV w v L) : ∃ a c, v = .slice a L.length c := by
  obtain ⟨a, c, rfl, _⟩ := h
  exact ⟨a, c, rfl⟩
set_option maxHeartbeats 1000000 in
theorem isMatrix_any (p cols : Int) (v : Value) (L : List (List Int)) (w : World) (ht : Tab w) (hv : MatV w v L) (hl : L.length ≤ 1000000) (hll : ∀ row ∈ L, row.length ≤ 1000000) :
    Calls Tryd.prog 90 #[.int .i64 p, mxV cols v] w fun e w' => e = .returned (.bool (matB p cols L)) ∧ w.grownBy w' none := by
  unfold mxV
  have hgr := fun v => grownBy_alloc w (.cells #[.int .i64 cols, v] 44) none
  have HT := Lib.hid (fun v => isField_any p _ (ht.alloc (.cells #[.int .i64 cols, v] 44)))
  have HA := Lib.hid (areVectors_anyL p cols v L _ (hv.carry (hgr v)) hl hll)
  have HG := Lib.hid hgr
  obtain ⟨a, c, rfl⟩ := hv.shape
  clear hv hgr ht hll
  generalize hlen : L.length = l at *
  have HL := Lib.hid hlen
  clear hlen
  cases h1 : fldB p
  · have hm : matB p cols L = false := by unfold matB; rw [h1]; rfl
    have HM := Lib.hid hm
    rw [h1] at HT
    clear hm h1
    go_enter Tryd.func90, Tryd.ntmps90
    go_wp2_with (go_at_call 73; refine (HT.out _).mono ?_; rintro e w' ⟨rfl, rfl⟩)
    go_ret
    exact ⟨by rw [HM.out]; rfl, HG.out _⟩
  · by_cases h2 : 0 ≤ cols ∧ cols ≤ 24
    · have h2' : decide (0 ≤ cols ∧ cols ≤ 24) = true := decide_eq_true h2
      by_cases h3 : l ≤ 24
      · have h3' : decide ((l : Int) ≤ 24) = true := decide_eq_true (by omega)
        have hm : matB p cols L = rowsB p cols L := by unfold matB; rw [h1, decide_eq_true h2, HL.out, decide_eq_true h3]; rfl
        have HM := Lib.hid hm
        rw [h1] at HT
        clear hm h1
        generalize rowsB p cols L = b at *
        go_enter Tryd.func90, Tryd.ntmps90
        go_wp2_with (first
          | (go_at_call 73; refine (HT.out _).mono ?_; rintro e w' ⟨rfl, rfl⟩)
          | (go_at_call 74; refine (within_any _ _ _ _).mono ?_; rintro e w' ⟨rfl, rfl⟩)
          | (go_at_call 76; refine HA.out.mono ?_; rintro e w' ⟨rfl, rfl⟩))
        go_ret
        exact ⟨by rw [HM.out]; rfl, HG.out _⟩
      · have h3' : decide ((l : Int) ≤ 24) = false := decide_eq_false (by omega)
        have hm : matB p cols L = false := by unfold matB; rw [h1, decide_eq_true h2, HL.out, decide_eq_false h3]; rfl
        have HM := Lib.hid hm
        rw [h1] at HT
        clear hm h1
        go_enter Tryd.func90, Tryd.ntmps90
        go_wp2_with (first
          | (go_at_call 73; refine (HT.out _).mono ?_; rintro e w' ⟨rfl, rfl⟩)
          | (go_at_call 74; refine (within_any _ _ _ _).mono ?_; rintro e w' ⟨rfl, rfl⟩))
        go_ret
        exact ⟨by rw [HM.out]; rfl, HG.out _⟩
    · have h2' : decide (0 ≤ cols ∧ cols ≤ 24) = false := decide_eq_false h2
      have hm : matB p cols L = false := by unfold matB; rw [h1, decide_eq_false h2]; rfl
      have HM := Lib.hid hm
      rw [h1] at HT
      clear hm h1
      go_enter Tryd.func90, Tryd.ntmps90
      go_wp2_with (first
        | (go_at_call 73; refine (HT.out _).mono ?_; rintro e w' ⟨rfl, rfl⟩)
        | (go_at_call 74; refine (within_any _ _ _ _).mono ?_; rintro e w' ⟨rfl, rfl⟩))
      go_ret
      exact ⟨by rw [HM.out]; rfl, HG.out _⟩
end Go.Proofs.YtghfifpicklonaaDoor

/-
  Reduced lists and kernels, as values that can be read. Conditions: lengths are small; rows of elements.
-/
namespace Go.Proofs.YtghfifpicklonaaDoor
open Go.RowKit
set_option linter.unusedVariables false

theorem MatV.part {w : World} {a : Option Addr} {n cap : Nat} {L : List (List Int)} (h : MatV w (.slice a n cap) L) (s t c : Nat) (ht : t ≤ L.length) (a' : Option Addr)
    (ha : ∀ d, a = some d → s < t → ∃ d', a' = some d' ∧ d'.block = d.block ∧ d'.off = d.off + s ∧ d'.spot = none) : MatV w (.slice a' (t - s) c) ((L.take t).drop s) := by
  obtain ⟨a0, c0, he, hi⟩ := h
  cases he
  have hlen : ((L.take t).drop s).length = t - s := by simp; omega
  refine ⟨a', c, by rw [hlen], fun hz => ?_⟩
  have hst : s < t := by
    rcases Nat.lt_or_ge s t with h | h
    · exact h
    · exact absurd (List.eq_nil_of_length_eq_zero (by rw [hlen]; omega)) hz
  obtain ⟨d, had, hs, hd, hr⟩ := hi (by intro h; rw [h] at ht; simp at ht; omega)
  obtain ⟨d', ha', hb, ho, hsp⟩ := ha d had hst
  refine ⟨d', ha', hsp, by rw [hb]; exact hd, fun i hi' => ?_⟩
  have hi2 : s + i < L.length := by rw [hlen] at hi'; omega
  obtain ⟨u, hu, hv⟩ := hr (s + i) hi2
  refine ⟨u, ?_, ?_⟩
  · rw [hb, ho, Nat.add_assoc]; exact hu
  · have e : ((L.take t).drop s)[i] = L[s + i] := by rw [List.getElem_drop, List.getElem_take]
    rw [e]; exact hv
theorem madeCells_nil (n : Nat) : (madeCells (Value.slice none 0 0).cells (n * 1)).toList = List.replicate n nilS := by
  refine List.ext_getElem (by simp [madeCells]) fun j h1 h2 => ?_
  simp [madeCells, Value.cells, Nat.mod_one, nilS]
theorem getD_repl {n i : Nat} : (List.replicate n nilS).getD i nilS = nilS := by
  rw [List.getD_eq_getElem?_getD, List.getElem?_replicate]
  split <;> rfl
theorem getD_repl' {n i : Nat} : (List.replicate n ([] : List Int)).getD i [] = [] := by
  rw [List.getD_eq_getElem?_getD, List.getElem?_replicate]
  split <;> rfl
theorem OwnM.nils {B : Nat} {w : World} {v : Value} {n : Nat} (h : w.ownsRow B 27 1 v n (List.replicate n nilS)) : OwnM B w v (List.replicate n nilS) (List.replicate n []) :=
  ⟨by simp, by rw [List.length_replicate]; exact h, fun i => by rw [getD_repl, getD_repl']; exact OwnInts.nil B w, fun i j _ k hk => by rw [getD_repl] at hk; exact absurd hk nil_hits⟩
theorem nils_ok (p : Int) (n : Nat) : RowsOk p 0 (List.replicate n []) := by
  intro row hrow
  rw [List.eq_of_mem_replicate hrow]
  exact ⟨rfl, fun x hx => by simp at hx⟩
theorem own_form {B : Nat} {w : World} {v : Value} {vs : List Value} {L : List (List Int)} (h : OwnM B w v vs L) : ∃ a c, v = .slice a L.length c ∧ (a = none ∨ ∃ g, a = some ⟨g, 0, none⟩) ∧ L.length ≤ c := by
  have h1 := h.len
  rcases h.out.2 with ⟨rfl, h0⟩ | ⟨g, cap, cur, rfl, _, _, hc, _⟩
  · exact ⟨none, 0, by rw [← h1, h0], Or.inl rfl, by omega⟩
  · exact ⟨some ⟨g, 0, none⟩, cap, by rw [h1], Or.inr ⟨g, rfl⟩, by omega⟩
theorem Two.base {B : Nat} {w : World} {v u : Value} {vs us : List Value} {R T : List (List Int)} (h : Two B w v vs u us R T) {k : Nat} (hk : Feet v vs u us k) : B ≤ k := by
  rcases hk with hk | hk
  · exact (h.mR.lt hk).1
  · exact (h.mT.lt hk).1
theorem two_nils {B m : Nat} {w1 w2 : World} {v : Value} {vs : List Value} {L : List (List Int)} (h : OwnM B w1 v vs L)
    (h2 : w2.ownsRow B 27 1 (.slice (some ⟨w1.heap.size, 0, none⟩) m m) m (madeCells (Value.slice none 0 0).cells (m * 1)).toList) (hg : w1.grownBy w2 none) :
    Two B w2 v vs (.slice (some ⟨w1.heap.size, 0, none⟩) m m) (List.replicate m nilS) L (List.replicate m []) := by
  rw [madeCells_nil] at h2
  refine ⟨h.carry hg, OwnM.nils h2, fun k hk hk' => ?_⟩
  have h3 := (h.lt hk).2
  rcases hk' with hk' | ⟨x, hx, hk'⟩
  · simp only [Hits, Value.ownBlock, Option.some.injEq] at hk'
    omega
  · rw [List.eq_of_mem_replicate hx] at hk'
    exact nil_hits hk'
/-- The first rows of a list of the call's own. -/
def Pre (B : Nat) (w : World) (v : Value) (L : List (List Int)) : Prop :=
  ∃ a m c c' vs R, v = .slice a L.length c' ∧ OwnM B w (.slice a m c) vs R ∧ L.length ≤ R.length ∧ L = R.take L.length
theorem Pre.read {B : Nat} {w : World} {v : Value} {L : List (List Int)} (h : Pre B w v L) : MatV w v L := by
  obtain ⟨a, m, c, c', vs, R, rfl, ho, hl, hL⟩ := h
  obtain ⟨va, vc, hve, hvi, hcap⟩ := own_form ho
  cases hve
  have h := ho.read.part 0 L.length c' hl a fun d hd _ => by
    subst hd
    rcases hvi with h | ⟨g, h⟩
    · cases h
    · cases h; exact ⟨_, rfl, rfl, rfl, rfl⟩
  rw [← hL] at h
  simpa using h
theorem Pre.carry {B : Nat} {w w' : World} {v : Value} {L : List (List Int)} (h : Pre B w v L) (hg : w.grownBy w' none) : Pre B w' v L := by
  obtain ⟨a, m, c, c', vs, R, h1, ho, h2, h3⟩ := h
  exact ⟨a, m, c, c', vs, R, h1, ho.carry hg, h2, h3⟩
theorem Pre.base {B B' : Nat} {w : World} {v : Value} {L : List (List Int)} (h : Pre B w v L) (hB : B' ≤ B) : Pre B' w v L := by
  obtain ⟨a, m, c, c', vs, R, h1, ho, h2, h3⟩ := h
  exact ⟨a, m, c, c', vs, R, h1, ho.base hB, h2, h3⟩
theorem tail_eq {L : List (List Int)} {m r : Nat} (hl : L.length = m) : (L.take m).drop r = L.drop r := by rw [List.take_of_length_le (by omega)]
theorem tail_a {w : World} {a : Option Addr} {m c r : Nat} {L : List (List Int)} (h : MatV w (.slice a m c) L) (hl : L.length = m) (hr : r ≤ m) (c' : Nat) (hrm : m ≤ r) : MatV w (.slice a (m - r) c') (L.drop r) := by
  rw [← tail_eq hl]
  exact h.part r m c' (by omega) a fun d _ hlt => absurd hlt (by omega)
theorem tail_b {w : World} {a : Option Addr} {m c r : Nat} {L : List (List Int)} (h : MatV w (.slice a m c) L) (hl : L.length = m) (hr : r ≤ m) (ha : a = none ∨ ∃ g, a = some ⟨g, 0, none⟩) (c' : Nat) : MatV w (.slice (Option.map (fun x => x.add r) a) (m - r) c') (L.drop r) := by
  rw [← tail_eq hl]
  refine h.part r m c' (by omega) _ fun d hd _ => ?_
  subst hd
  rcases ha with ha | ⟨g, ha⟩
  · cases ha
  · cases ha
    refine ⟨_, rfl, ?_, ?_, ?_⟩ <;> (unfold Addr.add; split <;> first | rfl | (simp; omega))
theorem low_frame {w w1 w2 w3 : World} {v u : Value} {vs us : List Value} {R T : List (List Int)} (h1 : w.grownBy w1 none) (h2 : w1.grownBy w2 none) (t : Two w.heap.size w2 v vs u us R T) (on : Only (Feet v vs u us) w2 w3) : Below w.heap.size w w3 :=
  (Below.grown (Below.grown (Below.refl _ w) h1 (Nat.le_refl _) (by simp)) h2 h1.size (by simp)).trans (on.below (Nat.le_trans h1.size h2.size) fun k hk => t.base hk)
theorem two_ids {w w1 w2 : World} {v u : Value} {vs us : List Value} {R T : List (List Int)} (h : OwnM w.heap.size w1 v vs R) (hg : w.grownBy w1 none) (h2 : OwnM w1.heap.size w2 u us T) (hg2 : w1.grownBy w2 none) : Two w.heap.size w2 v vs u us R T := by
  refine ⟨h.carry hg2, h2.base hg.size, fun k hk hk' => ?_⟩
  have h3 := (h.lt hk).2
  have h4 := (h2.lt hk').1
  omega
end Go.Proofs.YtghfifpicklonaaDoor

/-
  The reduction of a matrix. Conditions: lengths are small.
-/
namespace Go.Proofs.YtghfifpicklonaaDoor
open Go.RowKit
set_option linter.unusedVariables false

theorem matB_parts {p : Nat} {cols : Int} {L : List (List Int)} (h : matB p cols L = true) : fldN p = true ∧ p ≤ 1000 ∧ ∃ n : Nat, cols = n ∧ n ≤ 24 ∧ L.length ≤ 24 ∧ RowsOk p n L := by
  unfold matB at h
  simp only [Bool.and_eq_true, decide_eq_true_eq] at h
  obtain ⟨h1, ⟨h2, h3⟩, h4, h5⟩ := h
  obtain ⟨n, rfl⟩ := Int.eq_ofNat_of_zero_le h2
  have h6 : fldN p = true := by rw [← fldB_nat]; exact h1
  exact ⟨h6, by have := (of_decide_eq_true h6).2.1; omega, n, rfl, by omega, h4, rowsB_ok.1 h5⟩
/-- three blocks laid one after another stay as long as only later ones are written -/
theorem blk3 (w : World) (o1 o2 o3 : Obj) {w' : World} (h : (((w.alloc o1).alloc o2).alloc o3).grownBy w' none) :
    w'.heap[w.heap.size]? = some o1 ∧ w'.heap[w.heap.size + 1]? = some o2 ∧ w'.heap[w.heap.size + 1 + 1]? = some o3 ∧ w.heap.size + 1 + 1 + 1 ≤ w'.heap.size := by
  have s1 : (w.alloc o1).heap.size = w.heap.size + 1 := by simp
  have s2 : ((w.alloc o1).alloc o2).heap.size = w.heap.size + 1 + 1 := by simp
  have s3 : (((w.alloc o1).alloc o2).alloc o3).heap.size = w.heap.size + 1 + 1 + 1 := by simp
  have e1 := alloc_heap_new w o1
  have e2 := alloc_heap_new (w.alloc o1) o2
  have e3 := alloc_heap_new ((w.alloc o1).alloc o2) o3
  have f1 := alloc_heap_old (w.alloc o1) o2 w.heap.size (by omega)
  have f2 := alloc_heap_old ((w.alloc o1).alloc o2) o3 w.heap.size (by omega)
  have f3 := alloc_heap_old ((w.alloc o1).alloc o2) o3 (w.heap.size + 1) (by omega)
  rw [s1] at e2
  rw [s2] at e3
  refine ⟨?_, ?_, ?_, by rw [← s3]; exact h.size⟩
  · rw [h.block _ (by omega) (by simp), f2, f1, e1]
  · rw [h.block _ (by omega) (by simp), f3, e2]
  · rw [h.block _ (by omega) (by simp), e3]
theorem cell_blk {w : World} {b : Nat} {cs : Array Value} {t : TypeId} {fr : Nat × Nat} (h : w.heap[b]? = some (.cells cs t fr)) (j : Nat) : w.cell? ⟨b, j, none⟩ = cs[j]? := by
  simp [World.cell?, h]
theorem free_blk {w : World} {b : Nat} {cs : Array Value} {t : TypeId} (h : w.heap[b]? = some (.cells cs t (0, 0))) (j : Nat) : w.frozen? ⟨b, j, none⟩ = false := by
  simp [World.frozen?, h]
theorem two_set {w : World} (b c : Nat) (x y z t : Value) : Only (fun k => k = b ∨ k = c) w ((((w.setCell ⟨b, 0, none⟩ x).setCell ⟨b, 1, none⟩ y).setCell ⟨c, 0, none⟩ z).setCell ⟨c, 1, none⟩ t) :=
  ⟨rfl, rfl, rfl, by simp [World.setCell], fun k _ hn => by
    rw [Below.heap_setCell _ _ _ _ (fun h => hn (Or.inr h)), Below.heap_setCell _ _ _ _ (fun h => hn (Or.inr h)), Below.heap_setCell _ _ _ _ (fun h => hn (Or.inl h)), Below.heap_setCell _ _ _ _ (fun h => hn (Or.inl h))]⟩
end Go.Proofs.YtghfifpicklonaaDoor

/-
  Ranks, kernels, identities, and what is no matrix. Conditions: lengths are small.
-/
namespace Go.Proofs.YtghfifpicklonaaDoor
open Go.RowKit
set_option linter.unusedVariables false

theorem box1 (w : World) (cs : Array Value) (t : TypeId) {w' : World} (h : (w.alloc (.cells cs t)).grownBy w' none) : w'.heap[w.heap.size]? = some (.cells cs t (0, 0)) ∧ w.grownBy w' none :=
  ⟨(h.block _ (by simp) (by simp)).trans (alloc_heap_new w _), grown_of_below (Below.grown ((Below.refl _ w).alloc (Nat.le_refl _) _) h (by simp) (by simp))⟩
end Go.Proofs.YtghfifpicklonaaDoor

/-
  Identities, combinations, products, inverses. Conditions: lengths are small.
-/
namespace Go.Proofs.YtghfifpicklonaaDoor
open Go.RowKit
set_option linter.unusedVariables false

def combTo (p : Int) (x : List Int) (L : List (List Int)) (n : Nat) : Nat → List Int
  | 0 => List.replicate n 0
  | k + 1 => addT p (combTo p x L n k) (x.getD k 0) (L.getD k [])
theorem combTo_ok {p n : Nat} [NeZero p] {x : List Int} {L : List (List Int)} (hp : 1 < p) (hL : RowsOk p n L) : ∀ k, k ≤ L.length → VecOk p n (combTo p x L n k) := by
  intro k
  induction k with
  | zero =>
    intro _
    refine ⟨by simp [combTo], fun z hz => ?_⟩
    have := List.eq_of_mem_replicate hz
    omega
  | succ k ih =>
    intro hk
    exact addT_ok _ (ih (by omega)).1 (hL _ (getD_memL (show k < L.length by omega))).1
set_option maxRecDepth 100000 in
set_option maxHeartbeats 1000000 in
theorem combine_any (p : Nat) [NeZero p] (u v : Value) (x : List Int) (L : List (List Int)) (n : Nat) (w : World) (hp : 1 < p) (hp2 : p ≤ 1000) (hu : IntsV w u x) (hv : MatV w v L) (hxl : x.length = L.length) (hx : ∀ z ∈ x, 0 ≤ z ∧ z < p) (hL : RowsOk p n L) (hm : L.length ≤ 1000) (hn : n ≤ 1000) :
    Calls Tryd.prog 95 #[.int .i64 p, u, v, .int .i64 n] w fun e w' => ∃ o, e = .returned o ∧ OwnInts w.heap.size w' o (combTo p x L n L.length) ∧ w.grownBy w' none := by
  have HU := Lib.hid hu; have HV := Lib.hid hv; have HX := Lib.hid hx; have HL := Lib.hid hL
  have HOK := Lib.hid (combTo_ok (x := x) hp hL)
  obtain ⟨ua, uc, rfl, hui⟩ := hu
  obtain ⟨va, vc, rfl⟩ := hv.shape
  clear hv hx hL hui
  have HXL := Lib.hid hxl
  rw [hxl]
  clear hxl
  generalize hlen : L.length = m at *
  have HLEN := Lib.hid hlen
  clear hlen
  go_enter Tryd.func95, Tryd.ntmps95
  go_wp2_with (
    go_at_call 130
    refine (zeros_any n w (by omega)).mono ?_
    rintro e w1 ⟨o, rfl, ho, hg⟩
    obtain ⟨oa, oc, hoe⟩ := own_shape ho
    rw [List.length_replicate] at hoe
    subst hoe
    have HO1 := Lib.hid ho; have HG1 := Lib.hid hg
    clear ho hg)
  go_loopw [16] (fun i wr => ∃ k : Nat, k ≤ m ∧ i = .int .i64 k ∧ OwnInts w.heap.size wr (.slice oa n oc) (combTo p x L n k) ∧ Below w.heap.size w wr) (fun i _ => m - (intOf i).toNat)
  case atStart => exact ⟨0, by omega, rfl, HO1.out, Below.grown (Below.refl _ w) HG1.out (Nat.le_refl _) (by simp)⟩
  case round =>
    obtain ⟨k, hk, rfl, ho, hb⟩ := hrel
    have HO := Lib.hid ho; have HB := Lib.hid hb
    clear ho hb
    by_cases hlt : k < m
    · have hkl : k < L.length := by rw [HLEN.out]; exact hlt
      obtain ⟨d, r, c, rfl, hs, hd, hcell, hrow⟩ := HV.out.row hkl
      have hcell2 := (HB.out.cell (p := ⟨d.block, d.off + k, none⟩) hd).trans hcell
      clear hcell
      obtain ⟨db, dof, _⟩ := d
      simp only at hs hcell2
      subst hs
      have hkx : k < x.length := by rw [HXL.out]; exact hlt
      obtain ⟨xd, rfl, hs, hxd, hxc⟩ := HU.out.at hkx
      have hxc := (HB.out.cell (p := ⟨xd.block, xd.off + k, none⟩) hxd).trans hxc
      obtain ⟨xb, xof, _⟩ := xd
      simp only at hs hxc
      subst hs
      have hrok := HL.out _ (List.getElem_mem hkl)
      rw [hrok.1] at hcell2 hrow
      have hxz := HX.out _ (List.getElem_mem hkx)
      have hnext : combTo p x L n (k + 1) = addT p (combTo p x L n k) x[k] L[k] := by
        show addT p (combTo p x L n k) (x.getD k 0) (L.getD k []) = _
        rw [getD_ltL hkx, getD_row hkl]
      have HN := Lib.hid hnext
      have hcok := HOK.out k hk
      have A := Lib.hid (addTimes_any p x[k] _ _ _ _ w.heap.size wr HO.out (hrow.carry (grown_of_below HB.out)) (fun hne q h1 h2 => by
        have h3 := (HO.out.lt q h1).1
        obtain ⟨d', hd', _, hlt', _⟩ : ∃ d' : Addr, r = some d' ∧ d'.spot = none ∧ d'.block < w.heap.size ∧ True := by
          obtain ⟨a', c', he, hi⟩ := hrow
          cases he
          have hne' : L[k] ≠ [] := by
            intro h
            exact hne (List.eq_nil_of_length_eq_zero (hcok.1.trans (by rw [h]; rfl)))
          obtain ⟨d', h4, h5, h6, _⟩ := hi hne'
          exact ⟨d', h4, h5, h6, trivial⟩
        subst hd'
        simp only [Value.blk', Option.some.injEq] at h2
        omega) (by rw [hcok.1, hrok.1]) (by rw [hcok.1]; omega) (by omega) (by omega) (by omega) (by omega) (fun z hz => by have := hcok.2 z hz; omega) (fun z hz => by have := hrok.2 z hz; omega))
      clear hnext hcok hrow hrok
      generalize x[k] = xk at *
      go_wp2_with (
        go_at_call 131
        with_reducible refine A.out.mono ?_
        rintro e w2 ⟨rfl, h1, h2⟩
        have H1 := Lib.hid h1; have H2 := Lib.hid h2
        clear h1 h2)
      go_roundw
      case rel => exact ⟨k + 1, by omega, by go_num, by rw [HN.out]; exact H1.out, HB.out.trans (H2.out.below HB.out.size fun q hq => (HO.out.lt q hq).1)⟩
      case measure => simp [intOf]; omega
    · have hkm : k = m := by omega
      subst hkm
      go_wp2
      go_ret
      exact ⟨_, rfl, HO.out, grown_of_below HB.out⟩
end Go.Proofs.YtghfifpicklonaaDoor

/-
  Products of matrices. Conditions: lengths are small.
-/
namespace Go.Proofs.YtghfifpicklonaaDoor
open Go.RowKit
set_option linter.unusedVariables false

/-- 'out = append(out, row)' as an operation of a region. -/
theorem step_app_row {ops : Array Oper} {o : Oper} {a : Act} {K : Act → World → Prop} {Q : Exit → Act → World → Prop} {E : Prop} (hgd : o.guard = none) (s x : Operand)
    (ho : o.op = .call { callee := .builtin .append, args := #[s, x], argTypes := #[22, 22] })
    {B : Nat} {w : World} {v u : Value} {vs : List Value} {L : List (List Int)} {zs : List Int} (hs : a.eval s = v) (hx : a.eval x = .slice (some ⟨w.heap.size, 0, none⟩) 1 1)
    (hown : OwnM B w v vs L) (hu : OwnInts B w u zs) (hua : ∀ i, Apart (vs.getD i nilS) u) (hB : B ≤ w.heap.size) (hl : L.length ≤ 1000000)
    (h : ∀ g cap w', OwnM B w' (.slice (some ⟨g, 0, none⟩) (L.length + 1) cap) (vs ++ [u]) (L ++ [zs]) → Only (Hits v) w w' → K (a.put o.dst (.slice (some ⟨g, 0, none⟩) (L.length + 1) cap)) w') :
    if Region.wanted o (yielded ops a.tmps) = true then Oper.wp Tryd.prog o a (w.alloc (.cells #[u] 27)) K Q else E := by
  obtain ⟨i0, hi, hz0, hz1, hz2⟩ := info_parts info_ints
  have hlen := hown.len
  have hgr := grownBy_alloc w (.cells #[u] 27) none
  have hown1 := hown.carry hgr
  have hu1 : OwnInts B (w.alloc (.cells #[u] 27)) u zs := hu.alloc _
  refine step_append_lies _ hgd s x 22 ho B 27 i0 (.slice none 0 0) 1 24 Tryd.underlying22 hi hz0 hz1 hz2 rfl (by decide) v vs.length vs hs hown1.out
    ⟨w.heap.size, 0, none⟩ 1 1 [u] hx rfl ?_ ?_ (by decide) (by unfold maxLen; omega) (by omega) (by simp; omega) _ rfl ?_
  · intro j u' hj
    match j, hj with
    | 0, hj =>
      simp at hj
      subst hj
      simp only [Addr.add, if_true, World.cell?]
      rw [alloc_heap_new]
      rfl
    | j + 1, hj => simp at hj
  · intro u' hu'
    simp at hu'
    subst hu'
    exact ints_one hu
  · intro g cap w1 hown' hgrow _ _
    have hon : Only (Hits v) (w.alloc (.cells #[u] 27)) w1 := Only.of_grown hgrow fun k hk => hk
    rw [hlen] at hown' ⊢
    refine h g cap w1 (OwnM.join hlen (fun i => (hown1.row i).only hon fun k hk hk' => ?_) hown.ap (hu1.only hon fun k hk hk' => ?_) hua (by simpa [hlen] using hown')) ?_
    · exact apart_types hown1.out (hown1.row i) (by decide) k hk' hk
    · exact apart_types hown1.out hu1 (by decide) k hk' hk
    · exact (Only.of_grown (S := Hits v) hgr (by simp)).trans hon
/-- the variables of times, laid one after another -/
theorem times_start (w : World) (c1 c2 : Array Value) (n : Int) :
    let w0 := ((((w.alloc (.cells c1 44)).alloc (.cells c2 44)).alloc (.cells #[.int .i64 0, .slice none 0 0] 44)).alloc (.cells #[] 27)).alloc (.cells #[.int .i64 n, .slice (some ⟨w.heap.size + 1 + 1 + 1, 0, none⟩) 0 0] 44)
    w0.heap[w.heap.size]? = some (.cells c1 44 (0, 0)) ∧ w0.heap[w.heap.size + 1]? = some (.cells c2 44 (0, 0)) ∧ w0.heap[w.heap.size + 1 + 1]? = some (.cells #[.int .i64 0, .slice none 0 0] 44 (0, 0)) ∧
    w0.heap[w.heap.size + 1 + 1 + 1 + 1]? = some (.cells #[.int .i64 n, .slice (some ⟨w.heap.size + 1 + 1 + 1, 0, none⟩) 0 0] 44 (0, 0)) ∧
    OwnM (w.heap.size + 1 + 1 + 1) w0 (.slice (some ⟨w.heap.size + 1 + 1 + 1, 0, none⟩) 0 0) [] [] ∧ w.grownBy w0 none ∧ w0.heap.size = w.heap.size + 1 + 1 + 1 + 1 + 1 := by
  have hb := blk3 w (.cells c1 44) (.cells c2 44) (.cells #[.int .i64 0, .slice none 0 0] 44) (grownBy_refl _ none)
  have hg : w.grownBy (((w.alloc (.cells c1 44)).alloc (.cells c2 44)).alloc (.cells #[.int .i64 0, .slice none 0 0] 44)) none :=
    ((grownBy_alloc _ _ none).trans (grownBy_alloc _ _ none)).trans (grownBy_alloc _ _ none)
  have hs : (((w.alloc (.cells c1 44)).alloc (.cells c2 44)).alloc (.cells #[.int .i64 0, .slice none 0 0] 44)).heap.size = w.heap.size + 1 + 1 + 1 := by simp
  intro w0
  have hw0 : w0 = ((((w.alloc (.cells c1 44)).alloc (.cells c2 44)).alloc (.cells #[.int .i64 0, .slice none 0 0] 44)).alloc (.cells #[] 27)).alloc (.cells #[.int .i64 n, .slice (some ⟨w.heap.size + 1 + 1 + 1, 0, none⟩) 0 0] 44) := rfl
  clear_value w0
  generalize ((w.alloc (.cells c1 44)).alloc (.cells c2 44)).alloc (.cells #[.int .i64 0, .slice none 0 0] 44) = w3 at *
  subst hw0
  have hm := World.ownsRow_made (e := 27) (base := w.heap.size + 1 + 1 + 1) (size := 1) w3 #[] 0 (by omega) (by unfold maxLen; omega) rfl
  rw [hs] at hm
  have ho := (OwnM.start hm).carry (grownBy_alloc _ (.cells #[.int .i64 n, .slice (some ⟨w.heap.size + 1 + 1 + 1, 0, none⟩) 0 0] 44) none)
  have s4 : (w3.alloc (.cells #[] 27)).heap.size = w.heap.size + 1 + 1 + 1 + 1 := by rw [← hs]; simp
  have e4 := alloc_heap_new (w3.alloc (.cells #[] 27)) (.cells #[.int .i64 n, .slice (some ⟨w.heap.size + 1 + 1 + 1, 0, none⟩) 0 0] 44)
  rw [s4] at e4
  have g5 := World.grownBy.trans (grownBy_alloc w3 (.cells #[] 27) none) (grownBy_alloc (w3.alloc (.cells #[] 27)) (.cells #[.int .i64 n, .slice (some ⟨w.heap.size + 1 + 1 + 1, 0, none⟩) 0 0] 44) none)
  refine ⟨(g5.block _ (by omega) (by simp)).trans hb.1, (g5.block _ (by omega) (by simp)).trans hb.2.1, (g5.block _ (by omega) (by simp)).trans hb.2.2.1, e4, ho, hg.trans g5, ?_⟩
  rw [← s4]
  simp
theorem one_set {w : World} (b : Nat) (x y : Value) : Only (fun k => k = b) w ((w.setCell ⟨b, 0, none⟩ x).setCell ⟨b, 1, none⟩ y) :=
  ⟨rfl, rfl, rfl, by simp [World.setCell], fun k _ hn => by
    rw [Below.heap_setCell _ _ _ _ hn, Below.heap_setCell _ _ _ _ hn]⟩
theorem lt_of_blk {w : World} {b : Nat} {o : Obj} (h : w.heap[b]? = some o) : b < w.heap.size := by
  rcases Nat.lt_or_ge b w.heap.size with h' | h'
  · exact h'
  · rw [Array.getElem?_eq_none h'] at h; cases h
theorem cell_alloc {w : World} {a : Addr} {u : Value} (h : w.cell? a = some u) (o : Obj) : (w.alloc o).cell? a = some u :=
  (World.cell?_of_block (w := w) (alloc_heap_old w o a.block (World.block_lt_of_cell? w a h))).trans h
theorem alloc3 {w : World} {a b c : Addr} {x y z : Value} {o : Obj} (h : w.cell? a = some x ∧ w.cell? b = some y ∧ w.cell? c = some z) : (w.alloc o).cell? a = some x ∧ (w.alloc o).cell? b = some y ∧ (w.alloc o).cell? c = some z :=
  ⟨cell_alloc h.1 o, cell_alloc h.2.1 o, cell_alloc h.2.2 o⟩
theorem times_keep1 {B b : Nat} {cs : Array Value} {w2 w3 : World} {v : Value} {vs : List Value} {T : List (List Int)} (e2 : w2.heap[b]? = some (.cells cs 44 (0, 0)))
    (ho : OwnM B w2 v vs T) (hon : Only (Hits v) w2 w3) : w3.heap[b]? = some (.cells cs 44 (0, 0)) := by
  refine (hon.block b (lt_of_blk e2) fun hh => ?_).trans e2
  obtain ⟨cur, hc⟩ := own_block ho.out hh
  rw [e2] at hc
  simp at hc
theorem foot_ne {B b : Nat} {w : World} {cs : Array Value} {v : Value} {vs : List Value} {T : List (List Int)} (h : w.heap[b]? = some (.cells cs 44 (0, 0))) (ho : OwnM B w v vs T) : ¬ Foot v vs b := by
  rintro (hh | ⟨x, hx, hh⟩)
  · obtain ⟨cur, hc⟩ := own_block ho.out hh
    rw [h] at hc
    simp at hc
  · obtain ⟨i, hi, rfl⟩ := List.getElem_of_mem hx
    have hr := ho.row i
    rw [List.getD_eq_getElem?_getD, List.getElem?_eq_getElem hi] at hr
    obtain ⟨cur, hc⟩ := own_block hr hh
    rw [h] at hc
    simp at hc
theorem times_fin {B b : Nat} {w3 : World} {n : Int} {old x : Value} {vs : List Value} {T : List (List Int)} (h : w3.heap[b]? = some (.cells #[.int .i64 n, old] 44 (0, 0))) (ho : OwnM B w3 x vs T) :
    (w3.setCell ⟨b, 1, none⟩ x).heap[b]? = some (.cells #[.int .i64 n, x] 44 (0, 0)) ∧ OwnM B (w3.setCell ⟨b, 1, none⟩ x) x vs T := by
  refine ⟨?_, ho.only (set_only w3 ⟨b, 1, none⟩ x) fun k hk hk' => ?_⟩
  · simp only [World.setCell]
    rw [Array.getElem?_modify, if_pos rfl, h]
    rfl
  · simp only at hk'
    subst hk'
    exact foot_ne h ho hk
theorem times_below {b3 b4 : Nat} {w0 wr w2 w3 : World} {v x : Value} {vs : List Value} {T : List (List Int)} (hb : Below b3 w0 wr) (hs : b3 ≤ wr.drew.heap.size) (hg : wr.drew.grownBy w2 none) (ho : OwnM b3 w2 v vs T) (hon : Only (Hits v) w2 w3) (h4 : b3 ≤ b4) :
    Below b3 w0 (w3.setCell ⟨b4, 1, none⟩ x) :=
  (((hb.drew.grown hg hs (by simp)).trans (Only.below' ho hon (Nat.le_trans hs hg.size))).trans ((set_only w3 ⟨b4, 1, none⟩ x).below (Nat.le_trans (Nat.le_trans hs hg.size) hon.size) fun k hk => by simp only at hk; omega))
/-- the variable that holds the rows stays as it is, whatever is appended to the rows -/
theorem times_keep {B b k : Nat} {n : Int} {wr w2 w3 : World} {oa : Option Addr} {oc : Nat} {vs : List Value} {T : List (List Int)} (h4 : wr.heap[b]? = some (.cells #[.int .i64 n, .slice oa k oc] 44 (0, 0)))
    (hg : wr.drew.grownBy w2 none) (ho : OwnM B w2 (.slice oa k oc) vs T) (hon : Only (Hits (.slice oa k oc)) w2 w3) : w3.heap[b]? = some (.cells #[.int .i64 n, .slice oa k oc] 44 (0, 0)) := by
  have hlt : b < wr.heap.size := by
    rcases Nat.lt_or_ge b wr.heap.size with h | h
    · exact h
    · rw [Array.getElem?_eq_none h] at h4; cases h4
  have e2 : w2.heap[b]? = some (.cells #[.int .i64 n, .slice oa k oc] 44 (0, 0)) := (hg.block b hlt (by simp)).trans h4
  refine (hon.block b (Nat.lt_of_lt_of_le hlt hg.size) fun hh => ?_).trans e2
  obtain ⟨cur, hc⟩ := own_block ho.out hh
  rw [e2] at hc
  simp at hc
def timesL (p : Int) (A L : List (List Int)) (n : Nat) : List (List Int) := A.map fun row => combTo p row L n L.length
end Go.Proofs.YtghfifpicklonaaDoor

/-
  Products that are checked. Conditions: lengths are small.
-/
namespace Go.Proofs.YtghfifpicklonaaDoor
open Go.RowKit
set_option linter.unusedVariables false

end Go.Proofs.YtghfifpicklonaaDoor

/-
  Identities, squares, inverses. Conditions: lengths are small.
-/
namespace Go.Proofs.YtghfifpicklonaaDoor
open Go.RowKit
set_option linter.unusedVariables false

theorem isSquare_any (cols : Int) (v : Value) (L : List (List Int)) (w : World) (hv : MatV w v L) (hl : L.length ≤ 1000000) :
    Calls Tryd.prog 91 #[mxV cols v] w fun e w' => e = .returned (.bool (decide ((L.length : Int) = cols))) ∧ w.grownBy w' none := by
  unfold mxV
  obtain ⟨a, c, rfl⟩ := hv.shape
  clear hv
  by_cases h : (L.length : Int) = cols
  · have hd : decide ((L.length : Int) = cols) = true := decide_eq_true h
    have hb : ((L.length : Int) == cols) = true := by rw [beq_iff_eq]; exact h
    have HD := Lib.hid hd
    clear hd h
    generalize L.length = l at *
    go_enter Tryd.func91, Tryd.ntmps91
    go_wp2
    go_ret
    exact ⟨by rw [HD.out]; rfl, grownBy_alloc _ _ _⟩
  · have hd : decide ((L.length : Int) = cols) = false := decide_eq_false h
    have hb : ((L.length : Int) == cols) = false := by rw [beq_eq_false_iff_ne]; exact h
    have HD := Lib.hid hd
    clear hd h
    generalize L.length = l at *
    go_enter Tryd.func91, Tryd.ntmps91
    go_wp2
    go_ret
    exact ⟨by rw [HD.out]; rfl, grownBy_alloc _ _ _⟩
end Go.Proofs.YtghfifpicklonaaDoor

/-
  Inverses. Conditions: lengths are small; the rank is whole.
-/
namespace Go.Proofs.YtghfifpicklonaaDoor
open Go.RowKit
set_option linter.unusedVariables false

theorem blk2 (w : World) (o1 o2 : Obj) {w' : World} (h : ((w.alloc o1).alloc o2).grownBy w' none) :
    w'.heap[w.heap.size]? = some o1 ∧ w'.heap[w.heap.size + 1]? = some o2 ∧ w.heap.size + 1 + 1 ≤ w'.heap.size := by
  have s1 : (w.alloc o1).heap.size = w.heap.size + 1 := by simp
  have s2 : ((w.alloc o1).alloc o2).heap.size = w.heap.size + 1 + 1 := by simp
  have e1 := alloc_heap_new w o1
  have e2 := alloc_heap_new (w.alloc o1) o2
  have f1 := alloc_heap_old (w.alloc o1) o2 w.heap.size (by omega)
  rw [s1] at e2
  refine ⟨?_, ?_, by rw [← s2]; exact h.size⟩
  · rw [h.block _ (by omega) (by simp), f1, e1]
  · rw [h.block _ (by omega) (by simp), e2]
set_option maxRecDepth 100000 in
set_option maxHeartbeats 1000000 in
theorem inverseOf_yes (p n : Nat) [NeZero p] (u : Value) (L : List (List Int)) (w : World) (ht : Tab w) (hv : MatV w u L) (hb : matB p n L = true) (hsq : L.length = n) (hrank : (redTo p L (idL n) n).r = n) :
    Calls Tryd.prog 47 #[.int .i64 p, mxV n u] w fun e w' => ∃ o, e = .returned (.tuple #[mxV n o, .bool true]) ∧ MatV w' o (redTo p L (idL n) n).T ∧ w.grownBy w' none := by
  obtain ⟨hfld, hp2, n', hn', hn, hm, hL⟩ := matB_parts hb
  have : n' = n := by omega
  subst this
  have hsh := hv.shape
  have HIS := Lib.hid fun w1 (hg : w.grownBy w1 none) => isMatrix_any p n' u L w1 (ht.grown hg) (hv.carry hg) (by omega) (fun row hrow => by rw [(hL row hrow).1]; omega)
  rw [hb] at HIS
  have HSQ := Lib.hid fun w1 (hg : w.grownBy w1 none) => isSquare_any n' u L w1 (hv.carry hg) (by omega)
  rw [show decide ((L.length : Int) = n') = true from decide_eq_true (by omega)] at HSQ
  have HCL := Lib.hid fun w1 (hg : w.grownBy w1 none) => clones_any u L w1 (hv.carry hg) (by omega) (fun row hrow => by rw [(hL row hrow).1]; omega)
  unfold mxV at *
  rw [hsq] at hsh
  obtain ⟨ua, uc, rfl⟩ := hsh
  have HLEN := Lib.hid hsq
  clear hv ht hb hsq hn'
  go_enter Tryd.func47, Tryd.ntmps47
  go_wp2_with (first
    | (go_at_call 90
       with_reducible refine (HIS.out _ ?_).mono ?_
       · exact (grownBy_alloc _ _ none).trans (grownBy_alloc _ _ none)
       rintro e w1 ⟨rfl, hg1⟩
       obtain ⟨b1, b2, b3⟩ := blk2 w _ _ hg1
       have HW1 := Lib.hid (((grownBy_alloc w _ none).trans (grownBy_alloc _ _ none)).trans hg1)
       have c0 := cell_blk b1 0
       have c1 := cell_blk b1 1
       simp only [List.getElem?_toArray, List.getElem?_cons_zero, List.getElem?_cons_succ] at c0 c1
       have B1 := Lib.hid b1; have B2 := Lib.hid b2; have B3 := Lib.hid b3
       clear hg1 b1 b2 b3)
    | (go_at_call 91
       with_reducible refine (HSQ.out _ HW1.out).mono ?_
       rintro e w2 ⟨rfl, hg2⟩
       have b1 := (hg2.block _ (lt_of_blk B1.out) (by simp)).trans B1.out
       have b2 := (hg2.block _ (lt_of_blk B2.out) (by simp)).trans B2.out
       have HW2 := Lib.hid (HW1.out.trans hg2)
       have d0 := cell_blk b1 0
       have d1 := cell_blk b1 1
       simp only [List.getElem?_toArray, List.getElem?_cons_zero, List.getElem?_cons_succ] at d0 d1
       have D1 := Lib.hid b1; have D2 := Lib.hid b2
       clear hg2 b1 b2))
  have HWD := Lib.hid (show w.grownBy w2.drew none from ⟨HW2.out.os, HW2.out.tape, HW2.out.output, HW2.out.size, HW2.out.block⟩)
  have hb2 := lt_of_blk D2.out
  generalize hbe : w.heap.size = b at *
  have HBE := Lib.hid hbe
  clear hbe
  go_region_held3 (fun w' => w'.cell? ⟨b, 1, none⟩ = some (.slice ua n' uc) ∧ w'.cell? ⟨b, 0, none⟩ = some (.int .i64 n')) (first | exact ⟨d1, d0⟩ | exact ⟨e1, e0⟩ | exact ⟨f1, f0⟩)
    (first
      | (go_at_call 92
         refine (HCL.out _ HWD.out).mono ?_
         rintro e w3 ⟨v, vs, rfl, hown, hg⟩
         have b1 := (hg.block b (by show b < w2.heap.size; omega) (by simp)).trans D1.out
         have e0 := cell_blk b1 0
         have e1 := cell_blk b1 1
         simp only [List.getElem?_toArray, List.getElem?_cons_zero, List.getElem?_cons_succ] at e0 e1
         have HO := Lib.hid hown; have HG := Lib.hid hg; have E1 := Lib.hid b1
         clear hown hg b1)
      | (go_at_call 93
         refine (identityRows_any n' _ (by omega)).mono ?_
         rintro e w4 ⟨v2, vs2, rfl, hown2, hg2⟩
         have b1 := (hg2.block b (lt_of_blk E1.out) (by simp)).trans E1.out
         have f0 := cell_blk b1 0
         have f1 := cell_blk b1 1
         simp only [List.getElem?_toArray, List.getElem?_cons_zero, List.getElem?_cons_succ] at f0 f1
         have HO2 := Lib.hid hown2; have HG2 := Lib.hid hg2; have F1 := Lib.hid b1
         clear hown2 hg2 b1))
  obtain ⟨va, vc, hve, hvi, hcap⟩ := own_form HO.out
  obtain ⟨va2, vc2, hve2, hvi2, hcap2⟩ := own_form HO2.out
  rw [HLEN.out] at hve
  rw [idL_len] at hve2
  subst hve hve2
  have HTW := Lib.hid (two_ids HO.out HG.out HO2.out HG2.out)
  have HFIT := Lib.hid (show Fit p n' n' n' L (idL n') from ⟨HLEN.out, idL_len _, hL, idL_ok (lt_p hfld)⟩)
  have hbel4 : Below w2.heap.size w2 w4 := Below.grown (Below.grown (show Below w2.heap.size w2 w2.drew from ⟨rfl, rfl, rfl, Nat.le_refl _, fun _ _ => rfl⟩) HG.out (Nat.le_refl _) (by simp)) HG2.out HG.out.size (by simp)
  have HB4 := Lib.hid hbel4
  have HB4D := Lib.hid (show Below w2.heap.size w2 w4.drew from ⟨hbel4.os, hbel4.tape, hbel4.output, hbel4.size, hbel4.block⟩)
  have HTWD := Lib.hid (show Two w2.drew.heap.size w4.drew _ _ _ _ L (idL n') from ⟨HTW.out.mR.only (Only.drew (fun _ => False) w4) (fun _ _ h => h), HTW.out.mT.only (Only.drew (fun _ => False) w4) (fun _ _ h => h), HTW.out.ap⟩)
  have HRK := Lib.hid hrank
  clear e1 e0 d1 d0 c0 c1 hbel4 hvi hvi2 hcap hcap2 hrank
  go_wp2_with fail
  go_region_held3 (fun w' => w'.cell? ⟨b, 0, none⟩ = some (.int .i64 n')) (first | exact f0 | exact g0)
    (first
      | (go_at_call 94
         refine (reduction_any p _ _ _ _ L _ n' n' n' _ _ hfld HTWD.out HFIT.out (by omega) (by omega) (by omega) hp2).mono ?_
         rintro e w5 ⟨rfl, vs', us', t, on⟩
         rw [HRK.out]
         have HB5 := Lib.hid (HB4D.out.trans (on.below HB4D.out.size fun k hk => HTWD.out.base hk))
         have g0 : w5.cell? ⟨b, 0, none⟩ = some (.int .i64 n') := cell_blk ((HB5.out.block b (by omega)).trans D1.out) 0
         have HT5 := Lib.hid t
         clear t on))
  have b2 := (HB5.out.block (b + 1) hb2).trans D2.out
  have B5 := Lib.hid b2
  have k0 := cell_blk b2 0
  have k1 := cell_blk b2 1
  have x0 := free_blk b2 0
  have x1 := free_blk b2 1
  simp only [List.getElem?_toArray, List.getElem?_cons_zero, List.getElem?_cons_succ] at k0 k1
  clear b2 f0 f1
  go_wp2
  refine bodyPost_ret_by (v := .tuple #[.agg #[.int .i64 n', .slice va2 n' vc2], .bool true]) ?_ rfl ?_
  · simp [results, go_sem, *]
  · have o5 := one_set (w := w5) (b + 1) (.int .i64 n') (.slice va2 n' vc2)
    refine ⟨_, rfl, (HT5.out.mT.only o5 fun q hq hq' => by have h1 := (HT5.out.mT.lt hq).1; have h2 : w2.drew.heap.size = w2.heap.size := rfl; omega).read, ?_⟩
    exact grown_of_below (((Below.grown (Below.refl _ w) HW2.out (Nat.le_refl _) (by simp)).trans (HB5.out.mono HW2.out.size)).trans (o5.below (Nat.le_trans HW2.out.size HB5.out.size) fun q hq => by rw [HBE.out]; omega))
end Go.Proofs.YtghfifpicklonaaDoor

/-
  Inverses where there is none. Conditions: lengths are small; the table of small primes holds what its text lays.
-/
namespace Go.Proofs.YtghfifpicklonaaDoor
open Go.RowKit
set_option linter.unusedVariables false
set_option maxRecDepth 100000

theorem bb2 {w : World} {k : Nat} {x y : Value} {t : TypeId} (h : w.heap[k]? = some (.cells #[x, y] t (0, 0))) :
    w.cell? ⟨k, 0, none⟩ = some x ∧ w.cell? ⟨k, 1, none⟩ = some y ∧ w.frozen? ⟨k, 0, none⟩ = false ∧ w.frozen? ⟨k, 1, none⟩ = false :=
  ⟨cell_of_row w k 0 _ _ _ h, cell_of_row w k 1 _ _ _ h, frozen_of_row w k 0 _ _ h, frozen_of_row w k 1 _ _ h⟩
set_option maxHeartbeats 1000000 in
theorem inverseOf_no (p cols : Int) (u : Value) (L : List (List Int)) (w : World) (ht : Tab w) (hv : MatV w u L) (hl : L.length ≤ 1000000) (hll : ∀ row ∈ L, row.length ≤ 1000000) (hb : (matB p cols L && decide ((L.length : Int) = cols)) = false) :
    Calls Tryd.prog 47 #[.int .i64 p, mxV cols u] w fun e w' => e = .returned (.tuple #[mxV 0 nilS, .bool false]) ∧ w.grownBy w' none := by
  have HIS := Lib.hid fun w1 (hg : w.grownBy w1 none) => isMatrix_any p cols u L w1 (ht.grown hg) (hv.carry hg) hl hll
  have HSQ := Lib.hid fun w1 (hg : w.grownBy w1 none) => isSquare_any cols u L w1 (hv.carry hg) hl
  obtain ⟨ua, uc, rfl⟩ := hv.shape
  generalize L.length = n at *
  have hs0 := ((Sep.start w).boxAt w.heap.size rfl #[.int .i64 cols, .slice ua n uc] 44).boxAt (w.heap.size + 1) (by simp) #[.int .i64 0, .slice none 0 0] 44
  have HS0 := Lib.hid hs0
  have HK0 := Lib.hid (show w.grownBy _ none from hs0.tl.tl.hd)
  unfold mxV nilS at *
  clear hv ht hll hs0
  cases hm : matB p cols L
  · rw [hm] at HIS
    clear hm hb
    go_enter Tryd.func47, Tryd.ntmps47
    go_wp2_with (
      go_at_call 90
      with_reducible refine (HIS.out _ HK0.out).mono ?_
      rintro e w1 ⟨rfl, hg⟩
      have hs1 := HS0.out.grown hg
      obtain ⟨_, _, r0, r1⟩ := bb2 hs1.hd
      have hs2 := (hs1.setB 0 (.int .i64 0)).setB 1 (.slice none 0 0)
      obtain ⟨t0, t1, _⟩ := bb2 hs2.hd
      have HKF := Lib.hid (show w.grownBy _ none from hs2.tl.tl.hd)
      clear hg hs1 hs2)
    refine bodyPost_ret_by (v := .tuple #[.agg #[.int .i64 0, .slice none 0 0], .bool false]) ?_ rfl ⟨rfl, HKF.out⟩
    simp [results, go_sem, *]
  · rw [hm] at HIS hb
    have hq : decide ((n : Int) = cols) = false := by simpa using hb
    rw [hq] at HSQ
    clear hm hb hq
    go_enter Tryd.func47, Tryd.ntmps47
    go_wp2_with (first
      | (go_at_call 90
         with_reducible refine (HIS.out _ HK0.out).mono ?_
         rintro e w1 ⟨rfl, hg⟩
         have hs1 := HS0.out.grown hg
         obtain ⟨x0, x1, _⟩ := bb2 hs1.tl.hd
         have HS1 := Lib.hid hs1
         have HK1 := Lib.hid (show w.grownBy w1 none from hs1.tl.tl.hd)
         clear hg hs1)
      | (go_at_call 91
         with_reducible refine (HSQ.out _ HK1.out).mono ?_
         rintro e w2 ⟨rfl, hg⟩
         have hs1 := HS1.out.grown hg
         obtain ⟨_, _, r0, r1⟩ := bb2 hs1.hd
         have hs2 := (hs1.setB 0 (.int .i64 0)).setB 1 (.slice none 0 0)
         obtain ⟨t0, t1, _⟩ := bb2 hs2.hd
         have HKF := Lib.hid (show w.grownBy _ none from hs2.tl.tl.hd)
         clear hg hs1 hs2 x0 x1))
    refine bodyPost_ret_by (v := .tuple #[.agg #[.int .i64 0, .slice none 0 0], .bool false]) ?_ rfl ⟨rfl, HKF.out⟩
    simp [results, go_sem, *]
set_option maxHeartbeats 1000000 in
theorem inverseOf_low (p n : Nat) [NeZero p] (u : Value) (L : List (List Int)) (w : World) (ht : Tab w) (hv : MatV w u L) (hb : matB p n L = true) (hsq : L.length = n) (hrank : (redTo p L (idL n) n).r < n) :
    Calls Tryd.prog 47 #[.int .i64 p, mxV n u] w fun e w' => e = .returned (.tuple #[mxV 0 nilS, .bool false]) ∧ w.grownBy w' none := by
  obtain ⟨hfld, hp2, n', hn', hn, hm, hL⟩ := matB_parts hb
  have : n' = n := by omega
  subst this
  have hsh := hv.shape
  have HIS := Lib.hid fun w1 (hg : w.grownBy w1 none) => isMatrix_any p n' u L w1 (ht.grown hg) (hv.carry hg) (by omega) (fun row hrow => by rw [(hL row hrow).1]; omega)
  rw [hb] at HIS
  have HSQ := Lib.hid fun w1 (hg : w.grownBy w1 none) => isSquare_any n' u L w1 (hv.carry hg) (by omega)
  rw [show decide ((L.length : Int) = n') = true from decide_eq_true (by omega)] at HSQ
  have HCL := Lib.hid fun w1 (hg : w.grownBy w1 none) => clones_any u L w1 (hv.carry hg) (by omega) (fun row hrow => by rw [(hL row hrow).1]; omega)
  unfold mxV nilS at *
  rw [hsq] at hsh
  obtain ⟨ua, uc, rfl⟩ := hsh
  have HLEN := Lib.hid hsq
  clear hv ht hb hsq hn'
  go_enter Tryd.func47, Tryd.ntmps47
  go_wp2_with (first
    | (go_at_call 90
       with_reducible refine (HIS.out _ ?_).mono ?_
       · exact (grownBy_alloc _ _ none).trans (grownBy_alloc _ _ none)
       rintro e w1 ⟨rfl, hg1⟩
       obtain ⟨b1, b2, b3⟩ := blk2 w _ _ hg1
       have HW1 := Lib.hid (((grownBy_alloc w _ none).trans (grownBy_alloc _ _ none)).trans hg1)
       have c0 := cell_blk b1 0
       have c1 := cell_blk b1 1
       simp only [List.getElem?_toArray, List.getElem?_cons_zero, List.getElem?_cons_succ] at c0 c1
       have B1 := Lib.hid b1; have B2 := Lib.hid b2; have B3 := Lib.hid b3
       clear hg1 b1 b2 b3)
    | (go_at_call 91
       with_reducible refine (HSQ.out _ HW1.out).mono ?_
       rintro e w2 ⟨rfl, hg2⟩
       have b1 := (hg2.block _ (lt_of_blk B1.out) (by simp)).trans B1.out
       have b2 := (hg2.block _ (lt_of_blk B2.out) (by simp)).trans B2.out
       have HW2 := Lib.hid (HW1.out.trans hg2)
       have d0 := cell_blk b1 0
       have d1 := cell_blk b1 1
       simp only [List.getElem?_toArray, List.getElem?_cons_zero, List.getElem?_cons_succ] at d0 d1
       have D1 := Lib.hid b1; have D2 := Lib.hid b2
       clear hg2 b1 b2))
  have HWD := Lib.hid (show w.grownBy w2.drew none from ⟨HW2.out.os, HW2.out.tape, HW2.out.output, HW2.out.size, HW2.out.block⟩)
  have hb2 := lt_of_blk D2.out
  generalize hbe : w.heap.size = b at *
  have HBE := Lib.hid hbe
  clear hbe
  go_region_held3 (fun w' => w'.cell? ⟨b, 1, none⟩ = some (.slice ua n' uc) ∧ w'.cell? ⟨b, 0, none⟩ = some (.int .i64 n')) (first | exact ⟨d1, d0⟩ | exact ⟨e1, e0⟩ | exact ⟨f1, f0⟩)
    (first
      | (go_at_call 92
         refine (HCL.out _ HWD.out).mono ?_
         rintro e w3 ⟨v, vs, rfl, hown, hg⟩
         have b1 := (hg.block b (by show b < w2.heap.size; omega) (by simp)).trans D1.out
         have e0 := cell_blk b1 0
         have e1 := cell_blk b1 1
         simp only [List.getElem?_toArray, List.getElem?_cons_zero, List.getElem?_cons_succ] at e0 e1
         have HO := Lib.hid hown; have HG := Lib.hid hg; have E1 := Lib.hid b1
         clear hown hg b1)
      | (go_at_call 93
         refine (identityRows_any n' _ (by omega)).mono ?_
         rintro e w4 ⟨v2, vs2, rfl, hown2, hg2⟩
         have b1 := (hg2.block b (lt_of_blk E1.out) (by simp)).trans E1.out
         have f0 := cell_blk b1 0
         have f1 := cell_blk b1 1
         simp only [List.getElem?_toArray, List.getElem?_cons_zero, List.getElem?_cons_succ] at f0 f1
         have HO2 := Lib.hid hown2; have HG2 := Lib.hid hg2; have F1 := Lib.hid b1
         clear hown2 hg2 b1))
  obtain ⟨va, vc, hve, hvi, hcap⟩ := own_form HO.out
  obtain ⟨va2, vc2, hve2, hvi2, hcap2⟩ := own_form HO2.out
  rw [HLEN.out] at hve
  rw [idL_len] at hve2
  subst hve hve2
  have HTW := Lib.hid (two_ids HO.out HG.out HO2.out HG2.out)
  have HFIT := Lib.hid (show Fit p n' n' n' L (idL n') from ⟨HLEN.out, idL_len _, hL, idL_ok (lt_p hfld)⟩)
  have hbel4 : Below w2.heap.size w2 w4 := Below.grown (Below.grown (show Below w2.heap.size w2 w2.drew from ⟨rfl, rfl, rfl, Nat.le_refl _, fun _ _ => rfl⟩) HG.out (Nat.le_refl _) (by simp)) HG2.out HG.out.size (by simp)
  have HB4 := Lib.hid hbel4
  have HB4D := Lib.hid (show Below w2.heap.size w2 w4.drew from ⟨hbel4.os, hbel4.tape, hbel4.output, hbel4.size, hbel4.block⟩)
  have HTWD := Lib.hid (show Two w2.drew.heap.size w4.drew _ _ _ _ L (idL n') from ⟨HTW.out.mR.only (Only.drew (fun _ => False) w4) (fun _ _ h => h), HTW.out.mT.only (Only.drew (fun _ => False) w4) (fun _ _ h => h), HTW.out.ap⟩)
  have HRK := Lib.hid hrank
  clear e1 e0 d1 d0 c0 c1 hbel4 hvi hvi2 hcap hcap2 hrank
  go_wp2_with fail
  go_region_held3 (fun w' => w'.cell? ⟨b, 0, none⟩ = some (.int .i64 n')) (first | exact f0 | exact g0)
    (first
      | (go_at_call 94
         refine (reduction_any p _ _ _ _ L _ n' n' n' _ _ hfld HTWD.out HFIT.out (by omega) (by omega) (by omega) hp2).mono ?_
         rintro e w5 ⟨rfl, vs', us', t, on⟩
         have hrk : ((redTo p L (idL n') n').r : Int) < (n' : Int) := by have := HRK.out; omega
         generalize ((redTo p L (idL n') n').r : Int) = rk at *
         have HB5 := Lib.hid (HB4D.out.trans (on.below HB4D.out.size fun k hk => HTWD.out.base hk))
         have g0 : w5.cell? ⟨b, 0, none⟩ = some (.int .i64 n') := cell_blk ((HB5.out.block b (by omega)).trans D1.out) 0
         have HT5 := Lib.hid t
         clear t on))
  have b2 := (HB5.out.block (b + 1) hb2).trans D2.out
  have B5 := Lib.hid b2
  have k0 := cell_blk b2 0
  have k1 := cell_blk b2 1
  have x0 := free_blk b2 0
  have x1 := free_blk b2 1
  simp only [List.getElem?_toArray, List.getElem?_cons_zero, List.getElem?_cons_succ] at k0 k1
  clear b2 f0 f1
  go_wp2
  refine bodyPost_ret_by (v := .tuple #[.agg #[.int .i64 0, .slice none 0 0], .bool false]) ?_ rfl ?_
  · simp [results, go_sem, *]
  · have o5 := one_set (w := w5) (b + 1) (.int .i64 0) (.slice none 0 0)
    refine ⟨rfl, ?_⟩
    exact grown_of_below (((Below.grown (Below.refl _ w) HW2.out (Nat.le_refl _) (by simp)).trans (HB5.out.mono HW2.out.size)).trans (o5.below (Nat.le_trans HW2.out.size HB5.out.size) fun q hq => by rw [HBE.out]; omega))

end Go.Proofs.YtghfifpicklonaaDoor

/-
  Products of rows with a matrix, in the program. Conditions: lengths are small; the numbers are elements of a field.
-/
namespace Go.Proofs.YtghfifpicklonaaDoor
open Go.RowKit
set_option linter.unusedVariables false
set_option maxRecDepth 100000

def prodL (p : Int) (R M : List (List Int)) (n : Nat) : List (List Int) := R.map fun x => combTo p x M n M.length
theorem prodL_len (p : Int) (R M : List (List Int)) (n : Nat) : (prodL p R M n).length = R.length := by simp [prodL]
theorem prodL_ok {p : Nat} [NeZero p] {R M : List (List Int)} {n : Nat} (hp : 1 < p) (hM : RowsOk p n M) : RowsOk p n (prodL p R M n) := by
  intro r hr
  obtain ⟨x, _, rfl⟩ := List.mem_map.1 hr
  exact combTo_ok hp hM _ (Nat.le_refl _)
set_option maxHeartbeats 1000000 in
theorem product_any (p : Nat) [NeZero p] (u v : Value) (R M : List (List Int)) (n : Nat) (w : World) (hp : 1 < p) (hp2 : p ≤ 1000) (hu : MatV w u R) (hv : MatV w v M) (hR : RowsOk p M.length R) (hM : RowsOk p n M) (hm : M.length ≤ 1000) (hn : n ≤ 1000) (hr : R.length ≤ 1000) :
    Calls Tryd.prog 49 #[.int .i64 p, u, v, .int .i64 n] w fun e w' => ∃ o vs, e = .returned o ∧ OwnM w.heap.size w' o vs (prodL p R M n) ∧ w.grownBy w' none := by
  have HU := Lib.hid hu; have HR := Lib.hid hR
  have HCM := Lib.hid fun (uu : Value) (x : List Int) W (hg : w.grownBy W none) (h1 : IntsV W uu x) (hx : VecOk p M.length x) => combine_any p uu v x M n W hp hp2 h1 (hv.carry hg) hx.1 hx.2 hM hm hn
  obtain ⟨ua, ucap, rfl⟩ := hu.shape
  obtain ⟨P, hP⟩ : ∃ P, prodL p R M n = P := ⟨_, rfl⟩
  have HPG := Lib.hid fun k (hk : k < R.length) (hk2 : k < P.length) => show P[k] = combTo p R[k] M n M.length from by
    subst hP
    simp [prodL]
  have HPL := Lib.hid (show P.length = R.length from by rw [← hP, prodL_len])
  rw [hP]
  clear hu hv hR hM hm hP
  obtain ⟨l, hlen⟩ : ∃ l, R.length = l := ⟨_, rfl⟩
  have HLEN := Lib.hid hlen
  rw [hlen] at hr HU HPL ⊢
  clear hlen
  go_enter Tryd.func49, Tryd.ntmps49
  go_wp2
  go_loopw [9, 11, 15] (fun v _ i wr => ∃ (k : Nat) (vs : List Value), k ≤ l ∧ i = .int .i64 k ∧ OwnM w.heap.size wr v vs (P.take k) ∧ Below w.heap.size w wr) (fun _ _ i _ => l - (intOf i).toNat)
  case atStart => exact ⟨0, [], by omega, rfl, OwnM.start (World.ownsRow_made w #[] 0 (Nat.le_refl _) (by unfold maxLen; omega) rfl), (Below.refl _ _).alloc (Nat.le_refl _) _⟩
  case round =>
    obtain ⟨k, vs, hk, rfl, hown, hbel⟩ := hrel
    have HO := Lib.hid hown; have HB := Lib.hid hbel
    have hsize := hbel.size
    clear hown hbel
    by_cases hlt : k < l
    · have hkl : k < R.length := by rw [HLEN.out]; exact hlt
      have hkp : k < P.length := by rw [HPL.out]; exact hlt
      have hgr := grown_of_below HB.out
      have hrow := (HU.out.carry hgr).row hkl
      obtain ⟨d, r, c, rfl, hs, hd, hcell, hrow⟩ := hrow
      obtain ⟨db, dof, _⟩ := d
      simp only at hs hcell
      subst hs
      have hok := HR.out _ (List.getElem_mem hkl)
      have HC := Lib.hid (HCM.out _ _ wr hgr hrow hok)
      rw [← HPG.out k hkl hkp] at HC
      have HTP := Lib.hid (take_push hkp)
      generalize P[k] = y at *
      generalize R[k].length = zl at *
      have A5 := Lib.hid (show (List.take k P).length ≤ 1000000 by rw [List.length_take]; omega)
      clear hrow hok hgr
      go_wp2_with (first
        | (go_at_call 95
           with_reducible refine HC.out.mono ?_
           rintro e w2 ⟨uu, rfl, hu, hg⟩
           obtain ⟨ua2, uc2, rfl⟩ := own_shape hu
           have A := Lib.hid (after_row HO.out hsize hu hg)
           have HG2 := Lib.hid hg
           clear hu hg)
        | (at_builtin
           refine app_row rfl _ _ rfl rfl rfl A.out.1 A.out.2.1 A.out.2.2.1 A.out.2.2.2 A5.out ?_
           intro v' w3 hown' hon'
           have HO3 := Lib.hid hown'; have HN3 := Lib.hid (Only.below' A.out.1 hon' A.out.2.2.2)
           clear hown' hon'))
      go_roundw
      case rel => exact ⟨k + 1, _, by omega, by go_num, by have := HO3.out; rw [HTP.out] at this; exact this, (HB.out.grown HG2.out hsize (by simp)).trans HN3.out⟩
      case measure => simp [intOf]; omega
    · have hkl : P.take k = P := List.take_of_length_le (by have := HPL.out; omega)
      have HK := Lib.hid hkl
      clear hkl
      go_wp2
      go_ret
      exact ⟨_, _, rfl, by have := HO.out; rw [HK.out] at this; exact this, grown_of_below HB.out⟩
end Go.Proofs.YtghfifpicklonaaDoor

/-
  Comparisons of lists: what is answered, and that nothing but draws happens. Conditions: lengths are small.
-/
namespace Go.Proofs.YtghfifpicklonaaDoor
open Go.RowKit
set_option linter.unusedVariables false

theorem grown_drewN (w : World) (q : Nat) : w.grownBy (w.drewN q) none := ⟨rfl, rfl, rfl, Nat.le_refl _, fun _ _ _ => rfl⟩
theorem quiet_more {P : Program} {f : FuncId} {args : Array Value} {w : World} {a n : Nat} {v : Value}
    (h : ∀ W : World, w.grownBy W none → Calls P f args W fun e w' => e = .returned v ∧ ∃ m, w' = W.drewN m) :
    Calls P f args (w.drewN (a + n)) fun e w'' => e = .returned v ∧ ∃ m, w'' = w.drewN (a + m) :=
  (h _ (grown_drewN _ _)).mono fun _ _ ⟨he, m, hm⟩ => ⟨he, n + m, by rw [hm, World.drewN_drewN, Nat.add_assoc]⟩
end Go.Proofs.YtghfifpicklonaaDoor

/-
  The specification's field functions and its matrix check. Conditions: the numbers are small.
-/
namespace Go.Proofs.YtghfifpicklonaaDoor
open Go.RowKit
set_option linter.unusedVariables false

theorem fdMulS_any (p a b : Int) (w : World) (hp : 1 ≤ p) (hp2 : p ≤ 1000) (ha : 0 ≤ a) (ha2 : a ≤ 1000) (hb : 0 ≤ b) (hb2 : b ≤ 1000) : Calls Tryd.prog 123 #[.int .i64 p, .int .i64 a, .int .i64 b] w fun e w' => e = .returned (.int .i64 (a * b % p)) ∧ w = w' := by
  have h := mul_bd ha ha2 hb hb2
  have h1 := Int.emod_nonneg (a * b) (show p ≠ 0 by omega)
  have h2 := Int.emod_lt_of_pos (a * b) (show 0 < p by omega)
  go_enter Tryd.func123, Tryd.ntmps123
  go_wp2
  go_ret
  exact ⟨rfl, rfl⟩
theorem fdSubS_any (p a b : Int) (w : World) (hp : 1 ≤ p) (hp2 : p ≤ 1000) (ha : 0 ≤ a) (ha2 : a ≤ 1000) (hb : 0 ≤ b) (hb2 : b ≤ p) : Calls Tryd.prog 124 #[.int .i64 p, .int .i64 a, .int .i64 b] w fun e w' => e = .returned (.int .i64 ((a + p - b) % p)) ∧ w = w' := by
  have h1 := Int.emod_nonneg (a + p - b) (show p ≠ 0 by omega)
  have h2 := Int.emod_lt_of_pos (a + p - b) (show 0 < p by omega)
  have h3 : 0 ≤ a + p - b := by omega
  go_enter Tryd.func124, Tryd.ntmps124
  go_wp2
  go_ret
  exact ⟨rfl, rfl⟩
theorem inv_unique {p : Nat} [NeZero p] {a x : Int} (hf : fldN p = true) (ha : 0 < a) (ha2 : a < p) (hx : 0 ≤ x) (hx2 : x < p) (h : a * x % p = 1) : x = invI p a := by
  have h1 := toF_inv hf ha ha2
  have hp := lt_p hf
  have h2 : toF p a * toF p x = 1 := by
    rw [← toF_mul, ← toF_one, toF_eq, h, Int.emod_eq_of_lt (by omega) (by omega)]
  have h3 : toF p x = toF p (invI p a) := by
    have : toF p x = toF p x * (toF p a * toF p (invI p a)) := by rw [h1]; grind
    rw [this]
    grind
  have hb : 0 ≤ invI p a ∧ invI p a < p := by
    unfold invI
    exact ⟨Int.emod_nonneg _ (by omega), Int.emod_lt_of_pos _ (by omega)⟩
  exact toF_inj hx hx2 hb.1 hb.2 h3
theorem inv_ok {p : Nat} [NeZero p] {a : Int} (hf : fldN p = true) (ha : 0 < a) (ha2 : a < p) : a * invI p a % p = 1 ∧ 1 ≤ invI p a ∧ invI p a < p := by
  have h1 := toF_inv hf ha ha2
  have hp := lt_p hf
  rw [← toF_mul, ← toF_one, toF_eq, Int.emod_eq_of_lt (show (0 : Int) ≤ 1 by omega) (by omega)] at h1
  have hb : 0 ≤ invI p a ∧ invI p a < p := by
    unfold invI
    exact ⟨Int.emod_nonneg _ (by omega), Int.emod_lt_of_pos _ (by omega)⟩
  refine ⟨h1, ?_, hb.2⟩
  rcases Int.lt_or_le (invI p a) 1 with h | h
  · have : invI p a = 0 := by omega
    rw [this] at h1
    simp at h1
  · exact h
theorem fdInvS_any (p : Nat) [NeZero p] (a : Int) (w : World) (hf : fldN p = true) (hp2 : p ≤ 1000) (ha : 0 < a) (ha2 : a < p) : Calls Tryd.prog 122 #[.int .i64 p, .int .i64 a] w fun e w' => e = .returned (.int .i64 (invI p a)) ∧ w = w' := by
  have hp := lt_p hf
  have HU := Lib.hid fun x h1 h2 h3 => inv_unique (x := x) hf ha ha2 h1 h2 h3
  have HOK := Lib.hid (inv_ok hf ha ha2)
  clear hf
  go_enter Tryd.func122, Tryd.ntmps122
  go_wp2
  go_loop [5] (fun i => ∃ k : Nat, 1 ≤ k ∧ k ≤ p ∧ i = .int .i64 k ∧ ∀ j : Nat, 1 ≤ j → j < k → a * j % p ≠ 1) (fun i => p - (intOf i).toNat)
  case atStart => exact ⟨1, by omega, by omega, rfl, fun j h1 h2 => absurd h1 (by omega)⟩
  case round =>
    obtain ⟨k, hk1, hk, rfl, ho⟩ := hrel
    have HO := Lib.hid ho
    clear ho
    by_cases hlt : k < p
    · have b1 := mul_bd (x := a) (y := k) (X := 1000) (Y := 1000) (by omega) (by omega) (by omega) (by omega)
      have b2 := Int.emod_nonneg (a * k) (show (p : Int) ≠ 0 by omega)
      have b3 := Int.emod_lt_of_pos (a * k) (show (0 : Int) < p by omega)
      by_cases h1 : a * k % p = 1
      · have hb : (a * k % p == 1) = true := beq_iff_eq.2 h1
        have HE := Lib.hid (HU.out k (by omega) (by omega) h1)
        clear h1
        go_wp2
        go_ret
        exact ⟨by rw [← HE.out]; rfl, rfl⟩
      · have hb : (a * k % p == 1) = false := beq_eq_false_iff_ne.2 h1
        have HE := Lib.hid h1
        clear h1
        go_wp2
        go_round
        case rel => exact ⟨k + 1, by omega, by omega, by go_num, fun j h2 h3 => by
          by_cases hj : j = k
          · subst hj; exact HE.out
          · exact HO.out j h2 (by omega)⟩
        case measure => simp [intOf]; omega
    · exfalso
      obtain ⟨h1, h2, h3⟩ := HOK.out
      refine HO.out (invI p a).toNat (by omega) (by omega) ?_
      rw [Int.toNat_of_nonneg (by omega)]
      exact h1
end Go.Proofs.YtghfifpicklonaaDoor

/-
  The specification's row functions. Conditions: the numbers are small.
-/
namespace Go.Proofs.YtghfifpicklonaaDoor
open Go.RowKit
set_option linter.unusedVariables false

theorem fdIn_anyL (p : Int) (v : Value) (zs : List Int) (w : World) (hv : IntsV w v zs) (hl : zs.length ≤ 1000000) (hp : -1000000 ≤ p) (hp2 : p ≤ 1000000) :
    Calls Tryd.prog 83 #[.int .i64 p, v] w fun e w' => e = .returned (.bool (zs.all (elB p))) ∧ w = w' := by
  have A := l1All_any 0 (p - 1) v zs w hv hl
  have e : (fun n : Int => decide (0 ≤ n ∧ n ≤ p - 1)) = elB p := by
    funext n
    unfold elB
    exact decide_eq_decide.2 (by omega)
  rw [e] at A
  have A := Lib.hid A
  obtain ⟨a, c, rfl, _⟩ := hv
  clear e
  go_enter Tryd.func83, Tryd.ntmps83
  go_wp2_with (go_at_call 99; with_reducible refine A.out.mono ?_; rintro e w' ⟨rfl, rfl⟩)
  go_ret
  exact ⟨rfl, rfl⟩
end Go.Proofs.YtghfifpicklonaaDoor

/-
  The specification's matrix check. Conditions: the numbers are small.
-/
namespace Go.Proofs.YtghfifpicklonaaDoor
open Go.RowKit
set_option linter.unusedVariables false

set_option maxRecDepth 100000 in
set_option maxHeartbeats 1000000 in
theorem mxGood_any (p cols : Int) (v : Value) (L : List (List Int)) (w : World) (hv : MatV w v L) (hl : L.length ≤ 1000000) (hll : ∀ row ∈ L, row.length ≤ 1000000) (hp0 : -1000 ≤ p) (hp1 : p ≤ 1000) :
    Calls Tryd.prog 44 #[.int .i64 p, mxV cols v] w fun e w' => e = .returned (.bool (matB p cols L)) ∧ w.grownBy w' none := by
  have HV := Lib.hid hv; have HLL := Lib.hid hll
  obtain ⟨a, c, rfl⟩ := hv.shape
  clear hv hll
  have HA := Lib.hid fun w => fdGood_anyL p w hp0 hp1
  have HI := Lib.hid fun w => l1In_any cols 0 24 w
  unfold mxV
  generalize hbb : matB p cols L = bb
  have HBB := Lib.hid hbb
  clear hbb
  generalize hlen : L.length = l at *
  have HL := Lib.hid hlen
  clear hlen
  have HG := Lib.hid fun o => grownBy_alloc w o none
  cases h1 : fldB p
  · rw [h1] at HA
    have hm : matB p cols L = false := by unfold matB; rw [h1]; rfl
    have HM := Lib.hid hm
    clear hm h1
    go_enter Tryd.func44, Tryd.ntmps44
    go_wp2_with (go_at_call 67; with_reducible refine (HA.out _).mono ?_; rintro e w' ⟨rfl, rfl⟩)
    go_ret
    exact ⟨by rw [← HBB.out, HM.out]; rfl, HG.out _⟩
  · rw [h1] at HA
    cases h2 : decide (0 ≤ cols ∧ cols ≤ 24)
    · rw [h2] at HI
      have hm : matB p cols L = false := by unfold matB; rw [h1, h2]; rfl
      have HM := Lib.hid hm
      clear hm h1 h2
      go_enter Tryd.func44, Tryd.ntmps44
      go_wp2_with (first
        | (go_at_call 67; with_reducible refine (HA.out _).mono ?_; rintro e w' ⟨rfl, rfl⟩)
        | (go_at_call 68; with_reducible refine (HI.out _).mono ?_; rintro e w' ⟨rfl, rfl⟩))
      go_ret
      exact ⟨by rw [← HBB.out, HM.out]; rfl, HG.out _⟩
    · rw [h2] at HI
      by_cases h3 : l ≤ 24
      · have hm : matB p cols L = rowsB p cols L := by unfold matB; rw [h1, h2, HL.out, decide_eq_true h3]; rfl
        have HM := Lib.hid hm
        clear hm h1 h2
        go_enter Tryd.func44, Tryd.ntmps44
        go_wp2_with (first
          | (go_at_call 67; with_reducible refine (HA.out _).mono ?_; rintro e w' ⟨rfl, rfl⟩)
          | (go_at_call 68; with_reducible refine (HI.out _).mono ?_; rintro e w' ⟨rfl, rfl⟩))
        have hgr := HG.out (.cells #[.int .i64 cols, .slice a l c] 44)
        have c0 : (w.alloc (.cells #[.int .i64 cols, .slice a l c] 44)).cell? ⟨w.heap.size, 0, none⟩ = some (.int .i64 cols) := box_cell _ _ _ _
        generalize w.alloc (.cells #[.int .i64 cols, .slice a l c] 44) = w1 at *
        have HGR := Lib.hid hgr
        have HV1 := Lib.hid (HV.out.carry hgr)
        clear hgr
        generalize w.heap.size = b at *
        go_loop [25] (fun i => ∃ k : Nat, k ≤ l ∧ i = .int .i64 k ∧ ∀ j (h : j < L.length), j < k → vecB p cols L[j] = true) (fun i => l - (intOf i).toNat)
        case atStart => exact ⟨0, by omega, rfl, fun _ _ h => absurd h (by omega)⟩
        case round =>
          obtain ⟨k, hk, rfl, ho⟩ := hrel
          have HO := Lib.hid ho
          clear ho
          by_cases hlt : k < l
          · have hkl : k < L.length := by rw [HL.out]; exact hlt
            obtain ⟨d, r, rc, rfl, hs, hd, hcell, hrow⟩ := HV1.out.row hkl
            have hlr := HLL.out L[k] (List.getElem_mem _)
            obtain ⟨db, dof, _⟩ := d
            simp only at hs hcell
            subst hs
            have hbad : vecB p cols L[k] = false → rowsB p cols L = false := by
              intro h
              unfold rowsB
              exact List.all_eq_false.2 ⟨L[k], List.getElem_mem _, by rw [h]; simp⟩
            have HBAD := Lib.hid hbad
            have HF := Lib.hid (fdIn_anyL p _ L[k] w1 hrow hlr (by omega) (by omega))
            have hvb : vecB p cols L[k] = (decide ((L[k].length : Int) = cols) && L[k].all (elB p)) := rfl
            have HVB := Lib.hid hvb
            clear hbad hvb hd hrow hlr
            generalize hrl : L[k].length = rl at *
            clear hrl
            by_cases hq : (rl : Int) = cols
            · have hb1 : ((rl : Int) != cols) = false := by rw [bne_eq_false_iff_eq]; exact hq
              cases he : L[k].all (elB p)
              · rw [he] at HF
                have hfin := HBAD.out (by rw [HVB.out, he, Bool.and_false])
                have HFIN := Lib.hid hfin
                clear hfin he
                go_wp2_with (go_at_call 83; with_reducible refine HF.out.mono ?_; rintro e w' ⟨rfl, rfl⟩)
                go_ret
                exact ⟨by rw [← HBB.out, HM.out, HFIN.out]; rfl, HGR.out⟩
              · rw [he] at HF
                have hv1 : vecB p cols L[k] = true := by rw [HVB.out, he, decide_eq_true hq]; rfl
                have HV2 := Lib.hid hv1
                clear hv1 he
                go_wp2_with (go_at_call 83; with_reducible refine HF.out.mono ?_; rintro e w' ⟨rfl, rfl⟩)
                go_round
                case rel => exact ⟨k + 1, by omega, by go_num, fun j h hj => by
                  by_cases hjk : j = k
                  · subst hjk; exact HV2.out
                  · exact HO.out j h (by omega)⟩
                case measure => simp [intOf]; omega
            · have hb1 : ((rl : Int) != cols) = true := by rw [bne_iff_ne]; exact hq
              have hfin := HBAD.out (by rw [HVB.out, decide_eq_false hq, Bool.false_and])
              have HFIN := Lib.hid hfin
              clear hfin hq
              go_wp2
              go_ret
              exact ⟨by rw [← HBB.out, HM.out, HFIN.out]; rfl, HGR.out⟩
          · have hfin : rowsB p cols L = true := by
              unfold rowsB
              refine List.all_eq_true.2 fun x hx => ?_
              obtain ⟨j, hj, rfl⟩ := List.getElem_of_mem hx
              exact HO.out j hj (by have := HL.out; omega)
            have HFIN := Lib.hid hfin
            clear hfin
            go_wp2
            go_ret
            exact ⟨by rw [← HBB.out, HM.out, HFIN.out]; rfl, HGR.out⟩
      · have hm : matB p cols L = false := by unfold matB; rw [h1, h2, HL.out, decide_eq_false h3]; rfl
        have HM := Lib.hid hm
        clear hm h1 h2
        have hgt : (24 : Int) < l := by omega
        go_enter Tryd.func44, Tryd.ntmps44
        go_wp2_with (first
          | (go_at_call 67; with_reducible refine (HA.out _).mono ?_; rintro e w' ⟨rfl, rfl⟩)
          | (go_at_call 68; with_reducible refine (HI.out _).mono ?_; rintro e w' ⟨rfl, rfl⟩))
        go_ret
        exact ⟨by rw [← HBB.out, HM.out]; rfl, HG.out _⟩
end Go.Proofs.YtghfifpicklonaaDoor

/-
  More on lists of rows that are the call's own: a fresh row in a place, an element written, two lists' rows exchanged by four stores. Conditions: the indices are within.
-/
namespace Go.Proofs.YtghfifpicklonaaDoor
open Go.RowKit
set_option linter.unusedVariables false

theorem getD_setV {vs : List Value} {i k : Nat} {u : Value} (hi : i < vs.length) : (vs.set i u).getD k nilS = if k = i then u else vs.getD k nilS := by
  simp only [List.getD_eq_getElem?_getD, List.getElem?_set]
  by_cases h : i = k
  · subst h; simp [hi]
  · simp [h, Ne.symm h]
theorem getD_setL {L : List (List Int)} {i k : Nat} {z : List Int} (hi : i < L.length) : (L.set i z).getD k [] = if k = i then z else L.getD k [] := by
  simp only [List.getD_eq_getElem?_getD, List.getElem?_set]
  by_cases h : i = k
  · subst h; simp [hi]
  · simp [h, Ne.symm h]
/-- a fresh row put into a place -/
theorem OwnM.putNew {B g n cap : Nat} {w : World} {vs : List Value} {L : List (List Int)} {u : Value} {zs : List Int} (h : OwnM B w (.slice (some ⟨g, 0, none⟩) n cap) vs L) (hn : n = L.length) {i : Nat} (hi : i < L.length)
    (hu : OwnInts B w u zs) (hua : ∀ j, Apart (vs.getD j nilS) u) :
    OwnM B (w.setCell ⟨g, i, none⟩ u) (.slice (some ⟨g, 0, none⟩) n cap) (vs.set i u) (L.set i zs) ∧ Only (· = g) w (w.setCell ⟨g, i, none⟩ u) := by
  subst hn
  have hlen := h.len
  have h2 := h.out
  rw [hlen] at h2
  have s1 := World.ownsRow.stored h2 i u
  have hon : Only (Hits (.slice (some ⟨g, 0, none⟩) L.length cap)) w (w.setCell ⟨g, i, none⟩ u) := Only.of_grown s1.2 fun k hk => hk
  refine ⟨⟨by simp [hlen], ?_, fun j => ?_, fun j k hjk => ?_⟩, hon.mono fun k hk => by simp [Hits, Value.ownBlock] at hk; exact hk.symm⟩
  · have e : (vs.set i u).length = L.length := by simp [hlen]
    rw [e]
    exact s1.1
  · rw [getD_setV (by omega), getD_setL hi]
    split
    · exact hu.only hon fun k hk hk' => apart_types h.out hu (by decide) k hk' hk
    · exact (h.row j).only hon fun k hk hk' => apart_types h.out (h.row j) (by decide) k hk' hk
  · rw [getD_setV (by omega), getD_setV (by omega)]
    split
    · rw [if_neg (by omega)]; exact (hua k).symm
    · split
      · exact hua j
      · exact h.ap j k hjk
/-- an element: where it lies, and writing it -/
theorem OwnM.elemAt {B g n cap : Nat} {w : World} {vs : List Value} {L : List (List Int)} (h : OwnM B w (.slice (some ⟨g, 0, none⟩) n cap) vs L) (hn : n = L.length) {i j : Nat} (hi : i < L.length) (hj : j < (L.getD i []).length) :
    ∃ gi ci, B ≤ gi ∧ gi ≠ g ∧ gi < w.heap.size ∧ Hits (vs.getD i nilS) gi ∧ w.cell? ⟨g, i, none⟩ = some (.slice (some ⟨gi, 0, none⟩) (L.getD i []).length ci) ∧ w.cell? ⟨gi, j, none⟩ = some (.int .i64 (at2 L i j)) ∧ w.frozen? ⟨gi, j, none⟩ = false ∧
      ∀ x, OwnM B (w.setCell ⟨gi, j, none⟩ (.int .i64 x)) (.slice (some ⟨g, 0, none⟩) n cap) vs (L.set i ((L.getD i []).set j x)) ∧ Only (· = gi) w (w.setCell ⟨gi, j, none⟩ (.int .i64 x)) := by
  have hrow := h.row i
  obtain ⟨gi, ci, he, hB, hlt, hh⟩ := hrow.parts (by intro h0; rw [h0] at hj; simp at hj)
  have hne : gi ≠ g := by
    intro e
    subst e
    exact apart_types h.out hrow (by decide) gi rfl hh
  have hc := h.cell hn hi
  have hrow' := hrow
  rw [he] at hc hrow'
  refine ⟨gi, ci, hB, hne, hlt, hh, hc, ?_, hrow'.free rfl j, fun x => ?_⟩
  · rw [hrow'.cell rfl hj]
    unfold at2
    rw [getD_ltL hj]
  · obtain ⟨p1, p2⟩ := hrow'.put rfl j x
    refine ⟨h.setRow hi ?_ (by rw [he]; exact p1), p2⟩
    exact p2.mono fun k hk => by subst hk; exact hh
/-- two rows exchanged, whatever else was written in lists of rows -/
theorem OwnM.swapped {B g n cap : Nat} {w w' : World} {vs : List Value} {L : List (List Int)} {S : Nat → Prop} (h : OwnM B w (.slice (some ⟨g, 0, none⟩) n cap) vs L) {r i : Nat} (hr : r < L.length) (hi : i < L.length) (hne : r ≠ i)
    (ho : Only S w w') (hS : ∀ k, S k → ∀ j, ¬ Hits (vs.getD j nilS) k) (hout : w'.ownsRow B 27 1 (.slice (some ⟨g, 0, none⟩) n cap) vs.length ((vs.set i (vs.getD r nilS)).set r (vs.getD i nilS))) :
    OwnM B w' (.slice (some ⟨g, 0, none⟩) n cap) ((vs.set i (vs.getD r nilS)).set r (vs.getD i nilS)) (swapL L r i) ∧ (∀ x ∈ (vs.set i (vs.getD r nilS)).set r (vs.getD i nilS), x ∈ vs) := by
  have hlen := h.len
  have gv : ∀ k, ((vs.set i (vs.getD r nilS)).set r (vs.getD i nilS)).getD k nilS = vs.getD (La.tw r i k) nilS := by
    intro k
    unfold La.tw
    rw [getD_setV (by rw [List.length_set]; omega), getD_setV (by omega)]
    by_cases h1 : k = r
    · rw [if_pos h1, if_pos h1]
    · rw [if_neg h1, if_neg h1]
      by_cases h2 : k = i
      · rw [if_pos h2, if_pos h2]
      · rw [if_neg h2, if_neg h2]
  have tinj : ∀ a b, a ≠ b → La.tw r i a ≠ La.tw r i b := by
    intro a b hab
    unfold La.tw
    split <;> split <;> (try split) <;> (try split) <;> omega
  refine ⟨⟨by simp [swapL, hlen], by rw [List.length_set, List.length_set]; exact hout, fun k => ?_, fun a b hab => ?_⟩, fun x hx => ?_⟩
  · rw [gv, swapL_get hr hi]
    exact (h.row _).only ho fun q hq hq' => hS q hq' _ hq
  · rw [gv, gv]
    exact h.ap _ _ (tinj a b hab)
  · rcases List.mem_or_eq_of_mem_set hx with h1 | h1
    · rcases List.mem_or_eq_of_mem_set h1 with h3 | h3
      · exact h3
      · rw [h3, List.getD_eq_getElem?_getD, List.getElem?_eq_getElem (show r < vs.length by omega)]; exact List.getElem_mem _
    · rw [h1, List.getD_eq_getElem?_getD, List.getElem?_eq_getElem (show i < vs.length by omega)]; exact List.getElem_mem _
/-- four stores exchange two rows in two lists -/
theorem Two.swap4 {B ga gt m ca ct : Nat} {w : World} {vs us : List Value} {R T : List (List Int)} (h : Two B w (.slice (some ⟨ga, 0, none⟩) m ca) vs (.slice (some ⟨gt, 0, none⟩) m ct) us R T) (hR : R.length = m) (hT : T.length = m) {r i : Nat} (hr : r < m) (hi : i < m) (hne : r ≠ i) :
    ga ≠ gt ∧
    Two B ((((w.setCell ⟨ga, i, none⟩ (vs.getD r nilS)).setCell ⟨gt, i, none⟩ (us.getD r nilS)).setCell ⟨ga, r, none⟩ (vs.getD i nilS)).setCell ⟨gt, r, none⟩ (us.getD i nilS))
      (.slice (some ⟨ga, 0, none⟩) m ca) ((vs.set i (vs.getD r nilS)).set r (vs.getD i nilS)) (.slice (some ⟨gt, 0, none⟩) m ct) ((us.set i (us.getD r nilS)).set r (us.getD i nilS)) (swapL R r i) (swapL T r i) ∧
    (∀ x ∈ (vs.set i (vs.getD r nilS)).set r (vs.getD i nilS), x ∈ vs) ∧ (∀ x ∈ (us.set i (us.getD r nilS)).set r (us.getD i nilS), x ∈ us) ∧
    Only (fun k => k = ga ∨ k = gt) w ((((w.setCell ⟨ga, i, none⟩ (vs.getD r nilS)).setCell ⟨gt, i, none⟩ (us.getD r nilS)).setCell ⟨ga, r, none⟩ (vs.getD i nilS)).setCell ⟨gt, r, none⟩ (us.getD i nilS)) := by
  have lv := h.mR.len
  have lu := h.mT.len
  have o1 := h.mR.out
  have o2 := h.mT.out
  rw [lv, hR] at o1
  rw [lu, hT] at o2
  have hg : ga ≠ gt := fun e => h.ap ga (Or.inl rfl) (Or.inl (by rw [e]; rfl))
  have hitA : ∀ k, Hits (.slice (some ⟨ga, 0, none⟩) m ca) k → k = ga := fun k hk => by simp [Hits, Value.ownBlock] at hk; exact hk.symm
  have hitT : ∀ k, Hits (.slice (some ⟨gt, 0, none⟩) m ct) k → k = gt := fun k hk => by simp [Hits, Value.ownBlock] at hk; exact hk.symm
  have s1 := World.ownsRow.stored o1 i (vs.getD r nilS)
  have n1 : Only (· = ga) w _ := Only.of_grown s1.2 fun k hk => hitA k hk
  have t1 := owns_only o2 n1 fun k hk hk' => hg (hk'.symm.trans (hitT k hk))
  have s2 := World.ownsRow.stored t1 i (us.getD r nilS)
  have n2 : Only (· = gt) _ _ := Only.of_grown s2.2 fun k hk => hitT k hk
  have a2 := owns_only s1.1 n2 fun k hk hk' => hg ((hitA k hk).symm.trans hk')
  have s3 := World.ownsRow.stored a2 r (vs.getD i nilS)
  have n3 : Only (· = ga) _ _ := Only.of_grown s3.2 fun k hk => hitA k hk
  have t3 := owns_only s2.1 n3 fun k hk hk' => hg (hk'.symm.trans (hitT k hk))
  have s4 := World.ownsRow.stored t3 r (us.getD i nilS)
  have n4 : Only (· = gt) _ _ := Only.of_grown s4.2 fun k hk => hitT k hk
  have a4 := owns_only s3.1 n4 fun k hk hk' => hg ((hitA k hk).symm.trans hk')
  have n : Only (fun k => k = ga ∨ k = gt) w _ := (((n1.mono fun k hk => Or.inl hk).trans (n2.mono fun k hk => Or.inr hk)).trans (n3.mono fun k hk => Or.inl hk)).trans (n4.mono fun k hk => Or.inr hk)
  have S1 : ∀ k, (k = ga ∨ k = gt) → ∀ j, ¬ Hits (vs.getD j nilS) k := by
    intro k hk j hj
    rcases hk with rfl | rfl
    · exact apart_types h.mR.out (h.mR.row j) (by decide) _ rfl hj
    · exact h.ap _ (Foot.at hj) (Or.inl rfl)
  have S2 : ∀ k, (k = ga ∨ k = gt) → ∀ j, ¬ Hits (us.getD j nilS) k := by
    intro k hk j hj
    rcases hk with rfl | rfl
    · exact h.ap _ (Or.inl rfl) (Foot.at hj)
    · exact apart_types h.mT.out (h.mT.row j) (by decide) _ rfl hj
  obtain ⟨m1, b1⟩ := h.mR.swapped (by omega) (by omega) hne n S1 (by rw [lv, hR]; exact a4)
  obtain ⟨m2, b2⟩ := h.mT.swapped (by omega) (by omega) hne n S2 (by rw [lu, hT]; exact s4.1)
  exact ⟨hg, ⟨m1, m2, fun k hk hk' => h.ap k (hk.mono b1) (hk'.mono b2)⟩, b1, b2, n⟩
end Go.Proofs.YtghfifpicklonaaDoor

/-
  What a walk knows about memory, in parts that are apart: each part names the blocks that it may write and those that it reads. Conditions: none.
-/
namespace Go.Proofs.YtghfifpicklonaaDoor
open Go.RowKit
set_option linter.unusedVariables false

section
variable {w w' : World} {A A' C D E F : Asrt} {l l' : List Asrt}
end

/-! ### the parts -/
def OM (v : Value) (vs : List Value) (L : List (List Int)) : Asrt := ⟨Foot v vs, Foot v vs, fun w => OwnM 0 w v vs L, fun _ h => h, fun w k h hk => (h.lt hk).2, fun w w' h ho => h.only ho fun k hk h' => h' hk⟩
theorem OwnM.rebase {B B' : Nat} {w : World} {v : Value} {vs : List Value} {L : List (List Int)} (h : OwnM B w v vs L) (hk : ∀ k, Foot v vs k → B' ≤ k) : OwnM B' w v vs L := by
  refine ⟨h.len, ?_, fun i => (h.row i).rebase fun k hh => hk k (Foot.at hh), h.ap⟩
  obtain ⟨h1, h2⟩ := h.out
  refine ⟨h1, ?_⟩
  rcases h2 with h2 | ⟨g, cap, cur, hv, hg, r⟩
  · exact Or.inl h2
  · exact Or.inr ⟨g, cap, cur, hv, hk g (Or.inl (by rw [hv]; rfl)), r⟩
section
variable {w w0 w' : World} {l : List Asrt} {v u : Value} {vs : List Value} {L : List (List Int)} {zs : List Int}
theorem Sep.mat (h : Sep w (OM v vs L :: KeepA w0 :: l)) : OwnM w0.heap.size w v vs L := h.hd.rebase fun k hk => Nat.le_of_not_lt (h.apt.1 k hk)
theorem Sep.newM (h : Sep w l) (hg : w.grownBy w' none) (ho : OwnM w.heap.size w' v vs L) : Sep w' (OM v vs L :: l) := h.new hg (ho.rebase fun _ _ => Nat.zero_le _) fun k hk => (ho.lt hk).1
theorem Sep.nilM (h : Sep w l) : Sep w (OM nilS [] [] :: l) := h.new (⟨rfl, rfl, rfl, Nat.le_refl _, fun _ _ _ => rfl⟩) (OwnM.start (World.ownsRow_nil _ _ _ _)) fun k hk => by
  rcases hk with hk | ⟨x, hx, _⟩
  · exact absurd hk nil_hits
  · simp at hx
theorem Sep.emptyM (h : Sep w l) : Sep (w.alloc (.cells #[] 27)) (OM (.slice (some ⟨w.heap.size, 0, none⟩) 0 0) [] [] :: l) :=
  h.newM (grownBy_alloc w _ none) (OwnM.start (World.ownsRow_made w #[] 0 (Nat.le_refl _) (by unfold maxLen; omega) rfl))
/-- an element of a row is written -/
theorem Sep.setM {g n cap : Nat} (h : Sep w (OM (.slice (some ⟨g, 0, none⟩) n cap) vs L :: l)) (hn : n = L.length) {i j : Nat} (hi : i < L.length) (hj : j < (L.getD i []).length) :
    ∃ gi ci, gi ≠ g ∧ w.cell? ⟨g, i, none⟩ = some (.slice (some ⟨gi, 0, none⟩) (L.getD i []).length ci) ∧ w.cell? ⟨gi, j, none⟩ = some (.int .i64 (at2 L i j)) ∧ w.frozen? ⟨gi, j, none⟩ = false ∧
      ∀ x, Sep (w.setCell ⟨gi, j, none⟩ (.int .i64 x)) (OM (.slice (some ⟨g, 0, none⟩) n cap) vs (L.set i ((L.getD i []).set j x)) :: l) := by
  obtain ⟨gi, ci, h1, h2, h3, h4, h5, h6, h7, h8⟩ := h.hd.elemAt hn hi hj
  exact ⟨gi, ci, h2, h5, h6, h7, fun x => h.upd' ((h8 x).2.mono fun k hk => by rw [hk]; exact Foot.at h4) (h8 x).1 fun k hk => Or.inl hk⟩
/-- a new row is put into a place -/
theorem Sep.putM {g n cap : Nat} (h : Sep w (OI u zs :: OM (.slice (some ⟨g, 0, none⟩) n cap) vs L :: l)) (hn : n = L.length) {i : Nat} (hi : i < L.length) :
    Sep (w.setCell ⟨g, i, none⟩ u) (OM (.slice (some ⟨g, 0, none⟩) n cap) (vs.set i u) (L.set i zs) :: l) := by
  have hm := h.s2
  have hp := hm.hd.putNew hn hi h.hd fun j k hk => hm.apt.1 k (Foot.at hk)
  refine hm.join (hp.2.mono fun k hk => Or.inl (by rw [hk]; exact Or.inl rfl)) hp.1 (fun k hk => ?_) (fun k hk => ?_) <;>
  · rcases hk with hk | ⟨x, hx, hk⟩
    · exact Or.inl (Or.inl hk)
    · rcases List.mem_or_eq_of_mem_set hx with h' | rfl
      · exact Or.inl (Or.inr ⟨x, h', hk⟩)
      · exact Or.inr (Or.inl hk)
end

/-! ### append -/
section
variable {ops : Array Oper} {rest : List Oper} {o : Oper} {a : Act} {Q : Exit → Act → World → Prop} {K : Act → World → Prop} {E : Prop} {w : World} {v u : Value} {vs : List Value} {zs : List Int} {L : List (List Int)} {l : List Asrt} {n : Int}
/-- 'out = append(out, row)': the row joins the list. -/
theorem wp_app_rowS (s x : Operand) (ho : o.op = .call { callee := .builtin .append, args := #[s, x], argTypes := #[22, 22] })
    (hs : a.eval s = v) (hx : a.eval x = .slice (some ⟨w.heap.size, 0, none⟩) 1 1) (H : Sep w (OI u zs :: OM v vs L :: l)) (hl : L.length ≤ 1000000)
    (h : ∀ g cap w', Sep w' (OM (.slice (some ⟨g, 0, none⟩) (L.length + 1) cap) (vs ++ [u]) (L ++ [zs]) :: l) → K (a.put o.dst (.slice (some ⟨g, 0, none⟩) (L.length + 1) cap)) w') :
    o.wp Tryd.prog a (w.alloc (.cells #[u] 27)) K Q := by
  obtain ⟨i0, hi, hz0, hz1, hz2⟩ := info_parts info_ints
  have H1 := H.al (.cells #[u] 27)
  have H2 := H1.s2
  have hown1 := H2.hd
  have hu1 := H1.hd
  have hlen := hown1.len
  refine wp_append_lies (P := Tryd.prog) _ s x 22 ho 0 27 i0 (.slice none 0 0) 1 24 Tryd.underlying22 hi hz0 hz1 hz2 rfl (by decide) v vs.length vs hs hown1.out
    ⟨w.heap.size, 0, none⟩ 1 1 [u] hx rfl news_one (fun u' hu' => by simp at hu'; subst hu'; exact ints_one hu1) (by omega) (by unfold maxLen; omega) (by omega) (Nat.zero_le _) _ rfl ?_
  intro g cap w1 hown' hgrow hg _
  have hon : Only (Hits v) (w.alloc (.cells #[u] 27)) w1 := Only.of_grown hgrow fun k hk => hk
  rw [hlen] at hown' ⊢
  refine h g cap w1 (H2.join (hon.mono fun k hk => Or.inl (Or.inl hk)) (OwnM.join hlen (fun i => (hown1.row i).only hon fun k hk hk' => ?_) hown1.ap (hu1.only hon fun k hk hk' => ?_) (fun i k hk => H2.apt.1 k (Foot.at hk)) (by simpa [hlen] using hown')) (fun k hk => ?_) fun k hk => ?_)
  · exact apart_types hown1.out (hown1.row i) (by decide) k hk' hk
  · exact apart_types hown1.out hu1 (by decide) k hk' hk
  all_goals
    rcases hk with hk | ⟨y, hy, hk⟩
    · have : g = k := by simpa [Hits, Value.ownBlock] using hk
      subst this
      rcases hg with h | h
      · exact Or.inl (Or.inl h)
      · exact Or.inr (Or.inr (Nat.le_of_eq h.symm))
    · rcases List.mem_append.1 hy with h' | h'
      · exact Or.inl (Or.inr ⟨y, h', hk⟩)
      · simp at h'
        subst h'
        exact Or.inr (Or.inl hk)
theorem app_rowS (hgd : o.guard = none) (s x : Operand) (ho : o.op = .call { callee := .builtin .append, args := #[s, x], argTypes := #[22, 22] })
    (hs : a.eval s = v) (hx : a.eval x = .slice (some ⟨w.heap.size, 0, none⟩) 1 1) (H : Sep w (OI u zs :: OM v vs L :: l)) (hl : L.length ≤ 1000000)
    (h : ∀ g cap w', Sep w' (OM (.slice (some ⟨g, 0, none⟩) (L.length + 1) cap) (vs ++ [u]) (L ++ [zs]) :: l) → wpList Tryd.prog ops Q rest (a.put o.dst (.slice (some ⟨g, 0, none⟩) (L.length + 1) cap)) w') :
    wpList Tryd.prog ops Q (o :: rest) a (w.alloc (.cells #[u] 27)) :=
  wpList_plain hgd fun _ hK => wp_app_rowS s x ho hs hx H hl fun g cap w' h1 => hK _ _ (h g cap w' h1)
theorem step_app_rowS (hgd : o.guard = none) (s x : Operand) (ho : o.op = .call { callee := .builtin .append, args := #[s, x], argTypes := #[22, 22] })
    (hs : a.eval s = v) (hx : a.eval x = .slice (some ⟨w.heap.size, 0, none⟩) 1 1) (H : Sep w (OI u zs :: OM v vs L :: l)) (hl : L.length ≤ 1000000)
    (h : ∀ g cap w', Sep w' (OM (.slice (some ⟨g, 0, none⟩) (L.length + 1) cap) (vs ++ [u]) (L ++ [zs]) :: l) → K (a.put o.dst (.slice (some ⟨g, 0, none⟩) (L.length + 1) cap)) w') :
    if Region.wanted o (yielded ops a.tmps) = true then Oper.wp Tryd.prog o a (w.alloc (.cells #[u] 27)) K Q else E := by
  rw [if_pos (by simp [Region.wanted, hgd])]
  exact wp_app_rowS s x ho hs hx H hl h
end

end Go.Proofs.YtghfifpicklonaaDoor

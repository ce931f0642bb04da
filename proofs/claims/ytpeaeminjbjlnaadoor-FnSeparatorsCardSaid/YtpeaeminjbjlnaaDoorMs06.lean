/-
  The reduction of a list of rows, another beside it. Conditions: the elements are small.
-/
import Derived.Test.YtpeaeminjbjlnaaDoorMs05
namespace Go.Proofs.YtpeaeminjbjlnaaDoor
open Go.RowKit
set_option linter.unusedVariables false

theorem caps3 {w : World} {B : Nat} {v u : Value} {vs us : List Value} {R T : List (List Int)} (h2 : Two B w v vs u us R T) (p : Int) (tp tv tu : TypeId) :
    Mid B w.heap.size w.heap.size (w.heap.size + 1) (w.heap.size + 1 + 1) p v u vs us w R T (((w.alloc (.cells #[.int .i64 p] tp)).alloc (.cells #[v] tv)).alloc (.cells #[u] tu)) := by
  have s1 : (w.alloc (.cells #[.int .i64 p] tp)).heap.size = w.heap.size + 1 := by simp
  have s2 : ((w.alloc (.cells #[.int .i64 p] tp)).alloc (.cells #[v] tv)).heap.size = w.heap.size + 2 := by simp
  have s3 : (((w.alloc (.cells #[.int .i64 p] tp)).alloc (.cells #[v] tv)).alloc (.cells #[u] tu)).heap.size = w.heap.size + 3 := by simp
  have g1 := grownBy_alloc w (.cells #[.int .i64 p] tp) none
  have g2 := grownBy_alloc (w.alloc (.cells #[.int .i64 p] tp)) (.cells #[v] tv) none
  have g3 := grownBy_alloc ((w.alloc (.cells #[.int .i64 p] tp)).alloc (.cells #[v] tv)) (.cells #[u] tu) none
  have c1 := box_cell w #[.int .i64 p] tp 0
  have c2 := box_cell (w.alloc (.cells #[.int .i64 p] tp)) #[v] tv 0
  have c3 := box_cell ((w.alloc (.cells #[.int .i64 p] tp)).alloc (.cells #[v] tv)) #[u] tu 0
  generalize w.alloc (.cells #[.int .i64 p] tp) = w1 at *
  generalize w1.alloc (.cells #[v] tv) = w2 at *
  generalize w2.alloc (.cells #[u] tu) = w3 at *
  rw [s1] at c2
  rw [s2] at c3
  have o1 : Only (fun _ => False) w w1 := Only.of_grown g1 (by simp)
  have o2 : Only (fun _ => False) w1 w2 := Only.of_grown g2 (by simp)
  have o3 : Only (fun _ => False) w2 w3 := Only.of_grown g3 (by simp)
  have o := (o1.trans o2).trans o3
  have d2 : w2.cell? ⟨w.heap.size, 0, none⟩ = w1.cell? ⟨w.heap.size, 0, none⟩ := World.cell?_of_block (a := ⟨w.heap.size, 0, none⟩) (o2.block w.heap.size (by omega) (fun h => h))
  have d3 : w3.cell? ⟨w.heap.size, 0, none⟩ = w2.cell? ⟨w.heap.size, 0, none⟩ := World.cell?_of_block (a := ⟨w.heap.size, 0, none⟩) (o3.block w.heap.size (by omega) (fun h => h))
  have d4 : w3.cell? ⟨w.heap.size + 1, 0, none⟩ = w2.cell? ⟨w.heap.size + 1, 0, none⟩ := World.cell?_of_block (a := ⟨w.heap.size + 1, 0, none⟩) (o3.block (w.heap.size + 1) (by omega) (fun h => h))
  refine ⟨⟨vs, us, ⟨h2.mR.only o (fun _ _ h => h), h2.mT.only o (fun _ _ h => h), h2.ap⟩, fun x h => h, fun x h => h⟩, o.mono fun _ h => h.elim, ⟨?_, ?_, ?_, by omega, by omega, by omega, by omega, by omega, by omega⟩⟩
  · rw [d3, d2, c1]; rfl
  · rw [d4, c2]; rfl
  · rw [c3]; rfl

/-- the shape of the rows at a round -/
theorem at_round {p : Nat} [NeZero p] (hfld : fldN p = true) {m n n' k : Nat} {R T : List (List Int)} (hf : Fit p m n n' R T) (hk : k ≤ n) : Fit p m n n' (redTo p R T k).R (redTo p R T k).T ∧ (redTo p R T k).r ≤ m := by
  obtain ⟨h1, _⟩ := red_inv hfld hf.oR hf.oT hf.lR hf.lT k hk
  obtain ⟨piv, he⟩ := h1.elim
  exact ⟨⟨h1.lenR, h1.lenT, h1.okR, h1.okT⟩, he.rm⟩

theorem pivAt_is_none {R : List (List Int)} {c r : Nat} (hr : r ≤ R.length) (h : ∀ l, r ≤ l → l < R.length → at2 R l c = 0) : pivAt R c r = none := by
  cases hp : pivAt R c r with
  | none => rfl
  | some j =>
    obtain ⟨h1, h2, h3⟩ := pivAt_some hr hp
    exact absurd (h j h1 h2) h3
theorem pivAt_is_some {R : List (List Int)} {c r j : Nat} (hr : r ≤ R.length) (h : ∀ l, r ≤ l → l < j → at2 R l c = 0) (h1 : r ≤ j) (h2 : j < R.length) (h3 : at2 R j c ≠ 0) : pivAt R c r = some j := by
  cases hp : pivAt R c r with
  | none => exact absurd (pivAt_none hr hp j h1 h2) h3
  | some i =>
    obtain ⟨a1, a2, a3⟩ := pivAt_some hr hp
    obtain ⟨_, _, _, a4⟩ := firstFrom_some hp
    rcases Nat.lt_trichotomy i j with hij | hij | hij
    · exact absurd (h i a1 hij) a3
    · rw [hij]
    · have := a4 j h1 hij
      simp at this
      exact absurd this h3

theorem fit_swap {p : Nat} [NeZero p] {m n n' : Nat} {R T : List (List Int)} (h : Fit p m n n' R T) {r j : Nat} (hr : r < m) (hj : j < m) : Fit p m n n' (swapL R r j) (swapL T r j) := by
  have l1 := h.lR; have l2 := h.lT
  exact ⟨by rw [swapL_len]; exact l1, by rw [swapL_len]; exact l2, swapL_ok h.oR (by omega) (by omega), swapL_ok h.oT (by omega) (by omega)⟩
theorem fit_div {p : Nat} [NeZero p] {m n n' : Nat} {R T : List (List Int)} (h : Fit p m n n' R T) {r : Nat} (hr : r < m) (y : Int) : Fit p m n n' (divL p R r y) (divL p T r y) := by
  have l1 := h.lR; have l2 := h.lT
  exact ⟨by rw [divL_len]; exact l1, by rw [divL_len]; exact l2, divL_ok h.oR (by omega) y, divL_ok h.oT (by omega) y⟩
theorem fit_clear {p : Nat} [NeZero p] {m n n' : Nat} {R T : List (List Int)} (h : Fit p m n n' R T) {r : Nat} (hr : r < m) (c i : Nat) : Fit p m n n' (clearTo p R c r R i) (clearTo p R c r T i) := by
  have l1 := h.lR; have l2 := h.lT
  exact ⟨by rw [clearTo_len]; exact l1, by rw [clearTo_len]; exact l2, clearTo_ok h.oR (by omega), clearTo_ok h.oT (by omega)⟩

set_option maxRecDepth 100000 in
set_option maxHeartbeats 4000000 in
theorem reduction_any (p : Nat) [NeZero p] (v u : Value) (vs us : List Value) (R T : List (List Int)) (m n n' B : Nat) (w : World) (hfld : fldN p = true) (h2 : Two B w v vs u us R T) (hf : Fit p m n n' R T)
    (hm : m ≤ 1000) (hn : n ≤ 1000) (hn' : n' ≤ 1000) (hp2 : p ≤ 1000) :
    Calls Tryd.prog 120 #[.int .i64 p, v, .int .i64 n, u] w fun e w' => e = .returned (.int .i64 (redTo p R T n).r) ∧
      ∃ vs' us', Two B w' v vs' u us' (redTo p R T n).R (redTo p R T n).T ∧ Only (Feet v vs u us) w w' := by
  have hp1 := lt_p hfld
  have HN := Lib.hid (show ∀ k, Feet v vs u us k → k < w.heap.size from fun k hk => by
    rcases hk with hk | hk
    · exact (h2.mR.lt hk).2
    · exact (h2.mT.lt hk).2)
  have HM := Lib.hid (caps3 h2 p 3 37 37)
  have HAT := Lib.hid (fun k (hk : k ≤ n) => at_round hfld hf hk)
  have HF := Lib.hid hf
  have HP := Lib.hid hfld
  have hshape : ∃ a cap, v = .slice a m cap := by
    obtain ⟨a, c, h, _⟩ := h2.mR.read
    exact ⟨a, c, by rw [h, hf.lR]⟩
  obtain ⟨a, cap, rfl⟩ := hshape
  have hshape : ∃ a cap, u = .slice a m cap := by
    obtain ⟨a, c, h, _⟩ := h2.mT.read
    exact ⟨a, c, by rw [h, hf.lT]⟩
  obtain ⟨ua, ucap, rfl⟩ := hshape
  clear h2 hf hfld
  go_enter Tryd.func120, Tryd.ntmps120
  go_wp2_with fail
  generalize ((w.alloc (.cells #[.int .i64 p] 3)).alloc (.cells #[.slice a m cap] 37)).alloc (.cells #[.slice ua m ucap] 37) = w1 at *
  generalize w.heap.size + 1 + 1 = ba at *
  generalize w.heap.size + 1 = br at *
  generalize w.heap.size = N at *
  go_loopw [9, 11] (fun r c wr => ∃ k : Nat, k ≤ n ∧ c = .int .i64 k ∧ r = .int .i64 (redTo p R T k).r ∧ Mid B N N br ba p (.slice a m cap) (.slice ua m ucap) vs us w (redTo p R T k).R (redTo p R T k).T wr) (fun _ c _ => n - (intOf c).toNat)
  case atStart => exact ⟨0, by omega, rfl, rfl, HM.out⟩
  case round =>
    obtain ⟨k, hk, rfl, rfl, hmid⟩ := hrel
    have HMID := Lib.hid hmid
    obtain ⟨hfit, hrm⟩ := HAT.out k hk
    have HFIT := Lib.hid hfit
    clear hmid hfit
    have hstop : (redTo p R T k).r = m ∨ k = n → redTo p R T n = redTo p R T k := by
      rintro (h | h)
      · have e : n = k + (n - k) := by omega
        rw [e]
        exact redTo_stop (by rw [HFIT.out.lR]; omega) _
      · rw [h]
    have HSTOP := Lib.hid hstop
    have hnext : redTo p R T (k + 1) = stepL p k (redTo p R T k) := rfl
    have HNEXT := Lib.hid hnext
    clear hstop hnext
    generalize hs : redTo p R T k = s at *
    clear hs
    generalize hsr : s.r = r at *
    have HSR := Lib.hid hsr
    clear hsr
    have crr := HMID.out.cap.cr
    by_cases hkn : k < n
    · by_cases hrlt : r < m
      · obtain ⟨g, cap', _, _, hve, _, _⟩ := HMID.out.elem HFIT.out hrlt hkn
        simp only [Value.slice.injEq, true_and] at hve
        obtain ⟨rfl, rfl⟩ := hve
        go_wp2_with fail
        go_loop [12] (fun i => ∃ j : Nat, j ≤ m ∧ i = .int .i64 j ∧ r ≤ j ∧ ∀ l, r ≤ l → l < j → at2 s.R l k = 0) (fun i => m - (intOf i).toNat)
        case atStart => exact ⟨r, hrm, rfl, Nat.le_refl _, fun l h1 h2 => absurd h1 (by omega)⟩
        case round =>
          obtain ⟨j, hjm, rfl, hrj, hz⟩ := hrel
          have HZ := Lib.hid hz
          clear hz
          by_cases hj : j < m
          · obtain ⟨g', cap'', gj, cj, hve, e1, e2⟩ := HMID.out.elem HFIT.out hj hkn
            simp only [Value.slice.injEq, Option.some.injEq, Addr.mk.injEq, and_true, true_and] at hve
            obtain ⟨rfl, rfl⟩ := hve
            generalize hy : at2 s.R j k = y at *
            have HY := Lib.hid hy
            clear hy
            by_cases hy0 : y = 0
            · subst hy0
              go_wp2
              go_round
              case rel => exact ⟨j + 1, by omega, by go_num, by omega, fun l h1 h2 => by
                by_cases hlj : l = j
                · rw [hlj]; exact HY.out
                · exact HZ.out l h1 (by omega)⟩
              case measure => simp [intOf]; omega
            · have hyb : (y == 0) = false := by rw [beq_eq_false_iff_ne]; exact hy0
              have hjb : ((j : Int) == m) = false := by rw [beq_eq_false_iff_ne]; omega
              have S1 := mid_swap r j HMID.out HFIT.out HN.out hrlt hj hm
              unfold opV at S1
              have S1 := Lib.hid S1
              have hfit1 := fit_swap HFIT.out hrlt hj
              have HFIT1 := Lib.hid hfit1
              have hpiv : pivAt s.R k r = some j := pivAt_is_some (by rw [HFIT.out.lR]; exact hrm) HZ.out hrj (by rw [HFIT.out.lR]; exact hj) (by rw [HY.out]; exact hy0)
              have hstep : stepL p k s = stepWith p k j s := by unfold stepL; rw [HSR.out, hpiv]
              have HSTEP := Lib.hid hstep
              clear hstep hpiv hfit1
              have hyb2 : 0 ≤ at2 (swapL s.R r j) r k ∧ at2 (swapL s.R r j) r k < p := at2_ok HFIT1.out.oR
              generalize hR1 : swapL s.R r j = R1 at *
              generalize hT1 : swapL s.T r j = T1 at *
              have HR1 := Lib.hid hR1; have HT1 := Lib.hid hT1
              clear hR1 hT1
              generalize hy2 : at2 R1 r k = y2 at *
              have HY2 := Lib.hid hy2
              clear hy2
              have S2 := fun w2 h => mid_div (B := B) (N := N) (bp := N) (br := br) (ba := ba) (p := p) (v := .slice (some ⟨g, 0, none⟩) m cap) (u := .slice ua m ucap) (vs0 := vs) (us0 := us) (w0 := w) (w := w2) r y2 h HFIT1.out HN.out hrlt hm hn hn' (by omega) (by omega) (by omega)
              unfold opV at S2
              have S2 := Lib.hid S2
              have HFIT2 := Lib.hid (fit_div HFIT1.out hrlt (invI p y2))
              generalize hR2 : divL p R1 r (invI p y2) = R2 at *
              generalize hT2 : divL p T1 r (invI p y2) = T2 at *
              have HR2 := Lib.hid hR2; have HT2 := Lib.hid hT2
              clear hR2 hT2
              go_wp2_with (
                go_at_call 254
                first
                  | (with_reducible refine S1.out.mono ?_
                     rintro e w2 ⟨rfl, hm2⟩
                     have HM2 := Lib.hid hm2
                     have cr2 := hm2.cap.cr
                     obtain ⟨g2, cap2, gr2, cr2', hve, d1, d2⟩ := hm2.elem HFIT1.out hrlt hkn
                     simp only [Value.slice.injEq, Option.some.injEq, Addr.mk.injEq, and_true, true_and] at hve
                     obtain ⟨rfl, rfl⟩ := hve
                     rw [HY2.out] at d2
                     clear hm2)
                  | (with_reducible refine (S2.out _ HM2.out).mono ?_
                     rintro e w3 ⟨rfl, hm3⟩
                     have HM3 := Lib.hid hm3
                     have cr3 := hm3.cap.cr
                     clear hm3))
              go_loopw [65] (fun i wx => ∃ l : Nat, l ≤ m ∧ i = .int .i64 l ∧ Mid B N N br ba p (.slice (some ⟨g, 0, none⟩) m cap) (.slice ua m ucap) vs us w (clearTo p R2 k r R2 l) (clearTo p R2 k r T2 l) wx) (fun i _ => m - (intOf i).toNat)
              case atStart => exact ⟨0, by omega, rfl, by rw [clearTo_zero, clearTo_zero]; exact HM3.out⟩
              case round =>
                obtain ⟨l, hlm, rfl, hmid4⟩ := hrel
                have HM4 := Lib.hid hmid4
                have cr4 := hmid4.cap.cr
                clear hmid4
                by_cases hl : l < m
                · have hfit4 := fit_clear HFIT2.out hrlt k l
                  obtain ⟨g4, cap4, gl4, cl4, hve, d1', d2'⟩ := HM4.out.elem hfit4 hl hkn
                  simp only [Value.slice.injEq, Option.some.injEq, Addr.mk.injEq, and_true, true_and] at hve
                  obtain ⟨rfl, rfl⟩ := hve
                  rw [clearTo_at] at d2'
                  have hzb := at2_ok (i := l) (c := k) HFIT2.out.oR
                  by_cases hlr : l = r
                  · have hb1 : ((l : Int) != r) = false := by rw [bne_eq_false_iff_eq]; omega
                    have hskip : ¬ (l ≠ r ∧ at2 R2 l k ≠ 0) := fun h => h.1 hlr
                    have A1 := Lib.hid (clearTo_skip (p := p) (A := R2) hskip)
                    have A2 := Lib.hid (clearTo_skip (p := p) (A := T2) hskip)
                    clear hskip hfit4
                    go_wp2
                    go_roundw
                    case rel => exact ⟨l + 1, by omega, by go_num, by rw [A1.out, A2.out]; exact HM4.out⟩
                    case measure => simp [intOf]; omega
                  · have hb1 : ((l : Int) != r) = true := by rw [bne_iff_ne]; omega
                    by_cases hz0 : at2 R2 l k = 0
                    · have hskip : ¬ (l ≠ r ∧ at2 R2 l k ≠ 0) := fun h => h.2 hz0
                      have A1 := Lib.hid (clearTo_skip (p := p) (A := R2) hskip)
                      have A2 := Lib.hid (clearTo_skip (p := p) (A := T2) hskip)
                      rw [hz0] at d2'
                      clear hskip hfit4 hz0
                      go_wp2
                      go_roundw
                      case rel => exact ⟨l + 1, by omega, by go_num, by rw [A1.out, A2.out]; exact HM4.out⟩
                      case measure => simp [intOf]; omega
                    · have A1 := Lib.hid (clearTo_do (p := p) (A := R2) (by rw [HFIT2.out.lR]; exact hl) ⟨hlr, hz0⟩)
                      have A2 := Lib.hid (clearTo_do (p := p) (A := T2) (by rw [HFIT2.out.lT]; exact hl) ⟨hlr, hz0⟩)
                      generalize at2 R2 l k = z at *
                      have hb2 : (z != 0) = true := by rw [bne_iff_ne]; exact hz0
                      have S3 := mid_sub l r z HM4.out hfit4 HN.out hl hrlt hlr hm hn hn' (by omega) (by omega) (by omega)
                      unfold opV at S3
                      have S3 := Lib.hid S3
                      clear hfit4
                      go_wp2_with (
                        go_at_call 254
                        with_reducible refine S3.out.mono ?_
                        rintro e w5 ⟨rfl, hm5⟩
                        have HM5 := Lib.hid hm5
                        clear hm5)
                      go_roundw
                      case rel => exact ⟨l + 1, by omega, by go_num, by rw [A1.out, A2.out]; exact HM5.out⟩
                      case measure => simp [intOf]; omega
                · have A1 : clearTo p R2 k r R2 l = clearL p R2 k r R2 := by
                    have e : l = R2.length := by rw [HFIT2.out.lR]; omega
                    rw [e]; exact clearTo_all _ _ _ _ _
                  have A2 : clearTo p R2 k r T2 l = clearL p R2 k r T2 := by
                    have e : l = T2.length := by rw [HFIT2.out.lT]; omega
                    rw [e]; exact clearTo_all _ _ _ _ _
                  have B1 := Lib.hid A1; have B2 := Lib.hid A2
                  clear A1 A2
                  have hfin : stepWith p k j s = ⟨clearL p R2 k r R2, clearL p R2 k r T2, r + 1⟩ := by
                    unfold stepWith
                    simp only [HSR.out, HR1.out, HT1.out, HY2.out, HR2.out, HT2.out]
                  have HFIN := Lib.hid hfin
                  clear hfin
                  go_wp2
                  go_roundw
                  case rel =>
                   exact ⟨k + 1, by omega, by go_num, by rw [HNEXT.out, HSTEP.out, HFIN.out]; go_num, by rw [HNEXT.out, HSTEP.out, HFIN.out]; have := HM4.out; rw [B1.out, B2.out] at this; exact this⟩
                  case measure => simp [intOf]; omega
          · have hpiv : pivAt s.R k r = none := pivAt_is_none (by rw [HFIT.out.lR]; exact hrm) fun l h1 h2 => HZ.out l h1 (by have := HFIT.out.lR; omega)
            have hstep : stepL p k s = s := by unfold stepL; rw [HSR.out, hpiv]
            have HSTEP := Lib.hid hstep
            clear hstep hpiv
            have hjb : ((j : Int) == m) = true := by rw [beq_iff_eq]; omega
            go_wp2
            go_roundw
            case rel => exact ⟨k + 1, by omega, by go_num, by rw [HNEXT.out, HSTEP.out, HSR.out], by rw [HNEXT.out, HSTEP.out]; exact HMID.out⟩
            case measure => simp [intOf]; omega
      · have he := Lib.hid (HSTOP.out (Or.inl (by omega)))
        go_wp2
        go_ret
        obtain ⟨vs', us', t, _⟩ := HMID.out.ex
        exact ⟨by rw [he.out, HSR.out]; rfl, vs', us', by rw [he.out]; exact t, HMID.out.on⟩
    · have he := Lib.hid (HSTOP.out (Or.inr (by omega)))
      go_wp2
      go_ret
      obtain ⟨vs', us', t, _⟩ := HMID.out.ex
      exact ⟨by rw [he.out, HSR.out]; rfl, vs', us', by rw [he.out]; exact t, HMID.out.on⟩

end Go.Proofs.YtpeaeminjbjlnaaDoor

/-
  The functions on matrices: what is a matrix, reduced lists, kernels. Conditions: lengths are small.
-/
namespace Go.Proofs.YtpeaeminjbjlnaaDoor
open Go.RowKit
set_option linter.unusedVariables false

def mxV (cols : Int) (v : Value) : Value := .agg #[.int .i64 cols, v]
def matB (p cols : Int) (L : List (List Int)) : Bool := fldB p && (decide (0 ≤ cols ∧ cols ≤ 24) && (decide (L.length ≤ 24) && rowsB p cols L))
theorem MatV.shape {w : World} {v : Value} {L : List (List Int)} (h : MatV w v L) : ∃ a c, v = .slice a L.length c := by
  obtain ⟨a, c, rfl, _⟩ := h
  exact ⟨a, c, rfl⟩

set_option maxHeartbeats 1000000 in
theorem isMatrix_any (p cols : Int) (v : Value) (L : List (List Int)) (w : World) (ht : Tab w) (hv : MatV w v L) (hl : L.length ≤ 1000000) (hll : ∀ row ∈ L, row.length ≤ 1000000) :
    Calls Tryd.prog 117 #[.int .i64 p, mxV cols v] w fun e w' => e = .returned (.bool (matB p cols L)) ∧ w.grownBy w' none := by
  unfold mxV
  have hgr := fun v => grownBy_alloc w (.cells #[.int .i64 cols, v] 39) none
  have HT := Lib.hid (fun v => isField_any p _ (ht.alloc (.cells #[.int .i64 cols, v] 39)))
  have HA := Lib.hid (areVectors_any p cols v L _ (hv.carry (hgr v)) hl hll)
  have HG := Lib.hid hgr
  obtain ⟨a, c, rfl⟩ := hv.shape
  clear hv hgr ht hll
  generalize hlen : L.length = l at *
  have HL := Lib.hid hlen
  clear hlen
  cases h1 : fldB p
  · have hm : matB p cols L = false := by unfold matB; rw [h1]; rfl
    have HM := Lib.hid hm
    rw [h1] at HT
    clear hm h1
    go_enter Tryd.func117, Tryd.ntmps117
    go_wp2_with (go_at_call 204; refine (HT.out _).mono ?_; rintro e w' ⟨rfl, rfl⟩)
    go_ret
    exact ⟨by rw [HM.out]; rfl, HG.out _⟩
  · by_cases h2 : 0 ≤ cols ∧ cols ≤ 24
    · have h2' : decide (0 ≤ cols ∧ cols ≤ 24) = true := decide_eq_true h2
      by_cases h3 : l ≤ 24
      · have h3' : decide ((l : Int) ≤ 24) = true := decide_eq_true (by omega)
        have hm : matB p cols L = rowsB p cols L := by unfold matB; rw [h1, decide_eq_true h2, HL.out, decide_eq_true h3]; rfl
        have HM := Lib.hid hm
        rw [h1] at HT
        clear hm h1
        generalize rowsB p cols L = b at *
        go_enter Tryd.func117, Tryd.ntmps117
        go_wp2_with (first
          | (go_at_call 204; refine (HT.out _).mono ?_; rintro e w' ⟨rfl, rfl⟩)
          | (go_at_call 125; refine (within_any _ _ _ _).mono ?_; rintro e w' ⟨rfl, rfl⟩)
          | (go_at_call 205; refine HA.out.mono ?_; rintro e w' ⟨rfl, rfl⟩))
        go_ret
        exact ⟨by rw [HM.out]; rfl, HG.out _⟩
      · have h3' : decide ((l : Int) ≤ 24) = false := decide_eq_false (by omega)
        have hm : matB p cols L = false := by unfold matB; rw [h1, decide_eq_true h2, HL.out, decide_eq_false h3]; rfl
        have HM := Lib.hid hm
        rw [h1] at HT
        clear hm h1
        go_enter Tryd.func117, Tryd.ntmps117
        go_wp2_with (first
          | (go_at_call 204; refine (HT.out _).mono ?_; rintro e w' ⟨rfl, rfl⟩)
          | (go_at_call 125; refine (within_any _ _ _ _).mono ?_; rintro e w' ⟨rfl, rfl⟩))
        go_ret
        exact ⟨by rw [HM.out]; rfl, HG.out _⟩
    · have h2' : decide (0 ≤ cols ∧ cols ≤ 24) = false := decide_eq_false h2
      have hm : matB p cols L = false := by unfold matB; rw [h1, decide_eq_false h2]; rfl
      have HM := Lib.hid hm
      rw [h1] at HT
      clear hm h1
      go_enter Tryd.func117, Tryd.ntmps117
      go_wp2_with (first
        | (go_at_call 204; refine (HT.out _).mono ?_; rintro e w' ⟨rfl, rfl⟩)
        | (go_at_call 125; refine (within_any _ _ _ _).mono ?_; rintro e w' ⟨rfl, rfl⟩))
      go_ret
      exact ⟨by rw [HM.out]; rfl, HG.out _⟩

end Go.Proofs.YtpeaeminjbjlnaaDoor

/-
  Reduced lists and kernels, as values that can be read. Conditions: lengths are small; rows of elements.
-/
namespace Go.Proofs.YtpeaeminjbjlnaaDoor
open Go.RowKit
set_option linter.unusedVariables false

theorem MatV.part {w : World} {a : Option Addr} {n cap : Nat} {L : List (List Int)} (h : MatV w (.slice a n cap) L) (s t c : Nat) (ht : t ≤ L.length) (a' : Option Addr)
    (ha : ∀ d, a = some d → s < t → ∃ d', a' = some d' ∧ d'.block = d.block ∧ d'.off = d.off + s ∧ d'.spot = none) : MatV w (.slice a' (t - s) c) ((L.take t).drop s) := by
  obtain ⟨a0, c0, he, hi⟩ := h
  cases he
  have hlen : ((L.take t).drop s).length = t - s := by simp; omega
  refine ⟨a', c, by rw [hlen], fun hz => ?_⟩
  have hst : s < t := by
    rcases Nat.lt_or_ge s t with h | h
    · exact h
    · exact absurd (List.eq_nil_of_length_eq_zero (by rw [hlen]; omega)) hz
  obtain ⟨d, had, hs, hd, hr⟩ := hi (by intro h; rw [h] at ht; simp at ht; omega)
  obtain ⟨d', ha', hb, ho, hsp⟩ := ha d had hst
  refine ⟨d', ha', hsp, by rw [hb]; exact hd, fun i hi' => ?_⟩
  have hi2 : s + i < L.length := by rw [hlen] at hi'; omega
  obtain ⟨u, hu, hv⟩ := hr (s + i) hi2
  refine ⟨u, ?_, ?_⟩
  · rw [hb, ho, Nat.add_assoc]; exact hu
  · have e : ((L.take t).drop s)[i] = L[s + i] := by rw [List.getElem_drop, List.getElem_take]
    rw [e]; exact hv

theorem madeCells_nil (n : Nat) : (madeCells (Value.slice none 0 0).cells (n * 1)).toList = List.replicate n nilS := by
  refine List.ext_getElem (by simp [madeCells]) fun j h1 h2 => ?_
  simp [madeCells, Value.cells, Nat.mod_one, nilS]
theorem getD_repl {n i : Nat} : (List.replicate n nilS).getD i nilS = nilS := by
  rw [List.getD_eq_getElem?_getD, List.getElem?_replicate]
  split <;> rfl
theorem getD_repl' {n i : Nat} : (List.replicate n ([] : List Int)).getD i [] = [] := by
  rw [List.getD_eq_getElem?_getD, List.getElem?_replicate]
  split <;> rfl
theorem OwnM.nils {B : Nat} {w : World} {v : Value} {n : Nat} (h : w.ownsRow B 24 1 v n (List.replicate n nilS)) : OwnM B w v (List.replicate n nilS) (List.replicate n []) :=
  ⟨by simp, by rw [List.length_replicate]; exact h, fun i => by rw [getD_repl, getD_repl']; exact OwnInts.nil B w, fun i j _ k hk => by rw [getD_repl] at hk; exact absurd hk nil_hits⟩
theorem nils_ok (p : Int) (n : Nat) : RowsOk p 0 (List.replicate n []) := by
  intro row hrow
  rw [List.eq_of_mem_replicate hrow]
  exact ⟨rfl, fun x hx => by simp at hx⟩

theorem own_form {B : Nat} {w : World} {v : Value} {vs : List Value} {L : List (List Int)} (h : OwnM B w v vs L) : ∃ a c, v = .slice a L.length c ∧ (a = none ∨ ∃ g, a = some ⟨g, 0, none⟩) ∧ L.length ≤ c := by
  have h1 := h.len
  rcases h.out.2 with ⟨rfl, h0⟩ | ⟨g, cap, cur, rfl, _, _, hc, _⟩
  · exact ⟨none, 0, by rw [← h1, h0], Or.inl rfl, by omega⟩
  · exact ⟨some ⟨g, 0, none⟩, cap, by rw [h1], Or.inr ⟨g, rfl⟩, by omega⟩
theorem Two.base {B : Nat} {w : World} {v u : Value} {vs us : List Value} {R T : List (List Int)} (h : Two B w v vs u us R T) {k : Nat} (hk : Feet v vs u us k) : B ≤ k := by
  rcases hk with hk | hk
  · exact (h.mR.lt hk).1
  · exact (h.mT.lt hk).1
theorem two_nils {B m : Nat} {w1 w2 : World} {v : Value} {vs : List Value} {L : List (List Int)} (h : OwnM B w1 v vs L)
    (h2 : w2.ownsRow B 24 1 (.slice (some ⟨w1.heap.size, 0, none⟩) m m) m (madeCells (Value.slice none 0 0).cells (m * 1)).toList) (hg : w1.grownBy w2 none) :
    Two B w2 v vs (.slice (some ⟨w1.heap.size, 0, none⟩) m m) (List.replicate m nilS) L (List.replicate m []) := by
  rw [madeCells_nil] at h2
  refine ⟨h.carry hg, OwnM.nils h2, fun k hk hk' => ?_⟩
  have h3 := (h.lt hk).2
  rcases hk' with hk' | ⟨x, hx, hk'⟩
  · simp only [Hits, Value.ownBlock, Option.some.injEq] at hk'
    omega
  · rw [List.eq_of_mem_replicate hx] at hk'
    exact nil_hits hk'

/-- The first rows of a list of the call's own. -/
def Pre (B : Nat) (w : World) (v : Value) (L : List (List Int)) : Prop :=
  ∃ a m c c' vs R, v = .slice a L.length c' ∧ OwnM B w (.slice a m c) vs R ∧ L.length ≤ R.length ∧ L = R.take L.length
theorem Pre.read {B : Nat} {w : World} {v : Value} {L : List (List Int)} (h : Pre B w v L) : MatV w v L := by
  obtain ⟨a, m, c, c', vs, R, rfl, ho, hl, hL⟩ := h
  obtain ⟨va, vc, hve, hvi, hcap⟩ := own_form ho
  cases hve
  have h := ho.read.part 0 L.length c' hl a fun d hd _ => by
    subst hd
    rcases hvi with h | ⟨g, h⟩
    · cases h
    · cases h; exact ⟨_, rfl, rfl, rfl, rfl⟩
  rw [← hL] at h
  simpa using h
theorem Pre.carry {B : Nat} {w w' : World} {v : Value} {L : List (List Int)} (h : Pre B w v L) (hg : w.grownBy w' none) : Pre B w' v L := by
  obtain ⟨a, m, c, c', vs, R, h1, ho, h2, h3⟩ := h
  exact ⟨a, m, c, c', vs, R, h1, ho.carry hg, h2, h3⟩
theorem Pre.base {B B' : Nat} {w : World} {v : Value} {L : List (List Int)} (h : Pre B w v L) (hB : B' ≤ B) : Pre B' w v L := by
  obtain ⟨a, m, c, c', vs, R, h1, ho, h2, h3⟩ := h
  exact ⟨a, m, c, c', vs, R, h1, ho.base hB, h2, h3⟩

set_option maxRecDepth 100000 in
set_option maxHeartbeats 1000000 in
theorem reduced_own (p : Nat) [NeZero p] (u : Value) (L : List (List Int)) (n : Nat) (w : World) (hfld : fldN p = true) (hp2 : p ≤ 1000) (hv : MatV w u L) (hL : RowsOk p n L) (hm : L.length ≤ 1000) (hn : n ≤ 1000) :
    Calls Tryd.prog 126 #[.int .i64 p, u, .int .i64 n] w fun e w' => ∃ v c, e = .returned (.slice v (reducedL p n L).length c) ∧ Pre w.heap.size w' (.slice v (reducedL p n L).length c) (reducedL p n L) ∧ w.grownBy w' none := by
  have hsh : ∃ a c, u = .slice a L.length c := hv.shape
  have HCL := Lib.hid (clones_any u L w hv (by omega) (fun row hrow => by rw [(hL row hrow).1]; omega))
  obtain ⟨i0, hi, hz0, hz1, hz2⟩ := info_parts info_ints
  have HI := Lib.hid hi; have HZ0 := Lib.hid hz0; have HZ1 := Lib.hid hz1; have HZ2 := Lib.hid hz2
  have HUN := Lib.hid Tryd.underlying37
  have HBY := Lib.hid (show i0.bytes * L.length ≤ 281474976710656 by rw [hz2]; omega)
  have HBY2 := Lib.hid (show L.length ≤ maxLen by unfold maxLen; omega)
  have HL := Lib.hid hL; have HFLD := Lib.hid hfld
  clear hv hi hz0 hz1 hz2 hL
  generalize hlen : L.length = m at *
  have HLEN := Lib.hid hlen
  clear hlen
  have hfit : Fit p m n 0 L (List.replicate m []) := ⟨HLEN.out, List.length_replicate, HL.out, nils_ok p m⟩
  have HFIT := Lib.hid hfit
  obtain ⟨hfn, hrm⟩ := at_round hfld hfit (Nat.le_refl n)
  have hred : reducedL p n L = (redTo p L (List.replicate m []) n).R.take (redTo p L (List.replicate m []) n).r := reducedL_eq _ _ _ _
  have HRED := Lib.hid hred
  have hrl : (reducedL p n L).length = (redTo p L (List.replicate m []) n).r := by rw [hred, List.length_take, hfn.lR]; omega
  have HRL := Lib.hid hrl
  have HFN := Lib.hid hfn
  clear hred hrl hfit hfn hfld
  generalize hr : (redTo p L (List.replicate m []) n).r = r at *
  have HR := Lib.hid hr
  clear hr
  obtain ⟨ua, uc, rfl⟩ := hsh
  go_enter Tryd.func126, Tryd.ntmps126
  go_wp2_with (first
    | (go_at_call 118
       refine HCL.out.mono ?_
       rintro e w1 ⟨v, vs, rfl, hown, hg⟩
       have HO := Lib.hid hown; have HG := Lib.hid hg
       obtain ⟨va, vc, hve, hvi, hcap⟩ := own_form hown
       rw [HLEN.out] at hve hcap
       subst hve
       have hsz := hg.size
       clear hown hg)
    | (at_make
       refine wpList_make_full _ rfl _ _ 37 rfl w.heap.size 24 i0 (.slice none 0 0) 1 HUN.out HI.out HZ0.out HZ1.out .i64 .i64 (m : Int) (m : Int) m rfl rfl rfl rfl HBY.out HBY2.out hsz ?_
       intro w2 hown2 hgr2
       have HT2 := Lib.hid (two_nils HO.out hown2 hgr2)
       have HG2 := Lib.hid hgr2
       clear hown2 hgr2)
    | (go_at_call 120
       refine (reduction_any p _ _ _ _ L _ m n 0 w.heap.size _ HFLD.out HT2.out HFIT.out (by omega) (by omega) (by omega) hp2).mono ?_
       rintro e w3 ⟨rfl, vs', us', t, on⟩
       rw [HR.out]
       have HT3 := Lib.hid t; have HON := Lib.hid on
       clear t on))
  go_ret
  have hlen := HRL.out
  refine ⟨va, r, by rw [hlen]; rfl, ?_, grown_of_below ((Below.grown (Below.grown (Below.refl _ w) HG.out (Nat.le_refl _) (by simp)) HG2.out hsz (by simp)).trans (HON.out.below (Nat.le_trans hsz HG2.out.size) fun k hk => HT2.out.base hk))⟩
  exact ⟨va, m, vc, r, vs', (redTo p L (List.replicate m []) n).R, by rw [hlen], HT3.out.mR, by rw [HFN.out.lR, hlen]; exact hrm, by rw [hlen]; exact HRED.out⟩
theorem reduced_any (p : Nat) [NeZero p] (u : Value) (L : List (List Int)) (n : Nat) (w : World) (hfld : fldN p = true) (hp2 : p ≤ 1000) (hv : MatV w u L) (hL : RowsOk p n L) (hm : L.length ≤ 1000) (hn : n ≤ 1000) :
    Calls Tryd.prog 126 #[.int .i64 p, u, .int .i64 n] w fun e w' => ∃ v c, e = .returned (.slice v (reducedL p n L).length c) ∧ MatV w' (.slice v (reducedL p n L).length c) (reducedL p n L) ∧ w.grownBy w' none := by
  refine (reduced_own p u L n w hfld hp2 hv hL hm hn).mono ?_
  rintro e w' ⟨v, c, rfl, h, hg⟩
  exact ⟨v, c, rfl, h.read, hg⟩

theorem tail_eq {L : List (List Int)} {m r : Nat} (hl : L.length = m) : (L.take m).drop r = L.drop r := by rw [List.take_of_length_le (by omega)]
theorem tail_a {w : World} {a : Option Addr} {m c r : Nat} {L : List (List Int)} (h : MatV w (.slice a m c) L) (hl : L.length = m) (hr : r ≤ m) (c' : Nat) (hrm : m ≤ r) : MatV w (.slice a (m - r) c') (L.drop r) := by
  rw [← tail_eq hl]
  exact h.part r m c' (by omega) a fun d _ hlt => absurd hlt (by omega)
theorem tail_b {w : World} {a : Option Addr} {m c r : Nat} {L : List (List Int)} (h : MatV w (.slice a m c) L) (hl : L.length = m) (hr : r ≤ m) (ha : a = none ∨ ∃ g, a = some ⟨g, 0, none⟩) (c' : Nat) : MatV w (.slice (Option.map (fun x => x.add r) a) (m - r) c') (L.drop r) := by
  rw [← tail_eq hl]
  refine h.part r m c' (by omega) _ fun d hd _ => ?_
  subst hd
  rcases ha with ha | ⟨g, ha⟩
  · cases ha
  · cases ha
    refine ⟨_, rfl, ?_, ?_, ?_⟩ <;> (unfold Addr.add; split <;> first | rfl | (simp; omega))
theorem low_frame {w w1 w2 w3 : World} {v u : Value} {vs us : List Value} {R T : List (List Int)} (h1 : w.grownBy w1 none) (h2 : w1.grownBy w2 none) (t : Two w.heap.size w2 v vs u us R T) (on : Only (Feet v vs u us) w2 w3) : Below w.heap.size w w3 :=
  (Below.grown (Below.grown (Below.refl _ w) h1 (Nat.le_refl _) (by simp)) h2 h1.size (by simp)).trans (on.below (Nat.le_trans h1.size h2.size) fun k hk => t.base hk)
theorem two_ids {w w1 w2 : World} {v u : Value} {vs us : List Value} {R T : List (List Int)} (h : OwnM w.heap.size w1 v vs R) (hg : w.grownBy w1 none) (h2 : OwnM w1.heap.size w2 u us T) (hg2 : w1.grownBy w2 none) : Two w.heap.size w2 v vs u us R T := by
  refine ⟨h.carry hg2, h2.base hg.size, fun k hk hk' => ?_⟩
  have h3 := (h.lt hk).2
  have h4 := (h2.lt hk').1
  omega

set_option maxRecDepth 100000 in
set_option maxHeartbeats 1000000 in
theorem kernel_own (p : Nat) [NeZero p] (u : Value) (L : List (List Int)) (n : Nat) (w : World) (hfld : fldN p = true) (hp2 : p ≤ 1000) (hv : MatV w u L) (hL : RowsOk p n L) (hm : L.length ≤ 1000) (hn : n ≤ 1000) :
    Calls Tryd.prog 127 #[.int .i64 p, u, .int .i64 n] w fun e w' => ∃ v c, e = .returned (.slice v (kernelL p n L).length c) ∧ Pre w.heap.size w' (.slice v (kernelL p n L).length c) (kernelL p n L) ∧ w.grownBy w' none := by
  have hsh : ∃ a c, u = .slice a L.length c := hv.shape
  have HCL := Lib.hid (clones_any u L w hv (by omega) (fun row hrow => by rw [(hL row hrow).1]; omega))
  have HFLD := Lib.hid hfld
  have g := ge hfld hL rfl
  have hfit : Fit p L.length n L.length L (idL L.length) := ⟨rfl, idL_len _, hL, idL_ok (lt_p hfld)⟩
  have hkl : kernelL p n L = reducedL p L.length ((redTo p L (idL L.length) n).T.drop (redTo p L (idL L.length) n).r) := rfl
  have HKL := Lib.hid hkl
  have hrm := g.rm
  have hTl := Lib.hid g.lenT
  have hTo := Lib.hid (drop_ok (k := (redTo p L (idL L.length) n).r) g.okT)
  clear hv hL hfld g hkl
  generalize hlen : L.length = m at *
  have HLEN := Lib.hid hlen
  have HFIT := Lib.hid hfit
  clear hlen hfit
  generalize hS : redTo p L (idL m) n = s at *
  have HS := Lib.hid hS
  clear hS
  generalize hr : s.r = r at *
  have HR := Lib.hid hr
  clear hr
  obtain ⟨ua, uc, rfl⟩ := hsh
  go_enter Tryd.func127, Tryd.ntmps127
  go_wp2_with (first
    | (go_at_call 118
       refine HCL.out.mono ?_
       rintro e w1 ⟨v, vs, rfl, hown, hg⟩
       have HO := Lib.hid hown; have HG := Lib.hid hg
       obtain ⟨va, vc, hve, hvi, hcap⟩ := own_form hown
       rw [HLEN.out] at hve hcap
       subst hve
       have hsz := hg.size
       clear hown hg)
    | (go_at_call 119
       refine (identityRows_any m w1 (by omega)).mono ?_
       rintro e w2 ⟨v2, vs2, rfl, hown2, hg2⟩
       obtain ⟨va2, vc2, hve2, hvi2, hcap2⟩ := own_form hown2
       rw [idL_len] at hve2 hcap2
       subst hve2
       have HT2 := Lib.hid (two_ids HO.out HG.out hown2 hg2); have HG2 := Lib.hid hg2
       clear hown2 hg2)
    | (go_at_call 120
       refine (reduction_any p _ _ _ _ L _ m n m w.heap.size _ HFLD.out HT2.out HFIT.out (by omega) (by omega) (by omega) hp2).mono ?_
       rintro e w3 ⟨rfl, vs', us', t, on⟩
       rw [HS.out, HR.out]
       have hrd : MatV w3 (.slice va2 m vc2) s.T := by have := t.mT.read; rwa [HS.out] at this
       have HA := Lib.hid fun hle => reduced_own p _ (s.T.drop r) m w3 HFLD.out hp2 (tail_a (r := r) hrd hTl.out hrm 0 hle) hTo.out (by rw [List.length_drop, hTl.out]; omega) (by omega)
       have HB := Lib.hid fun c' => reduced_own p _ (s.T.drop r) m w3 HFLD.out hp2 (tail_b (r := r) hrd hTl.out hrm hvi2 c') hTo.out (by rw [List.length_drop, hTl.out]; omega) (by omega)
       have HT3 := Lib.hid (low_frame HG.out HG2.out HT2.out on)
       clear t on hrd)
    | (go_at_call 126
       first
         | (with_reducible refine (HA.out (by omega)).mono ?_
            rintro e w4 ⟨v4, c4, rfl, hv4, hg4⟩
            rw [← HKL.out] at hv4
            rw [← HKL.out]
            have HV4 := Lib.hid hv4; have HG4 := Lib.hid hg4
            clear hv4 hg4)
         | (with_reducible refine (HB.out _).mono ?_
            rintro e w4 ⟨v4, c4, rfl, hv4, hg4⟩
            rw [← HKL.out] at hv4
            rw [← HKL.out]
            have HV4 := Lib.hid hv4; have HG4 := Lib.hid hg4
            clear hv4 hg4)))
  all_goals
    go_ret
    exact ⟨v4, c4, rfl, HV4.out.base HT3.out.size, grown_of_below ((HT3.out).grown HG4.out HT3.out.size (by simp))⟩
theorem kernel_any (p : Nat) [NeZero p] (u : Value) (L : List (List Int)) (n : Nat) (w : World) (hfld : fldN p = true) (hp2 : p ≤ 1000) (hv : MatV w u L) (hL : RowsOk p n L) (hm : L.length ≤ 1000) (hn : n ≤ 1000) :
    Calls Tryd.prog 127 #[.int .i64 p, u, .int .i64 n] w fun e w' => ∃ v c, e = .returned (.slice v (kernelL p n L).length c) ∧ MatV w' (.slice v (kernelL p n L).length c) (kernelL p n L) ∧ w.grownBy w' none := by
  refine (kernel_own p u L n w hfld hp2 hv hL hm hn).mono ?_
  rintro e w' ⟨v, c, rfl, h, hg⟩
  exact ⟨v, c, rfl, h.read, hg⟩
end Go.Proofs.YtpeaeminjbjlnaaDoor

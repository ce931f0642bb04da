/-
  The law on power series: its walk. Conditions: both arguments read as bytes; the table of small primes holds what its text lays.
-/
import Derived.Test.YtpeaeminjbjlnaaDoorMu02
import Derived.Test.YtpeaeminjbjlnaaDoorMu03
import Derived.Test.YtpeaeminjbjlnaaDoorMu04
import Derived.Test.YtpeaeminjbjlnaaDoorMu06
import Derived.Test.YtpeaeminjbjlnaaDoorMj07
import Derived.Deep.CutRange
namespace Go.Proofs.YtpeaeminjbjlnaaDoor
open Go.RowKit
set_option linter.unusedVariables false

theorem ser_vec {q : Nat} [NeZero q] (n d : List Int) (y : Int) (m : Nat) : VecOk q (serL q n d y m).length (serL q n d y m) := by
  rw [ser_len]
  exact ser_ok n d y m
/-- what the second half of the law asks -/
theorem ps_mul {p : Int} {f g f' g' : List Int} (h : frmB p f g f' g' = true) : ∃ (q : Nat) (_ : NeZero q), p = q ∧ fldN q = true ∧ q ≤ 97 ∧
    (serB p f g 12 = true → serB p f' g' 12 = true → serB p (frmR p f g f' g').1 (frmR p f g f' g').2 12 = true ∧
      serL p (frmR p f g f' g').1 (frmR p f g f' g').2 (invI p ((frmR p f g f' g').2.getD 0 0)) (12 : Int).toNat = convL p (serL p f g (invI p (g.getD 0 0)) (12 : Int).toNat) (serL p f' g' (invI p (g'.getD 0 0)) (12 : Int).toNat) 12) := by
  have h0 := h
  unfold frmB at h
  simp only [Bool.and_eq_true] at h
  obtain ⟨⟨h1, h2⟩, h3⟩ := h
  have MF := mul_facts h1 h2
  obtain ⟨q, iq, rfl, I⟩ := frIs_of h1
  refine ⟨q, iq, rfl, I.hf, I.q97, fun s1 s2 => ?_⟩
  have e : frmR q f g f' g' = mulK q f g f' g' := by unfold frmR; rw [if_pos h0]
  rw [e]
  obtain ⟨_, c1, _, _⟩ := serB_parts s1
  obtain ⟨_, c2, _, _⟩ := serB_parts s2
  refine ⟨?_, MF.ser c1 c2 12⟩
  unfold serB
  rw [MF.fr, h3, MF.cau c1 c2]
  rfl
set_option maxRecDepth 100000 in
set_option maxHeartbeats 40000000 in
theorem fnPowerSeries_any (cv mv : Value) (w : World) (hc : CodeRaw w cv) (hm : CodeRaw w mv) (ht : Tab w) : Calls Tryd.prog 5 #[cv, mv] w (Gives (.bool true) w) := by
  have HT := Lib.hid ht
  obtain ⟨a1, l1, c1, rfl, hl1, hx1⟩ := hc
  obtain ⟨a2, l2, c2, rfl, hl2, hx2⟩ := hm
  have HX1 := Lib.hid hx1
  have HX2 := Lib.hid hx2
  clear ht hx1 hx2
  cases hbig : bigB l1 l2
  case true =>
    go_enter Tryd.func5, Tryd.ntmps5
    go_wp2_with (go_at_call 13; refine (big_any _ _ _ _ _ _ _ hl1 hl2).mono ?_; rintro e w' ⟨rfl, rfl⟩)
    go_ret
    exact ⟨rfl, grownBy_refl _ _⟩
  case false =>
    obtain ⟨b1, b2⟩ := bigB_no hbig
    have HC := Lib.hid (show CodeAt w (.slice a1 l1 c1) from ⟨a1, l1, c1, rfl, by omega, HX1.out⟩)
    have HM := Lib.hid (show CodeAt w (.slice a2 l2 c2) from ⟨a2, l2, c2, rfl, by omega, HX2.out⟩)
    clear b1 b2
    have hdr := drawSeriesOf_any _ _ HC.out
    unfold DSer frV at hdr
    go_enter Tryd.func5, Tryd.ntmps5
    go_wp2_with fail
    refine (big_any _ _ _ _ _ _ _ hl1 hl2).mono ?_
    rintro e w' ⟨rfl, rfl⟩
    go_wp2_with fail
    refine hdr.mono ?_
    rintro e w1 ⟨p, o1, o2, f, g, k, rfl, hp0, hp1, lf, lg, hf, hg, g1⟩
    obtain ⟨fa, fc, rfl, _⟩ := id hf
    obtain ⟨ya, yc, rfl, _⟩ := id hg
    have gb := grownBy_alloc w1 (.cells #[.slice fa f.length fc, .slice ya g.length yc] 53) none
    have T0 := Lib.hid fun W (h : World.grownBy (w1.alloc (.cells #[.slice fa f.length fc, .slice ya g.length yc] 53)) W none) => HT.out.grown (g1.trans (gb.trans h))
    have G0 := Lib.hid fun W (h : World.grownBy (w1.alloc (.cells #[.slice fa f.length fc, .slice ya g.length yc] 53)) W none) => g1.trans (gb.trans h)
    have F0 := Lib.hid fun W (h : World.grownBy (w1.alloc (.cells #[.slice fa f.length fc, .slice ya g.length yc] 53)) W none) => hf.carry (gb.trans h)
    have Y0 := Lib.hid fun W (h : World.grownBy (w1.alloc (.cells #[.slice fa f.length fc, .slice ya g.length yc] 53)) W none) => hg.carry (gb.trans h)
    have B0 := Lib.hid fun W (h : World.grownBy (w1.alloc (.cells #[.slice fa f.length fc, .slice ya g.length yc] 53)) W none) => bx_on (alloc_heap_new w1 (.cells #[.slice fa f.length fc, .slice ya g.length yc] 53)) h
    obtain ⟨y0B0, y0B1, _, _⟩ := bx (B0.out _ (grownBy_refl _ _))
    have c1' := fun W t hf hg => seriesOf_any p k (.slice fa f.length fc) (.slice ya g.length yc) f g W t hf hg (by omega) (by omega)
    have c2' := fun W hf hg => sSeriesOf_any p k (.slice fa f.length fc) (.slice ya g.length yc) f g W (by omega) (by omega) hf hg (by omega) (by omega)
    have hsl : (if serB p f g k = true then serL p f g (invI p (g.getD 0 0)) k.toNat else []).length ≤ 1000000 := by
      split
      · next h =>
        obtain ⟨_, _, h0, h1⟩ := serB_parts h
        rw [ser_len]; omega
      · simp
    unfold frV at c1' c2'
    generalize hsr : (if serB p f g k = true then serL p f g (invI p (g.getD 0 0)) k.toNat else []) = Sr at *
    generalize hsb : serB p f g k = sb at *
    have HSR := Lib.hid hsr; have HSB := Lib.hid hsb
    have C1 := Lib.hid c1'; have C2 := Lib.hid c2'
    clear hf hg g1 gb hdr HC HX1 HX2 HT hbig hl1 hl2 c1' c2' hsr hsb
    go_upto_if 63 with (first
      | (go_at_call 35
         with_reducible refine (C1.out _ (T0.out _ (grownBy_refl _ _)) (F0.out _ (grownBy_refl _ _)) (Y0.out _ (grownBy_refl _ _))).mono ?_
         rintro e v1 ⟨o, rfl, hi, gw⟩
         obtain ⟨a1, c1, rfl, _⟩ := id hi
         have ga := gw
         have T1 := Lib.hid fun W h => T0.out W (ga.trans h)
         have G1 := Lib.hid fun W h => G0.out W (ga.trans h)
         have F1 := Lib.hid fun W h => F0.out W (ga.trans h)
         have Y1 := Lib.hid fun W h => Y0.out W (ga.trans h)
         have B1 := Lib.hid fun W h => B0.out W (ga.trans h)
         have S1 := Lib.hid fun W (h : World.grownBy v1 W none) => hi.carry h
         obtain ⟨y1B0, y1B1, _, _⟩ := bx (B1.out _ (grownBy_refl _ _))
         clear ga gw hi)
      | (go_at_call 36
         with_reducible refine (C2.out _ (F1.out _ (grownBy_refl _ _)) (Y1.out _ (grownBy_refl _ _))).mono ?_
         rintro e v2 ⟨o, rfl, hi, gw⟩
         obtain ⟨a2, c2, rfl, _⟩ := id hi
         have ga := gw
         have T2 := Lib.hid fun W h => T1.out W (ga.trans h)
         have G2 := Lib.hid fun W h => G1.out W (ga.trans h)
         have F2 := Lib.hid fun W h => F1.out W (ga.trans h)
         have Y2 := Lib.hid fun W h => Y1.out W (ga.trans h)
         have B2 := Lib.hid fun W h => B1.out W (ga.trans h)
         have S2 := Lib.hid fun W h => S1.out W (ga.trans h)
         have V2 := Lib.hid fun W (h : World.grownBy v2 W none) => hi.carry h
         obtain ⟨y2B0, y2B1, _, _⟩ := bx (B2.out _ (grownBy_refl _ _))
         clear ga gw hi)
      | (go_at_call 17
         with_reducible refine (same_self _ _ _ _ (S2.out _ (grownBy_refl _ _)) (V2.out _ (grownBy_refl _ _)) (by omega)).mono ?_
         rintro e v3 ⟨rfl, gw⟩
         have ga := gw
         have T3 := Lib.hid fun W h => T2.out W (ga.trans h)
         have G3 := Lib.hid fun W h => G2.out W (ga.trans h)
         have F3 := Lib.hid fun W h => F2.out W (ga.trans h)
         have Y3 := Lib.hid fun W h => Y2.out W (ga.trans h)
         have B3 := Lib.hid fun W h => B2.out W (ga.trans h)
         have S3 := Lib.hid fun W h => S2.out W (ga.trans h)
         obtain ⟨y3B0, y3B1, _, _⟩ := bx (B3.out _ (grownBy_refl _ _))
         clear ga gw))
    go_cut [] from 63 to 99 (fun wx => v3.grownBy wx none)
    case first =>
      cases sb
      · go_wp2_with fail
        go_meet
        exact grownBy_refl _ _
      · have hsb := HSB.out
        have hsr := HSR.out
        rw [if_pos rfl] at hsr
        obtain ⟨hfr, hcc, hk0, hk60⟩ := serB_parts hsb
        have hvo : ∀ (q : Nat) [NeZero q], p = q → VecOk q Sr.length Sr := fun q _ e => by
          subst e
          rw [← hsr]
          exact ser_vec _ _ _ _
        have hlk : (Sr.length : Int) = k := by rw [← hsr, ser_len]; omega
        have hfo := fun h => fos_found hsb h
        rw [hsr] at hfo
        obtain ⟨q, iq, rfl, I⟩ := frIs_of hfr
        have i1 := I.ln; have i2 := I.ld
        have oo := fun W t hf hg => orderOfFraction_yes (q : Int) (.slice fa f.length fc) (.slice ya g.length yc) f g W t hf hg hfr
        have fs := fun W u t hu => fos_any q u Sr W t I.hf I.q97 hu (hvo q rfl) (by omega)
        have hod : 0 ≤ ordL f g ∧ ordL f g ≤ 21 := by unfold ordL; omega
        have hw2 : IntKind.i64.wrap (2 * ordL f g) = 2 * ordL f g := by rw [IntKind.wrap_i64]; omega
        unfold frV at oo fs
        have OO := Lib.hid oo
        have HFO := Lib.hid hfo
        clear oo hsb hsr hfr hcc hvo I hfo HSB HSR
        by_cases ho : 2 * ordL f g ≤ k
        · obtain ⟨e1, e2⟩ := HFO.out ho
          rw [e1, e2] at fs
          have FS := Lib.hid fs
          clear fs e1 e2 HFO
          generalize ordL f g = od at *
          have qs := fun W u v h1 h2 h3 h4 => qFr_self u v (.slice fa f.length fc) (.slice ya g.length yc) f g W h1 h2 h3 h4 (by omega) (by omega)
          unfold frV at qs
          have QS := Lib.hid qs
          clear qs
          go_wp2_with (first
            | (go_at_call 37
               with_reducible refine (OO.out _ (T3.out _ (grownBy_refl _ _)) (F3.out _ (grownBy_refl _ _)) (Y3.out _ (grownBy_refl _ _))).mono ?_
               rintro e v4 ⟨rfl, gw⟩
               have J4 := Lib.hid gw
               have ga := gw
               have T4 := Lib.hid fun W h => T3.out W (ga.trans h)
               have G4 := Lib.hid fun W h => G3.out W (ga.trans h)
               have F4 := Lib.hid fun W h => F3.out W (ga.trans h)
               have Y4 := Lib.hid fun W h => Y3.out W (ga.trans h)
               have B4 := Lib.hid fun W h => B3.out W (ga.trans h)
               have S4 := Lib.hid fun W h => S3.out W (ga.trans h)
               clear ga gw)
            | (go_at_call 38
               with_reducible refine (FS.out _ _ (T4.out _ (grownBy_refl _ _)) (S4.out _ (grownBy_refl _ _))).mono ?_
               rintro e v5 ⟨o1, o2, ⟨R1, R2⟩, rfl, hR, h1, h2, gw⟩
               obtain ⟨rfl, rfl⟩ : f = R1 ∧ g = R2 := by have h := hR (by trivial); injection h with h1 h2; exact ⟨h1.symm, h2.symm⟩
               dsimp only at h1 h2
               obtain ⟨a5, c5, rfl, _⟩ := id h1
               obtain ⟨a6, c6, rfl, _⟩ := id h2
               clear hR
               have ga := gw.trans (grownBy_alloc v5 (.cells #[.slice a5 f.length c5, .slice a6 g.length c6] 53) none)
               have T5 := Lib.hid fun W h => T4.out W (ga.trans h)
               have G5 := Lib.hid fun W h => G4.out W (ga.trans h)
               have F5 := Lib.hid fun W h => F4.out W (ga.trans h)
               have Y5 := Lib.hid fun W h => Y4.out W (ga.trans h)
               have B5 := Lib.hid fun W h => B4.out W (ga.trans h)
               have S5 := Lib.hid fun W h => S4.out W (ga.trans h)
               have P5 := Lib.hid fun W (h : World.grownBy (v5.alloc (.cells #[.slice a5 f.length c5, .slice a6 g.length c6] 53)) W none) => h1.carry ((grownBy_alloc v5 (.cells #[.slice a5 f.length c5, .slice a6 g.length c6] 53) none).trans h)
               have Q5 := Lib.hid fun W (h : World.grownBy (v5.alloc (.cells #[.slice a5 f.length c5, .slice a6 g.length c6] 53)) W none) => h2.carry ((grownBy_alloc v5 (.cells #[.slice a5 f.length c5, .slice a6 g.length c6] 53) none).trans h)
               have D5 := Lib.hid fun W (h : World.grownBy (v5.alloc (.cells #[.slice a5 f.length c5, .slice a6 g.length c6] 53)) W none) => bx_on (alloc_heap_new v5 (.cells #[.slice a5 f.length c5, .slice a6 g.length c6] 53)) h
               have J5 := Lib.hid (J4.out.trans ga)
               obtain ⟨y5D0, y5D1, _, _⟩ := bx (D5.out _ (grownBy_refl _ _))
               obtain ⟨y5B0, y5B1, _, _⟩ := bx (B5.out _ (grownBy_refl _ _))
               clear ga gw h1 h2)
            | (go_at_call 39
               with_reducible refine (QS.out _ _ _ (P5.out _ (grownBy_refl _ _)) (Q5.out _ (grownBy_refl _ _)) (F5.out _ (grownBy_refl _ _)) (Y5.out _ (grownBy_refl _ _))).mono ?_
               rintro e v6 ⟨rfl, gw⟩
               have J6 := Lib.hid (J5.out.trans gw)
               have ga := gw
               have T6 := Lib.hid fun W h => T5.out W (ga.trans h)
               have G6 := Lib.hid fun W h => G5.out W (ga.trans h)
               have F6 := Lib.hid fun W h => F5.out W (ga.trans h)
               have Y6 := Lib.hid fun W h => Y5.out W (ga.trans h)
               have B6 := Lib.hid fun W h => B5.out W (ga.trans h)
               have S6 := Lib.hid fun W h => S5.out W (ga.trans h)
               have P6 := Lib.hid fun W h => P5.out W (ga.trans h)
               have Q6 := Lib.hid fun W h => Q5.out W (ga.trans h)
               have D6 := Lib.hid fun W h => D5.out W (ga.trans h)
               clear ga gw))
          go_meet
          exact J6.out
        · have FS := Lib.hid fs
          clear fs HFO
          generalize ordL f g = od at *
          generalize fosB (q : Int) Sr = fsb at *
          go_wp2_with (first
            | (go_at_call 37
               with_reducible refine (OO.out _ (T3.out _ (grownBy_refl _ _)) (F3.out _ (grownBy_refl _ _)) (Y3.out _ (grownBy_refl _ _))).mono ?_
               rintro e v4 ⟨rfl, gw⟩
               have J4 := Lib.hid gw
               have ga := gw
               have T4 := Lib.hid fun W h => T3.out W (ga.trans h)
               have G4 := Lib.hid fun W h => G3.out W (ga.trans h)
               have F4 := Lib.hid fun W h => F3.out W (ga.trans h)
               have Y4 := Lib.hid fun W h => Y3.out W (ga.trans h)
               have B4 := Lib.hid fun W h => B3.out W (ga.trans h)
               have S4 := Lib.hid fun W h => S3.out W (ga.trans h)
               clear ga gw)
            | (go_at_call 38
               with_reducible refine (FS.out _ _ (T4.out _ (grownBy_refl _ _)) (S4.out _ (grownBy_refl _ _))).mono ?_
               rintro e v5 ⟨o1, o2, ⟨R1, R2⟩, rfl, hR, h1, h2, gw⟩
               dsimp only at h1 h2
               obtain ⟨a5, c5, rfl, _⟩ := id h1
               obtain ⟨a6, c6, rfl, _⟩ := id h2
               clear hR
               have ga := gw.trans (grownBy_alloc v5 (.cells #[.slice a5 R1.length c5, .slice a6 R2.length c6] 53) none)
               have T5 := Lib.hid fun W h => T4.out W (ga.trans h)
               have G5 := Lib.hid fun W h => G4.out W (ga.trans h)
               have F5 := Lib.hid fun W h => F4.out W (ga.trans h)
               have Y5 := Lib.hid fun W h => Y4.out W (ga.trans h)
               have B5 := Lib.hid fun W h => B4.out W (ga.trans h)
               have S5 := Lib.hid fun W h => S4.out W (ga.trans h)
               have P5 := Lib.hid fun W (h : World.grownBy (v5.alloc (.cells #[.slice a5 R1.length c5, .slice a6 R2.length c6] 53)) W none) => h1.carry ((grownBy_alloc v5 (.cells #[.slice a5 R1.length c5, .slice a6 R2.length c6] 53) none).trans h)
               have Q5 := Lib.hid fun W (h : World.grownBy (v5.alloc (.cells #[.slice a5 R1.length c5, .slice a6 R2.length c6] 53)) W none) => h2.carry ((grownBy_alloc v5 (.cells #[.slice a5 R1.length c5, .slice a6 R2.length c6] 53) none).trans h)
               have D5 := Lib.hid fun W (h : World.grownBy (v5.alloc (.cells #[.slice a5 R1.length c5, .slice a6 R2.length c6] 53)) W none) => bx_on (alloc_heap_new v5 (.cells #[.slice a5 R1.length c5, .slice a6 R2.length c6] 53)) h
               have J5 := Lib.hid (J4.out.trans ga)
               obtain ⟨y5D0, y5D1, _, _⟩ := bx (D5.out _ (grownBy_refl _ _))
               obtain ⟨y5B0, y5B1, _, _⟩ := bx (B5.out _ (grownBy_refl _ _))
               clear ga gw h1 h2))
          go_meet
          exact J5.out
    case rest =>
      have HW := Lib.hid hcut
      have T4 := Lib.hid fun W h => T3.out W (HW.out.trans h)
      have G4 := Lib.hid fun W h => G3.out W (HW.out.trans h)
      clear hcut C1 C2 HSB HSR hsl lf lg hp0 hp1
      have hcm := HM.out.carry (G4.out _ (grownBy_refl _ _))
      have hdr := drawFractionMul_any _ _ hcm
      unfold DFM frV at hdr
      go_wp2_with fail
      refine hdr.mono ?_
      rintro e w2 ⟨p2, o1, o2, o3, o4, f, g, f', g', rfl, hp0, hp1, ⟨l1', l2', l3', l4'⟩, i1, i2, i3, i4, g1⟩
      obtain ⟨fa, fc, rfl, _⟩ := id i1
      obtain ⟨ya, yc, rfl, _⟩ := id i2
      obtain ⟨fa', fc', rfl, _⟩ := id i3
      obtain ⟨ya', yc', rfl, _⟩ := id i4
      have gb := (grownBy_alloc w2 (.cells #[.slice fa f.length fc, .slice ya g.length yc] 53) none).trans (grownBy_alloc (w2.alloc (.cells #[.slice fa f.length fc, .slice ya g.length yc] 53)) (.cells #[.slice fa' f'.length fc', .slice ya' g'.length yc'] 53) none)
      have T5 := Lib.hid fun W (h : World.grownBy ((w2.alloc (.cells #[.slice fa f.length fc, .slice ya g.length yc] 53)).alloc (.cells #[.slice fa' f'.length fc', .slice ya' g'.length yc'] 53)) W none) => T4.out W (g1.trans (gb.trans h))
      have G5 := Lib.hid fun W (h : World.grownBy ((w2.alloc (.cells #[.slice fa f.length fc, .slice ya g.length yc] 53)).alloc (.cells #[.slice fa' f'.length fc', .slice ya' g'.length yc'] 53)) W none) => G4.out W (g1.trans (gb.trans h))
      have F5 := Lib.hid fun W (h : World.grownBy ((w2.alloc (.cells #[.slice fa f.length fc, .slice ya g.length yc] 53)).alloc (.cells #[.slice fa' f'.length fc', .slice ya' g'.length yc'] 53)) W none) => i1.carry (gb.trans h)
      have Y5 := Lib.hid fun W (h : World.grownBy ((w2.alloc (.cells #[.slice fa f.length fc, .slice ya g.length yc] 53)).alloc (.cells #[.slice fa' f'.length fc', .slice ya' g'.length yc'] 53)) W none) => i2.carry (gb.trans h)
      have H5 := Lib.hid fun W (h : World.grownBy ((w2.alloc (.cells #[.slice fa f.length fc, .slice ya g.length yc] 53)).alloc (.cells #[.slice fa' f'.length fc', .slice ya' g'.length yc'] 53)) W none) => i3.carry (gb.trans h)
      have I5 := Lib.hid fun W (h : World.grownBy ((w2.alloc (.cells #[.slice fa f.length fc, .slice ya g.length yc] 53)).alloc (.cells #[.slice fa' f'.length fc', .slice ya' g'.length yc'] 53)) W none) => i4.carry (gb.trans h)
      have X5 := Lib.hid fun W (h : World.grownBy ((w2.alloc (.cells #[.slice fa f.length fc, .slice ya g.length yc] 53)).alloc (.cells #[.slice fa' f'.length fc', .slice ya' g'.length yc'] 53)) W none) => bx_on (alloc_heap_new w2 (.cells #[.slice fa f.length fc, .slice ya g.length yc] 53)) ((grownBy_alloc (w2.alloc (.cells #[.slice fa f.length fc, .slice ya g.length yc] 53)) (.cells #[.slice fa' f'.length fc', .slice ya' g'.length yc'] 53) none).trans h)
      have z5 := fun W (h : World.grownBy ((w2.alloc (.cells #[.slice fa f.length fc, .slice ya g.length yc] 53)).alloc (.cells #[.slice fa' f'.length fc', .slice ya' g'.length yc'] 53)) W none) => bx_on (alloc_heap_new (w2.alloc (.cells #[.slice fa f.length fc, .slice ya g.length yc] 53)) (.cells #[.slice fa' f'.length fc', .slice ya' g'.length yc'] 53)) h
      rw [asz] at z5
      have Z5 := Lib.hid z5
      obtain ⟨y5X0, y5X1, _, _⟩ := bx (X5.out _ (grownBy_refl _ _))
      obtain ⟨y5Z0, y5Z1, _, _⟩ := bx (Z5.out _ (grownBy_refl _ _))
      have m1 := fun W t h1 h2 h3 h4 => cFrMul_any p2 (.slice fa f.length fc) (.slice ya g.length yc) (.slice fa' f'.length fc') (.slice ya' g'.length yc') f g f' g' W t h1 h2 h3 h4 (by omega) (by omega) (by omega) (by omega)
      have m2 := fun W h1 h2 h3 h4 => sFrMul_any p2 (.slice fa f.length fc) (.slice ya g.length yc) (.slice fa' f'.length fc') (.slice ya' g'.length yc') f g f' g' W (by omega) (by omega) h1 h2 h3 h4 (by omega) (by omega) (by omega) (by omega)
      have hkl : (frmR p2 f g f' g').1.length ≤ 1000000 ∧ (frmR p2 f g f' g').2.length ≤ 1000000 := by
        unfold frmR
        split
        · next h =>
          unfold frmB at h
          simp only [Bool.and_eq_true] at h
          have MF := mul_facts h.1.1 h.1.2
          have := MF.kn; have := MF.kd
          omega
        · simp
      have s1' := fun W t hf hg => seriesOf_any p2 12 (.slice fa f.length fc) (.slice ya g.length yc) f g W t hf hg (by omega) (by omega)
      have s2' := fun W t hf hg => seriesOf_any p2 12 (.slice fa' f'.length fc') (.slice ya' g'.length yc') f' g' W t hf hg (by omega) (by omega)
      have s3' := fun W u v t hf hg => seriesOf_any p2 12 u v (frmR p2 f g f' g').1 (frmR p2 f g f' g').2 W t hf hg hkl.1 hkl.2
      have hps := fun h => ps_mul (p := p2) (f := f) (g := g) (f' := f') (g' := g') h
      have HPS := Lib.hid hps
      unfold frV at m1 m2 s1' s2' s3'
      clear hps i1 i2 i3 i4 g1 gb z5 hdr hcm
      generalize hfb : frmB p2 f g f' g' = fb at *
      generalize hK1 : (frmR p2 f g f' g').1 = K1 at *
      generalize hK2 : (frmR p2 f g f' g').2 = K2 at *
      have M1 := Lib.hid m1; have M2 := Lib.hid m2; have S1 := Lib.hid s1'; have S2 := Lib.hid s2'; have S3 := Lib.hid s3'
      have qs := fun W u v u' v' h1 h2 h3 h4 => qFr_self u v u' v' K1 K2 W h1 h2 h3 h4 hkl.1 hkl.2
      unfold frV at qs
      have QS := Lib.hid qs
      clear m1 m2 s1' s2' s3' hfb hK1 hK2 qs hp0 hp1
      go_upto_if 129 with (first
        | (go_at_call 41
           with_reducible refine (M1.out _ (T5.out _ (grownBy_refl _ _)) (F5.out _ (grownBy_refl _ _)) (Y5.out _ (grownBy_refl _ _)) (H5.out _ (grownBy_refl _ _)) (I5.out _ (grownBy_refl _ _))).mono ?_
           rintro e v6 ⟨o1, o2, rfl, h1, h2, gw⟩
           obtain ⟨a6, c6, rfl, _⟩ := id h1
           obtain ⟨a7, c7, rfl, _⟩ := id h2
           have ga := gw.trans (grownBy_alloc v6 (.cells #[.slice a6 K1.length c6, .slice a7 K2.length c7] 53) none)
           have T6 := Lib.hid fun W h => T5.out W (ga.trans h)
           have G6 := Lib.hid fun W h => G5.out W (ga.trans h)
           have F6 := Lib.hid fun W h => F5.out W (ga.trans h)
           have Y6 := Lib.hid fun W h => Y5.out W (ga.trans h)
           have H6 := Lib.hid fun W h => H5.out W (ga.trans h)
           have I6 := Lib.hid fun W h => I5.out W (ga.trans h)
           have X6 := Lib.hid fun W h => X5.out W (ga.trans h)
           have Z6 := Lib.hid fun W h => Z5.out W (ga.trans h)
           have P6 := Lib.hid fun W (h : World.grownBy (v6.alloc (.cells #[.slice a6 K1.length c6, .slice a7 K2.length c7] 53)) W none) => h1.carry ((grownBy_alloc v6 (.cells #[.slice a6 K1.length c6, .slice a7 K2.length c7] 53) none).trans h)
           have Q6 := Lib.hid fun W (h : World.grownBy (v6.alloc (.cells #[.slice a6 K1.length c6, .slice a7 K2.length c7] 53)) W none) => h2.carry ((grownBy_alloc v6 (.cells #[.slice a6 K1.length c6, .slice a7 K2.length c7] 53) none).trans h)
           have D6 := Lib.hid fun W (h : World.grownBy (v6.alloc (.cells #[.slice a6 K1.length c6, .slice a7 K2.length c7] 53)) W none) => bx_on (alloc_heap_new v6 (.cells #[.slice a6 K1.length c6, .slice a7 K2.length c7] 53)) h
           obtain ⟨y6X0, y6X1, _, _⟩ := bx (X6.out _ (grownBy_refl _ _))
           obtain ⟨y6Z0, y6Z1, _, _⟩ := bx (Z6.out _ (grownBy_refl _ _))
           obtain ⟨y6D0, y6D1, _, _⟩ := bx (D6.out _ (grownBy_refl _ _))
           clear ga gw h1 h2)
        | (go_at_call 42
           with_reducible refine (M2.out _ (F6.out _ (grownBy_refl _ _)) (Y6.out _ (grownBy_refl _ _)) (H6.out _ (grownBy_refl _ _)) (I6.out _ (grownBy_refl _ _))).mono ?_
           rintro e v7 ⟨o1, o2, rfl, h1, h2, gw⟩
           obtain ⟨a8, c8, rfl, _⟩ := id h1
           obtain ⟨a9, c9, rfl, _⟩ := id h2
           have ga := gw.trans (grownBy_alloc v7 (.cells #[.slice a8 K1.length c8, .slice a9 K2.length c9] 53) none)
           have T7 := Lib.hid fun W h => T6.out W (ga.trans h)
           have G7 := Lib.hid fun W h => G6.out W (ga.trans h)
           have F7 := Lib.hid fun W h => F6.out W (ga.trans h)
           have Y7 := Lib.hid fun W h => Y6.out W (ga.trans h)
           have H7 := Lib.hid fun W h => H6.out W (ga.trans h)
           have I7 := Lib.hid fun W h => I6.out W (ga.trans h)
           have X7 := Lib.hid fun W h => X6.out W (ga.trans h)
           have Z7 := Lib.hid fun W h => Z6.out W (ga.trans h)
           have P7 := Lib.hid fun W h => P6.out W (ga.trans h)
           have Q7 := Lib.hid fun W h => Q6.out W (ga.trans h)
           have D7 := Lib.hid fun W h => D6.out W (ga.trans h)
           have N7 := Lib.hid fun W (h : World.grownBy (v7.alloc (.cells #[.slice a8 K1.length c8, .slice a9 K2.length c9] 53)) W none) => h1.carry ((grownBy_alloc v7 (.cells #[.slice a8 K1.length c8, .slice a9 K2.length c9] 53) none).trans h)
           have O7 := Lib.hid fun W (h : World.grownBy (v7.alloc (.cells #[.slice a8 K1.length c8, .slice a9 K2.length c9] 53)) W none) => h2.carry ((grownBy_alloc v7 (.cells #[.slice a8 K1.length c8, .slice a9 K2.length c9] 53) none).trans h)
           have E7 := Lib.hid fun W (h : World.grownBy (v7.alloc (.cells #[.slice a8 K1.length c8, .slice a9 K2.length c9] 53)) W none) => bx_on (alloc_heap_new v7 (.cells #[.slice a8 K1.length c8, .slice a9 K2.length c9] 53)) h
           obtain ⟨y7X0, y7X1, _, _⟩ := bx (X7.out _ (grownBy_refl _ _))
           obtain ⟨y7Z0, y7Z1, _, _⟩ := bx (Z7.out _ (grownBy_refl _ _))
           obtain ⟨y7D0, y7D1, _, _⟩ := bx (D7.out _ (grownBy_refl _ _))
           obtain ⟨y7E0, y7E1, _, _⟩ := bx (E7.out _ (grownBy_refl _ _))
           clear ga gw h1 h2)
        | (go_at_call 39
           with_reducible refine (QS.out _ _ _ _ _ (P7.out _ (grownBy_refl _ _)) (Q7.out _ (grownBy_refl _ _)) (N7.out _ (grownBy_refl _ _)) (O7.out _ (grownBy_refl _ _))).mono ?_
           rintro e v8 ⟨rfl, gw⟩
           have ga := gw
           have T8 := Lib.hid fun W h => T7.out W (ga.trans h)
           have G8 := Lib.hid fun W h => G7.out W (ga.trans h)
           have F8 := Lib.hid fun W h => F7.out W (ga.trans h)
           have Y8 := Lib.hid fun W h => Y7.out W (ga.trans h)
           have H8 := Lib.hid fun W h => H7.out W (ga.trans h)
           have I8 := Lib.hid fun W h => I7.out W (ga.trans h)
           have X8 := Lib.hid fun W h => X7.out W (ga.trans h)
           have Z8 := Lib.hid fun W h => Z7.out W (ga.trans h)
           have P8 := Lib.hid fun W h => P7.out W (ga.trans h)
           have Q8 := Lib.hid fun W h => Q7.out W (ga.trans h)
           have D8 := Lib.hid fun W h => D7.out W (ga.trans h)
           obtain ⟨y8X0, y8X1, _, _⟩ := bx (X8.out _ (grownBy_refl _ _))
           obtain ⟨y8Z0, y8Z1, _, _⟩ := bx (Z8.out _ (grownBy_refl _ _))
           obtain ⟨y8D0, y8D1, _, _⟩ := bx (D8.out _ (grownBy_refl _ _))
           clear ga gw))
      cases fb
      · go_wp2_with fail
        go_ret
        exact ⟨rfl, G8.out _ (grownBy_refl _ _)⟩
      · obtain ⟨q, iq, hq, hfl, hq97, hser⟩ := HPS.out rfl
        subst hq
        have hcv : ∀ (x x' y y' : List Int) (u v : Int) W (U V : Value) (t : Tab W) (hu : IntsV W U (serL (q : Int) x y u (12 : Int).toNat)) (hv : IntsV W V (serL (q : Int) x' y' v (12 : Int).toNat)), Calls Tryd.prog 43 #[.int .i64 q, U, V] W fun e w' => ∃ o, e = .returned (.tuple #[o, .bool true]) ∧ IntsV w' o (convL q (serL (q : Int) x y u (12 : Int).toNat) (serL (q : Int) x' y' v (12 : Int).toNat) 12) ∧ W.grownBy w' none := fun x x' y y' u v W U V t hu hv => by
          have h := convS_any q U V _ _ W t hfl hq97 hu hv (ser_vec _ _ _ _) (ser_vec _ _ _ _) (by rw [ser_len]; omega) (by rw [ser_len]; omega)
          rw [ser_len, ser_len] at h
          exact h
        have CV := Lib.hid fun W U V t hu hv => hcv f f' g g' (invI q (g.getD 0 0)) (invI q (g'.getD 0 0)) W U V t hu hv
        have hcl := conv_len (q : Int) (serL q f g (invI q (g.getD 0 0)) (12 : Int).toNat) (serL q f' g' (invI q (g'.getD 0 0)) (12 : Int).toNat) 12
        have s1 := S1.out; have s2 := S2.out; have s3 := S3.out
        clear S1 S2 S3 M1 M2 QS HPS hcv
        cases h1 : serB (q : Int) f g 12
        · rw [h1] at s1
          have S1F := Lib.hid s1; have S2F := Lib.hid s2; have S3F := Lib.hid s3
          clear s1 s2 s3 hser CV h1 hcl
          generalize (if false = true then serL (q : Int) f g (invI q (g.getD 0 0)) (12 : Int).toNat else []) = L1 at *
          generalize (if serB (q : Int) f' g' 12 = true then serL (q : Int) f' g' (invI q (g'.getD 0 0)) (12 : Int).toNat else []) = L2 at *
          generalize (if serB (q : Int) K1 K2 12 = true then serL (q : Int) K1 K2 (invI q (K2.getD 0 0)) (12 : Int).toNat else []) = L3 at *
          generalize serB (q : Int) f' g' 12 = t2 at *
          generalize serB (q : Int) K1 K2 12 = t3 at *
          go_wp2_with (first
            | (go_at_call 35
               with_reducible refine (S1F.out _ (T8.out _ (grownBy_refl _ _)) (F8.out _ (grownBy_refl _ _)) (Y8.out _ (grownBy_refl _ _))).mono ?_
               rintro e v9 ⟨o, rfl, hi, gw⟩
               obtain ⟨a10, c10, rfl, _⟩ := id hi
               have ga := gw
               have T9 := Lib.hid fun W h => T8.out W (ga.trans h)
               have G9 := Lib.hid fun W h => G8.out W (ga.trans h)
               have F9 := Lib.hid fun W h => F8.out W (ga.trans h)
               have Y9 := Lib.hid fun W h => Y8.out W (ga.trans h)
               have H9 := Lib.hid fun W h => H8.out W (ga.trans h)
               have I9 := Lib.hid fun W h => I8.out W (ga.trans h)
               have X9 := Lib.hid fun W h => X8.out W (ga.trans h)
               have Z9 := Lib.hid fun W h => Z8.out W (ga.trans h)
               have P9 := Lib.hid fun W h => P8.out W (ga.trans h)
               have Q9 := Lib.hid fun W h => Q8.out W (ga.trans h)
               have D9 := Lib.hid fun W h => D8.out W (ga.trans h)
               have U9 := Lib.hid fun W (h : World.grownBy v9 W none) => hi.carry h
               obtain ⟨y9Z0, y9Z1, _, _⟩ := bx (Z9.out _ (grownBy_refl _ _))
               obtain ⟨y9D0, y9D1, _, _⟩ := bx (D9.out _ (grownBy_refl _ _))
               clear ga gw hi)
            | (go_at_call 35
               with_reducible refine (S2F.out _ (T9.out _ (grownBy_refl _ _)) (H9.out _ (grownBy_refl _ _)) (I9.out _ (grownBy_refl _ _))).mono ?_
               rintro e v10 ⟨o, rfl, hi, gw⟩
               obtain ⟨a11, c11, rfl, _⟩ := id hi
               have ga := gw
               have T10 := Lib.hid fun W h => T9.out W (ga.trans h)
               have G10 := Lib.hid fun W h => G9.out W (ga.trans h)
               have F10 := Lib.hid fun W h => F9.out W (ga.trans h)
               have Y10 := Lib.hid fun W h => Y9.out W (ga.trans h)
               have H10 := Lib.hid fun W h => H9.out W (ga.trans h)
               have I10 := Lib.hid fun W h => I9.out W (ga.trans h)
               have X10 := Lib.hid fun W h => X9.out W (ga.trans h)
               have Z10 := Lib.hid fun W h => Z9.out W (ga.trans h)
               have P10 := Lib.hid fun W h => P9.out W (ga.trans h)
               have Q10 := Lib.hid fun W h => Q9.out W (ga.trans h)
               have D10 := Lib.hid fun W h => D9.out W (ga.trans h)
               have U10 := Lib.hid fun W h => U9.out W (ga.trans h)
               have V10 := Lib.hid fun W (h : World.grownBy v10 W none) => hi.carry h
               obtain ⟨y10D0, y10D1, _, _⟩ := bx (D10.out _ (grownBy_refl _ _))
               clear ga gw hi)
            | (go_at_call 35
               with_reducible refine (S3F.out _ _ _ (T10.out _ (grownBy_refl _ _)) (P10.out _ (grownBy_refl _ _)) (Q10.out _ (grownBy_refl _ _))).mono ?_
               rintro e v11 ⟨o, rfl, hi, gw⟩
               obtain ⟨a12, c12, rfl, _⟩ := id hi
               have ga := gw
               have T11 := Lib.hid fun W h => T10.out W (ga.trans h)
               have G11 := Lib.hid fun W h => G10.out W (ga.trans h)
               have F11 := Lib.hid fun W h => F10.out W (ga.trans h)
               have Y11 := Lib.hid fun W h => Y10.out W (ga.trans h)
               have H11 := Lib.hid fun W h => H10.out W (ga.trans h)
               have I11 := Lib.hid fun W h => I10.out W (ga.trans h)
               have X11 := Lib.hid fun W h => X10.out W (ga.trans h)
               have Z11 := Lib.hid fun W h => Z10.out W (ga.trans h)
               have P11 := Lib.hid fun W h => P10.out W (ga.trans h)
               have Q11 := Lib.hid fun W h => Q10.out W (ga.trans h)
               have D11 := Lib.hid fun W h => D10.out W (ga.trans h)
               have U11 := Lib.hid fun W h => U10.out W (ga.trans h)
               have V11 := Lib.hid fun W h => V10.out W (ga.trans h)
               have W11 := Lib.hid fun W (h : World.grownBy v11 W none) => hi.carry h
               clear ga gw hi))
          go_ret
          exact ⟨rfl, G11.out _ (grownBy_refl _ _)⟩
        · cases h2 : serB (q : Int) f' g' 12
          · rw [h1] at s1
            rw [h2] at s2
            have S1F := Lib.hid s1; have S2F := Lib.hid s2; have S3F := Lib.hid s3
            clear s1 s2 s3 hser CV h1 h2 hcl
            generalize (if true = true then serL (q : Int) f g (invI q (g.getD 0 0)) (12 : Int).toNat else []) = L1 at *
            generalize (if false = true then serL (q : Int) f' g' (invI q (g'.getD 0 0)) (12 : Int).toNat else []) = L2 at *
            generalize (if serB (q : Int) K1 K2 12 = true then serL (q : Int) K1 K2 (invI q (K2.getD 0 0)) (12 : Int).toNat else []) = L3 at *
            generalize serB (q : Int) K1 K2 12 = t3 at *
            go_wp2_with (first
              | (go_at_call 35
                 with_reducible refine (S1F.out _ (T8.out _ (grownBy_refl _ _)) (F8.out _ (grownBy_refl _ _)) (Y8.out _ (grownBy_refl _ _))).mono ?_
                 rintro e v9 ⟨o, rfl, hi, gw⟩
                 obtain ⟨a10, c10, rfl, _⟩ := id hi
                 have ga := gw
                 have T9 := Lib.hid fun W h => T8.out W (ga.trans h)
                 have G9 := Lib.hid fun W h => G8.out W (ga.trans h)
                 have F9 := Lib.hid fun W h => F8.out W (ga.trans h)
                 have Y9 := Lib.hid fun W h => Y8.out W (ga.trans h)
                 have H9 := Lib.hid fun W h => H8.out W (ga.trans h)
                 have I9 := Lib.hid fun W h => I8.out W (ga.trans h)
                 have X9 := Lib.hid fun W h => X8.out W (ga.trans h)
                 have Z9 := Lib.hid fun W h => Z8.out W (ga.trans h)
                 have P9 := Lib.hid fun W h => P8.out W (ga.trans h)
                 have Q9 := Lib.hid fun W h => Q8.out W (ga.trans h)
                 have D9 := Lib.hid fun W h => D8.out W (ga.trans h)
                 have U9 := Lib.hid fun W (h : World.grownBy v9 W none) => hi.carry h
                 obtain ⟨y9Z0, y9Z1, _, _⟩ := bx (Z9.out _ (grownBy_refl _ _))
                 obtain ⟨y9D0, y9D1, _, _⟩ := bx (D9.out _ (grownBy_refl _ _))
                 clear ga gw hi)
              | (go_at_call 35
                 with_reducible refine (S2F.out _ (T9.out _ (grownBy_refl _ _)) (H9.out _ (grownBy_refl _ _)) (I9.out _ (grownBy_refl _ _))).mono ?_
                 rintro e v10 ⟨o, rfl, hi, gw⟩
                 obtain ⟨a11, c11, rfl, _⟩ := id hi
                 have ga := gw
                 have T10 := Lib.hid fun W h => T9.out W (ga.trans h)
                 have G10 := Lib.hid fun W h => G9.out W (ga.trans h)
                 have F10 := Lib.hid fun W h => F9.out W (ga.trans h)
                 have Y10 := Lib.hid fun W h => Y9.out W (ga.trans h)
                 have H10 := Lib.hid fun W h => H9.out W (ga.trans h)
                 have I10 := Lib.hid fun W h => I9.out W (ga.trans h)
                 have X10 := Lib.hid fun W h => X9.out W (ga.trans h)
                 have Z10 := Lib.hid fun W h => Z9.out W (ga.trans h)
                 have P10 := Lib.hid fun W h => P9.out W (ga.trans h)
                 have Q10 := Lib.hid fun W h => Q9.out W (ga.trans h)
                 have D10 := Lib.hid fun W h => D9.out W (ga.trans h)
                 have U10 := Lib.hid fun W h => U9.out W (ga.trans h)
                 have V10 := Lib.hid fun W (h : World.grownBy v10 W none) => hi.carry h
                 obtain ⟨y10D0, y10D1, _, _⟩ := bx (D10.out _ (grownBy_refl _ _))
                 clear ga gw hi)
              | (go_at_call 35
                 with_reducible refine (S3F.out _ _ _ (T10.out _ (grownBy_refl _ _)) (P10.out _ (grownBy_refl _ _)) (Q10.out _ (grownBy_refl _ _))).mono ?_
                 rintro e v11 ⟨o, rfl, hi, gw⟩
                 obtain ⟨a12, c12, rfl, _⟩ := id hi
                 have ga := gw
                 have T11 := Lib.hid fun W h => T10.out W (ga.trans h)
                 have G11 := Lib.hid fun W h => G10.out W (ga.trans h)
                 have F11 := Lib.hid fun W h => F10.out W (ga.trans h)
                 have Y11 := Lib.hid fun W h => Y10.out W (ga.trans h)
                 have H11 := Lib.hid fun W h => H10.out W (ga.trans h)
                 have I11 := Lib.hid fun W h => I10.out W (ga.trans h)
                 have X11 := Lib.hid fun W h => X10.out W (ga.trans h)
                 have Z11 := Lib.hid fun W h => Z10.out W (ga.trans h)
                 have P11 := Lib.hid fun W h => P10.out W (ga.trans h)
                 have Q11 := Lib.hid fun W h => Q10.out W (ga.trans h)
                 have D11 := Lib.hid fun W h => D10.out W (ga.trans h)
                 have U11 := Lib.hid fun W h => U10.out W (ga.trans h)
                 have V11 := Lib.hid fun W h => V10.out W (ga.trans h)
                 have W11 := Lib.hid fun W (h : World.grownBy v11 W none) => hi.carry h
                 clear ga gw hi))
            go_ret
            exact ⟨rfl, G11.out _ (grownBy_refl _ _)⟩
          · obtain ⟨e3, e4⟩ := hser h1 h2
            rw [h1, if_pos rfl] at s1
            rw [h2, if_pos rfl] at s2
            rw [e3, if_pos rfl, e4] at s3
            have S1F := Lib.hid s1; have S2F := Lib.hid s2; have S3F := Lib.hid s3
            clear s1 s2 s3 hser h1 h2 e3 e4
            generalize convL (q : Int) (serL (q : Int) f g (invI q (g.getD 0 0)) (12 : Int).toNat) (serL (q : Int) f' g' (invI q (g'.getD 0 0)) (12 : Int).toNat) 12 = CC at *
            generalize serL (q : Int) f g (invI q (g.getD 0 0)) (12 : Int).toNat = L1 at *
            generalize serL (q : Int) f' g' (invI q (g'.getD 0 0)) (12 : Int).toNat = L2 at *
            have HCL := Lib.hid hcl
            clear hcl
            go_wp2_with (first
              | (go_at_call 35
                 with_reducible refine (S1F.out _ (T8.out _ (grownBy_refl _ _)) (F8.out _ (grownBy_refl _ _)) (Y8.out _ (grownBy_refl _ _))).mono ?_
                 rintro e v9 ⟨o, rfl, hi, gw⟩
                 obtain ⟨a10, c10, rfl, _⟩ := id hi
                 have ga := gw
                 have T9 := Lib.hid fun W h => T8.out W (ga.trans h)
                 have G9 := Lib.hid fun W h => G8.out W (ga.trans h)
                 have F9 := Lib.hid fun W h => F8.out W (ga.trans h)
                 have Y9 := Lib.hid fun W h => Y8.out W (ga.trans h)
                 have H9 := Lib.hid fun W h => H8.out W (ga.trans h)
                 have I9 := Lib.hid fun W h => I8.out W (ga.trans h)
                 have X9 := Lib.hid fun W h => X8.out W (ga.trans h)
                 have Z9 := Lib.hid fun W h => Z8.out W (ga.trans h)
                 have P9 := Lib.hid fun W h => P8.out W (ga.trans h)
                 have Q9 := Lib.hid fun W h => Q8.out W (ga.trans h)
                 have D9 := Lib.hid fun W h => D8.out W (ga.trans h)
                 have U9 := Lib.hid fun W (h : World.grownBy v9 W none) => hi.carry h
                 obtain ⟨y9Z0, y9Z1, _, _⟩ := bx (Z9.out _ (grownBy_refl _ _))
                 obtain ⟨y9D0, y9D1, _, _⟩ := bx (D9.out _ (grownBy_refl _ _))
                 clear ga gw hi)
              | (go_at_call 35
                 with_reducible refine (S2F.out _ (T9.out _ (grownBy_refl _ _)) (H9.out _ (grownBy_refl _ _)) (I9.out _ (grownBy_refl _ _))).mono ?_
                 rintro e v10 ⟨o, rfl, hi, gw⟩
                 obtain ⟨a11, c11, rfl, _⟩ := id hi
                 have ga := gw
                 have T10 := Lib.hid fun W h => T9.out W (ga.trans h)
                 have G10 := Lib.hid fun W h => G9.out W (ga.trans h)
                 have F10 := Lib.hid fun W h => F9.out W (ga.trans h)
                 have Y10 := Lib.hid fun W h => Y9.out W (ga.trans h)
                 have H10 := Lib.hid fun W h => H9.out W (ga.trans h)
                 have I10 := Lib.hid fun W h => I9.out W (ga.trans h)
                 have X10 := Lib.hid fun W h => X9.out W (ga.trans h)
                 have Z10 := Lib.hid fun W h => Z9.out W (ga.trans h)
                 have P10 := Lib.hid fun W h => P9.out W (ga.trans h)
                 have Q10 := Lib.hid fun W h => Q9.out W (ga.trans h)
                 have D10 := Lib.hid fun W h => D9.out W (ga.trans h)
                 have U10 := Lib.hid fun W h => U9.out W (ga.trans h)
                 have V10 := Lib.hid fun W (h : World.grownBy v10 W none) => hi.carry h
                 obtain ⟨y10D0, y10D1, _, _⟩ := bx (D10.out _ (grownBy_refl _ _))
                 clear ga gw hi)
              | (go_at_call 35
                 with_reducible refine (S3F.out _ _ _ (T10.out _ (grownBy_refl _ _)) (P10.out _ (grownBy_refl _ _)) (Q10.out _ (grownBy_refl _ _))).mono ?_
                 rintro e v11 ⟨o, rfl, hi, gw⟩
                 obtain ⟨a12, c12, rfl, _⟩ := id hi
                 have ga := gw
                 have T11 := Lib.hid fun W h => T10.out W (ga.trans h)
                 have G11 := Lib.hid fun W h => G10.out W (ga.trans h)
                 have F11 := Lib.hid fun W h => F10.out W (ga.trans h)
                 have Y11 := Lib.hid fun W h => Y10.out W (ga.trans h)
                 have H11 := Lib.hid fun W h => H10.out W (ga.trans h)
                 have I11 := Lib.hid fun W h => I10.out W (ga.trans h)
                 have X11 := Lib.hid fun W h => X10.out W (ga.trans h)
                 have Z11 := Lib.hid fun W h => Z10.out W (ga.trans h)
                 have P11 := Lib.hid fun W h => P10.out W (ga.trans h)
                 have Q11 := Lib.hid fun W h => Q10.out W (ga.trans h)
                 have D11 := Lib.hid fun W h => D10.out W (ga.trans h)
                 have U11 := Lib.hid fun W h => U10.out W (ga.trans h)
                 have V11 := Lib.hid fun W h => V10.out W (ga.trans h)
                 have W11 := Lib.hid fun W (h : World.grownBy v11 W none) => hi.carry h
                 clear ga gw hi)
              | (go_at_call 43
                 with_reducible refine (CV.out _ _ _ (T11.out _ (grownBy_refl _ _)) (U11.out _ (grownBy_refl _ _)) (V11.out _ (grownBy_refl _ _))).mono ?_
                 rintro e v12 ⟨o, rfl, hi, gw⟩
                 obtain ⟨a13, c13, rfl, _⟩ := id hi
                 have ga := gw
                 have T12 := Lib.hid fun W h => T11.out W (ga.trans h)
                 have G12 := Lib.hid fun W h => G11.out W (ga.trans h)
                 have F12 := Lib.hid fun W h => F11.out W (ga.trans h)
                 have Y12 := Lib.hid fun W h => Y11.out W (ga.trans h)
                 have H12 := Lib.hid fun W h => H11.out W (ga.trans h)
                 have I12 := Lib.hid fun W h => I11.out W (ga.trans h)
                 have X12 := Lib.hid fun W h => X11.out W (ga.trans h)
                 have Z12 := Lib.hid fun W h => Z11.out W (ga.trans h)
                 have P12 := Lib.hid fun W h => P11.out W (ga.trans h)
                 have Q12 := Lib.hid fun W h => Q11.out W (ga.trans h)
                 have D12 := Lib.hid fun W h => D11.out W (ga.trans h)
                 have U12 := Lib.hid fun W h => U11.out W (ga.trans h)
                 have V12 := Lib.hid fun W h => V11.out W (ga.trans h)
                 have W12 := Lib.hid fun W h => W11.out W (ga.trans h)
                 have C12 := Lib.hid fun W (h : World.grownBy v12 W none) => hi.carry h
                 clear ga gw hi)
              | (go_at_call 17
                 with_reducible refine (same_self _ _ _ _ (C12.out _ (grownBy_refl _ _)) (W12.out _ (grownBy_refl _ _)) (by have := HCL.out; omega)).mono ?_
                 rintro e v13 ⟨rfl, gw⟩
                 have ga := gw
                 have T13 := Lib.hid fun W h => T12.out W (ga.trans h)
                 have G13 := Lib.hid fun W h => G12.out W (ga.trans h)
                 have F13 := Lib.hid fun W h => F12.out W (ga.trans h)
                 have Y13 := Lib.hid fun W h => Y12.out W (ga.trans h)
                 have H13 := Lib.hid fun W h => H12.out W (ga.trans h)
                 have I13 := Lib.hid fun W h => I12.out W (ga.trans h)
                 have X13 := Lib.hid fun W h => X12.out W (ga.trans h)
                 have Z13 := Lib.hid fun W h => Z12.out W (ga.trans h)
                 have P13 := Lib.hid fun W h => P12.out W (ga.trans h)
                 have Q13 := Lib.hid fun W h => Q12.out W (ga.trans h)
                 have D13 := Lib.hid fun W h => D12.out W (ga.trans h)
                 have U13 := Lib.hid fun W h => U12.out W (ga.trans h)
                 have V13 := Lib.hid fun W h => V12.out W (ga.trans h)
                 have W13 := Lib.hid fun W h => W12.out W (ga.trans h)
                 have C13 := Lib.hid fun W h => C12.out W (ga.trans h)
                 clear ga gw))
            go_ret
            exact ⟨rfl, G13.out _ (grownBy_refl _ _)⟩
end Go.Proofs.YtpeaeminjbjlnaaDoor

/-
  The law on polynomials: its walk. Conditions: both arguments read as bytes; the table of small primes holds what its text lays.
-/
import Derived.Test.YtpeaeminjbjlnaaDoorMp02
import Derived.Test.YtpeaeminjbjlnaaDoorMp03
import Derived.Test.YtpeaeminjbjlnaaDoorMp04
import Derived.Test.YtpeaeminjbjlnaaDoorMj07
import Derived.Deep.CutRange
namespace Go.Proofs.YtpeaeminjbjlnaaDoor
open Go.RowKit
set_option linter.unusedVariables false

theorem nil_shape {w : World} {v : Value} (h : IntsV w v []) : ∃ a c, v = .slice a 0 c := by
  obtain ⟨a, c, rfl, _⟩ := h
  exact ⟨a, c, rfl⟩
theorem polyB_len {p : Int} {f : List Int} (h : polyB p f = true) : f.length ≤ 41 := by
  obtain ⟨q, iq, rfl, hf, hq, hq2, l1, o1⟩ := polyB_nat h
  exact l1
theorem two_t {a b : Bool} (h1 : a = true) (h2 : b = true) : (a && b) = true := by rw [h1, h2]; rfl
theorem cMul_le (p : Int) (u v : Value) (f g : List Int) (w : World) (ht : Tab w) (hu : IntsV w u f) (hv : IntsV w v g) (lf : f.length ≤ 1000000) (lg : g.length ≤ 1000000) (hb : (polyB p f && polyB p g) = true) (hl : (poMulL p f g).length ≤ 41) :
    Calls Tryd.prog 18 #[.int .i64 p, u, v] w fun e w' => ∃ o, e = .returned (.tuple #[o, .bool true]) ∧ IntsV w' o (poMulL p f g) ∧ w.grownBy w' none := by
  have h := cMul_yes p u v f g w ht hu hv lf lg hb
  rw [decide_eq_true hl, if_pos hl] at h
  exact h
theorem sMul_le (p : Int) (u v : Value) (f g : List Int) (w : World) (hp0 : -1000 ≤ p) (hp1 : p ≤ 1000) (hu : IntsV w u f) (hv : IntsV w v g) (lf : f.length ≤ 1000000) (lg : g.length ≤ 1000000) (hb : (polyB p f && polyB p g) = true) (hl : (poMulL p f g).length ≤ 41) :
    Calls Tryd.prog 19 #[.int .i64 p, u, v] w fun e w' => ∃ o, e = .returned (.tuple #[o, .bool true]) ∧ IntsV w' o (poMulL p f g) ∧ w.grownBy w' none := by
  have h := sMul_yes p u v f g w hp0 hp1 hu hv lf lg hb
  rw [decide_eq_true hl, if_pos hl] at h
  exact h
theorem eval_m {p : Int} (u : Value) (f g : List Int) (X : Int) (w : World) (ht : Tab w) (hb : (polyB p f && polyB p g) = true) (hl : (poMulL p f g).length ≤ 41) (hu : IntsV w u (poMulL p f g)) (hX : 0 ≤ X ∧ X < p) : Calls Tryd.prog 24 #[.int .i64 p, u, .int .i64 X] w fun e w' => e = .returned (.tuple #[.int .i64 (evTo p f X f.length * evTo p g X g.length % p), .bool true]) ∧ w.grownBy w' none := by
  have h := cEval_yes p u _ X w ht hu (by omega) (po_mulB hb hl) hX
  rw [(po_eval hb X).1] at h
  exact h
set_option maxRecDepth 100000 in
set_option maxHeartbeats 40000000 in
theorem fnPolynomials_any (cv mv : Value) (w : World) (hc : CodeRaw w cv) (hm : CodeRaw w mv) (ht : Tab w) : Calls Tryd.prog 3 #[cv, mv] w (Gives (.bool true) w) := by
  have HT := Lib.hid ht
  obtain ⟨a1, l1, c1, rfl, hl1, hx1⟩ := hc
  obtain ⟨a2, l2, c2, rfl, hl2, hx2⟩ := hm
  have HX1 := Lib.hid hx1
  have HX2 := Lib.hid hx2
  clear ht hx1 hx2
  cases hbig : bigB l1 l2
  case true =>
    go_enter Tryd.func3, Tryd.ntmps3
    go_wp2_with (go_at_call 13; refine (big_any _ _ _ _ _ _ _ hl1 hl2).mono ?_; rintro e w' ⟨rfl, rfl⟩)
    go_ret
    exact ⟨rfl, grownBy_refl _ _⟩
  case false =>
    obtain ⟨b1, b2⟩ := bigB_no hbig
    have HC := Lib.hid (show CodeAt w (.slice a1 l1 c1) from ⟨a1, l1, c1, rfl, by omega, HX1.out⟩)
    have HM := Lib.hid (show CodeAt w (.slice a2 l2 c2) from ⟨a2, l2, c2, rfl, by omega, HX2.out⟩)
    clear b1 b2
    go_enter Tryd.func3, Tryd.ntmps3
    go_wp2_with fail
    refine (big_any _ _ _ _ _ _ _ hl1 hl2).mono ?_
    rintro e w' ⟨rfl, rfl⟩
    go_wp2_with fail
    refine (drawPolyDivide_any _ _ HC.out).mono ?_
    rintro e w1 ⟨p, o1, o2, f, g, rfl, hp2, hp97, hF, hG, hf, hg, g1⟩
    obtain ⟨fa, fc, rfl, _⟩ := id hf
    obtain ⟨ya, yc, rfl, _⟩ := id hg
    have T0 := Lib.hid fun W (h : w1.grownBy W none) => HT.out.grown (g1.trans h)
    have G0 := Lib.hid fun W (h : w1.grownBy W none) => g1.trans h
    have F0 := Lib.hid fun W (h : w1.grownBy W none) => hf.carry h
    have Y0 := Lib.hid fun W (h : w1.grownBy W none) => hg.carry h
    have lf : f.length ≤ 1000000 := by have := hF.1; omega
    have lg : g.length ≤ 1000000 := by have := hG.1; omega
    have hp0 : -1000 ≤ (p : Int) := by omega
    have hp1 : (p : Int) ≤ 1000 := by omega
    have NI := Lib.hid fun W => IntsV.nil W
    clear hf hg g1 hF hG HC HX1 HX2 HT hbig hl1 hl2
    cases hb : (polyB p f && polyB p g)
    case false =>
      have cd := fun W t hf hg => cDiv_no (p : Int) (.slice fa f.length fc) (.slice ya g.length yc) f g W t hf hg lf lg (Or.inl hb)
      have sd := fun W hf hg => sDiv_no (p : Int) (.slice fa f.length fc) (.slice ya g.length yc) f g W hp0 hp1 hf hg lf lg (Or.inl hb)
      have cm := fun W t hf hg => cMul_no (p : Int) (.slice fa f.length fc) (.slice ya g.length yc) f g W t hf hg lf lg hb
      have sm := fun W hf hg => sMul_no (p : Int) (.slice fa f.length fc) (.slice ya g.length yc) f g W hp0 hp1 hf hg lf lg hb
      unfold nilS at cd sd cm sm
      have CD := Lib.hid cd; have SD := Lib.hid sd; have CM := Lib.hid cm; have SM := Lib.hid sm
      clear cd sd cm sm hb
      go_wp2_with (first
        | (go_at_call 15
           with_reducible refine (CD.out _ (T0.out _ (grownBy_refl _ _)) (F0.out _ (grownBy_refl _ _)) (Y0.out _ (grownBy_refl _ _))).mono ?_
           rintro e v1 ⟨rfl, g⟩
           have T1 := Lib.hid fun W h => T0.out W (g.trans h)
           have G1 := Lib.hid fun W h => G0.out W (g.trans h)
           have F1 := Lib.hid fun W h => F0.out W (g.trans h)
           have Y1 := Lib.hid fun W h => Y0.out W (g.trans h)
           clear g)
        | (go_at_call 16
           with_reducible refine (SD.out _ (F1.out _ (grownBy_refl _ _)) (Y1.out _ (grownBy_refl _ _))).mono ?_
           rintro e v2 ⟨rfl, g⟩
           have T2 := Lib.hid fun W h => T1.out W (g.trans h)
           have G2 := Lib.hid fun W h => G1.out W (g.trans h)
           have F2 := Lib.hid fun W h => F1.out W (g.trans h)
           have Y2 := Lib.hid fun W h => Y1.out W (g.trans h)
           clear g)
        | (go_at_call 17
           with_reducible refine (same_self (.slice none 0 0) (.slice none 0 0) [] v2 (NI.out _) (NI.out _) (by simp)).mono ?_
           rintro e v3 ⟨rfl, g⟩
           have T3 := Lib.hid fun W h => T2.out W (g.trans h)
           have G3 := Lib.hid fun W h => G2.out W (g.trans h)
           have F3 := Lib.hid fun W h => F2.out W (g.trans h)
           have Y3 := Lib.hid fun W h => Y2.out W (g.trans h)
           clear g)
        | (go_at_call 17
           with_reducible refine (same_self (.slice none 0 0) (.slice none 0 0) [] v3 (NI.out _) (NI.out _) (by simp)).mono ?_
           rintro e v4 ⟨rfl, g⟩
           have T4 := Lib.hid fun W h => T3.out W (g.trans h)
           have G4 := Lib.hid fun W h => G3.out W (g.trans h)
           have F4 := Lib.hid fun W h => F3.out W (g.trans h)
           have Y4 := Lib.hid fun W h => Y3.out W (g.trans h)
           clear g)
        | (go_at_call 18
           with_reducible refine (CM.out _ (T4.out _ (grownBy_refl _ _)) (F4.out _ (grownBy_refl _ _)) (Y4.out _ (grownBy_refl _ _))).mono ?_
           rintro e v5 ⟨rfl, g⟩
           have T5 := Lib.hid fun W h => T4.out W (g.trans h)
           have G5 := Lib.hid fun W h => G4.out W (g.trans h)
           have F5 := Lib.hid fun W h => F4.out W (g.trans h)
           have Y5 := Lib.hid fun W h => Y4.out W (g.trans h)
           clear g)
        | (go_at_call 19
           with_reducible refine (SM.out _ (F5.out _ (grownBy_refl _ _)) (Y5.out _ (grownBy_refl _ _))).mono ?_
           rintro e v6 ⟨rfl, g⟩
           have T6 := Lib.hid fun W h => T5.out W (g.trans h)
           have G6 := Lib.hid fun W h => G5.out W (g.trans h)
           have F6 := Lib.hid fun W h => F5.out W (g.trans h)
           have Y6 := Lib.hid fun W h => Y5.out W (g.trans h)
           clear g)
        | (go_at_call 17
           with_reducible refine (same_self (.slice none 0 0) (.slice none 0 0) [] v6 (NI.out _) (NI.out _) (by simp)).mono ?_
           rintro e v7 ⟨rfl, g⟩
           have T7 := Lib.hid fun W h => T6.out W (g.trans h)
           have G7 := Lib.hid fun W h => G6.out W (g.trans h)
           have F7 := Lib.hid fun W h => F6.out W (g.trans h)
           have Y7 := Lib.hid fun W h => Y6.out W (g.trans h)
           clear g))
      go_ret
      exact ⟨rfl, G7.out _ (grownBy_refl _ _)⟩
    case true =>
      have hbb := hb
      rw [Bool.and_eq_true] at hbb
      have HB := Lib.hid hb; have HBF := Lib.hid hbb.1; have HBG := Lib.hid hbb.2
      have lf2 := polyB_len hbb.1
      have lg2 := polyB_len hbb.2
      have EF := Lib.hid fun W X t hf hX => cEval_yes (p : Int) (.slice fa f.length fc) f X W t hf lf hbb.1 hX
      have EG := Lib.hid fun W X t hg hX => cEval_yes (p : Int) (.slice ya g.length yc) g X W t hg lg hbb.2 hX
      have hpp0 : ((p : Int) == 0) = false := by rw [beq_eq_false_iff_ne]; omega
      have hpp1 : (p : Int) ≠ 0 := by omega
      clear hb hbb
      by_cases hg0 : g = []
      · have hl : (poMulL p f g).length ≤ 41 := by rw [hg0]; unfold poMulL; rw [if_pos (Or.inr rfl)]; simp
        have cd := fun W t hf hg => cDiv_no (p : Int) (.slice fa f.length fc) (.slice ya g.length yc) f g W t hf hg lf lg (Or.inr hg0)
        have sd := fun W hf hg => sDiv_no (p : Int) (.slice fa f.length fc) (.slice ya g.length yc) f g W hp0 hp1 hf hg lf lg (Or.inr hg0)
        unfold nilS at cd sd
        have CD := Lib.hid cd; have SD := Lib.hid sd
        have CM := Lib.hid fun W t hf hg => cMul_le (p : Int) (.slice fa f.length fc) (.slice ya g.length yc) f g W t hf hg lf lg HB.out hl
        have SM := Lib.hid fun W hf hg => sMul_le (p : Int) (.slice fa f.length fc) (.slice ya g.length yc) f g W hp0 hp1 hf hg lf lg HB.out hl
        have EM := Lib.hid fun W u X t hu hX => eval_m (p := (p : Int)) u f g X W t HB.out hl hu hX
        clear cd sd hg0
        go_wp2_with (first
          | (go_at_call 15
             with_reducible refine (CD.out _ (T0.out _ (grownBy_refl _ _)) (F0.out _ (grownBy_refl _ _)) (Y0.out _ (grownBy_refl _ _))).mono ?_
             rintro e v1 ⟨rfl, g⟩
             have T1 := Lib.hid fun W h => T0.out W (g.trans h)
             have G1 := Lib.hid fun W h => G0.out W (g.trans h)
             have F1 := Lib.hid fun W h => F0.out W (g.trans h)
             have Y1 := Lib.hid fun W h => Y0.out W (g.trans h)
             clear g)
          | (go_at_call 16
             with_reducible refine (SD.out _ (F1.out _ (grownBy_refl _ _)) (Y1.out _ (grownBy_refl _ _))).mono ?_
             rintro e v2 ⟨rfl, g⟩
             have T2 := Lib.hid fun W h => T1.out W (g.trans h)
             have G2 := Lib.hid fun W h => G1.out W (g.trans h)
             have F2 := Lib.hid fun W h => F1.out W (g.trans h)
             have Y2 := Lib.hid fun W h => Y1.out W (g.trans h)
             clear g)
          | (go_at_call 17
             with_reducible refine (same_self (.slice none 0 0) (.slice none 0 0) [] v2 (NI.out _) (NI.out _) (by simp)).mono ?_
             rintro e v3 ⟨rfl, g⟩
             have T3 := Lib.hid fun W h => T2.out W (g.trans h)
             have G3 := Lib.hid fun W h => G2.out W (g.trans h)
             have F3 := Lib.hid fun W h => F2.out W (g.trans h)
             have Y3 := Lib.hid fun W h => Y2.out W (g.trans h)
             clear g)
          | (go_at_call 17
             with_reducible refine (same_self (.slice none 0 0) (.slice none 0 0) [] v3 (NI.out _) (NI.out _) (by simp)).mono ?_
             rintro e v4 ⟨rfl, g⟩
             have T4 := Lib.hid fun W h => T3.out W (g.trans h)
             have G4 := Lib.hid fun W h => G3.out W (g.trans h)
             have F4 := Lib.hid fun W h => F3.out W (g.trans h)
             have Y4 := Lib.hid fun W h => Y3.out W (g.trans h)
             clear g)
          | (go_at_call 18
             with_reducible refine (CM.out _ (T4.out _ (grownBy_refl _ _)) (F4.out _ (grownBy_refl _ _)) (Y4.out _ (grownBy_refl _ _))).mono ?_
             rintro e v5 ⟨o, rfl, hi, g⟩
             obtain ⟨a5, c5, rfl, _⟩ := id hi
             have T5 := Lib.hid fun W h => T4.out W (g.trans h)
             have G5 := Lib.hid fun W h => G4.out W (g.trans h)
             have F5 := Lib.hid fun W h => F4.out W (g.trans h)
             have Y5 := Lib.hid fun W h => Y4.out W (g.trans h)
             have M5 := Lib.hid fun W (h : v5.grownBy W none) => hi.carry h
             clear g hi)
          | (go_at_call 19
             with_reducible refine (SM.out _ (F5.out _ (grownBy_refl _ _)) (Y5.out _ (grownBy_refl _ _))).mono ?_
             rintro e v6 ⟨o, rfl, hi, g⟩
             obtain ⟨a6, c6, rfl, _⟩ := id hi
             have T6 := Lib.hid fun W h => T5.out W (g.trans h)
             have G6 := Lib.hid fun W h => G5.out W (g.trans h)
             have F6 := Lib.hid fun W h => F5.out W (g.trans h)
             have Y6 := Lib.hid fun W h => Y5.out W (g.trans h)
             have M6 := Lib.hid fun W h => M5.out W (g.trans h)
             have N6 := Lib.hid fun W (h : v6.grownBy W none) => hi.carry h
             clear g hi)
          | (go_at_call 17
             with_reducible refine (same_self _ _ _ _ (M6.out _ (grownBy_refl _ _)) (N6.out _ (grownBy_refl _ _)) (by omega)).mono ?_
             rintro e v7 ⟨rfl, g⟩
             have T7 := Lib.hid fun W h => T6.out W (g.trans h)
             have G7 := Lib.hid fun W h => G6.out W (g.trans h)
             have F7 := Lib.hid fun W h => F6.out W (g.trans h)
             have Y7 := Lib.hid fun W h => Y6.out W (g.trans h)
             have M7 := Lib.hid fun W h => M6.out W (g.trans h)
             clear g)
          | (go_at_call 23
             have hcm := HM.out.carry (G7.out _ (grownBy_refl _ _))
             refine (numberOf_any _ _ hcm).mono ?_
             rintro e v8 ⟨n, rfl, n0, n1, rfl⟩
             clear hcm
             have htm0 : n.tmod p = n % p := Int.tmod_eq_emod_of_nonneg n0
             have hr0 := Int.emod_nonneg n hpp1
             have hr1 := Int.emod_lt_of_pos n (show (0 : Int) < p by omega)
             have hwx : IntKind.i64.wrap (n % p) = n % p := by
               generalize n % (p : Int) = xx at *
               rw [IntKind.wrap_i64]; omega
             have HX := Lib.hid (And.intro hr0 hr1)
             have hev := po_eval HB.out (n % p)
             generalize hxe : n % (p : Int) = X at *
             have htm : (evTo p f X f.length * evTo p g X g.length).tmod p = (evTo p f X f.length * evTo p g X g.length) % p := Int.tmod_eq_emod_of_nonneg (Int.mul_nonneg hev.2.1.1 hev.2.2.1)
             have hmb := mul_bd2 (a := evTo p f X f.length) (b := evTo p g X g.length) (A := 97) (B := 97) (by omega) (by omega) (by omega) (by omega)
             have hwr : IntKind.i64.wrap (evTo p f X f.length * evTo p g X g.length) = evTo p f X f.length * evTo p g X g.length := by
               generalize evTo p f X f.length * evTo p g X g.length = dd at *
               rw [IntKind.wrap_i64]; omega
             have hmd0 := Int.emod_nonneg (evTo p f X f.length * evTo p g X g.length) hpp1
             have hmd1 := Int.emod_lt_of_pos (evTo p f X f.length * evTo p g X g.length) (show (0 : Int) < p by omega)
             have hwr2 : IntKind.i64.wrap ((evTo p f X f.length * evTo p g X g.length) % p) = (evTo p f X f.length * evTo p g X g.length) % p := by
               generalize (evTo p f X f.length * evTo p g X g.length) % (p : Int) = dd at *
               rw [IntKind.wrap_i64]; omega
             clear hev hmb hmd0 hmd1 hr0 hr1)
          | (go_at_call 24
             with_reducible refine (EF.out _ _ (T7.out _ (grownBy_refl _ _)) (F7.out _ (grownBy_refl _ _)) HX.out).mono ?_
             rintro e v9 ⟨rfl, g⟩
             have T9 := Lib.hid fun W h => T7.out W (g.trans h)
             have G9 := Lib.hid fun W h => G7.out W (g.trans h)
             have F9 := Lib.hid fun W h => F7.out W (g.trans h)
             have Y9 := Lib.hid fun W h => Y7.out W (g.trans h)
             have M9 := Lib.hid fun W h => M7.out W (g.trans h)
             clear g)
          | (go_at_call 24
             with_reducible refine (EG.out _ _ (T9.out _ (grownBy_refl _ _)) (Y9.out _ (grownBy_refl _ _)) HX.out).mono ?_
             rintro e v10 ⟨rfl, g⟩
             have T10 := Lib.hid fun W h => T9.out W (g.trans h)
             have G10 := Lib.hid fun W h => G9.out W (g.trans h)
             have F10 := Lib.hid fun W h => F9.out W (g.trans h)
             have Y10 := Lib.hid fun W h => Y9.out W (g.trans h)
             have M10 := Lib.hid fun W h => M9.out W (g.trans h)
             clear g)
          | (go_at_call 24
             with_reducible refine (EM.out _ _ _ (T10.out _ (grownBy_refl _ _)) (M10.out _ (grownBy_refl _ _)) HX.out).mono ?_
             rintro e v11 ⟨rfl, g⟩
             have T11 := Lib.hid fun W h => T10.out W (g.trans h)
             have G11 := Lib.hid fun W h => G10.out W (g.trans h)
             have F11 := Lib.hid fun W h => F10.out W (g.trans h)
             have Y11 := Lib.hid fun W h => Y10.out W (g.trans h)
             have M11 := Lib.hid fun W h => M10.out W (g.trans h)
             clear g))
        go_ret
        exact ⟨rfl, G11.out _ (grownBy_refl _ _)⟩
      · have PF := po_facts HB.out hg0
        have lq := polyB_len PF.fq; have lr := polyB_len PF.fr; have ld := polyB_len PF.fd; have lu := polyB_len PF.fu; have lv := polyB_len PF.fv; have lk := PF.lk; have hrl := PF.rl; have lz := PF.zl
        have lx := polyB_len PF.fx; have ly := polyB_len PF.fy
        have EM := Lib.hid fun W u X t (hl : (poMulL p f g).length ≤ 41) hu hX => eval_m (p := (p : Int)) u f g X W t HB.out hl hu hX
        have CD := Lib.hid fun W t hf hg => cDiv_yes (p : Int) (.slice fa f.length fc) (.slice ya g.length yc) f g W t hf hg lf lg HB.out hg0
        have SD := Lib.hid fun W hf hg => sDiv_yes (p : Int) (.slice fa f.length fc) (.slice ya g.length yc) f g W hp0 hp1 hf hg lf lg HB.out hg0
        have CM := Lib.hid fun W t hf hg => cMul_yes (p : Int) (.slice fa f.length fc) (.slice ya g.length yc) f g W t hf hg lf lg HB.out
        have SM := Lib.hid fun W hf hg => sMul_yes (p : Int) (.slice fa f.length fc) (.slice ya g.length yc) f g W hp0 hp1 hf hg lf lg HB.out
        have CA := Lib.hid fun W v t hq hg => cMul_le (p : Int) v (.slice ya g.length yc) (quoL p f g) g W t hq hg (by omega) lg (two_t PF.fq HBG.out) PF.lk
        have cb := fun W u v t hu hv => cAdd_yes (p : Int) u v (poMulL p (quoL p f g) g) (remL p f g) W t hu hv (by omega) (by omega) (two_t PF.fk PF.fr)
        rw [PF.back] at cb
        have CB := Lib.hid cb
        have BZ := Lib.hid fun W t hf hg => cBez_yes (p : Int) (.slice fa f.length fc) (.slice ya g.length yc) f g W t hf hg lf lg HB.out hg0
        have GC := Lib.hid fun W t hf hg => cGcd_yes (p : Int) (.slice fa f.length fc) (.slice ya g.length yc) f g W t hf hg lf lg HB.out hg0
        have CX := Lib.hid fun W v t hu hf => cMul_yes (p : Int) v (.slice fa f.length fc) (invL p f g (gcdL p f g)) f W t hu hf (by omega) lf (two_t PF.fu HBF.out)
        have CY := Lib.hid fun W v t hu hf => cMul_yes (p : Int) v (.slice ya g.length yc) (cofL p f g) g W t hu hf (by omega) lg (two_t PF.fv HBG.out)
        have CZ := Lib.hid fun W u v t hu hv => cAdd_yes (p : Int) u v (cutK (poMulL p (invL p f g (gcdL p f g)) f)) (cutK (poMulL p (cofL p f g) g)) W t hu hv (by omega) (by omega) (two_t PF.fx PF.fy)
        have rf := fun W v t hf hd => cDiv_yes (p : Int) (.slice fa f.length fc) v f (gcdL p f g) W t hf hd lf (by omega) (two_t HBF.out PF.fd) PF.dne
        have rg := fun W v t hf hd => cDiv_yes (p : Int) (.slice ya g.length yc) v g (gcdL p f g) W t hf hd lg (by omega) (two_t HBG.out PF.fd) PF.dne
        rw [PF.rf] at rf
        rw [PF.rg] at rg
        have RF := Lib.hid rf; have RG := Lib.hid rg
        have hsum := PF.sum
        have hkl : (cutK (poMulL p f g)).length ≤ 41 := cutK_len _
        have hkt : decide ((poMulL p f g).length ≤ 41) = true → (poMulL p f g).length ≤ 41 ∧ cutK (poMulL p f g) = poMulL p f g := fun h => by
          have h := of_decide_eq_true h
          exact ⟨h, by unfold cutK; rw [if_pos h]⟩
        unfold cutK at CZ hsum lz lx ly hkl hkt
        have HKT := Lib.hid hkt; have HSUM := Lib.hid hsum
        have hrl2 : ¬ (g.length : Int) ≤ ((remL p f g).length : Int) := by omega
        clear PF cb rf rg hsum hkt hg0 hrl
        generalize hKK : poMulL p f g = K at *
        generalize hkb : decide (K.length ≤ 41) = kb at *
        generalize hKI : (if K.length ≤ 41 then K else []) = KI at *
        generalize quoL p f g = Q at *
        generalize remL p f g = R at *
        generalize poMulL p Q g = A at *
        generalize gcdL p f g = D at *
        generalize invL p f g D = U at *
        generalize cofL p f g = V at *
        generalize poMulL p U f = K1 at *
        generalize poMulL p V g = K2 at *
        generalize hk1 : decide (K1.length ≤ 41) = k1 at *
        generalize hk2 : decide (K2.length ≤ 41) = k2 at *
        generalize (if K1.length ≤ 41 then K1 else []) = X1 at *
        generalize (if K2.length ≤ 41 then K2 else []) = X2 at *
        generalize poAddL p X1 1 X2 = Z at *
        have HSM := Lib.hid (show k1 = true → k2 = true → Z = D from fun h1 h2 => HSUM.out (of_decide_eq_true (hk1.trans h1)) (of_decide_eq_true (hk2.trans h2)))
        clear hk1 hk2 hkb hKI hKK HSUM
        go_upto_if 110 with (first
          | (go_at_call 15
             with_reducible refine (CD.out _ (T0.out _ (grownBy_refl _ _)) (F0.out _ (grownBy_refl _ _)) (Y0.out _ (grownBy_refl _ _))).mono ?_
             rintro e v1 ⟨o1, o2, rfl, h1, h2, g⟩
             obtain ⟨aq, cq, rfl, _⟩ := id h1
             obtain ⟨ar, cr, rfl, _⟩ := id h2
             have T1 := Lib.hid fun W h => T0.out W (g.trans h)
             have G1 := Lib.hid fun W h => G0.out W (g.trans h)
             have F1 := Lib.hid fun W h => F0.out W (g.trans h)
             have Y1 := Lib.hid fun W h => Y0.out W (g.trans h)
             have Q1 := Lib.hid fun W (h : v1.grownBy W none) => h1.carry h
             have R1 := Lib.hid fun W (h : v1.grownBy W none) => h2.carry h
             clear g h1 h2)
          | (go_at_call 16
             with_reducible refine (SD.out _ (F1.out _ (grownBy_refl _ _)) (Y1.out _ (grownBy_refl _ _))).mono ?_
             rintro e v2 ⟨o1, o2, rfl, h1, h2, g⟩
             obtain ⟨aq2, cq2, rfl, _⟩ := id h1
             obtain ⟨ar2, cr2, rfl, _⟩ := id h2
             have T2 := Lib.hid fun W h => T1.out W (g.trans h)
             have G2 := Lib.hid fun W h => G1.out W (g.trans h)
             have F2 := Lib.hid fun W h => F1.out W (g.trans h)
             have Y2 := Lib.hid fun W h => Y1.out W (g.trans h)
             have Q2 := Lib.hid fun W h => Q1.out W (g.trans h)
             have R2 := Lib.hid fun W h => R1.out W (g.trans h)
             have Q22 := Lib.hid fun W (h : v2.grownBy W none) => h1.carry h
             have R22 := Lib.hid fun W (h : v2.grownBy W none) => h2.carry h
             clear g h1 h2)
          | (go_at_call 17
             with_reducible refine (same_self _ _ _ _ (Q2.out _ (grownBy_refl _ _)) (Q22.out _ (grownBy_refl _ _)) (by omega)).mono ?_
             rintro e v3 ⟨rfl, g⟩
             have T3 := Lib.hid fun W h => T2.out W (g.trans h)
             have G3 := Lib.hid fun W h => G2.out W (g.trans h)
             have F3 := Lib.hid fun W h => F2.out W (g.trans h)
             have Y3 := Lib.hid fun W h => Y2.out W (g.trans h)
             have Q3 := Lib.hid fun W h => Q2.out W (g.trans h)
             have R3 := Lib.hid fun W h => R2.out W (g.trans h)
             have R23 := Lib.hid fun W h => R22.out W (g.trans h)
             clear g)
          | (go_at_call 17
             with_reducible refine (same_self _ _ _ _ (R3.out _ (grownBy_refl _ _)) (R23.out _ (grownBy_refl _ _)) (by omega)).mono ?_
             rintro e v4 ⟨rfl, g⟩
             have T4 := Lib.hid fun W h => T3.out W (g.trans h)
             have G4 := Lib.hid fun W h => G3.out W (g.trans h)
             have F4 := Lib.hid fun W h => F3.out W (g.trans h)
             have Y4 := Lib.hid fun W h => Y3.out W (g.trans h)
             have Q4 := Lib.hid fun W h => Q3.out W (g.trans h)
             have R4 := Lib.hid fun W h => R3.out W (g.trans h)
             clear g)
          | (go_at_call 18
             with_reducible refine (CM.out _ (T4.out _ (grownBy_refl _ _)) (F4.out _ (grownBy_refl _ _)) (Y4.out _ (grownBy_refl _ _))).mono ?_
             rintro e v5 ⟨o, rfl, hi, g⟩
             obtain ⟨am, cm, rfl, _⟩ := id hi
             have T5 := Lib.hid fun W h => T4.out W (g.trans h)
             have G5 := Lib.hid fun W h => G4.out W (g.trans h)
             have F5 := Lib.hid fun W h => F4.out W (g.trans h)
             have Y5 := Lib.hid fun W h => Y4.out W (g.trans h)
             have Q5 := Lib.hid fun W h => Q4.out W (g.trans h)
             have R5 := Lib.hid fun W h => R4.out W (g.trans h)
             have M5 := Lib.hid fun W (h : v5.grownBy W none) => hi.carry h
             clear g hi)
          | (go_at_call 19
             with_reducible refine (SM.out _ (F5.out _ (grownBy_refl _ _)) (Y5.out _ (grownBy_refl _ _))).mono ?_
             rintro e v6 ⟨o, rfl, hi, g⟩
             obtain ⟨an, cn, rfl, _⟩ := id hi
             have T6 := Lib.hid fun W h => T5.out W (g.trans h)
             have G6 := Lib.hid fun W h => G5.out W (g.trans h)
             have F6 := Lib.hid fun W h => F5.out W (g.trans h)
             have Y6 := Lib.hid fun W h => Y5.out W (g.trans h)
             have Q6 := Lib.hid fun W h => Q5.out W (g.trans h)
             have R6 := Lib.hid fun W h => R5.out W (g.trans h)
             have M6 := Lib.hid fun W h => M5.out W (g.trans h)
             have N6 := Lib.hid fun W (h : v6.grownBy W none) => hi.carry h
             clear g hi)
          | (go_at_call 17
             with_reducible refine (same_self _ _ _ _ (M6.out _ (grownBy_refl _ _)) (N6.out _ (grownBy_refl _ _)) (by omega)).mono ?_
             rintro e v7 ⟨rfl, g⟩
             have T7 := Lib.hid fun W h => T6.out W (g.trans h)
             have G7 := Lib.hid fun W h => G6.out W (g.trans h)
             have F7 := Lib.hid fun W h => F6.out W (g.trans h)
             have Y7 := Lib.hid fun W h => Y6.out W (g.trans h)
             have Q7 := Lib.hid fun W h => Q6.out W (g.trans h)
             have R7 := Lib.hid fun W h => R6.out W (g.trans h)
             have M7 := Lib.hid fun W h => M6.out W (g.trans h)
             clear g))
        go_cut [18, 19, 20, 21, 22, 23, 24, 25, 26, 27, 28, 29, 30, 31, 32, 33, 34, 35, 36, 37, 38, 39] from 111 to 240 (fun u18 u19 u20 u21 u22 u23 u24 u25 u26 u27 u28 u29 u30 u31 u32 u33 u34 u35 u36 u37 u38 u39 wx => v7.grownBy wx none)
        case first =>
          cases k1
          · go_wp2_with (first
              | (go_at_call 18
                 with_reducible refine (CA.out _ _ (T7.out _ (grownBy_refl _ _)) (Q7.out _ (grownBy_refl _ _)) (Y7.out _ (grownBy_refl _ _))).mono ?_
                 rintro e v8 ⟨o, rfl, hi, g⟩
                 have J8 := Lib.hid g
                 obtain ⟨a8, c8, rfl, _⟩ := id hi
                 have T8 := Lib.hid fun W h => T7.out W (g.trans h)
                 have G8 := Lib.hid fun W h => G7.out W (g.trans h)
                 have F8 := Lib.hid fun W h => F7.out W (g.trans h)
                 have Y8 := Lib.hid fun W h => Y7.out W (g.trans h)
                 have Q8 := Lib.hid fun W h => Q7.out W (g.trans h)
                 have R8 := Lib.hid fun W h => R7.out W (g.trans h)
                 have M8 := Lib.hid fun W h => M7.out W (g.trans h)
                 have A8 := Lib.hid fun W (h : v8.grownBy W none) => hi.carry h
                 clear g hi)
              | (go_at_call 20
                 with_reducible refine (CB.out _ _ _ (T8.out _ (grownBy_refl _ _)) (A8.out _ (grownBy_refl _ _)) (R8.out _ (grownBy_refl _ _))).mono ?_
                 rintro e v9 ⟨o, rfl, hi, g⟩
                 have J9 := Lib.hid (J8.out.trans g)
                 obtain ⟨a9, c9, rfl, _⟩ := id hi
                 have T9 := Lib.hid fun W h => T8.out W (g.trans h)
                 have G9 := Lib.hid fun W h => G8.out W (g.trans h)
                 have F9 := Lib.hid fun W h => F8.out W (g.trans h)
                 have Y9 := Lib.hid fun W h => Y8.out W (g.trans h)
                 have Q9 := Lib.hid fun W h => Q8.out W (g.trans h)
                 have R9 := Lib.hid fun W h => R8.out W (g.trans h)
                 have M9 := Lib.hid fun W h => M8.out W (g.trans h)
                 have B9 := Lib.hid fun W (h : v9.grownBy W none) => hi.carry h
                 clear g hi)
              | (go_at_call 17
                 with_reducible refine (same_self _ _ _ _ (B9.out _ (grownBy_refl _ _)) (F9.out _ (grownBy_refl _ _)) (by omega)).mono ?_
                 rintro e v10 ⟨rfl, g⟩
                 have J10 := Lib.hid (J9.out.trans g)
                 have T10 := Lib.hid fun W h => T9.out W (g.trans h)
                 have G10 := Lib.hid fun W h => G9.out W (g.trans h)
                 have F10 := Lib.hid fun W h => F9.out W (g.trans h)
                 have Y10 := Lib.hid fun W h => Y9.out W (g.trans h)
                 have Q10 := Lib.hid fun W h => Q9.out W (g.trans h)
                 have R10 := Lib.hid fun W h => R9.out W (g.trans h)
                 have M10 := Lib.hid fun W h => M9.out W (g.trans h)
                 clear g)
              | (go_at_call 21
                 with_reducible refine (BZ.out _ (T10.out _ (grownBy_refl _ _)) (F10.out _ (grownBy_refl _ _)) (Y10.out _ (grownBy_refl _ _))).mono ?_
                 rintro e v11 ⟨o1, o2, o3, rfl, h1, h2, h3, g⟩
                 have J11 := Lib.hid (J10.out.trans g)
                 obtain ⟨ad, cd, rfl, _⟩ := id h1
                 obtain ⟨au, cu, rfl, _⟩ := id h2
                 obtain ⟨av, cv, rfl, _⟩ := id h3
                 have T11 := Lib.hid fun W h => T10.out W (g.trans h)
                 have G11 := Lib.hid fun W h => G10.out W (g.trans h)
                 have F11 := Lib.hid fun W h => F10.out W (g.trans h)
                 have Y11 := Lib.hid fun W h => Y10.out W (g.trans h)
                 have Q11 := Lib.hid fun W h => Q10.out W (g.trans h)
                 have R11 := Lib.hid fun W h => R10.out W (g.trans h)
                 have M11 := Lib.hid fun W h => M10.out W (g.trans h)
                 have D11 := Lib.hid fun W (h : v11.grownBy W none) => h1.carry h
                 have U11 := Lib.hid fun W (h : v11.grownBy W none) => h2.carry h
                 have V11 := Lib.hid fun W (h : v11.grownBy W none) => h3.carry h
                 clear g h1 h2 h3)
              | (go_at_call 22
                 with_reducible refine (GC.out _ (T11.out _ (grownBy_refl _ _)) (F11.out _ (grownBy_refl _ _)) (Y11.out _ (grownBy_refl _ _))).mono ?_
                 rintro e v12 ⟨o, rfl, hi, g⟩
                 have J12 := Lib.hid (J11.out.trans g)
                 obtain ⟨a12, c12, rfl, _⟩ := id hi
                 have T12 := Lib.hid fun W h => T11.out W (g.trans h)
                 have G12 := Lib.hid fun W h => G11.out W (g.trans h)
                 have F12 := Lib.hid fun W h => F11.out W (g.trans h)
                 have Y12 := Lib.hid fun W h => Y11.out W (g.trans h)
                 have Q12 := Lib.hid fun W h => Q11.out W (g.trans h)
                 have R12 := Lib.hid fun W h => R11.out W (g.trans h)
                 have M12 := Lib.hid fun W h => M11.out W (g.trans h)
                 have D12 := Lib.hid fun W h => D11.out W (g.trans h)
                 have U12 := Lib.hid fun W h => U11.out W (g.trans h)
                 have V12 := Lib.hid fun W h => V11.out W (g.trans h)
                 have E12 := Lib.hid fun W (h : v12.grownBy W none) => hi.carry h
                 clear g hi)
              | (go_at_call 18
                 with_reducible refine (CX.out _ _ (T12.out _ (grownBy_refl _ _)) (U12.out _ (grownBy_refl _ _)) (F12.out _ (grownBy_refl _ _))).mono ?_
                 rintro e v13 ⟨o, rfl, hi, g⟩
                 have J13 := Lib.hid (J12.out.trans g)
                 obtain ⟨a13, c13, rfl, _⟩ := id hi
                 have T13 := Lib.hid fun W h => T12.out W (g.trans h)
                 have G13 := Lib.hid fun W h => G12.out W (g.trans h)
                 have F13 := Lib.hid fun W h => F12.out W (g.trans h)
                 have Y13 := Lib.hid fun W h => Y12.out W (g.trans h)
                 have Q13 := Lib.hid fun W h => Q12.out W (g.trans h)
                 have R13 := Lib.hid fun W h => R12.out W (g.trans h)
                 have M13 := Lib.hid fun W h => M12.out W (g.trans h)
                 have D13 := Lib.hid fun W h => D12.out W (g.trans h)
                 have V13 := Lib.hid fun W h => V12.out W (g.trans h)
                 have E13 := Lib.hid fun W h => E12.out W (g.trans h)
                 have X13 := Lib.hid fun W (h : v13.grownBy W none) => hi.carry h
                 clear g hi)
              | (go_at_call 18
                 with_reducible refine (CY.out _ _ (T13.out _ (grownBy_refl _ _)) (V13.out _ (grownBy_refl _ _)) (Y13.out _ (grownBy_refl _ _))).mono ?_
                 rintro e v14 ⟨o, rfl, hi, g⟩
                 have J14 := Lib.hid (J13.out.trans g)
                 obtain ⟨a14, c14, rfl, _⟩ := id hi
                 have T14 := Lib.hid fun W h => T13.out W (g.trans h)
                 have G14 := Lib.hid fun W h => G13.out W (g.trans h)
                 have F14 := Lib.hid fun W h => F13.out W (g.trans h)
                 have Y14 := Lib.hid fun W h => Y13.out W (g.trans h)
                 have Q14 := Lib.hid fun W h => Q13.out W (g.trans h)
                 have R14 := Lib.hid fun W h => R13.out W (g.trans h)
                 have M14 := Lib.hid fun W h => M13.out W (g.trans h)
                 have D14 := Lib.hid fun W h => D13.out W (g.trans h)
                 have E14 := Lib.hid fun W h => E13.out W (g.trans h)
                 have X14 := Lib.hid fun W h => X13.out W (g.trans h)
                 have P14 := Lib.hid fun W (h : v14.grownBy W none) => hi.carry h
                 clear g hi)
              | (go_at_call 20
                 with_reducible refine (CZ.out _ _ _ (T14.out _ (grownBy_refl _ _)) (X14.out _ (grownBy_refl _ _)) (P14.out _ (grownBy_refl _ _))).mono ?_
                 rintro e v15 ⟨o, rfl, hi, g⟩
                 have J15 := Lib.hid (J14.out.trans g)
                 obtain ⟨a15, c15, rfl, _⟩ := id hi
                 have T15 := Lib.hid fun W h => T14.out W (g.trans h)
                 have G15 := Lib.hid fun W h => G14.out W (g.trans h)
                 have F15 := Lib.hid fun W h => F14.out W (g.trans h)
                 have Y15 := Lib.hid fun W h => Y14.out W (g.trans h)
                 have Q15 := Lib.hid fun W h => Q14.out W (g.trans h)
                 have R15 := Lib.hid fun W h => R14.out W (g.trans h)
                 have M15 := Lib.hid fun W h => M14.out W (g.trans h)
                 have D15 := Lib.hid fun W h => D14.out W (g.trans h)
                 have E15 := Lib.hid fun W h => E14.out W (g.trans h)
                 have Z15 := Lib.hid fun W (h : v15.grownBy W none) => hi.carry h
                 clear g hi)
              | (go_at_call 15
                 with_reducible refine (RF.out _ _ (T15.out _ (grownBy_refl _ _)) (F15.out _ (grownBy_refl _ _)) (D15.out _ (grownBy_refl _ _))).mono ?_
                 rintro e v16 ⟨o1, o2, rfl, h1, h2, g⟩
                 have J16 := Lib.hid (J15.out.trans g)
                 obtain ⟨a16, c16, rfl, _⟩ := id h1
                 obtain ⟨a17, c17, rfl⟩ := nil_shape h2
                 clear h1 h2
                 have T16 := Lib.hid fun W h => T15.out W (g.trans h)
                 have G16 := Lib.hid fun W h => G15.out W (g.trans h)
                 have F16 := Lib.hid fun W h => F15.out W (g.trans h)
                 have Y16 := Lib.hid fun W h => Y15.out W (g.trans h)
                 have Q16 := Lib.hid fun W h => Q15.out W (g.trans h)
                 have R16 := Lib.hid fun W h => R15.out W (g.trans h)
                 have M16 := Lib.hid fun W h => M15.out W (g.trans h)
                 have D16 := Lib.hid fun W h => D15.out W (g.trans h)
                 have E16 := Lib.hid fun W h => E15.out W (g.trans h)
                 have Z16 := Lib.hid fun W h => Z15.out W (g.trans h)
                 clear g)
              | (go_at_call 15
                 with_reducible refine (RG.out _ _ (T16.out _ (grownBy_refl _ _)) (Y16.out _ (grownBy_refl _ _)) (D16.out _ (grownBy_refl _ _))).mono ?_
                 rintro e v17 ⟨o1, o2, rfl, h1, h2, g⟩
                 have J17 := Lib.hid (J16.out.trans g)
                 obtain ⟨a18, c18, rfl, _⟩ := id h1
                 obtain ⟨a19, c19, rfl⟩ := nil_shape h2
                 clear h1 h2
                 have T17 := Lib.hid fun W h => T16.out W (g.trans h)
                 have G17 := Lib.hid fun W h => G16.out W (g.trans h)
                 have F17 := Lib.hid fun W h => F16.out W (g.trans h)
                 have Y17 := Lib.hid fun W h => Y16.out W (g.trans h)
                 have Q17 := Lib.hid fun W h => Q16.out W (g.trans h)
                 have R17 := Lib.hid fun W h => R16.out W (g.trans h)
                 have M17 := Lib.hid fun W h => M16.out W (g.trans h)
                 have D17 := Lib.hid fun W h => D16.out W (g.trans h)
                 have E17 := Lib.hid fun W h => E16.out W (g.trans h)
                 have Z17 := Lib.hid fun W h => Z16.out W (g.trans h)
                 clear g)
              | (go_at_call 17
                 with_reducible refine (same_self _ _ _ _ (D17.out _ (grownBy_refl _ _)) (E17.out _ (grownBy_refl _ _)) (by omega)).mono ?_
                 rintro e v18 ⟨rfl, g⟩
                 have J18 := Lib.hid (J17.out.trans g)
                 have T18 := Lib.hid fun W h => T17.out W (g.trans h)
                 have G18 := Lib.hid fun W h => G17.out W (g.trans h)
                 have F18 := Lib.hid fun W h => F17.out W (g.trans h)
                 have Y18 := Lib.hid fun W h => Y17.out W (g.trans h)
                 have Q18 := Lib.hid fun W h => Q17.out W (g.trans h)
                 have R18 := Lib.hid fun W h => R17.out W (g.trans h)
                 have M18 := Lib.hid fun W h => M17.out W (g.trans h)
                 have D18 := Lib.hid fun W h => D17.out W (g.trans h)
                 have E18 := Lib.hid fun W h => E17.out W (g.trans h)
                 have Z18 := Lib.hid fun W h => Z17.out W (g.trans h)
                 clear g))
            go_meet
            exact J18.out
          · cases k2
            · go_wp2_with (first
                | (go_at_call 18
                   with_reducible refine (CA.out _ _ (T7.out _ (grownBy_refl _ _)) (Q7.out _ (grownBy_refl _ _)) (Y7.out _ (grownBy_refl _ _))).mono ?_
                   rintro e v8 ⟨o, rfl, hi, g⟩
                   have J8 := Lib.hid g
                   obtain ⟨a8, c8, rfl, _⟩ := id hi
                   have T8 := Lib.hid fun W h => T7.out W (g.trans h)
                   have G8 := Lib.hid fun W h => G7.out W (g.trans h)
                   have F8 := Lib.hid fun W h => F7.out W (g.trans h)
                   have Y8 := Lib.hid fun W h => Y7.out W (g.trans h)
                   have Q8 := Lib.hid fun W h => Q7.out W (g.trans h)
                   have R8 := Lib.hid fun W h => R7.out W (g.trans h)
                   have M8 := Lib.hid fun W h => M7.out W (g.trans h)
                   have A8 := Lib.hid fun W (h : v8.grownBy W none) => hi.carry h
                   clear g hi)
                | (go_at_call 20
                   with_reducible refine (CB.out _ _ _ (T8.out _ (grownBy_refl _ _)) (A8.out _ (grownBy_refl _ _)) (R8.out _ (grownBy_refl _ _))).mono ?_
                   rintro e v9 ⟨o, rfl, hi, g⟩
                   have J9 := Lib.hid (J8.out.trans g)
                   obtain ⟨a9, c9, rfl, _⟩ := id hi
                   have T9 := Lib.hid fun W h => T8.out W (g.trans h)
                   have G9 := Lib.hid fun W h => G8.out W (g.trans h)
                   have F9 := Lib.hid fun W h => F8.out W (g.trans h)
                   have Y9 := Lib.hid fun W h => Y8.out W (g.trans h)
                   have Q9 := Lib.hid fun W h => Q8.out W (g.trans h)
                   have R9 := Lib.hid fun W h => R8.out W (g.trans h)
                   have M9 := Lib.hid fun W h => M8.out W (g.trans h)
                   have B9 := Lib.hid fun W (h : v9.grownBy W none) => hi.carry h
                   clear g hi)
                | (go_at_call 17
                   with_reducible refine (same_self _ _ _ _ (B9.out _ (grownBy_refl _ _)) (F9.out _ (grownBy_refl _ _)) (by omega)).mono ?_
                   rintro e v10 ⟨rfl, g⟩
                   have J10 := Lib.hid (J9.out.trans g)
                   have T10 := Lib.hid fun W h => T9.out W (g.trans h)
                   have G10 := Lib.hid fun W h => G9.out W (g.trans h)
                   have F10 := Lib.hid fun W h => F9.out W (g.trans h)
                   have Y10 := Lib.hid fun W h => Y9.out W (g.trans h)
                   have Q10 := Lib.hid fun W h => Q9.out W (g.trans h)
                   have R10 := Lib.hid fun W h => R9.out W (g.trans h)
                   have M10 := Lib.hid fun W h => M9.out W (g.trans h)
                   clear g)
                | (go_at_call 21
                   with_reducible refine (BZ.out _ (T10.out _ (grownBy_refl _ _)) (F10.out _ (grownBy_refl _ _)) (Y10.out _ (grownBy_refl _ _))).mono ?_
                   rintro e v11 ⟨o1, o2, o3, rfl, h1, h2, h3, g⟩
                   have J11 := Lib.hid (J10.out.trans g)
                   obtain ⟨ad, cd, rfl, _⟩ := id h1
                   obtain ⟨au, cu, rfl, _⟩ := id h2
                   obtain ⟨av, cv, rfl, _⟩ := id h3
                   have T11 := Lib.hid fun W h => T10.out W (g.trans h)
                   have G11 := Lib.hid fun W h => G10.out W (g.trans h)
                   have F11 := Lib.hid fun W h => F10.out W (g.trans h)
                   have Y11 := Lib.hid fun W h => Y10.out W (g.trans h)
                   have Q11 := Lib.hid fun W h => Q10.out W (g.trans h)
                   have R11 := Lib.hid fun W h => R10.out W (g.trans h)
                   have M11 := Lib.hid fun W h => M10.out W (g.trans h)
                   have D11 := Lib.hid fun W (h : v11.grownBy W none) => h1.carry h
                   have U11 := Lib.hid fun W (h : v11.grownBy W none) => h2.carry h
                   have V11 := Lib.hid fun W (h : v11.grownBy W none) => h3.carry h
                   clear g h1 h2 h3)
                | (go_at_call 22
                   with_reducible refine (GC.out _ (T11.out _ (grownBy_refl _ _)) (F11.out _ (grownBy_refl _ _)) (Y11.out _ (grownBy_refl _ _))).mono ?_
                   rintro e v12 ⟨o, rfl, hi, g⟩
                   have J12 := Lib.hid (J11.out.trans g)
                   obtain ⟨a12, c12, rfl, _⟩ := id hi
                   have T12 := Lib.hid fun W h => T11.out W (g.trans h)
                   have G12 := Lib.hid fun W h => G11.out W (g.trans h)
                   have F12 := Lib.hid fun W h => F11.out W (g.trans h)
                   have Y12 := Lib.hid fun W h => Y11.out W (g.trans h)
                   have Q12 := Lib.hid fun W h => Q11.out W (g.trans h)
                   have R12 := Lib.hid fun W h => R11.out W (g.trans h)
                   have M12 := Lib.hid fun W h => M11.out W (g.trans h)
                   have D12 := Lib.hid fun W h => D11.out W (g.trans h)
                   have U12 := Lib.hid fun W h => U11.out W (g.trans h)
                   have V12 := Lib.hid fun W h => V11.out W (g.trans h)
                   have E12 := Lib.hid fun W (h : v12.grownBy W none) => hi.carry h
                   clear g hi)
                | (go_at_call 18
                   with_reducible refine (CX.out _ _ (T12.out _ (grownBy_refl _ _)) (U12.out _ (grownBy_refl _ _)) (F12.out _ (grownBy_refl _ _))).mono ?_
                   rintro e v13 ⟨o, rfl, hi, g⟩
                   have J13 := Lib.hid (J12.out.trans g)
                   obtain ⟨a13, c13, rfl, _⟩ := id hi
                   have T13 := Lib.hid fun W h => T12.out W (g.trans h)
                   have G13 := Lib.hid fun W h => G12.out W (g.trans h)
                   have F13 := Lib.hid fun W h => F12.out W (g.trans h)
                   have Y13 := Lib.hid fun W h => Y12.out W (g.trans h)
                   have Q13 := Lib.hid fun W h => Q12.out W (g.trans h)
                   have R13 := Lib.hid fun W h => R12.out W (g.trans h)
                   have M13 := Lib.hid fun W h => M12.out W (g.trans h)
                   have D13 := Lib.hid fun W h => D12.out W (g.trans h)
                   have V13 := Lib.hid fun W h => V12.out W (g.trans h)
                   have E13 := Lib.hid fun W h => E12.out W (g.trans h)
                   have X13 := Lib.hid fun W (h : v13.grownBy W none) => hi.carry h
                   clear g hi)
                | (go_at_call 18
                   with_reducible refine (CY.out _ _ (T13.out _ (grownBy_refl _ _)) (V13.out _ (grownBy_refl _ _)) (Y13.out _ (grownBy_refl _ _))).mono ?_
                   rintro e v14 ⟨o, rfl, hi, g⟩
                   have J14 := Lib.hid (J13.out.trans g)
                   obtain ⟨a14, c14, rfl, _⟩ := id hi
                   have T14 := Lib.hid fun W h => T13.out W (g.trans h)
                   have G14 := Lib.hid fun W h => G13.out W (g.trans h)
                   have F14 := Lib.hid fun W h => F13.out W (g.trans h)
                   have Y14 := Lib.hid fun W h => Y13.out W (g.trans h)
                   have Q14 := Lib.hid fun W h => Q13.out W (g.trans h)
                   have R14 := Lib.hid fun W h => R13.out W (g.trans h)
                   have M14 := Lib.hid fun W h => M13.out W (g.trans h)
                   have D14 := Lib.hid fun W h => D13.out W (g.trans h)
                   have E14 := Lib.hid fun W h => E13.out W (g.trans h)
                   have X14 := Lib.hid fun W h => X13.out W (g.trans h)
                   have P14 := Lib.hid fun W (h : v14.grownBy W none) => hi.carry h
                   clear g hi)
                | (go_at_call 20
                   with_reducible refine (CZ.out _ _ _ (T14.out _ (grownBy_refl _ _)) (X14.out _ (grownBy_refl _ _)) (P14.out _ (grownBy_refl _ _))).mono ?_
                   rintro e v15 ⟨o, rfl, hi, g⟩
                   have J15 := Lib.hid (J14.out.trans g)
                   obtain ⟨a15, c15, rfl, _⟩ := id hi
                   have T15 := Lib.hid fun W h => T14.out W (g.trans h)
                   have G15 := Lib.hid fun W h => G14.out W (g.trans h)
                   have F15 := Lib.hid fun W h => F14.out W (g.trans h)
                   have Y15 := Lib.hid fun W h => Y14.out W (g.trans h)
                   have Q15 := Lib.hid fun W h => Q14.out W (g.trans h)
                   have R15 := Lib.hid fun W h => R14.out W (g.trans h)
                   have M15 := Lib.hid fun W h => M14.out W (g.trans h)
                   have D15 := Lib.hid fun W h => D14.out W (g.trans h)
                   have E15 := Lib.hid fun W h => E14.out W (g.trans h)
                   have Z15 := Lib.hid fun W (h : v15.grownBy W none) => hi.carry h
                   clear g hi)
                | (go_at_call 15
                   with_reducible refine (RF.out _ _ (T15.out _ (grownBy_refl _ _)) (F15.out _ (grownBy_refl _ _)) (D15.out _ (grownBy_refl _ _))).mono ?_
                   rintro e v16 ⟨o1, o2, rfl, h1, h2, g⟩
                   have J16 := Lib.hid (J15.out.trans g)
                   obtain ⟨a16, c16, rfl, _⟩ := id h1
                   obtain ⟨a17, c17, rfl⟩ := nil_shape h2
                   clear h1 h2
                   have T16 := Lib.hid fun W h => T15.out W (g.trans h)
                   have G16 := Lib.hid fun W h => G15.out W (g.trans h)
                   have F16 := Lib.hid fun W h => F15.out W (g.trans h)
                   have Y16 := Lib.hid fun W h => Y15.out W (g.trans h)
                   have Q16 := Lib.hid fun W h => Q15.out W (g.trans h)
                   have R16 := Lib.hid fun W h => R15.out W (g.trans h)
                   have M16 := Lib.hid fun W h => M15.out W (g.trans h)
                   have D16 := Lib.hid fun W h => D15.out W (g.trans h)
                   have E16 := Lib.hid fun W h => E15.out W (g.trans h)
                   have Z16 := Lib.hid fun W h => Z15.out W (g.trans h)
                   clear g)
                | (go_at_call 15
                   with_reducible refine (RG.out _ _ (T16.out _ (grownBy_refl _ _)) (Y16.out _ (grownBy_refl _ _)) (D16.out _ (grownBy_refl _ _))).mono ?_
                   rintro e v17 ⟨o1, o2, rfl, h1, h2, g⟩
                   have J17 := Lib.hid (J16.out.trans g)
                   obtain ⟨a18, c18, rfl, _⟩ := id h1
                   obtain ⟨a19, c19, rfl⟩ := nil_shape h2
                   clear h1 h2
                   have T17 := Lib.hid fun W h => T16.out W (g.trans h)
                   have G17 := Lib.hid fun W h => G16.out W (g.trans h)
                   have F17 := Lib.hid fun W h => F16.out W (g.trans h)
                   have Y17 := Lib.hid fun W h => Y16.out W (g.trans h)
                   have Q17 := Lib.hid fun W h => Q16.out W (g.trans h)
                   have R17 := Lib.hid fun W h => R16.out W (g.trans h)
                   have M17 := Lib.hid fun W h => M16.out W (g.trans h)
                   have D17 := Lib.hid fun W h => D16.out W (g.trans h)
                   have E17 := Lib.hid fun W h => E16.out W (g.trans h)
                   have Z17 := Lib.hid fun W h => Z16.out W (g.trans h)
                   clear g)
                | (go_at_call 17
                   with_reducible refine (same_self _ _ _ _ (D17.out _ (grownBy_refl _ _)) (E17.out _ (grownBy_refl _ _)) (by omega)).mono ?_
                   rintro e v18 ⟨rfl, g⟩
                   have J18 := Lib.hid (J17.out.trans g)
                   have T18 := Lib.hid fun W h => T17.out W (g.trans h)
                   have G18 := Lib.hid fun W h => G17.out W (g.trans h)
                   have F18 := Lib.hid fun W h => F17.out W (g.trans h)
                   have Y18 := Lib.hid fun W h => Y17.out W (g.trans h)
                   have Q18 := Lib.hid fun W h => Q17.out W (g.trans h)
                   have R18 := Lib.hid fun W h => R17.out W (g.trans h)
                   have M18 := Lib.hid fun W h => M17.out W (g.trans h)
                   have D18 := Lib.hid fun W h => D17.out W (g.trans h)
                   have E18 := Lib.hid fun W h => E17.out W (g.trans h)
                   have Z18 := Lib.hid fun W h => Z17.out W (g.trans h)
                   clear g))
              go_meet
              exact J18.out
            · have hzd := HSM.out rfl rfl
              subst hzd
              go_wp2_with (first
                | (go_at_call 18
                   with_reducible refine (CA.out _ _ (T7.out _ (grownBy_refl _ _)) (Q7.out _ (grownBy_refl _ _)) (Y7.out _ (grownBy_refl _ _))).mono ?_
                   rintro e v8 ⟨o, rfl, hi, g⟩
                   have J8 := Lib.hid g
                   obtain ⟨a8, c8, rfl, _⟩ := id hi
                   have T8 := Lib.hid fun W h => T7.out W (g.trans h)
                   have G8 := Lib.hid fun W h => G7.out W (g.trans h)
                   have F8 := Lib.hid fun W h => F7.out W (g.trans h)
                   have Y8 := Lib.hid fun W h => Y7.out W (g.trans h)
                   have Q8 := Lib.hid fun W h => Q7.out W (g.trans h)
                   have R8 := Lib.hid fun W h => R7.out W (g.trans h)
                   have M8 := Lib.hid fun W h => M7.out W (g.trans h)
                   have A8 := Lib.hid fun W (h : v8.grownBy W none) => hi.carry h
                   clear g hi)
                | (go_at_call 20
                   with_reducible refine (CB.out _ _ _ (T8.out _ (grownBy_refl _ _)) (A8.out _ (grownBy_refl _ _)) (R8.out _ (grownBy_refl _ _))).mono ?_
                   rintro e v9 ⟨o, rfl, hi, g⟩
                   have J9 := Lib.hid (J8.out.trans g)
                   obtain ⟨a9, c9, rfl, _⟩ := id hi
                   have T9 := Lib.hid fun W h => T8.out W (g.trans h)
                   have G9 := Lib.hid fun W h => G8.out W (g.trans h)
                   have F9 := Lib.hid fun W h => F8.out W (g.trans h)
                   have Y9 := Lib.hid fun W h => Y8.out W (g.trans h)
                   have Q9 := Lib.hid fun W h => Q8.out W (g.trans h)
                   have R9 := Lib.hid fun W h => R8.out W (g.trans h)
                   have M9 := Lib.hid fun W h => M8.out W (g.trans h)
                   have B9 := Lib.hid fun W (h : v9.grownBy W none) => hi.carry h
                   clear g hi)
                | (go_at_call 17
                   with_reducible refine (same_self _ _ _ _ (B9.out _ (grownBy_refl _ _)) (F9.out _ (grownBy_refl _ _)) (by omega)).mono ?_
                   rintro e v10 ⟨rfl, g⟩
                   have J10 := Lib.hid (J9.out.trans g)
                   have T10 := Lib.hid fun W h => T9.out W (g.trans h)
                   have G10 := Lib.hid fun W h => G9.out W (g.trans h)
                   have F10 := Lib.hid fun W h => F9.out W (g.trans h)
                   have Y10 := Lib.hid fun W h => Y9.out W (g.trans h)
                   have Q10 := Lib.hid fun W h => Q9.out W (g.trans h)
                   have R10 := Lib.hid fun W h => R9.out W (g.trans h)
                   have M10 := Lib.hid fun W h => M9.out W (g.trans h)
                   clear g)
                | (go_at_call 21
                   with_reducible refine (BZ.out _ (T10.out _ (grownBy_refl _ _)) (F10.out _ (grownBy_refl _ _)) (Y10.out _ (grownBy_refl _ _))).mono ?_
                   rintro e v11 ⟨o1, o2, o3, rfl, h1, h2, h3, g⟩
                   have J11 := Lib.hid (J10.out.trans g)
                   obtain ⟨ad, cd, rfl, _⟩ := id h1
                   obtain ⟨au, cu, rfl, _⟩ := id h2
                   obtain ⟨av, cv, rfl, _⟩ := id h3
                   have T11 := Lib.hid fun W h => T10.out W (g.trans h)
                   have G11 := Lib.hid fun W h => G10.out W (g.trans h)
                   have F11 := Lib.hid fun W h => F10.out W (g.trans h)
                   have Y11 := Lib.hid fun W h => Y10.out W (g.trans h)
                   have Q11 := Lib.hid fun W h => Q10.out W (g.trans h)
                   have R11 := Lib.hid fun W h => R10.out W (g.trans h)
                   have M11 := Lib.hid fun W h => M10.out W (g.trans h)
                   have D11 := Lib.hid fun W (h : v11.grownBy W none) => h1.carry h
                   have U11 := Lib.hid fun W (h : v11.grownBy W none) => h2.carry h
                   have V11 := Lib.hid fun W (h : v11.grownBy W none) => h3.carry h
                   clear g h1 h2 h3)
                | (go_at_call 22
                   with_reducible refine (GC.out _ (T11.out _ (grownBy_refl _ _)) (F11.out _ (grownBy_refl _ _)) (Y11.out _ (grownBy_refl _ _))).mono ?_
                   rintro e v12 ⟨o, rfl, hi, g⟩
                   have J12 := Lib.hid (J11.out.trans g)
                   obtain ⟨a12, c12, rfl, _⟩ := id hi
                   have T12 := Lib.hid fun W h => T11.out W (g.trans h)
                   have G12 := Lib.hid fun W h => G11.out W (g.trans h)
                   have F12 := Lib.hid fun W h => F11.out W (g.trans h)
                   have Y12 := Lib.hid fun W h => Y11.out W (g.trans h)
                   have Q12 := Lib.hid fun W h => Q11.out W (g.trans h)
                   have R12 := Lib.hid fun W h => R11.out W (g.trans h)
                   have M12 := Lib.hid fun W h => M11.out W (g.trans h)
                   have D12 := Lib.hid fun W h => D11.out W (g.trans h)
                   have U12 := Lib.hid fun W h => U11.out W (g.trans h)
                   have V12 := Lib.hid fun W h => V11.out W (g.trans h)
                   have E12 := Lib.hid fun W (h : v12.grownBy W none) => hi.carry h
                   clear g hi)
                | (go_at_call 18
                   with_reducible refine (CX.out _ _ (T12.out _ (grownBy_refl _ _)) (U12.out _ (grownBy_refl _ _)) (F12.out _ (grownBy_refl _ _))).mono ?_
                   rintro e v13 ⟨o, rfl, hi, g⟩
                   have J13 := Lib.hid (J12.out.trans g)
                   obtain ⟨a13, c13, rfl, _⟩ := id hi
                   have T13 := Lib.hid fun W h => T12.out W (g.trans h)
                   have G13 := Lib.hid fun W h => G12.out W (g.trans h)
                   have F13 := Lib.hid fun W h => F12.out W (g.trans h)
                   have Y13 := Lib.hid fun W h => Y12.out W (g.trans h)
                   have Q13 := Lib.hid fun W h => Q12.out W (g.trans h)
                   have R13 := Lib.hid fun W h => R12.out W (g.trans h)
                   have M13 := Lib.hid fun W h => M12.out W (g.trans h)
                   have D13 := Lib.hid fun W h => D12.out W (g.trans h)
                   have V13 := Lib.hid fun W h => V12.out W (g.trans h)
                   have E13 := Lib.hid fun W h => E12.out W (g.trans h)
                   have X13 := Lib.hid fun W (h : v13.grownBy W none) => hi.carry h
                   clear g hi)
                | (go_at_call 18
                   with_reducible refine (CY.out _ _ (T13.out _ (grownBy_refl _ _)) (V13.out _ (grownBy_refl _ _)) (Y13.out _ (grownBy_refl _ _))).mono ?_
                   rintro e v14 ⟨o, rfl, hi, g⟩
                   have J14 := Lib.hid (J13.out.trans g)
                   obtain ⟨a14, c14, rfl, _⟩ := id hi
                   have T14 := Lib.hid fun W h => T13.out W (g.trans h)
                   have G14 := Lib.hid fun W h => G13.out W (g.trans h)
                   have F14 := Lib.hid fun W h => F13.out W (g.trans h)
                   have Y14 := Lib.hid fun W h => Y13.out W (g.trans h)
                   have Q14 := Lib.hid fun W h => Q13.out W (g.trans h)
                   have R14 := Lib.hid fun W h => R13.out W (g.trans h)
                   have M14 := Lib.hid fun W h => M13.out W (g.trans h)
                   have D14 := Lib.hid fun W h => D13.out W (g.trans h)
                   have E14 := Lib.hid fun W h => E13.out W (g.trans h)
                   have X14 := Lib.hid fun W h => X13.out W (g.trans h)
                   have P14 := Lib.hid fun W (h : v14.grownBy W none) => hi.carry h
                   clear g hi)
                | (go_at_call 20
                   with_reducible refine (CZ.out _ _ _ (T14.out _ (grownBy_refl _ _)) (X14.out _ (grownBy_refl _ _)) (P14.out _ (grownBy_refl _ _))).mono ?_
                   rintro e v15 ⟨o, rfl, hi, g⟩
                   have J15 := Lib.hid (J14.out.trans g)
                   obtain ⟨a15, c15, rfl, _⟩ := id hi
                   have T15 := Lib.hid fun W h => T14.out W (g.trans h)
                   have G15 := Lib.hid fun W h => G14.out W (g.trans h)
                   have F15 := Lib.hid fun W h => F14.out W (g.trans h)
                   have Y15 := Lib.hid fun W h => Y14.out W (g.trans h)
                   have Q15 := Lib.hid fun W h => Q14.out W (g.trans h)
                   have R15 := Lib.hid fun W h => R14.out W (g.trans h)
                   have M15 := Lib.hid fun W h => M14.out W (g.trans h)
                   have D15 := Lib.hid fun W h => D14.out W (g.trans h)
                   have E15 := Lib.hid fun W h => E14.out W (g.trans h)
                   have Z15 := Lib.hid fun W (h : v15.grownBy W none) => hi.carry h
                   clear g hi)
                | (go_at_call 15
                   with_reducible refine (RF.out _ _ (T15.out _ (grownBy_refl _ _)) (F15.out _ (grownBy_refl _ _)) (D15.out _ (grownBy_refl _ _))).mono ?_
                   rintro e v16 ⟨o1, o2, rfl, h1, h2, g⟩
                   have J16 := Lib.hid (J15.out.trans g)
                   obtain ⟨a16, c16, rfl, _⟩ := id h1
                   obtain ⟨a17, c17, rfl⟩ := nil_shape h2
                   clear h1 h2
                   have T16 := Lib.hid fun W h => T15.out W (g.trans h)
                   have G16 := Lib.hid fun W h => G15.out W (g.trans h)
                   have F16 := Lib.hid fun W h => F15.out W (g.trans h)
                   have Y16 := Lib.hid fun W h => Y15.out W (g.trans h)
                   have Q16 := Lib.hid fun W h => Q15.out W (g.trans h)
                   have R16 := Lib.hid fun W h => R15.out W (g.trans h)
                   have M16 := Lib.hid fun W h => M15.out W (g.trans h)
                   have D16 := Lib.hid fun W h => D15.out W (g.trans h)
                   have E16 := Lib.hid fun W h => E15.out W (g.trans h)
                   have Z16 := Lib.hid fun W h => Z15.out W (g.trans h)
                   clear g)
                | (go_at_call 15
                   with_reducible refine (RG.out _ _ (T16.out _ (grownBy_refl _ _)) (Y16.out _ (grownBy_refl _ _)) (D16.out _ (grownBy_refl _ _))).mono ?_
                   rintro e v17 ⟨o1, o2, rfl, h1, h2, g⟩
                   have J17 := Lib.hid (J16.out.trans g)
                   obtain ⟨a18, c18, rfl, _⟩ := id h1
                   obtain ⟨a19, c19, rfl⟩ := nil_shape h2
                   clear h1 h2
                   have T17 := Lib.hid fun W h => T16.out W (g.trans h)
                   have G17 := Lib.hid fun W h => G16.out W (g.trans h)
                   have F17 := Lib.hid fun W h => F16.out W (g.trans h)
                   have Y17 := Lib.hid fun W h => Y16.out W (g.trans h)
                   have Q17 := Lib.hid fun W h => Q16.out W (g.trans h)
                   have R17 := Lib.hid fun W h => R16.out W (g.trans h)
                   have M17 := Lib.hid fun W h => M16.out W (g.trans h)
                   have D17 := Lib.hid fun W h => D16.out W (g.trans h)
                   have E17 := Lib.hid fun W h => E16.out W (g.trans h)
                   have Z17 := Lib.hid fun W h => Z16.out W (g.trans h)
                   clear g)
                | (go_at_call 17
                   with_reducible refine (same_self _ _ _ _ (D17.out _ (grownBy_refl _ _)) (E17.out _ (grownBy_refl _ _)) (by omega)).mono ?_
                   rintro e v18 ⟨rfl, g⟩
                   have J18 := Lib.hid (J17.out.trans g)
                   have T18 := Lib.hid fun W h => T17.out W (g.trans h)
                   have G18 := Lib.hid fun W h => G17.out W (g.trans h)
                   have F18 := Lib.hid fun W h => F17.out W (g.trans h)
                   have Y18 := Lib.hid fun W h => Y17.out W (g.trans h)
                   have Q18 := Lib.hid fun W h => Q17.out W (g.trans h)
                   have R18 := Lib.hid fun W h => R17.out W (g.trans h)
                   have M18 := Lib.hid fun W h => M17.out W (g.trans h)
                   have D18 := Lib.hid fun W h => D17.out W (g.trans h)
                   have E18 := Lib.hid fun W h => E17.out W (g.trans h)
                   have Z18 := Lib.hid fun W h => Z17.out W (g.trans h)
                   clear g)
                | (go_at_call 17
                   with_reducible refine (same_self _ _ _ _ (Z18.out _ (grownBy_refl _ _)) (D18.out _ (grownBy_refl _ _)) (by omega)).mono ?_
                   rintro e v19 ⟨rfl, g⟩
                   have J19 := Lib.hid (J18.out.trans g)
                   have T19 := Lib.hid fun W h => T18.out W (g.trans h)
                   have G19 := Lib.hid fun W h => G18.out W (g.trans h)
                   have F19 := Lib.hid fun W h => F18.out W (g.trans h)
                   have Y19 := Lib.hid fun W h => Y18.out W (g.trans h)
                   have Q19 := Lib.hid fun W h => Q18.out W (g.trans h)
                   have R19 := Lib.hid fun W h => R18.out W (g.trans h)
                   have M19 := Lib.hid fun W h => M18.out W (g.trans h)
                   have D19 := Lib.hid fun W h => D18.out W (g.trans h)
                   have E19 := Lib.hid fun W h => E18.out W (g.trans h)
                   have Z19 := Lib.hid fun W h => Z18.out W (g.trans h)
                   clear g))
              go_meet
              exact J19.out
        case rest =>
          have HW := Lib.hid hcut
          have T8 := Lib.hid fun W h => T7.out W (HW.out.trans h)
          have G8 := Lib.hid fun W h => G7.out W (HW.out.trans h)
          have F8 := Lib.hid fun W h => F7.out W (HW.out.trans h)
          have Y8 := Lib.hid fun W h => Y7.out W (HW.out.trans h)
          have M8 := Lib.hid fun W h => M7.out W (HW.out.trans h)
          clear hcut CA CB BZ GC CX CY CZ RF RG HSM CD SD CM SM
          cases kb
          · go_wp2_with fail
            go_ret
            exact ⟨rfl, G8.out _ (grownBy_refl _ _)⟩
          · obtain ⟨hkl2, hki⟩ := HKT.out rfl
            subst hki
            have em := fun W u X t hu hX => EM.out W u X t hkl2 hu hX
            clear EM
            have EM := Lib.hid em
            clear em
            go_wp2_with (first
              | (go_at_call 23
                 have hcm := HM.out.carry (G8.out _ (grownBy_refl _ _))
                 refine (numberOf_any _ _ hcm).mono ?_
                 rintro e v9 ⟨n, rfl, n0, n1, rfl⟩
                 clear hcm
                 have htm0 : n.tmod p = n % p := Int.tmod_eq_emod_of_nonneg n0
                 have hr0 := Int.emod_nonneg n hpp1
                 have hr1 := Int.emod_lt_of_pos n (show (0 : Int) < p by omega)
                 have hwx : IntKind.i64.wrap (n % p) = n % p := by
                   generalize n % (p : Int) = xx at *
                   rw [IntKind.wrap_i64]; omega
                 have HX := Lib.hid (And.intro hr0 hr1)
                 have hev := po_eval HB.out (n % p)
                 generalize hxe : n % (p : Int) = X at *
                 have htm : (evTo p f X f.length * evTo p g X g.length).tmod p = (evTo p f X f.length * evTo p g X g.length) % p := Int.tmod_eq_emod_of_nonneg (Int.mul_nonneg hev.2.1.1 hev.2.2.1)
                 have hmb := mul_bd2 (a := evTo p f X f.length) (b := evTo p g X g.length) (A := 97) (B := 97) (by omega) (by omega) (by omega) (by omega)
                 have hwr : IntKind.i64.wrap (evTo p f X f.length * evTo p g X g.length) = evTo p f X f.length * evTo p g X g.length := by
                   generalize evTo p f X f.length * evTo p g X g.length = dd at *
                   rw [IntKind.wrap_i64]; omega
                 have hmd0 := Int.emod_nonneg (evTo p f X f.length * evTo p g X g.length) hpp1
                 have hmd1 := Int.emod_lt_of_pos (evTo p f X f.length * evTo p g X g.length) (show (0 : Int) < p by omega)
                 have hwr2 : IntKind.i64.wrap ((evTo p f X f.length * evTo p g X g.length) % p) = (evTo p f X f.length * evTo p g X g.length) % p := by
                   generalize (evTo p f X f.length * evTo p g X g.length) % (p : Int) = dd at *
                   rw [IntKind.wrap_i64]; omega
                 clear hev hmb hmd0 hmd1 hr0 hr1)
              | (go_at_call 24
                 with_reducible refine (EF.out _ _ (T8.out _ (grownBy_refl _ _)) (F8.out _ (grownBy_refl _ _)) HX.out).mono ?_
                 rintro e v10 ⟨rfl, g⟩
                 have T10 := Lib.hid fun W h => T8.out W (g.trans h)
                 have G10 := Lib.hid fun W h => G8.out W (g.trans h)
                 have F10 := Lib.hid fun W h => F8.out W (g.trans h)
                 have Y10 := Lib.hid fun W h => Y8.out W (g.trans h)
                 have M10 := Lib.hid fun W h => M8.out W (g.trans h)
                 clear g)
              | (go_at_call 24
                 with_reducible refine (EG.out _ _ (T10.out _ (grownBy_refl _ _)) (Y10.out _ (grownBy_refl _ _)) HX.out).mono ?_
                 rintro e v11 ⟨rfl, g⟩
                 have T11 := Lib.hid fun W h => T10.out W (g.trans h)
                 have G11 := Lib.hid fun W h => G10.out W (g.trans h)
                 have F11 := Lib.hid fun W h => F10.out W (g.trans h)
                 have Y11 := Lib.hid fun W h => Y10.out W (g.trans h)
                 have M11 := Lib.hid fun W h => M10.out W (g.trans h)
                 clear g)
              | (go_at_call 24
                 with_reducible refine (EM.out _ _ _ (T11.out _ (grownBy_refl _ _)) (M11.out _ (grownBy_refl _ _)) HX.out).mono ?_
                 rintro e v12 ⟨rfl, g⟩
                 have T12 := Lib.hid fun W h => T11.out W (g.trans h)
                 have G12 := Lib.hid fun W h => G11.out W (g.trans h)
                 have F12 := Lib.hid fun W h => F11.out W (g.trans h)
                 have Y12 := Lib.hid fun W h => Y11.out W (g.trans h)
                 have M12 := Lib.hid fun W h => M11.out W (g.trans h)
                 clear g))
            go_ret
            exact ⟨rfl, G12.out _ (grownBy_refl _ _)⟩
end Go.Proofs.YtpeaeminjbjlnaaDoor

/-
  The shortest recurrence of a series, in the program: the walk. Conditions: small sizes.
-/
import Derived.Test.YtpeaeminjbjlnaaDoorMu00
import Derived.Test.YtpeaeminjbjlnaaDoorMu02
import Derived.Test.YtpeaeminjbjlnaaDoorMu03
import Derived.Test.YtpeaeminjbjlnaaDoorMp01
import Derived.Test.YtpeaeminjbjlnaaDoorMu01
import Derived.Test.YtpeaeminjbjlnaaDoorMp02
import Derived.Deep.CutRange
import Derived.Test.YtpeaeminjbjlnaaDoorMk16
namespace Go.Proofs.YtpeaeminjbjlnaaDoor
open Go.RowKit
set_option linter.unusedVariables false

theorem gapT_bd {q : Nat} {a b : List Int} (h1 : ∀ z ∈ a, 0 ≤ z ∧ z < (q : Int)) (h2 : ∀ z ∈ b, 0 ≤ z ∧ z < (q : Int)) (hq : 2 ≤ q) (hq2 : q ≤ 97) (k : Nat) : ∀ i : Nat, 0 ≤ gapT a b k i ∧ gapT a b k i ≤ 9409 * (i : Int)
  | 0 => by show (0 : Int) ≤ 0 ∧ (0 : Int) ≤ _; omega
  | i + 1 => by
    have ih := gapT_bd h1 h2 hq hq2 k i
    have b1 := getD_bd h1 hq i
    have b2 := getD_bd h2 hq (k - i)
    have b3 := mul_bd (X := 97) (Y := 97) b1.1 (by omega) b2.1 (by omega)
    show 0 ≤ gapT a b k i + a.getD i 0 * b.getD (k - i) 0 ∧ gapT a b k i + a.getD i 0 * b.getD (k - i) 0 ≤ _
    generalize a.getD i 0 * b.getD (k - i) 0 = x at *
    omega
theorem ints_new (w : World) (zs : List Int) (t : TypeId) : IntsV (w.alloc (.cells (zs.map (Value.int .i64)).toArray t)) (.slice (some ⟨w.heap.size, 0, none⟩) zs.length zs.length) zs :=
  ⟨_, _, rfl, fun _ => ⟨_, rfl, rfl, by simp, intsAt_new w zs t⟩⟩
theorem pad_els {q : Nat} {m : Nat} {f : List Int} (hq : 2 ≤ q) (h : ∀ z ∈ f, 0 ≤ z ∧ z < (q : Int)) : ∀ z ∈ List.replicate m 0 ++ f, 0 ≤ z ∧ z < (q : Int) := fun z hz => by
  rcases List.mem_append.1 hz with h' | h'
  · rw [List.eq_of_mem_replicate h']; omega
  · exact h z h'
theorem under_co : Tryd.prog.underlying 111 = some (.slice 3) := by kernel_rfl
set_option maxRecDepth 100000 in
set_option maxHeartbeats 4000000 in
theorem recurrence_any (q : Nat) [NeZero q] (u : Value) (s : List Int) (w : World) (hfl : fldN q = true) (hq2 : q ≤ 97) (hu : IntsV w u s) (h1 : ∀ z ∈ s, 0 ≤ z ∧ z < (q : Int)) (ls : s.length ≤ 60) :
    Calls Tryd.prog 141 #[.int .i64 q, u] w fun e w' => ∃ o, e = .returned (.tuple #[o, .int .i64 (bmN q s s.length).len]) ∧ IntsV w' o (bmN q s s.length).now ∧ w.grownBy w' none := by
  have hq := lt_p hfl
  have HU := Lib.hid hu
  have HB := Lib.hid fun n => bmL (q := q) hfl s n
  have HST := Lib.hid fun n => (show bmN (q : Int) s (n + 1) = bmStep q s n (bmN q s n) from rfl)
  have HSE := Lib.hid h1
  have hn1 := ints_new w [1] 3
  have hn2 := ints_new (w.alloc (.cells (([1] : List Int).map (Value.int .i64)).toArray 3)) [1] 3
  have hg1 : w.grownBy (w.alloc (.cells (([1] : List Int).map (Value.int .i64)).toArray 3)) none := grownBy_alloc w _ none
  have hg2 := grownBy_alloc (w.alloc (.cells (([1] : List Int).map (Value.int .i64)).toArray 3)) (.cells (([1] : List Int).map (Value.int .i64)).toArray 3) none
  have HN1 := Lib.hid (hn1.carry hg2)
  have HN2 := Lib.hid hn2
  have HG2 := Lib.hid (hg1.trans hg2)
  obtain ⟨ua, uc, rfl, _⟩ := id hu
  clear hu h1 hn1 hn2 hg1 hg2
  generalize hN : s.length = N at *
  have HLN := Lib.hid hN
  clear hN
  go_enter Tryd.func141, Tryd.ntmps141
  go_wp2_with fail
  go_loopw [6, 7, 8, 9, 10, 20] (fun now bef len sh last i wr => ∃ t : Nat, t ≤ N ∧ i = .int .i64 t ∧ IntsV wr now (bmN q s t).now ∧ IntsV wr bef (bmN q s t).bef ∧ len = .int .i64 (bmN q s t).len ∧ sh = .int .i64 (bmN q s t).sh ∧ last = .int .i64 (bmN q s t).last ∧ w.grownBy wr none) (fun _ _ _ _ _ i _ => N - (intOf i).toNat)
  case atStart => exact ⟨0, by omega, rfl, HN1.out, by have h := HN2.out; simp at h; exact h, rfl, rfl, rfl, HG2.out⟩
  case round =>
    obtain ⟨t, ht, rfl, hnow, hbef, rfl, rfl, rfl, hg⟩ := hrel
    have HX := Lib.hid hnow; have HY := Lib.hid hbef; have HG := Lib.hid hg
    obtain ⟨na, nc, rfl, _⟩ := id hnow
    obtain ⟨ba, bc, rfl, _⟩ := id hbef
    clear hnow hbef hg
    by_cases hlt : t < N
    · have hb := HB.out t
      have HNX := Lib.hid (HST.out t)
      have hnl := sz_len hb.okn hb.bm.sz
      have hln := hb.bm.ln
      have hlb := hb.lb; have hls := hb.ls; have hl0 := hb.l0; have hl1 := hb.l1; have hsh := hb.sh
      have HEN := Lib.hid hb.okn.els; have HEB := Lib.hid hb.okb.els
      clear hb
      generalize hT : bmN (q : Int) s t = T at *
      obtain ⟨now, bef, len, sh, last⟩ := T
      dsimp only at *
      have HGB := Lib.hid fun i => gapT_bd HEN.out HSE.out (by omega) hq2 t i
      have HGS := Lib.hid fun i => (show gapT now s t (i + 1) = gapT now s t i + now.getD i 0 * s.getD (t - i) 0 from rfl)
      generalize hnlen : now.length = nl at *
      generalize hblen : bef.length = bl at *
      have HNL := Lib.hid hnlen; have HBL := Lib.hid hblen
      clear hnlen hblen hT
      go_wp2_with fail
      go_loopw [12, 13] (fun gap i wx => ∃ j : Nat, j ≤ len + 1 ∧ i = .int .i64 j ∧ gap = .int .i64 (gapT now s t j) ∧ wr.grownBy wx none) (fun _ i _ => len + 1 - (intOf i).toNat)
      case atStart => exact ⟨0, by omega, rfl, rfl, ⟨rfl, rfl, rfl, Nat.le_refl _, fun _ _ _ => rfl⟩⟩
      case round =>
        obtain ⟨j, hj, rfl, rfl, hgw⟩ := hrel
        have HGW := Lib.hid hgw
        clear hgw
        by_cases hlj : j < len + 1
        · have HGD := Lib.hid (HGW.out.trans (show wr.grownBy wr.drew none from ⟨rfl, rfl, rfl, Nat.le_refl _, fun _ _ _ => rfl⟩))
          obtain ⟨m, hm⟩ : ∃ m, m + j = t := ⟨t - j, by omega⟩
          have hms : m < s.length := by rw [HLN.out]; omega
          obtain ⟨d2, rfl, hs2, hb2, hc2⟩ := (HU.out.carry (HG.out.trans HGD.out)).at hms
          obtain ⟨b2, o2, _⟩ := d2
          simp only at hs2 hc2
          subst hs2
          rw [← getD_lt hms] at hc2
          have CF := Lib.hid (coef_any (.slice na nl nc) now j wr.drew (HX.out.carry HGD.out) (by rw [HNL.out]; omega))
          have HST2 := Lib.hid (show gapT now s t (j + 1) = gapT now s t j + now.getD j 0 * s.getD m 0 by rw [HGS.out, show t - j = m by omega])
          have tb := HGB.out j
          have b1 := getD_bd HEN.out (show 2 ≤ q by omega) j
          have b2' := getD_bd HSE.out (show 2 ≤ q by omega) m
          have b3 := mul_bd (X := 97) (Y := 97) b1.1 (by omega) b2'.1 (by omega)
          have w1 : IntKind.i64.wrap (now.getD j 0 * s.getD m 0) = now.getD j 0 * s.getD m 0 := by
            generalize now.getD j 0 * s.getD m 0 = dd at *
            rw [IntKind.wrap_i64]; omega
          have w2 : IntKind.i64.wrap (gapT now s t j + now.getD j 0 * s.getD m 0) = gapT now s t j + now.getD j 0 * s.getD m 0 := by
            generalize now.getD j 0 * s.getD m 0 = dd at *
            rw [IntKind.wrap_i64]; omega
          have w3 : (t : Int) - (j : Int) = (m : Int) := by omega
          have w4 : IntKind.i64.wrap (m : Int) = (m : Int) := by rw [IntKind.wrap_i64]; omega
          have w5 : (m : Int) < (N : Int) := by omega
          have w6 : (j : Int) ≤ (len : Int) := by omega
          have w7 : (0 : Int) ≤ (m : Int) := by omega
          clear b1 b2' b3 tb hm hms
          generalize now.getD j 0 = aj at *
          generalize s.getD m 0 = bm at *
          generalize gapT now s t j = gj at *
          go_wp2_with fail
          go_region_law (
            try go_simp
            go_at_call 263
            refine CF.out.mono ?_
            rintro e w4 ⟨rfl, rfl⟩)
          all_goals
            go_wp2
            go_roundw
            case rel => exact ⟨j + 1, by omega, by go_num, by rw [HST2.out], HGD.out⟩
            case measure => simp [intOf]; omega
        · have hjl : j = len + 1 := by omega
          subst hjl
          have tb := HGB.out (len + 1)
          have m0 := Int.emod_nonneg (gapT now s t (len + 1)) (show (q : Int) ≠ 0 by omega)
          have m1 := Int.emod_lt_of_pos (gapT now s t (len + 1)) (show (0 : Int) < q by omega)
          have w6 : ¬ ((len + 1 : Nat) : Int) ≤ (len : Int) := by omega
          have w7 : ¬ (len : Int) + 1 ≤ (len : Int) := by omega
          have w8 : IntKind.i64.wrap ((sh : Int) + 1) = (sh : Int) + 1 := by rw [IntKind.wrap_i64]; omega
          have md := fun W => mod_all (q : Int) (gapT now s t (len + 1)) (by omega) (by omega) (by omega) (by omega) W
          by_cases hg0 : gapT now s t (len + 1) % q = 0
          · have E : bmStep q s t ⟨now, bef, len, sh, last⟩ = ⟨now, bef, len, sh + 1, last⟩ := by
              unfold bmStep
              dsimp only
              rw [if_pos hg0]
            have hnx := HNX.out
            rw [E] at hnx
            have HNX2 := Lib.hid hnx
            rw [hg0] at md
            have MD := Lib.hid md
            clear hnx E md m0 m1 hg0 tb
            generalize gapT now s t (len + 1) = gp at *
            go_wp2_with (go_at_call 236; with_reducible refine (MD.out _).mono ?_; rintro e w' ⟨rfl, rfl⟩)
            go_roundw
            case rel => exact ⟨t + 1, by omega, by go_num, by rw [HNX2.out]; exact HX.out.carry HGW.out, by rw [HNX2.out]; exact HY.out.carry HGW.out, by rw [HNX2.out], by rw [HNX2.out]; go_num, by rw [HNX2.out], HG.out.trans HGW.out⟩
            case measure => simp [intOf]; omega
          · have hb1 := inv_bd97 (q := q) (x := last) (by omega) hq2
            have HIV := Lib.hid fun wx => inverse_any (q : Int) last wx (by omega) (by omega) (by omega) (by omega)
            have MD := Lib.hid md
            have HGP := Lib.hid (show gapT now s t (len + 1) % q = gapT now s t (len + 1) % q from rfl)
            have E1 : 2 * len ≤ t → bmStep q s t ⟨now, bef, len, sh, last⟩ = ⟨poAddL q now (-(gapT now s t (len + 1) % q) * invI q last) (List.replicate sh 0 ++ bef), now, t + 1 - len, 1, gapT now s t (len + 1) % q⟩ := fun h => by
              unfold bmStep
              dsimp only
              rw [if_neg hg0, if_pos h]
            have E2 : ¬ 2 * len ≤ t → bmStep q s t ⟨now, bef, len, sh, last⟩ = ⟨poAddL q now (-(gapT now s t (len + 1) % q) * invI q last) (List.replicate sh 0 ++ bef), bef, len, sh + 1, last⟩ := fun h => by
              unfold bmStep
              dsimp only
              rw [if_neg hg0, if_neg h]
            have HE1 := Lib.hid E1; have HE2 := Lib.hid E2
            have HZ := Lib.hid fun W => zeros_at sh W (by omega)
            have HRL := Lib.hid (show (List.replicate sh (0 : Int)).length = sh from List.length_replicate)
            have HRE := Lib.hid (pad_els (m := sh) (show 2 ≤ q by omega) HEB.out)
            clear md E1 E2
            generalize List.replicate sh (0 : Int) = R at *
            generalize gapT now s t (len + 1) % (q : Int) = g at *
            generalize gapT now s t (len + 1) = gp at *
            generalize invI (q : Int) last = y at *
            have hge0 : (g == 0) = false := by rw [beq_eq_false_iff_ne]; exact hg0
            have b5 := mul_bd (X := 97) (Y := 97) m0 (by omega) hb1.1 (by omega)
            have w9 : IntKind.i64.wrap (-g) = -g := by rw [IntKind.wrap_i64]; omega
            have hneg : -g * y = -(g * y) := Int.neg_mul g y
            have w10 : IntKind.i64.wrap (-g * y) = -g * y := by
              rw [hneg]
              generalize g * y = dd at *
              rw [IntKind.wrap_i64]; omega
            have hby : -10000 ≤ -g * y ∧ -g * y ≤ 10000 := by
              rw [hneg]
              generalize g * y = dd at *
              omega
            generalize hby' : -g * y = gy at *
            have PAL := Lib.hid fun a4 c4 {W : World} (hgW : World.grownBy _ W none) (hi : IntsV W (.slice a4 (R.length + bef.length) c4) (R ++ bef)) => polyAdd_any q gy (.slice na nl nc) (.slice a4 (R.length + bef.length) c4) now (R ++ bef) W (by omega) hq2 (HX.out.carry hgW) hi HEN.out HRE.out (by rw [HNL.out]; omega) (by rw [List.length_append, HRL.out, HBL.out]; omega) hby.1 hby.2
            have w11 : IntKind.i64.wrap (2 * (len : Int)) = 2 * (len : Int) := by rw [IntKind.wrap_i64]; omega
            have w12 : IntKind.i64.wrap ((t : Int) + 1) = (t : Int) + 1 := by rw [IntKind.wrap_i64]; omega
            clear hneg hby b5 HGP tb
            by_cases hc : 2 * len ≤ t
            · have w13 : IntKind.i64.wrap ((t : Int) + 1 - (len : Int)) = ((t + 1 - len : Nat) : Int) := by rw [IntKind.wrap_i64]; omega
              have w14 : 2 * (len : Int) ≤ (t : Int) := by omega
              have hnx := HNX.out
              rw [HE1.out hc] at hnx
              have HNX2 := Lib.hid hnx
              clear hnx
              go_wp2_with (first
                | (go_at_call 236; with_reducible refine (MD.out _).mono ?_; rintro e w' ⟨rfl, rfl⟩)
                | (go_at_call 243
                   with_reducible refine (HZ.out wr).mono ?_
                   rintro e w3 ⟨rfl, ho, hgz⟩
                   have HS3 := Lib.hid ((Sep.start wr).newI hgz ho)
                   have HB3 := Lib.hid (HY.out.carry (HGW.out.trans hgz))
                   clear ho hgz)
                | (at_builtin
                   refine app_intsT rfl _ _ _ rfl under_co rfl rfl HS3.out HB3.out (by rw [HRL.out, HBL.out]; omega) ?_
                   intro a4 c4 w4 hs4 hc4
                   have HI4 := Lib.hid hs4.hd.read
                   have HG4 := Lib.hid (HGW.out.trans (show wr.grownBy w4 none from hs4.tl.hd))
                   have PA := Lib.hid (PAL.out _ _ HG4.out HI4.out)
                   clear hs4 hc4)
                | (go_at_call 110; with_reducible refine (HIV.out _).mono ?_; rintro e w' ⟨rfl, rfl⟩)
                | (go_at_call 109
                   go_loud (with_reducible refine PA.out.mono ?_)
                   rintro e w5 ⟨o, rfl, hi, hg5⟩
                   obtain ⟨a5, c5, rfl, _⟩ := id hi
                   have HI5 := Lib.hid hi
                   have HG5 := Lib.hid (HG4.out.trans hg5)
                   clear hi hg5))
              go_roundw
              case rel => exact ⟨t + 1, by omega, by go_num, by rw [HNX2.out]; exact HI5.out, by rw [HNX2.out]; exact HX.out.carry HG5.out, by rw [HNX2.out], by rw [HNX2.out]; rfl, by rw [HNX2.out], HG.out.trans HG5.out⟩
              case measure => simp [intOf]; omega
            · have w14 : ¬ 2 * (len : Int) ≤ (t : Int) := by omega
              have hnx := HNX.out
              rw [HE2.out hc] at hnx
              have HNX2 := Lib.hid hnx
              clear hnx
              go_wp2_with (first
                | (go_at_call 236; with_reducible refine (MD.out _).mono ?_; rintro e w' ⟨rfl, rfl⟩)
                | (go_at_call 243
                   with_reducible refine (HZ.out wr).mono ?_
                   rintro e w3 ⟨rfl, ho, hgz⟩
                   have HS3 := Lib.hid ((Sep.start wr).newI hgz ho)
                   have HB3 := Lib.hid (HY.out.carry (HGW.out.trans hgz))
                   clear ho hgz)
                | (at_builtin
                   refine app_intsT rfl _ _ _ rfl under_co rfl rfl HS3.out HB3.out (by rw [HRL.out, HBL.out]; omega) ?_
                   intro a4 c4 w4 hs4 hc4
                   have HI4 := Lib.hid hs4.hd.read
                   have HG4 := Lib.hid (HGW.out.trans (show wr.grownBy w4 none from hs4.tl.hd))
                   have PA := Lib.hid (PAL.out _ _ HG4.out HI4.out)
                   clear hs4 hc4)
                | (go_at_call 110; with_reducible refine (HIV.out _).mono ?_; rintro e w' ⟨rfl, rfl⟩)
                | (go_at_call 109
                   go_loud (with_reducible refine PA.out.mono ?_)
                   rintro e w5 ⟨o, rfl, hi, hg5⟩
                   obtain ⟨a5, c5, rfl, _⟩ := id hi
                   have HI5 := Lib.hid hi
                   have HG5 := Lib.hid (HG4.out.trans hg5)
                   clear hi hg5))
              go_roundw
              case rel => exact ⟨t + 1, by omega, by go_num, by rw [HNX2.out]; exact HI5.out, by rw [HNX2.out]; exact HY.out.carry HG5.out, by rw [HNX2.out], by rw [HNX2.out]; go_num, by rw [HNX2.out], HG.out.trans HG5.out⟩
              case measure => simp [intOf]; omega
    · have htn : t = N := by omega
      subst htn
      go_wp2
      go_ret2
      exact ⟨_, rfl, HX.out, HG.out⟩
end Go.Proofs.YtpeaeminjbjlnaaDoor

/-
  Valid series; their products; the fraction that is found from a series: in the program. Conditions: valid series.
-/
namespace Go.Proofs.YtpeaeminjbjlnaaDoor
open Go.RowKit
set_option linter.unusedVariables false

theorem isSeries_yes (q : Nat) [NeZero q] (u : Value) (s : List Int) (w : World) (ht : Tab w) (hfl : fldN q = true) (hu : IntsV w u s) (hs : VecOk q s.length s) (ls : s.length ≤ 60) :
    Calls Tryd.prog 140 #[.int .i64 q, u] w fun e w' => e = .returned (.bool true) ∧ w = w' := by
  have h1 := isField_any q w ht
  rw [fldB_nat, hfl] at h1
  have h2 := isVector_any q s.length u s w hu (by omega)
  rw [vecB_ok.2 hs] at h2
  have H1 := Lib.hid h1; have H2 := Lib.hid h2
  obtain ⟨a, c, rfl, _⟩ := hu
  clear h1 h2 hs ht hfl
  go_enter Tryd.func140, Tryd.ntmps140
  go_wp2_with (first
    | (go_at_call 204; with_reducible refine H1.out.mono ?_; rintro e w' ⟨rfl, rfl⟩)
    | (go_at_call 173; with_reducible refine H2.out.mono ?_; rintro e w' ⟨rfl, rfl⟩))
  go_ret
  exact ⟨rfl, rfl⟩
set_option maxRecDepth 100000 in
theorem convS_any (q : Nat) [NeZero q] (u v : Value) (A B : List Int) (w : World) (ht : Tab w) (hfl : fldN q = true) (hq2 : q ≤ 97) (hu : IntsV w u A) (hv : IntsV w v B) (hA : VecOk q A.length A) (hB : VecOk q B.length B) (la : A.length ≤ 60) (lb : B.length ≤ 60) :
    Calls Tryd.prog 43 #[.int .i64 q, u, v] w fun e w' => ∃ o, e = .returned (.tuple #[o, .bool true]) ∧ IntsV w' o (convL q A B (min A.length B.length)) ∧ w.grownBy w' none := by
  have hq := lt_p hfl
  have H1 := Lib.hid (isSeries_yes q u A w ht hfl hu hA la)
  have H2 := Lib.hid (isSeries_yes q v B w ht hfl hv hB lb)
  have h3 := convolve_any q (min A.length B.length) u v A B w (by omega) hq2 hu hv hA.2 hB.2 (by omega) (by omega) (by omega)
  rw [show ((min A.length B.length : Nat) : Int) = min (A.length : Int) (B.length : Int) by omega] at h3
  have H3 := Lib.hid h3
  obtain ⟨a, c, rfl, _⟩ := hu
  obtain ⟨a2, c2, rfl, _⟩ := hv
  clear h3 hA hB ht hfl
  generalize convL (q : Int) A B (min A.length B.length) = K at *
  go_enter Tryd.func43, Tryd.ntmps43
  go_wp2_with (first
    | (go_at_call 140; with_reducible refine H1.out.mono ?_; rintro e w' ⟨rfl, rfl⟩)
    | (go_at_call 140; with_reducible refine H2.out.mono ?_; rintro e w' ⟨rfl, rfl⟩)
    | (go_at_call 143
       go_loud (refine H3.out.mono ?_)
       rintro e w1 ⟨o, rfl, ho, hg⟩
       obtain ⟨a3, c3, rfl, _⟩ := own_cap' ho
       have HO := Lib.hid ho.read; have HG := Lib.hid hg
       clear ho hg))
  go_ret2
  exact ⟨_, rfl, HO.out, HG.out⟩
set_option maxRecDepth 100000 in
set_option maxHeartbeats 2000000 in
theorem fos_any (q : Nat) [NeZero q] (u : Value) (s : List Int) (w : World) (ht : Tab w) (hfl : fldN q = true) (hq2 : q ≤ 97) (hu : IntsV w u s) (hs : VecOk q s.length s) (ls : s.length ≤ 60) :
    Calls Tryd.prog 38 #[.int .i64 q, u] w fun e w' => ∃ o1 o2 R, e = .returned (.tuple #[frV o1 o2, .bool (fosB q s)]) ∧ (fosB q s = true → R = fosK q s) ∧ IntsV w' o1 R.1 ∧ IntsV w' o2 R.2 ∧ w.grownBy w' none := by
  have hq := lt_p hfl
  have hsp := (Sep.start w).box #[.slice none 0 0, .slice none 0 0] 53
  have hg0 : w.grownBy _ none := hsp.tl.hd
  have HS := Lib.hid hsp; have HT := Lib.hid ht
  have HG0 := Lib.hid hg0
  have H1 := Lib.hid (isSeries_yes q u s _ (ht.grown hg0) hfl (hu.carry hg0) hs ls)
  have H2 := Lib.hid (recurrence_any q u s _ hfl hq2 (hu.carry hg0) hs.2 ls)
  have B := bmL (q := q) hfl s s.length
  have hnl := sz_len B.okn B.bm.sz
  have hln := B.bm.ln
  have hne : (bmN q s s.length).now ≠ [] := by
    intro e
    have := B.bm.c0
    rw [e, vec_nil] at this
    exact fr_one_ne hfl this.symm
  have okn := B.okn
  have HFB := Lib.hid (show fosB q s = (decide (2 * (bmN q s s.length).len ≤ s.length) && frB q (fosK q s).1 (fosK q s).2) from rfl)
  have HFK := Lib.hid (show fosK q s = lowL q (trimL (convL q (bmN q s s.length).now s (bmN q s s.length).len)) (bmN q s s.length).now from rfl)
  have HU := Lib.hid hu
  have HSB := Lib.hid hs
  obtain ⟨ua, uc, rfl, _⟩ := id hu
  clear hsp hg0 hu B ht
  generalize bmN (q : Int) s s.length = T at *
  obtain ⟨now, bef, len, sh, last⟩ := T
  dsimp only at *
  by_cases hl : 2 * len ≤ s.length
  · have w1 : ¬ 2 * (len : Int) > (s.length : Int) := by omega
    have w2 : ¬ (s.length : Int) < 2 * (len : Int) := by omega
    have w3 : IntKind.i64.wrap (2 * (len : Int)) = 2 * (len : Int) := by rw [IntKind.wrap_i64]; omega
    rw [HFB.out, decide_eq_true hl, Bool.true_and]
    have hcl := conv_len q now s len
    have hco := conv_ok (q := q) now s len
    have htl := trimL_le (convL q now s len)
    rw [hcl] at htl
    have hto : PolyOk q (trimL (convL q now s len)) := trimL_ok (by rw [hcl]; exact hco)
    have L := low_of hfl hto okn hne (by omega) (by omega)
    have la := L.la; have lb := L.lb
    have HCO := Lib.hid fun W x (hg : w.grownBy W none) (hx : IntsV W x now) => convolve_any q len x (.slice ua s.length uc) now s W (by omega) hq2 hx (HU.out.carry hg) okn.els HSB.out.2 (by omega) (by omega) (by omega)
    have HTR := Lib.hid fun W a c (hx : OwnInts 0 W (.slice a (convL q now s len).length c) (convL q now s len)) (hc : (convL q now s len).length ≤ c) => trimmed_any a c (convL q now s len) W hx.read hc (by omega)
    have HLO := Lib.hid fun W x y (hx : IntsV W x (trimL (convL q now s len))) (hy : IntsV W y now) => lowest_any q x y _ _ W hfl hq2 hx hy hto okn hne (by omega) (by omega)
    have hva := fun W x y (hg : w.grownBy W none) (hx : IntsV W x (fosK q s).1) (hy : IntsV W y (fosK q s).2) => validFraction_any q x y _ _ W (HT.out.grown hg) hx hy (by rw [HFK.out]; omega) (by rw [HFK.out]; omega)
    have HVA := Lib.hid hva
    rw [← HFK.out] at HLO
    have HFF := Lib.hid (show frB q (fosK q s).1 (fosK q s).2 = true → ((if frB q (fosK q s).1 (fosK q s).2 = true then (fosK q s).1 else []), (if frB q (fosK q s).1 (fosK q s).2 = true then (fosK q s).2 else [])) = fosK q s from fun h => by rw [if_pos h, if_pos h])
    clear hva L la lb hto hco okn hne hcl htl hnl HFB HFK hfl
    unfold frV at *
    generalize (if frB q (fosK q s).1 (fosK q s).2 = true then (fosK q s).1 else []) = R1 at *
    generalize (if frB q (fosK q s).1 (fosK q s).2 = true then (fosK q s).2 else []) = R2 at *
    generalize frB q (fosK q s).1 (fosK q s).2 = fb at *
    generalize (fosK (q : Int) s).1 = K1 at *
    generalize (fosK (q : Int) s).2 = K2 at *
    generalize trimL (convL (q : Int) now s len) = P at *
    generalize convL (q : Int) now s len = C at *
    go_enter Tryd.func38, Tryd.ntmps38
    go_wp2_with (first
      | (go_at_call 140; with_reducible refine H1.out.mono ?_; rintro e w' ⟨rfl, rfl⟩)
      | (go_at_call 141
         go_loud (with_reducible refine H2.out.mono ?_)
         rintro e w1 ⟨o, rfl, hi, hg⟩
         obtain ⟨a1, c1, rfl, _⟩ := id hi
         have HN := Lib.hid hi
         have HS1 := Lib.hid (HS.out.grown hg)
         have HG1 := Lib.hid (HG0.out.trans hg)
         clear hi hg)
      | (go_at_call 143
         go_loud (with_reducible refine (HCO.out _ _ HG1.out HN.out).mono ?_)
         rintro e w2 ⟨o, rfl, ho, hg⟩
         obtain ⟨a2, c2, rfl, hc2⟩ := own_cap' ho
         have HTR2 := Lib.hid (HTR.out _ _ _ (ho.base (Nat.zero_le _)) hc2)
         have HN2 := Lib.hid (HN.out.carry hg)
         have HS2 := Lib.hid (HS1.out.grown hg)
         have HG2 := Lib.hid (HG1.out.trans hg)
         clear ho hg)
      | (go_at_call 142
         go_loud (with_reducible refine HTR2.out.mono ?_)
         rintro e w3 ⟨c3, rfl, hi, rfl⟩
         have HP := Lib.hid hi
         clear hi)
      | (go_at_call 145
         go_loud (with_reducible refine (HLO.out _ _ _ HP.out HN2.out).mono ?_)
         rintro e w4 ⟨o1, o2, rfl, hi1, hi2, hg⟩
         obtain ⟨a4, c4, rfl, _⟩ := id hi1
         obtain ⟨b4, d4, rfl, _⟩ := id hi2
         have HL1 := Lib.hid hi1; have HL2 := Lib.hid hi2
         have HS4 := Lib.hid (HS2.out.grown hg)
         have HG4 := Lib.hid (HG2.out.trans hg)
         clear hi1 hi2 hg)
      | (go_at_call 144
         go_loud (with_reducible refine (HVA.out _ _ _ HG4.out HL1.out HL2.out).mono ?_)
         rintro e w7 ⟨o1, o2, rfl, hi1, hi2, hg⟩
         obtain ⟨a7, c7, rfl, _⟩ := id hi1
         obtain ⟨b7, d7, rfl, _⟩ := id hi2
         have hs7 := HS4.out.grown hg
         obtain ⟨y0, y1, y2, y3⟩ := bx hs7.hd
         have h2 := (hs7.setB 0 (.slice a7 R1.length c7)).setB 1 (.slice b7 R2.length d7)
         obtain ⟨k0, k1, _, _⟩ := bx h2.hd
         have HQ1 := Lib.hid (ints_box (i := 1) (ints_box (i := 0) hi1 hs7.hd (.slice a7 R1.length c7)) (hs7.setB 0 (.slice a7 R1.length c7)).hd (.slice b7 R2.length d7))
         have HQ2 := Lib.hid (ints_box (i := 1) (ints_box (i := 0) hi2 hs7.hd (.slice a7 R1.length c7)) (hs7.setB 0 (.slice a7 R1.length c7)).hd (.slice b7 R2.length d7))
         have HGF := Lib.hid (show w.grownBy _ none from h2.tl.hd)
         clear hi1 hi2 hg hs7 h2))
    refine bodyPost_ret_by (v := .tuple #[.agg #[.slice a7 R1.length c7, .slice b7 R2.length d7], .bool fb]) ?_ rfl ⟨_, _, (R1, R2), rfl, HFF.out, HQ1.out, HQ2.out, HGF.out⟩
    simp [results, go_sem, *]
  · have w1 : 2 * (len : Int) > (s.length : Int) := by omega
    have w2 : (s.length : Int) < 2 * (len : Int) := by omega
    have w3 : IntKind.i64.wrap (2 * (len : Int)) = 2 * (len : Int) := by rw [IntKind.wrap_i64]; omega
    rw [HFB.out, decide_eq_false hl, Bool.false_and]
    unfold frV at *
    clear HFB HFK okn hne hfl hnl
    go_enter Tryd.func38, Tryd.ntmps38
    go_wp2_with (first
      | (go_at_call 140; with_reducible refine H1.out.mono ?_; rintro e w' ⟨rfl, rfl⟩)
      | (go_at_call 141
         go_loud (with_reducible refine H2.out.mono ?_)
         rintro e w1 ⟨o, rfl, hi, hg⟩
         obtain ⟨a1, c1, rfl, _⟩ := id hi
         have hs5 := HS.out.grown hg
         obtain ⟨y0, y1, y2, y3⟩ := bx hs5.hd
         have h2 := (hs5.setB 0 (.slice none 0 0)).setB 1 (.slice none 0 0)
         obtain ⟨k0, k1, _, _⟩ := bx h2.hd
         have HGF := Lib.hid (show w.grownBy _ none from h2.tl.hd)
         clear hi hg hs5 h2))
    refine bodyPost_ret_by (v := .tuple #[.agg #[.slice none 0 0, .slice none 0 0], .bool false]) ?_ rfl ⟨_, _, ([], []), rfl, fun h => absurd h (by simp), IntsV.nil _, IntsV.nil _, HGF.out⟩
    simp [results, go_sem, *]
end Go.Proofs.YtpeaeminjbjlnaaDoor

/-
  Drawn fractions: small polynomials, a valid fraction. Conditions: a field, small sizes.
-/
namespace Go.Proofs.YtpeaeminjbjlnaaDoor
open Go.RowKit
set_option linter.unusedVariables false

theorem Sep.litI {w : World} {l : List Asrt} (h : Sep w l) (x : Int) : Sep (w.alloc (.cells #[.int .i64 x] 3)) (OI (.slice (some ⟨w.heap.size, 0, none⟩) 1 1) [x] :: l) :=
  h.newI (grownBy_alloc w _ none) (heap_own (zs := [x]) (alloc_heap_new w _) rfl (Nat.le_refl _) (by omega))
theorem Sep.litI2 {w : World} {l : List Asrt} (h : Sep w l) (x y : Int) : Sep (w.alloc (.cells #[.int .i64 x, .int .i64 y] 3)) (OI (.slice (some ⟨w.heap.size, 0, none⟩) 2 2) [x, y] :: l) :=
  h.newI (grownBy_alloc w _ none) (heap_own (zs := [x, y]) (alloc_heap_new w _) rfl (Nat.le_refl _) (by omega))
theorem el_nat {q : Nat} {zs : List Int} (hq : 2 ≤ q) (h : ElOk q zs) : ∀ z ∈ zs, 0 ≤ z ∧ z < (q : Int) := fun z hz => by have := h z hz; omega
theorem trim_els {q : Nat} {zs : List Int} (h : ∀ z ∈ zs, 0 ≤ z ∧ z < (q : Int)) : PolyOk (q : Int) (trimL zs) := trimL_ok ⟨rfl, h⟩
def SmP (q : Nat) (zs : List Int) : Prop := zs.length ≤ 3 ∧ PolyOk (q : Int) zs
set_option maxRecDepth 100000 in
set_option maxHeartbeats 1000000 in
theorem smallPoly_any {N : Nat} {lst : List Asrt} (q b : Nat) (n : Int) (w : World) (h : Sep w (CA N b n :: lst)) (hq1 : 2 ≤ q) (hq : q ≤ 1000) (hn0 : 0 ≤ n) (hn : n + 10000 ≤ 1000000000000) :
    Calls Tryd.prog 292 #[.pointer (some ⟨b, 0, none⟩), .int .i64 q, .int .i64 2] w (DPo (SmP q) N b (n + 2010) lst) := by
  have HS := Lib.hid h
  clear h
  go_enter Tryd.func292, Tryd.ntmps292
  go_wp2_with fail
  refine (Bd.pick_any 4 b _ _ HS.out.hd (by omega) (by omega)).mono ?_
  rintro e w1 ⟨x, rfl, ⟨x0, x1⟩, c1, g1⟩
  have HS1 := Lib.hid (HS.out.draw c1 g1)
  have HEL := Lib.hid (elems_any (q : Int) x b _ w1 HS1.out.hd (by omega) (by omega) (by omega) (by omega))
  clear c1 g1
  go_wp2_with (first
    | (go_at_call 175
       with_reducible refine HEL.out.mono ?_
       rintro e w2 ⟨o, zs, rfl, ho, hz, hel, c2, g2⟩
       obtain ⟨a2, d2, rfl, hac⟩ := own_cap' ho
       have hzl : zs.length ≤ 3 := by omega
       have HS2 := Lib.hid (HS1.out.drawI c2 g2 ho)
       have HTR := Lib.hid (poTrim_any a2 d2 zs w2 ho.read hac (by omega))
       have HEB := Lib.hid (el_nat hq1 hel)
       clear ho hz hel c2 g2 hac)
    | (go_at_call 246
       with_reducible refine HTR.out.mono ?_
       rintro e w3 ⟨o, rfl, ho, hg⟩
       have HS3 := Lib.hid (HS2.out.swapI hg ho)
       have HOW := Lib.hid (l1Own_any o (trimL zs) w3 ho.read (by have := trimL_le zs; omega))
       obtain ⟨a3, d3, rfl, _⟩ := own_cap' ho
       clear ho hg)
    | (go_at_call 217
       with_reducible refine HOW.out.mono ?_
       rintro e w4 ⟨o, rfl, ho, hg⟩
       have HS4 := Lib.hid (HS3.out.swapI hg ho)
       obtain ⟨a4, d4, rfl, _⟩ := own_cap' ho
       clear ho hg))
  go_ret
  exact ⟨_, _, rfl, ⟨by have := trimL_le zs; omega, trim_els HEB.out⟩, (HS4.out.s2.more (by omega)).s2⟩
/-- a drawn fraction, beside the cursor -/
def DFr (P : List Int → List Int → Prop) (N b : Nat) (n : Int) (lst : List Asrt) (e : Ending) (w' : World) : Prop :=
  ∃ (o1 o2 : Value) (f g : List Int), e = .returned (frV o1 o2) ∧ P f g ∧ Sep w' (OI o1 f :: OI o2 g :: CA N b n :: lst)
def SmF (q : Nat) [NeZero q] (f g : List Int) : Prop := FrIs q f g ∧ f.length ≤ 3 ∧ g.length ≤ 3
theorem set_els {q : Nat} {zs : List Int} (hq : 2 ≤ q) (h : ∀ z ∈ zs, 0 ≤ z ∧ z < (q : Int)) (j : Nat) : ∀ z ∈ zs.set j 0, 0 ≤ z ∧ z < (q : Int) := fun z hz => by
  rcases List.mem_or_eq_of_mem_set hz with h1 | h1
  · exact h z h1
  · rw [h1]; omega
theorem cons_els {q : Nat} {zs : List Int} {x : Int} (hx : 0 ≤ x ∧ x < (q : Int)) (h : ∀ z ∈ zs, 0 ≤ z ∧ z < (q : Int)) : ∀ z ∈ [x] ++ zs, 0 ≤ z ∧ z < (q : Int) := fun z hz => by
  rcases List.mem_append.1 hz with h1 | h1
  · rw [List.mem_singleton] at h1; rw [h1]; exact hx
  · exact h z h1
set_option maxRecDepth 100000 in
set_option maxHeartbeats 4000000 in
theorem fraction_any {N : Nat} {lst : List Asrt} (q b : Nat) [NeZero q] (n : Int) (w : World) (h : Sep w (CA N b n :: lst)) (hfl : fldN q = true) (hq97 : q ≤ 97) (hn0 : 0 ≤ n) (hn : n + 60000 ≤ 1000000000000) :
    Calls Tryd.prog 260 #[.pointer (some ⟨b, 0, none⟩), .int .i64 q] w (DFr (SmF q) N b (n + 8000) lst) := by
  have hq := lt_p hfl
  have HFL := Lib.hid hfl
  have hs0 := h.box #[.slice none 0 0, .slice none 0 0] 53
  have HS0 := Lib.hid hs0.s2
  have w1 : IntKind.i64.wrap ((q : Int) - 1) = (q : Int) - 1 := by rw [IntKind.wrap_i64]; omega
  clear h hs0 hfl
  go_enter Tryd.func260, Tryd.ntmps260
  go_wp2_with fail
  refine (Bd.pick_any ((q : Int) - 1) b _ _ HS0.out.hd (by omega) (by omega)).mono ?_
  rintro e wa ⟨x, rfl, ⟨x0, x1⟩, c1, g1⟩
  have w2 : IntKind.i64.wrap (1 + x) = 1 + x := by rw [IntKind.wrap_i64]; omega
  have hx : 0 ≤ 1 + x ∧ 1 + x < (q : Int) := by omega
  have HSa := Lib.hid ((HS0.out.draw c1 g1).litI (1 + x))
  clear c1 g1
  go_wp2_with fail
  refine (Bd.pick_any 3 b _ _ HSa.out.s2.hd (by omega) (by omega)).mono ?_
  rintro e wb ⟨m, rfl, ⟨m0, m1⟩, c2, g2⟩
  have HSb := Lib.hid ((HSa.out.s2.draw c2 g2))
  have HEL := Lib.hid (elems_any (q : Int) m b _ wb HSb.out.hd (by omega) (by omega) (by omega) (by omega))
  clear c2 g2
  go_wp2_with (first
    | (go_at_call 175
       with_reducible refine HEL.out.mono ?_
       rintro e wc ⟨o, zs, rfl, ho, hz, hel, c2, g2⟩
       have HSc := Lib.hid (HSb.out.drawI c2 g2 ho)
       obtain ⟨a2, d2, rfl, hac⟩ := own_cap' ho
       have hzl : zs.length ≤ 2 := by omega
       have HEB := Lib.hid (el_nat hq hel)
       have HIO := Lib.hid ho.read
       clear ho hz hel c2 g2 hac)
    | (at_builtin
       refine app_intsS rfl _ _ rfl rfl rfl HSc.out.s3 HIO.out (by simp; omega) ?_
       intro a3 c3 wd hs3 hc3
       have HSd := Lib.hid hs3
       have HC3 := Lib.hid hc3
       clear hs3 hc3))
  have HELS := Lib.hid (cons_els hx HEB.out)
  have HLEN := Lib.hid (show ([1 + x] ++ zs).length = 1 + zs.length by simp; omega)
  have hl1 : ([1 + x] : List Int).length = 1 := rfl
  have hc3 := HC3.out
  rw [hl1] at hc3
  have HSd2 := Lib.hid (show Sep wd (OI (.slice a3 (1 + zs.length) c3) ([1 + x] ++ zs) :: CA N b (n + 2 + 2 + 2000) :: BxA w.heap.size #[.slice none 0 0, .slice none 0 0] 53 :: lst) from HSd.out.drop2)
  clear HSd HC3 HSc HIO HSb HSa HS0 HEL hl1
  generalize [1 + x] ++ zs = D at *
  generalize hzz : zs.length = zl at *
  refine (Bd.one_any 6 b _ _ HSd2.out.s2.hd (by omega) (by omega)).mono ?_
  rintro e we ⟨bv, rfl, c4, g4⟩
  have HSe := Lib.hid ((HSd2.out.s2.draw c4 g4).more (m := n + 3000) (by omega)).s2
  clear c4 g4 HSd2
  go_upto_if 19 with fail
  go_cut [5] from 19 to 22 (fun dv wx => ∃ (L : List Int) (a : Option Addr) (c : Nat), dv = .slice a L.length c ∧ L.length ≤ c ∧ L.length ≤ 3 ∧ (∀ z ∈ L, 0 ≤ z ∧ z < (q : Int)) ∧ Sep wx (OI (.slice a L.length c) L :: CA N b (n + 3000) :: BxA w.heap.size #[.slice none 0 0, .slice none 0 0] 53 :: lst))
  case first =>
    cases bv
    · go_wp2_with fail
      go_meet
      exact ⟨D, a3, c3, by rw [HLEN.out], by rw [HLEN.out]; omega, by rw [HLEN.out]; omega, HELS.out, by rw [HLEN.out]; exact HSe.out⟩
    · have hne : D ≠ [] := by intro h; have := HLEN.out; rw [h] at this; simp at this; omega
      obtain ⟨gr, gc, hge, _⟩ := (show OwnInts 0 we (.slice a3 (1 + zl) c3) D from HSe.out.hd).parts hne
      have hga : a3 = some ⟨gr, 0, none⟩ := by injection hge
      subst hga
      have hset := HSe.out.setI HLEN.out.symm 0 0
      have hcell := (show OwnInts 0 we (.slice (some ⟨gr, 0, none⟩) (1 + zl) c3) D from HSe.out.hd).cell HLEN.out.symm (len_pos hne)
      have hfree := (show OwnInts 0 we (.slice (some ⟨gr, 0, none⟩) (1 + zl) c3) D from HSe.out.hd).free HLEN.out.symm 0
      have hpos : (0 : Int) < ((1 + zl : Nat) : Int) := by omega
      have hpos2 : (0 : Int) < 1 + (zl : Int) := by omega
      have HSET := Lib.hid hset
      have HLS := Lib.hid (show (D.set 0 0).length = 1 + zl by rw [List.length_set]; exact HLEN.out)
      have HES := Lib.hid (set_els hq HELS.out 0)
      clear hge hset
      go_wp2_with fail
      go_meet
      exact ⟨D.set 0 0, some ⟨gr, 0, none⟩, c3, by rw [HLS.out], by rw [HLS.out]; omega, by rw [HLS.out]; omega, HES.out, by rw [HLS.out]; exact HSET.out⟩
  case rest =>
    obtain ⟨L, a5, c5, rfl, hc5, l5, e5, hs5⟩ := hcut
    have HS5 := Lib.hid hs5
    have HTR := Lib.hid (poTrim_any a5 c5 L wc hs5.hd.read hc5 (by omega))
    have HPO := Lib.hid (trim_els e5)
    clear hs5 hc5 HSe HELS HLEN hzz
    have HML := Lib.hid (show (trimL L).length ≤ 3 from Nat.le_trans (trimL_le L) l5)
    have HONE := Lib.hid (one_ok (p := q) HFL.out)
    generalize trimL L = M at *
    go_upto_if 26 with (
       go_at_call 246
       with_reducible refine HTR.out.mono ?_
       rintro e w6 ⟨o, rfl, ho, hg⟩
       have HS6 := Lib.hid (HS5.out.swapI hg ho)
       obtain ⟨a6, d6, rfl, hc6⟩ := own_cap' ho
       have HC6 := Lib.hid hc6
       clear ho hg hc6)
    go_cut [5] from 26 to 27 (fun dv wx => ∃ (L : List Int) (a : Option Addr) (c : Nat), dv = .slice a L.length c ∧ L ≠ [] ∧ L.length ≤ 3 ∧ PolyOk (q : Int) L ∧ Sep wx (OI (.slice a L.length c) L :: CA N b (n + 3000) :: BxA w.heap.size #[.slice none 0 0, .slice none 0 0] 53 :: lst))
    case first =>
      by_cases hz : M.length = 0
      · have hz1 : ((M.length : Int) == 0) = true := by rw [hz]; rfl
        have hz2 : (M.length : Int) = 0 := by omega
        go_wp2_with fail
        go_meet
        exact ⟨[1], _, _, rfl, by simp, by simp, HONE.out, (HS6.out.litI 1).drop2⟩
      · have hz1 : ((M.length : Int) == 0) = false := by rw [beq_eq_false_iff_ne]; omega
        have hz2 : ¬ (M.length : Int) = 0 := by omega
        go_wp2_with fail
        go_meet
        exact ⟨M, a6, d6, rfl, fun e => hz (by rw [e]; rfl), HML.out, HPO.out, HS6.out⟩
    case rest =>
      obtain ⟨L2, a7, c7, rfl, hne, l7, o7, hs7⟩ := hcut
      have HS7 := Lib.hid hs7
      have HSM := Lib.hid (smallPoly_any q b (n + 3000) wc hs7.s2 hq (by omega) (by omega) (by omega))
      have HNE := Lib.hid hne; have HO7 := Lib.hid o7
      clear hs7 hne o7 HS5 HS6 HPO HTR HC6 HML
      go_wp2_with (first
        | (go_at_call 292
           with_reducible refine HSM.out.mono ?_
           rintro e w8 ⟨o, zs, rfl, ⟨zl, zo⟩, hs8⟩
           obtain ⟨a8, c8, rfl, _⟩ := own_cap' (show OwnInts 0 w8 o zs from hs8.hd)
           have HS8 := Lib.hid hs8
           have LW := Lib.hid (low_of HFL.out zo HO7.out HNE.out (by omega) (by omega))
           have hfm := (frMake_own q _ _ zs L2 w8 HFL.out hq97 hs8.hd.read hs8.tl.tl.hd.read zo HO7.out HNE.out (by omega) (by omega))
           unfold frV at hfm
           have HFM := Lib.hid hfm
           clear hs8 zo hfm)
        | (go_at_call 266
           with_reducible refine HFM.out.mono ?_
           rintro e w9 ⟨o1, o2, rfl, hk⟩
           obtain ⟨a9, c9, rfl, _⟩ := own_cap' hk.hd
           obtain ⟨b9, d9, rfl, _⟩ := own_cap' hk.tl.hd
           have hs9 := (HS8.out.graft2 hk (fun _ h => h) (fun _ h => h)).s6
           have f1 := LW.out.oka; have f2 := LW.out.okb; have f3 := LW.out.bne; have f4 := LW.out.last; have f5 := LW.out.la; have f6 := LW.out.lb; have f7 := LW.out.cop
           clear LW HFM
           generalize (lowL (q : Int) zs L2).1 = K1 at *
           generalize (lowL (q : Int) zs L2).2 = K2 at *
           obtain ⟨y0, y1, y2, y3⟩ := bx hs9.hd
           have h2 := (hs9.setB 0 (.slice a9 K1.length c9)).setB 1 (.slice b9 K2.length d9)
           obtain ⟨k0, k1, _, _⟩ := bx h2.hd
           have HSF := Lib.hid (show Sep _ (OI (.slice a9 K1.length c9) K1 :: OI (.slice b9 K2.length d9) K2 :: CA N b (n + 3000 + 2010) :: lst) from h2.tl.under (fun h => h.under (fun h => h.tl.drop2) (by simp +contextual)) (by simp +contextual))
           have HFI := Lib.hid (show SmF q K1 K2 from ⟨⟨HFL.out, hq, hq97, f1, f2, f3, by omega, by omega, f4, f7⟩, by omega, by omega⟩)
           clear hk hs9 h2 f1 f2 f3 f4 f5 f6 f7))
      refine bodyPost_ret_by (v := .agg #[.slice a9 K1.length c9, .slice b9 K2.length d9]) ?_ rfl ⟨_, _, K1, K2, rfl, HFI.out, (HSF.out.s3.more (by omega)).s3.s3⟩
      simp [results, go_sem, *]
end Go.Proofs.YtpeaeminjbjlnaaDoor

/-
  Drawn fractions that are seldom invalid: the fraction 1; what the cases share. Conditions: small sizes.
-/
namespace Go.Proofs.YtpeaeminjbjlnaaDoor
open Go.RowKit
set_option linter.unusedVariables false

set_option maxRecDepth 100000 in
theorem frOne_any (w : World) : Calls Tryd.prog 259 #[] w fun e w' => ∃ o1 o2, e = .returned (frV o1 o2) ∧ Sep w' [OI o1 [1], OI o2 [1], KeepA w] := by
  have hs := (((Sep.start w).box #[.slice (some ⟨w.heap.size + 1, 0, none⟩) 1 1, .slice (some ⟨w.heap.size + 1 + 1, 0, none⟩) 1 1] 53).litI 1).litI 1
  simp only [show ∀ (W : World) o, (W.alloc o).heap.size = W.heap.size + 1 from fun W o => by simp] at hs
  obtain ⟨k0, k1, _, _⟩ := bx hs.tl.tl.hd
  have HSF := Lib.hid (hs.s2.under (fun h => h.drop2) (by simp +contextual))
  clear hs
  unfold frV
  go_enter Tryd.func259, Tryd.ntmps259
  go_wp2_with fail
  refine bodyPost_ret_by (v := .agg #[.slice (some ⟨w.heap.size + 1, 0, none⟩) 1 1, .slice (some ⟨w.heap.size + 1 + 1, 0, none⟩) 1 1]) ?_ rfl ⟨_, _, rfl, HSF.out⟩
  simp [results, go_sem, *]
/-- a drawn element of a list of the call's own -/
theorem among_S {N b g k : Nat} {n : Int} {w : World} {l : List Asrt} (zs : List Int) (h : Sep w (OI (.slice (some ⟨g, 0, none⟩) k k) zs :: CA N b n :: l)) (hk : zs.length = k) (h0 : 0 < k) (h1 : k ≤ 1000) (hn : n + 2 ≤ 1000000000000) :
    Calls Tryd.prog 130 #[.pointer (some ⟨b, 0, none⟩), .slice (some ⟨g, 0, none⟩) k k] w fun e w' => ∃ v, e = .returned (.int .i64 v) ∧ v ∈ zs ∧ Sep w' (OI (.slice (some ⟨g, 0, none⟩) k k) zs :: CA N b (n + 2) :: l) := by
  subst hk
  obtain ⟨a, c, e, hr⟩ := h.hd.read
  obtain ⟨d, hd, _, hb, hi⟩ := hr (by intro e; rw [e] at h0; simp at h0)
  injection e with e1 e2 e3
  obtain rfl : d = ⟨g, 0, none⟩ := (Option.some.inj (e1.trans hd)).symm
  have hgb : g ≠ b := fun e => h.apt.1 g (by simp [OI, Hits, Value.ownBlock]) (Or.inl e)
  refine (Bd.among_any ⟨g, 0, none⟩ zs.length zs b n w h.tl.hd hi h0 (by omega) rfl hgb hb hn).mono ?_
  rintro e w' ⟨v, rfl, hv, hc, hg⟩
  exact ⟨v, rfl, hv, (h.s2.draw hc hg).s2⟩
end Go.Proofs.YtpeaeminjbjlnaaDoor

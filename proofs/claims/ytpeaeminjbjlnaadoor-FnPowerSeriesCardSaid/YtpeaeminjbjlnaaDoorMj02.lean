/-
  The program's determinant, as it goes. Conditions: a field of the program's kind; at most 1000 rows, square.
-/
import Derived.Test.YtpeaeminjbjlnaaDoorMj01
import Derived.Test.YtpeaeminjbjlnaaDoorMk09
import Derived.Test.YtpeaeminjbjlnaaDoorMk08
import Derived.Deep.RegionHeld3
import Derived.Deep.RegionLaw
import Derived.Test.YtpeaeminjbjlnaaDoorMk07
import Derived.Test.YtpeaeminjbjlnaaDoorMj00
import Derived.Test.YtpeaeminjbjlnaaDoorMk13
namespace Go.Proofs.YtpeaeminjbjlnaaDoor
open Go.RowKit
open La
set_option linter.unusedVariables false

theorem addTimes_wide (p by' : Int) (v u : Value) (x y : List Int) (B : Nat) (w : World) (hv : OwnInts B w v x) (hu : IntsV w u y) (hap : x ≠ [] → ∀ k, Hits v k → Value.blk' u ≠ some k) (hl : x.length = y.length) (hlm : x.length ≤ 1000000)
    (hp : 2 ≤ p) (hp2 : p ≤ 1000) (hb0 : -10000 ≤ by') (hb1 : by' ≤ 10000) (hx : ∀ z ∈ x, 0 ≤ z ∧ z ≤ 1000) (hy : ∀ z ∈ y, 0 ≤ z ∧ z ≤ 1000) :
    Calls Tryd.prog 244 #[.int .i64 p, v, .int .i64 by', u] w fun e w' => e = .returned (.tuple #[]) ∧ OwnInts B w' v (addT p x by' y) ∧ Only (Hits v) w w' := by
  have HX := Lib.hid hx; have HY := Lib.hid hy; have HU := Lib.hid hu; have HV := Lib.hid hv; have HAP := Lib.hid hap; have HL := Lib.hid hl
  obtain ⟨ua, ucap, rfl, ui⟩ := hu
  clear ui hv hx hy hap
  rw [← hl]
  generalize hlen : x.length = l at *
  have HLX := Lib.hid hlen
  clear hlen hl
  go_enter Tryd.func244, Tryd.ntmps244
  go_wp2
  go_loopw [12] (fun i wr => ∃ (k : Nat) (zs : List Int), k ≤ l ∧ i = .int .i64 k ∧ zs.length = x.length ∧ (∀ j, j < k → zs.getD j 0 = (x.getD j 0 + by' * y.getD j 0) % p) ∧ (∀ j, k ≤ j → zs.getD j 0 = x.getD j 0) ∧ OwnInts B wr v zs ∧ Only (Hits v) w wr) (fun i _ => l - (intOf i).toNat)
  case atStart => exact ⟨0, x, by omega, rfl, rfl, fun _ h => absurd h (by omega), fun _ _ => rfl, HV.out, Only.refl _ _⟩
  case round =>
    obtain ⟨k, zs, hk, rfl, hz, h1, h2, ho, hon⟩ := hrel
    have HZ := Lib.hid hz; have H1 := Lib.hid h1; have H2 := Lib.hid h2; have HO := Lib.hid ho; have HON := Lib.hid hon
    clear hz h1 h2 ho hon
    by_cases hlt : k < l
    · have hkx : k < x.length := by rw [HLX.out]; exact hlt
      have hky : k < y.length := by rw [← HL.out]; exact hlt
      have hkz : k < zs.length := by rw [HZ.out]; exact hkx
      have hu' := (HU.out.only HON.out fun g hg hh => HAP.out (by intro h; rw [h] at hkx; simp at hkx) g hh hg).at hky
      obtain ⟨d, rfl, hs, hd, hc⟩ := hu'
      obtain ⟨db, dof, _⟩ := d
      simp only at hs hc
      subst hs
      obtain ⟨g, cap, hve, hg0, hg1, hhit⟩ := HO.out.parts (by intro h; rw [h] at hkz; simp at hkz)
      have hzl : zs.length = l := by rw [HZ.out, HLX.out]
      rw [hzl] at hve
      subst hve
      have hcell := HO.out.cell hzl.symm hkz
      have hfree := HO.out.free hzl.symm k
      have hput := fun n => HO.out.put hzl.symm k n
      have HP := Lib.hid hput
      have e1 : zs[k] = x.getD k 0 := by rw [← getD_lt hkz]; exact H2.out k (Nat.le_refl _)
      have e2 : y[k] = y.getD k 0 := (getD_lt hky).symm
      have b1 := HX.out _ (List.getElem_mem hkx)
      rw [← getD_lt hkx] at b1
      have b2 := HY.out _ (List.getElem_mem hky)
      rw [e2] at b2 hc
      rw [e1] at hcell
      clear hput e1 e2 hd hg0 hg1 hhit
      generalize hxk : x.getD k 0 = xk at *
      generalize hyk : y.getD k 0 = yk at *
      have HXK := Lib.hid hxk; have HYK := Lib.hid hyk; have HZL := Lib.hid hzl
      clear hxk hyk hzl hkx hky hkz
      have b3 := mul_bd2 (A := 10000) (B := 1000) ⟨hb0, hb1⟩ b2 (by omega) (by omega)
      go_wp2_with (go_at_call 236; refine (mod_all p (xk + by' * yk) (by omega) hp2 (by omega) (by omega) _).mono ?_; rintro e w' ⟨rfl, rfl⟩)
      go_roundw
      case rel =>
        have hkz : k < zs.length := by rw [HZL.out]; exact hlt
        refine ⟨k + 1, zs.set k ((xk + by' * yk) % p), by omega, by go_num, by rw [List.length_set]; exact HZ.out, fun j hj => ?_, fun j hj => ?_, (HP.out _).1, HON.out.trans ((HP.out _).2.mono fun g hg => by rw [hg]; rfl)⟩
        · by_cases hjk : k = j
          · subst hjk
            rw [getD_set_self hkz, HXK.out, HYK.out]
          · rw [getD_set_ne hjk]
            exact H1.out j (by omega)
        · rw [getD_set_ne (by omega)]
          exact H2.out j (by omega)
      case measure => simp [intOf]; omega
    · have hfin : zs = addT p x by' y := by
        refine list_ext_getD (by rw [HZ.out]; have h1 := HL.out; have h2 := HLX.out; simp [addT]; omega) fun j hj => ?_
        have hjx : j < x.length := by rw [← HZ.out]; exact hj
        rw [addT_getD (HLX.out.trans HL.out) hjx]
        exact H1.out j (by have := HLX.out; omega)
      have HF := Lib.hid hfin
      clear hfin
      go_wp2
      go_end0
      exact ⟨rfl, by rw [← HF.out]; exact HO.out, HON.out⟩
theorem Sep.setRowS {w w' : World} {l : List Asrt} {v : Value} {vs : List Value} {L : List (List Int)} {zs : List Int} (h : Sep w (OM v vs L :: l)) {r : Nat} (hr : r < L.length) (ho : Only (Hits (vs.getD r nilS)) w w') (hz : OwnInts 0 w' (vs.getD r nilS) zs) : Sep w' (OM v vs (L.set r zs) :: l) :=
  h.upd' (ho.mono fun k hk => Foot.at hk) (h.hd.setRow hr ho hz) fun k hk => Or.inl hk
theorem at2_bd {q n : Nat} {R : List (List Int)} (hok : RowsOk q n R) (hq : fldN q = true) (i c : Nat) : 0 ≤ at2 R i c ∧ at2 R i c ≤ 97 := by
  haveI : NeZero q := ⟨by have := (of_decide_eq_true hq).1; omega⟩
  have h1 := at2_ok (i := i) (c := c) hok
  have h2 := (of_decide_eq_true hq).2.1
  omega
/-- one round of the clearing below a pivot -/
theorem elim_call (q : Nat) {n c i : Nat} {y : Int} {V : Value} {vs : List Value} {R : List (List Int)} {l : List Asrt} {wx : World} (hq : fldN q = true) (hy : 0 ≤ y ∧ y ≤ 97) (hok : RowsOk q n R) (hn : n ≤ 1000) (hc : c < i) (hi : i < R.length)
    (h : Sep wx (OM V vs (elimTo q R c y i) :: l)) :
    Calls Tryd.prog 244 #[.int .i64 q, vs.getD i nilS, .int .i64 (-(at2 R i c) * y), vs.getD c nilS] wx fun e w' => e = .returned (.tuple #[]) ∧ Sep w' (OM V vs (elimTo q R c y (i + 1)) :: l) := by
  haveI : NeZero q := ⟨by have := (of_decide_eq_true hq).1; omega⟩
  have hq2 := (of_decide_eq_true hq).2.1
  have hp1 := (of_decide_eq_true hq).1
  have hai := elim_at (p := (q : Int)) (c := c) (i := i) (y := y) hi
  have hac := elim_at (p := (q : Int)) (c := c) (i := i) (y := y) (show c < R.length by omega)
  rw [if_neg (by omega)] at hai hac
  have hri := h.hd.row i
  have hrc := h.hd.row c
  rw [hai] at hri
  rw [hac] at hrc
  have o1 := hok _ (getD_mem hi)
  have o2 := hok _ (getD_mem (show c < R.length by omega))
  have hb := at2_bd hok hq i c
  have hm := mul_bd2 (a := -(at2 R i c)) (b := y) (A := 97) (B := 97) (by omega) hy (by omega) (by omega)
  refine (addTimes_wide q (-(at2 R i c) * y) _ _ _ _ 0 wx hri hrc.read (fun _ k hk hk' => ?_) (by rw [o1.1, o2.1]) (by rw [o1.1]; omega) (by omega) (by omega) (by omega) (by omega) (fun z hz => by have := o1.2 z hz; omega) (fun z hz => by have := o2.2 z hz; omega)).mono ?_
  · rw [hrc.blk] at hk'
    exact h.hd.ap i c (by omega) k hk hk'
  · rintro e w' ⟨rfl, h1, h2⟩
    have h3 := h.setRowS (r := i) (by rw [elim_len]; exact hi) h2 h1
    rw [elim_step hc hi] at h3
    exact ⟨rfl, h3⟩
/-- what lies at a place of a list of rows of one's own -/
theorem elemS {W : World} {g l oc sz : Nat} {vs : List Value} {L : List (List Int)} {rest : List Asrt} {G C : Nat → Nat} (h : Sep W (OM (.slice (some ⟨g, 0, none⟩) l oc) vs L :: rest)) (hl : L.length = l)
    (hGC : ∀ i, i < l → vs.getD i nilS = .slice (some ⟨G i, 0, none⟩) sz (C i)) (hr : ∀ row ∈ L, row.length = sz) {k j : Nat} (hk : k < l) (hj : j < sz) :
    W.cell? ⟨g, k, none⟩ = some (.slice (some ⟨G k, 0, none⟩) sz (C k)) ∧ W.cell? ⟨G k, j, none⟩ = some (.int .i64 (at2 L k j)) := by
  have hlr := hr _ (getD_mem (show k < L.length by omega))
  refine ⟨heads h hl hGC k hk, ?_⟩
  have h1 := h.hd.row k
  rw [hGC k hk] at h1
  have h2 := h1.cell hlr.symm (j := j) (by rw [hlr]; exact hj)
  rw [h2, at2, getD_lt (by rw [hlr]; exact hj)]

set_option maxRecDepth 100000 in
set_option maxHeartbeats 2000000 in
theorem determinant_any (q : Nat) [NeZero q] (u : Value) (L : List (List Int)) (n : Nat) (w : World) (hf : fldN q = true) (hu : MatV w u L) (hL : RowsOk q n L) (hn : L.length = n) (hn1 : n ≤ 1000) :
    Calls Tryd.prog 184 #[.int .i64 q, u] w fun e w' => ∃ d, e = .returned (.int .i64 d) ∧ 0 ≤ d ∧ d < q ∧ Ldet n (mx q L) = toF q d ∧ w.grownBy w' none := by
  have hq1 := (of_decide_eq_true hf).1
  have hq2 := (of_decide_eq_true hf).2.1
  have HCL := Lib.hid (clones_any u L w hu (by omega) (fun row hr => by rw [(hL row hr).1]; omega))
  have HST := Lib.hid (DetS.start (by omega) hn hL)
  have HF := Lib.hid hf
  have HN := Lib.hid hn
  obtain ⟨ua, uc, rfl⟩ := hu.shape
  clear hu hL
  rw [hn] at HCL ⊢
  clear hn hf
  go_enter Tryd.func184, Tryd.ntmps184
  go_wp2_with (go_at_call 118
               refine HCL.out.mono ?_
               rintro e w1 ⟨o, vs0, rfl, ho, hg⟩
               obtain ⟨oa, oc, hoe, _, _⟩ := own_form ho
               rw [HN.out] at hoe
               subst hoe
               have HS0 := Lib.hid ((Sep.start w).newM hg ho)
               clear ho hg)
  go_loopw [6, 15] (fun out i wr => ∃ (c : Nat) (d : Int) (vs : List Value) (R : List (List Int)), c ≤ n ∧ i = .int .i64 c ∧ out = .int .i64 d ∧ DetS q n (mx q L) c R d ∧ Sep wr [OM (.slice oa n oc) vs R, KeepA w]) (fun _ i _ => n - (intOf i).toNat)
  case atStart => exact ⟨0, 1, vs0, L, by omega, rfl, rfl, HST.out, HS0.out⟩
  case round =>
    obtain ⟨c, d, vs, R, hc, rfl, rfl, hd, hs⟩ := hrel
    have HD := Lib.hid hd; have HS := Lib.hid hs
    clear hd hs
    by_cases hcn : c < n
    · obtain ⟨g, gc, hge, _, _, _⟩ := HS.out.hd.head (by intro h; have := HD.out.len; rw [h] at this; simp at this; omega)
      rw [HD.out.len] at hge
      cases hge
      have HROW := Lib.hid (show ∀ row ∈ R, row.length = n from fun row hr => (HD.out.ok row hr).1)
      obtain ⟨G, C, hGC⟩ := row_names HS.out.hd HROW.out (by omega)
      rw [HD.out.len] at hGC
      have HGC := Lib.hid hGC
      clear hGC
      go_wp2_with fail
      go_loop [8] (fun k => ∃ kk : Nat, c ≤ kk ∧ kk ≤ n ∧ k = .int .i64 kk ∧ ∀ j, c ≤ j → j < kk → at2 R j c = 0) (fun k => n - (intOf k).toNat)
      case atStart => exact ⟨c, by omega, by omega, rfl, fun j h1 h2 => by omega⟩
      case round =>
        obtain ⟨k, hck, hkn, rfl, hz⟩ := hrel
        have HZ := Lib.hid hz
        clear hz
        by_cases hk : k < n
        · obtain ⟨x1, x2⟩ := elemS HS.out HD.out.len HGC.out HROW.out hk hcn
          have hpb := at2_bd HD.out.ok HF.out k c
          by_cases h0 : at2 R k c = 0
          · have hnx : ∀ j, c ≤ j → j < k + 1 → at2 R j c = 0 := fun j h1 h2 => by
              by_cases e : j = k
              · rw [e]; exact h0
              · exact HZ.out j h1 (by omega)
            have HNX := Lib.hid hnx
            rw [h0] at x2
            clear hnx h0 hpb
            go_wp2
            go_round
            case rel => exact ⟨k + 1, by omega, by omega, by go_num, HNX.out⟩
            case measure => simp [intOf]; omega
          · have hk0 : (at2 R k c == 0) = false := by rw [beq_eq_false_iff_ne]; exact h0
            have hkn2 : ((k : Int) == n) = false := by rw [beq_eq_false_iff_ne]; omega
            by_cases hkc : k = c
            · have hkc' : c = k := hkc.symm
              clear hkc
              subst hkc'
              have HDA := HD
              have HSA := HS
              have HPV := Lib.hid h0
              clear h0 x1 x2 hpb
              have HLN1 := Lib.hid HDA.out.len
              have HROW1 := Lib.hid (show ∀ row ∈ R, row.length = n from fun row hr => (HDA.out.ok row hr).1)
              obtain ⟨G1, C1, hGC1⟩ := row_names HSA.out.hd HROW1.out (by omega)
              rw [HLN1.out] at hGC1
              have HGC1 := Lib.hid hGC1
              clear hGC1
              obtain ⟨y1, y2⟩ := elemS HSA.out HLN1.out HGC1.out HROW1.out hcn hcn
              have hd0 := HDA.out.lo
              have hd1 := HDA.out.hi
              have hpv0 := at2_bd HDA.out.ok HF.out c c
              have HDP := Lib.hid (HDA.out.pivot HF.out hcn HPV.out)
              have HOK1 := Lib.hid HDA.out.ok
              have HEC := Lib.hid fun (y : Int) (hy : 0 ≤ y ∧ y ≤ 97) i (hi1 : c < i) (hi2 : i < n) wx (hs : Sep wx [OM (.slice (some ⟨g, 0, none⟩) n oc) vs (elimTo q R c y i), KeepA w]) => elim_call q (l := [KeepA w]) HF.out hy HOK1.out hn1 hi1 (by rw [HLN1.out]; exact hi2) hs
              have HES := Lib.hid (elim_start (q : Int) R c)
              have HEL := Lib.hid fun (y : Int) i => (elim_len (q : Int) R c y i).trans HLN1.out
              have HEO := Lib.hid fun (y : Int) i => elim_ok (y := y) (i := i) HOK1.out (show c < (R).length by rw [HLN1.out]; exact hcn)
              have HEA := Lib.hid fun (y : Int) i (hi : c < i) (hi2 : i < n) => (show at2 (elimTo q R c y i) i c = at2 R i c by unfold at2; rw [elim_at (by rw [HLN1.out]; exact hi2), if_neg (by omega)])
              have HAB := Lib.hid fun i => at2_bd HOK1.out HF.out i c
              have hmul := mul_bd2 (a := d) (b := at2 R c c) (A := 97) (B := 97) (by omega) (by omega) (by omega) (by omega)
              have hmul0 := Int.mul_nonneg hd0 hpv0.1
              generalize hpvx : at2 R c c = pv at *
              have hib := invI_bd (q : Int) pv (by omega) (by omega) (by omega) (by omega)
              have hib2 : invI (q : Int) pv ≤ 97 := by
                have := Int.emod_lt_of_pos (pv ^ ((q : Int).toNat - 2 + if (q : Int) = 2 then 1 else 0)) (show 0 < (q : Int) by omega)
                unfold invI
                omega
              generalize hyx : invI (q : Int) pv = y at *
              have HIV := Lib.hid fun wx => inverse_any (q : Int) pv wx (by omega) (by omega) (by omega) (by omega)
              rw [hyx] at HIV
              have htm : (d * pv).tmod q = (d * pv) % q := Int.tmod_eq_emod_of_nonneg hmul0
              have HHD := Lib.hid fun (i : Nat) wx (L' : List (List Int)) (hl' : L'.length = n) (h : Sep wx [OM (.slice (some ⟨g, 0, none⟩) n oc) vs L', KeepA w]) (hi : i < n) => heads h hl' HGC1.out i hi
              clear hd0 hd1 hpv0 hpvx hyx
              go_wp2_with (first
                | (go_at_call 110; with_reducible refine (HIV.out _).mono ?_; rintro e w' ⟨rfl, rfl⟩))
              go_loopw [10] (fun i wr2 => ∃ t : Nat, c < t ∧ t ≤ n ∧ i = .int .i64 t ∧ Sep wr2 [OM (.slice (some ⟨g, 0, none⟩) n oc) vs (elimTo q R c y t), KeepA w]) (fun i _ => n - (intOf i).toNat)
              case atStart => exact ⟨c + 1, by omega, by omega, by go_num, by rw [HES.out]; exact HSA.out⟩
              case round =>
                obtain ⟨t, hct, htn, rfl, hs⟩ := hrel
                have HST2 := Lib.hid hs
                clear hs
                by_cases hlt : t < n
                · obtain ⟨z1, z2⟩ := elemS HST2.out (HEL.out y t) HGC1.out (fun row hr => (HEO.out y t row hr).1) hlt hcn
                  have z3 := heads HST2.out (HEL.out y t) HGC1.out c hcn
                  rw [HEA.out y t hct hlt] at z2
                  have hcall := HEC.out y ⟨hib.1, hib2⟩ t hct hlt
                  rw [HGC1.out t hlt, HGC1.out c hcn] at hcall
                  have hx := HAB.out t
                  generalize at2 R t c = x at *
                  have hm2 := mul_bd2 (a := -x) (b := y) (A := 97) (B := 97) (by omega) ⟨hib.1, hib2⟩ (by omega) (by omega)
                  have wr1 : IntKind.i64.wrap (-x) = -x := by rw [IntKind.wrap_i64]; omega
                  have wr2' : IntKind.i64.wrap (-x * y) = -x * y := by
                    generalize -x * y = xy at *
                    rw [IntKind.wrap_i64]; omega
                  have HCALL := Lib.hid hcall
                  clear hcall hx hm2
                  go_wp2_with fail
                  go_region_law (first
                    | (try go_simp
                       go_at_call 244
                       go_loud (refine (HCALL.out _ HST2.out.dr).mono ?_)
                       rintro e w4 ⟨rfl, hs4⟩
                       have HS4 := Lib.hid hs4
                       clear hs4))
                  all_goals
                    go_wp2
                    go_roundw
                    case rel => exact ⟨t + 1, by omega, by omega, by go_num, HS4.out⟩
                    case measure => simp [intOf]; omega
                · have htn2 : t = n := by omega
                  subst htn2
                  go_wp2
                  go_roundw
                  case rel => exact ⟨c + 1, _, _, _, by omega, by go_num, rfl, HDP.out, HST2.out⟩
                  case measure => simp [intOf]; omega
            · have hkc2 : ((k : Int) == c) = false := by rw [beq_eq_false_iff_ne]; omega
              have hne : k ≠ c := hkc
              have hne2 : c ≠ k := fun e => hkc e.symm
              have hd0' := HD.out.lo
              have hd1' := HD.out.hi
              have HD2 := Lib.hid (HD.out.swap (show c < k by omega) hk)
              have hpv : at2 (swapL R k c) c c = at2 R k c := by
                unfold at2
                rw [swapL_get (by rw [HD.out.len]; exact hk) (by rw [HD.out.len]; exact hcn)]
                unfold tw
                rw [if_neg hne2, if_pos rfl]
              obtain ⟨ar, cr, aj, cj, t1, t2, t3, t4, vs', t5⟩ := HS.out.swapN HD.out.len.symm HROW.out (r := k) (j := c) (by rw [HD.out.len]; exact hk) (by rw [HD.out.len]; exact hcn)
              rw [x1] at t1
              simp only [Option.some.injEq, Value.slice.injEq, true_and] at t1
              obtain ⟨rfl, rfl⟩ := t1
              have HS1 := Lib.hid t5
              clear t5
              have hdb : IntKind.i64.wrap (-d) = -d := by rw [IntKind.wrap_i64]; omega
              have HMOD := Lib.hid fun wx => mod_all (q : Int) (-d) (by omega) (by omega) (by omega) (by omega) wx
              go_wp2_with fail
              go_region
              have HSA := Lib.hid HS1.out.dr
              have HDA := HD2
              have HPV := Lib.hid (show at2 (swapL R k c) c c ≠ 0 by rw [hpv]; exact h0)
              rw [← hpv] at hk0
              clear h0 hpv x1 x2 hpb HS1 HD2 t2 t3 t4 hd0' hd1'
              generalize ((wr.setCell ⟨g, k, none⟩ (.slice aj n cj)).setCell ⟨g, c, none⟩ (.slice (some ⟨G k, 0, none⟩) n (C k))).drew = w2 at *
              generalize swapL R k c = R1 at *
              generalize -d % (q : Int) = d1 at *
              have HLN1 := Lib.hid HDA.out.len
              have HROW1 := Lib.hid (show ∀ row ∈ R1, row.length = n from fun row hr => (HDA.out.ok row hr).1)
              obtain ⟨G1, C1, hGC1⟩ := row_names HSA.out.hd HROW1.out (by omega)
              rw [HLN1.out] at hGC1
              have HGC1 := Lib.hid hGC1
              clear hGC1
              obtain ⟨y1, y2⟩ := elemS HSA.out HLN1.out HGC1.out HROW1.out hcn hcn
              have hd0 := HDA.out.lo
              have hd1 := HDA.out.hi
              have hpv0 := at2_bd HDA.out.ok HF.out c c
              have HDP := Lib.hid (HDA.out.pivot HF.out hcn HPV.out)
              have HOK1 := Lib.hid HDA.out.ok
              have HEC := Lib.hid fun (y : Int) (hy : 0 ≤ y ∧ y ≤ 97) i (hi1 : c < i) (hi2 : i < n) wx (hs : Sep wx [OM (.slice (some ⟨g, 0, none⟩) n oc) vs' (elimTo q R1 c y i), KeepA w]) => elim_call q (l := [KeepA w]) HF.out hy HOK1.out hn1 hi1 (by rw [HLN1.out]; exact hi2) hs
              have HES := Lib.hid (elim_start (q : Int) R1 c)
              have HEL := Lib.hid fun (y : Int) i => (elim_len (q : Int) R1 c y i).trans HLN1.out
              have HEO := Lib.hid fun (y : Int) i => elim_ok (y := y) (i := i) HOK1.out (show c < (R1).length by rw [HLN1.out]; exact hcn)
              have HEA := Lib.hid fun (y : Int) i (hi : c < i) (hi2 : i < n) => (show at2 (elimTo q R1 c y i) i c = at2 R1 i c by unfold at2; rw [elim_at (by rw [HLN1.out]; exact hi2), if_neg (by omega)])
              have HAB := Lib.hid fun i => at2_bd HOK1.out HF.out i c
              have hmul := mul_bd2 (a := d1) (b := at2 R1 c c) (A := 97) (B := 97) (by omega) (by omega) (by omega) (by omega)
              have hmul0 := Int.mul_nonneg hd0 hpv0.1
              generalize hpvx : at2 R1 c c = pv at *
              have hib := invI_bd (q : Int) pv (by omega) (by omega) (by omega) (by omega)
              have hib2 : invI (q : Int) pv ≤ 97 := by
                have := Int.emod_lt_of_pos (pv ^ ((q : Int).toNat - 2 + if (q : Int) = 2 then 1 else 0)) (show 0 < (q : Int) by omega)
                unfold invI
                omega
              generalize hyx : invI (q : Int) pv = y at *
              have HIV := Lib.hid fun wx => inverse_any (q : Int) pv wx (by omega) (by omega) (by omega) (by omega)
              rw [hyx] at HIV
              have htm : (d1 * pv).tmod q = (d1 * pv) % q := Int.tmod_eq_emod_of_nonneg hmul0
              have HHD := Lib.hid fun (i : Nat) wx (L' : List (List Int)) (hl' : L'.length = n) (h : Sep wx [OM (.slice (some ⟨g, 0, none⟩) n oc) vs' L', KeepA w]) (hi : i < n) => heads h hl' HGC1.out i hi
              clear hd0 hd1 hpv0 hpvx hyx
              go_wp2_with (first
                | (go_at_call 110; with_reducible refine (HIV.out _).mono ?_; rintro e w' ⟨rfl, rfl⟩) 
                | (go_at_call 236; with_reducible refine (HMOD.out _).mono ?_; rintro e w' ⟨rfl, rfl⟩))
              go_loopw [10] (fun i wr2 => ∃ t : Nat, c < t ∧ t ≤ n ∧ i = .int .i64 t ∧ Sep wr2 [OM (.slice (some ⟨g, 0, none⟩) n oc) vs' (elimTo q R1 c y t), KeepA w]) (fun i _ => n - (intOf i).toNat)
              case atStart => exact ⟨c + 1, by omega, by omega, by go_num, by rw [HES.out]; exact HSA.out⟩
              case round =>
                obtain ⟨t, hct, htn, rfl, hs⟩ := hrel
                have HST2 := Lib.hid hs
                clear hs
                by_cases hlt : t < n
                · obtain ⟨z1, z2⟩ := elemS HST2.out (HEL.out y t) HGC1.out (fun row hr => (HEO.out y t row hr).1) hlt hcn
                  have z3 := heads HST2.out (HEL.out y t) HGC1.out c hcn
                  rw [HEA.out y t hct hlt] at z2
                  have hcall := HEC.out y ⟨hib.1, hib2⟩ t hct hlt
                  rw [HGC1.out t hlt, HGC1.out c hcn] at hcall
                  have hx := HAB.out t
                  generalize at2 R1 t c = x at *
                  have hm2 := mul_bd2 (a := -x) (b := y) (A := 97) (B := 97) (by omega) ⟨hib.1, hib2⟩ (by omega) (by omega)
                  have wr1 : IntKind.i64.wrap (-x) = -x := by rw [IntKind.wrap_i64]; omega
                  have wr2' : IntKind.i64.wrap (-x * y) = -x * y := by
                    generalize -x * y = xy at *
                    rw [IntKind.wrap_i64]; omega
                  have HCALL := Lib.hid hcall
                  clear hcall hx hm2
                  go_wp2_with fail
                  go_region_law (first
                    | (try go_simp
                       go_at_call 244
                       go_loud (refine (HCALL.out _ HST2.out.dr).mono ?_)
                       rintro e w4 ⟨rfl, hs4⟩
                       have HS4 := Lib.hid hs4
                       clear hs4))
                  all_goals
                    go_wp2
                    go_roundw
                    case rel => exact ⟨t + 1, by omega, by omega, by go_num, HS4.out⟩
                    case measure => simp [intOf]; omega
                · have htn2 : t = n := by omega
                  subst htn2
                  go_wp2
                  go_roundw
                  case rel => exact ⟨c + 1, _, _, _, by omega, by go_num, rfl, HDP.out, HST2.out⟩
                  case measure => simp [intOf]; omega
        · have hkn2 : k = n := by omega
          subst hkn2
          have hzero := HD.out.zero hcn fun i h1 h2 => HZ.out i h1 h2
          have HZE := Lib.hid hzero
          clear hzero
          go_wp2
          go_ret
          exact ⟨0, rfl, by omega, by omega, by rw [HZE.out, toF_zero], HS.out.s2.hd⟩
    · have hcn2 : c = n := by omega
      subst hcn2
      have hfin := HD.out.fin
      have HFIN := Lib.hid hfin
      have hd0 := HD.out.lo
      have hd1 := HD.out.hi
      clear hfin
      go_wp2
      go_ret
      exact ⟨d, rfl, hd0, hd1, HFIN.out, HS.out.s2.hd⟩
end Go.Proofs.YtpeaeminjbjlnaaDoor

/-
  Products that are refused; what a product answers. Conditions: small sizes.
-/
namespace Go.Proofs.YtpeaeminjbjlnaaDoor
open Go.RowKit La
set_option linter.unusedVariables false

def mulB (p ca : Int) (A : List (List Int)) (cb : Int) (B : List (List Int)) : Bool := matB p ca A && (matB p cb B && ca == (B.length : Int))
set_option maxRecDepth 100000 in
set_option maxHeartbeats 1000000 in
theorem mulMatrices_no (p ca cb : Int) (u v : Value) (A M : List (List Int)) (w : World) (ht : Tab w) (hu : MatV w u A) (hv : MatV w v M) (ha : A.length ≤ 1000000) (haa : ∀ row ∈ A, row.length ≤ 1000000) (hm : M.length ≤ 1000000) (hmm : ∀ row ∈ M, row.length ≤ 1000000) (hno : mulB p ca A cb M = false) :
    Calls Tryd.prog 29 #[.int .i64 p, mxV ca u, mxV cb v] w fun e w' => e = .returned (.tuple #[mxV 0 nilS, .bool false]) ∧ w.grownBy w' none := by
  have H1 := fun W (hg : w.grownBy W none) => isMatrix_any p ca u A W (ht.grown hg) (hu.carry hg) ha haa
  have H2 := fun W (hg : w.grownBy W none) => isMatrix_any p cb v M W (ht.grown hg) (hv.carry hg) hm hmm
  obtain ⟨ua, uc, rfl⟩ := hu.shape
  obtain ⟨va, vc, rfl⟩ := hv.shape
  unfold mxV nilS at *
  unfold mulB at hno
  generalize A.length = la at *
  generalize M.length = lm at *
  have HS := Lib.hid ((((Sep.start w).box #[.int .i64 ca, .slice ua la uc] 39).box #[.int .i64 cb, .slice va lm vc] 39).box #[.int .i64 0, .slice none 0 0] 39)
  have HG := Lib.hid (show w.grownBy _ none from HS.out.tl.tl.tl.hd)
  simp only [show ∀ (W : World) o, (W.alloc o).heap.size = W.heap.size + 1 from fun W o => by simp] at HS
  obtain ⟨y0, y1, _, _⟩ := bx HS.out.s3.hd
  obtain ⟨z0, z1, _, _⟩ := bx HS.out.s2.hd
  clear hu hv haa hmm ht
  cases h1 : matB p ca A <;> cases h2 : matB p cb M <;> by_cases h3 : ca = (lm : Int)
  all_goals
    rw [h1] at H1
    rw [h2] at H2
    first
      | (exfalso; rw [h1, h2] at hno; simp [h3] at hno; done)
      | (have HA := Lib.hid H1; have HB := Lib.hid H2
         clear H1 H2 h1 h2 hno
         try subst h3
         go_enter Tryd.func29, Tryd.ntmps29
         go_wp2_with (first
           | (go_at_call 117
              with_reducible refine (HA.out _ HG.out).mono ?_
              rintro e w1 ⟨rfl, g1⟩
              have HS1 := Lib.hid (HS.out.grown g1)
              have HG1 := Lib.hid (HG.out.trans g1)
              obtain ⟨x0, x1, x2, x3⟩ := bx HS1.out.hd
              obtain ⟨a0, a1, _, _⟩ := bx HS1.out.s3.hd
              obtain ⟨b0, b1, _, _⟩ := bx HS1.out.s2.hd
              have HQ := Lib.hid ((HS1.out.setB 0 (.int .i64 0)).setB 1 (.slice none 0 0))
              clear g1)
           | (go_at_call 117
              with_reducible refine (HB.out _ HG1.out).mono ?_
              rintro e w2 ⟨rfl, g2⟩
              have HS2 := Lib.hid (HS1.out.grown g2)
              obtain ⟨d0, d1, d2, d3⟩ := bx HS2.out.hd
              obtain ⟨e0, e1, _, _⟩ := bx HS2.out.s3.hd
              obtain ⟨f0, f1, _, _⟩ := bx HS2.out.s2.hd
              have HQ := Lib.hid ((HS2.out.setB 0 (.int .i64 0)).setB 1 (.slice none 0 0))
              clear g2))
         refine bodyPost_ret_by (v := .tuple #[.agg #[.int .i64 0, .slice none 0 0], .bool false]) ?_ rfl ?_
         · simp [results, go_sem, *]
         · exact ⟨rfl, HQ.out.tl.tl.tl.hd⟩)
/-- what a product answers, whatever the matrices are -/
theorem mul_some (p ca : Int) (A : List (List Int)) (cb : Int) (B : List (List Int)) : ∃ (b : Bool) (c' : Int) (K : List (List Int)), b = mulB p ca A cb B ∧ (b = true → c' = cb ∧ K = timesL p A B cb.toNat) ∧ Small 24 K ∧
    ∀ (u v : Value) (W : World), Tab W → MatV W u A → MatV W v B → Small 1000 A → Small 1000 B → Calls Tryd.prog 29 #[.int .i64 p, mxV ca u, mxV cb v] W fun e w' => ∃ o, e = .returned (.tuple #[mxV c' o, .bool b]) ∧ MatV w' o K ∧ W.grownBy w' none := by
  cases hb : mulB p ca A cb B
  · refine ⟨false, 0, [], rfl, (fun h => by cases h), ⟨by simp, fun r hr => by simp at hr⟩, fun u v W ht hu hv ha hc => ?_⟩
    refine (mulMatrices_no p ca cb u v A B W ht hu hv (Nat.le_trans ha.1 (by decide)) (fun row hr => Nat.le_trans (ha.2 row hr) (by decide)) (Nat.le_trans hc.1 (by decide)) (fun row hr => Nat.le_trans (hc.2 row hr) (by decide)) hb).mono ?_
    rintro e w' ⟨rfl, g⟩
    exact ⟨nilS, rfl, nil_mat' _, g⟩
  · have hb0 := hb
    unfold mulB at hb0
    simp only [Bool.and_eq_true, beq_iff_eq] at hb0
    obtain ⟨h1, h2, h3⟩ := hb0
    have hfb : fldB p = true := by
      have h := h1
      unfold matB at h
      rw [Bool.and_eq_true] at h
      exact h.1
    obtain ⟨a1, a2⟩ := fldB_bd hfb
    obtain ⟨q, rfl⟩ := Int.eq_ofNat_of_zero_le (show 0 ≤ p by omega)
    haveI : NeZero q := ⟨by omega⟩
    obtain ⟨_, _, n, rfl, hn, hm, hB⟩ := matB_parts h2
    have hl : A.length ≤ 24 := (mat_bd h1).2.2
    refine ⟨true, n, _, rfl, fun _ => ⟨rfl, rfl⟩, ?_, fun u v W ht hu hv ha hc => mulMatrices_yes q ca n u v A B W ht hu hv h1 h2 h3⟩
    rw [Int.toNat_natCast]
    exact ⟨by rw [timesL_len]; exact hl, fun row hr => by rw [(timesL_ok (p := q) (X := A) (by omega) hB row hr).1]; exact hn⟩
end Go.Proofs.YtpeaeminjbjlnaaDoor

/-
  Products of matrices in the reference. Conditions: small sizes.
-/
namespace Go.Proofs.YtpeaeminjbjlnaaDoor
open Go.RowKit
set_option linter.unusedVariables false

theorem fdAddS_any (p a b : Int) (w : World) (hp : 1 ≤ p) (hp2 : p ≤ 1000) (ha : 0 ≤ a) (ha2 : a ≤ 1000) (hb : 0 ≤ b) (hb2 : b ≤ 1000) : Calls Tryd.prog 248 #[.int .i64 p, .int .i64 a, .int .i64 b] w fun e w' => e = .returned (.int .i64 ((a + b) % p)) ∧ w = w' := by
  have h1 := Int.emod_nonneg (a + b) (show p ≠ 0 by omega)
  have h2 := Int.emod_lt_of_pos (a + b) (show 0 < p by omega)
  have h3 : 0 ≤ a + b := by omega
  go_enter Tryd.func248, Tryd.ntmps248
  go_wp2
  go_ret
  exact ⟨rfl, rfl⟩
theorem add_mod (q a b : Int) : (a + b % q) % q = (a + b) % q := by rw [Int.add_emod, Int.emod_emod, ← Int.add_emod]

set_option maxRecDepth 100000 in
set_option maxHeartbeats 4000000 in
theorem mxRow_any (q c : Nat) [NeZero q] (xv u : Value) (x : List Int) (B : List (List Int)) (w : World) (hq2 : 2 ≤ q) (hq : q ≤ 97) (hx : IntsV w xv x) (hu : MatV w u B) (hxo : VecOk q B.length x) (hB : RowsOk q c B) (hm : B.length ≤ 1000) (hc : c ≤ 1000) :
    Calls Tryd.prog 191 #[.int .i64 q, xv, mxV c u] w fun e w' => ∃ o, e = .returned o ∧ OwnInts w.heap.size w' o (combTo q x B c B.length) ∧ w.grownBy w' none := by
  obtain ⟨i0, hi, hz0, hz1, hz2⟩ := info_parts info_int
  have HI := Lib.hid hi; have HZ0 := Lib.hid hz0; have HZ1 := Lib.hid hz1; have HZ2 := Lib.hid hz2
  have hcl : (combTo q x B c B.length).length = c := (combTo_ok (x := x) (show 1 < q by omega) hB B.length (Nat.le_refl _)).1
  have HCB := Lib.hid fun k (hk : k ≤ B.length) => combTo_ok (x := x) (show 1 < q by omega) hB k hk
  have HU := Lib.hid hu; have HX := Lib.hid hx; have HBO := Lib.hid hB; have HXO := Lib.hid hxo
  obtain ⟨ua, uc, rfl⟩ := hu.shape
  obtain ⟨xa, xc, rfl, _⟩ := hx
  obtain ⟨hxl, hxb⟩ := hxo
  rw [hxl]
  unfold mxV
  generalize hn : B.length = n at *
  have HN := Lib.hid hn
  have HXL := Lib.hid hxl
  have HS0 := Lib.hid ((Sep.start w).box #[.int .i64 c, .slice ua n uc] 39)
  obtain ⟨y0, y1, _, _⟩ := bx HS0.out.hd
  clear hi hz0 hz1 hz2 hu hB hxb hn hxl hcl
  go_enter Tryd.func191, Tryd.ntmps191
  go_wp2_with (
    at_make
    refine wpList_make_full _ rfl _ _ 24 rfl _ 3 i0 (.int .i64 0) 1 Tryd.underlying24 HI.out HZ0.out HZ1.out _ _ _ _ c rfl rfl rfl rfl (by rw [HZ2.out]; omega) (by unfold maxLen; omega) (Nat.le_refl _) ?_
    intro w5 hown' hgr'
    rw [madeCells_int] at hown'
    have hs5 := HS0.out.newI hgr' (show OwnInts _ w5 (.slice (some ⟨(w.alloc (.cells #[.int .i64 c, .slice ua n uc] 39)).heap.size, 0, none⟩) c c) (List.replicate c 0) by unfold OwnInts; rw [List.length_replicate]; exact hown')
    have HS5 := Lib.hid hs5
    clear hown' hgr' hs5)
  clear y0 y1
  have hs1 : (w.alloc (.cells #[.int .i64 c, .slice ua n uc] 39)).heap.size = w.heap.size + 1 := by simp
  rw [hs1] at HS5
  clear hs1
  generalize w.heap.size + 1 = g at *
  go_loopw [16] (fun i wr => ∃ k : Nat, k ≤ n ∧ i = .int .i64 k ∧ Sep wr [OI (.slice (some ⟨g, 0, none⟩) c c) (combTo q x B c k), BxA w.heap.size #[.int .i64 c, .slice ua n uc] 39, KeepA w]) (fun i _ => n - (intOf i).toNat)
  case atStart => exact ⟨0, by omega, rfl, HS5.out⟩
  case round =>
    obtain ⟨k, hk, rfl, hs⟩ := hrel
    have HSX := Lib.hid hs
    have hg : w.grownBy wr none := hs.tl.tl.hd
    clear hs
    by_cases hlt : k < n
    · have hkB : k < B.length := by rw [HN.out]; exact hlt
      have hkx : k < x.length := by rw [HXL.out]; exact hlt
      obtain ⟨d, hd, hsp, hdb, hcx⟩ := (HX.out.carry hg).at hkx
      obtain ⟨db, dof, _⟩ := d
      simp only at hsp hcx
      subst hsp
      cases hd
      have hxb := HXO.out.2 _ (List.getElem_mem hkx)
      rw [← getD_lt hkx] at hcx hxb
      obtain ⟨hal, hab⟩ := HCB.out k hk
      obtain ⟨hrl, hrb⟩ := HBO.out _ (getD_mem hkB)
      have HAD := Lib.hid (show combTo q x B c (k + 1) = addT q (combTo q x B c k) (x.getD k 0) (B.getD k []) from rfl)
      have HAB := Lib.hid (show ∀ t, t < c → 0 ≤ (combTo q x B c k).getD t 0 ∧ (combTo q x B c k).getD t 0 < q from fun t ht => by
        rw [List.getD_eq_getElem?_getD, List.getElem?_eq_getElem (by omega)]
        exact hab _ (List.getElem_mem _))
      have HBB := Lib.hid (show ∀ t, t < c → 0 ≤ (B.getD k []).getD t 0 ∧ (B.getD k []).getD t 0 < q from fun t ht => by
        rw [List.getD_eq_getElem?_getD (l := B.getD k []), List.getElem?_eq_getElem (by omega)]
        exact hrb _ (List.getElem_mem _))
      have HAL := Lib.hid hal; have HRL := Lib.hid hrl
      clear hab hrb hal hrl hdb
      generalize x.getD k 0 = xk at *
      generalize combTo q x B c k = acc at *
      go_wp2_with fail
      go_loopw [23] (fun i wx => ∃ (j : Nat) (zs : List Int), j ≤ c ∧ i = .int .i64 j ∧ zs.length = c ∧ (∀ t, t < j → zs.getD t 0 = (acc.getD t 0 + xk * (B.getD k []).getD t 0) % q) ∧ (∀ t, j ≤ t → zs.getD t 0 = acc.getD t 0) ∧ Sep wx [OI (.slice (some ⟨g, 0, none⟩) c c) zs, BxA w.heap.size #[.int .i64 c, .slice ua n uc] 39, KeepA w]) (fun i _ => c - (intOf i).toNat)
      case atStart => exact ⟨0, acc, by omega, rfl, HAL.out, fun _ h => absurd h (by omega), fun _ _ => rfl, HSX.out⟩
      case round =>
        obtain ⟨j, zs, hj, rfl, hz, h1, h2, hs⟩ := hrel
        have HZ := Lib.hid hz; have H1 := Lib.hid h1; have H2 := Lib.hid h2; have HSY := Lib.hid hs
        clear hz h1 h2 hs
        by_cases hlj : j < c
        · have HD := Lib.hid HSY.out.dr
          have hgd : w.grownBy wr.drew none := HD.out.tl.tl.hd
          have hjz : j < zs.length := by rw [HZ.out]; exact hlj
          have hc0 := HD.out.hd.cell HZ.out.symm hjz
          have hfr := HD.out.hd.free HZ.out.symm j
          have hzk : zs[j]'hjz = acc.getD j 0 := by
            have := H2.out j (Nat.le_refl _)
            rwa [List.getD_eq_getElem?_getD, List.getElem?_eq_getElem hjz, Option.getD_some] at this
          rw [hzk] at hc0
          obtain ⟨b0, b1, _, _⟩ := bx HD.out.s2.hd
          obtain ⟨bb, bo, bcap, bml, br, brc, he, hcell, hrow⟩ := HU.out.rowK hgd hkB
          cases he
          have hjr : j < (B.getD k []).length := by rw [HRL.out]; exact hlj
          obtain ⟨d2, hd2, hsp2, hdb2, hcy⟩ := (hrow.carry hgd).at hjr
          obtain ⟨db2, dof2, _⟩ := d2
          simp only at hsp2 hcy
          subst hsp2
          subst hd2
          rw [← getD_lt hjr] at hcy
          rw [HRL.out] at hcell
          have B1 := HAB.out j hlj; have B2 := HBB.out j hlj
          have HSN := Lib.hid fun v => HD.out.setI HZ.out.symm j v
          have HJZ := Lib.hid hjz
          clear hzk hrow hdb2 hgd hjz hjr
          generalize hak : acc.getD j 0 = ak at *
          generalize hbk : (B.getD k []).getD j 0 = bk at *
          have HAK := Lib.hid hak; have HBK := Lib.hid hbk
          have m0 := Int.emod_nonneg (xk * bk) (show (q : Int) ≠ 0 by omega)
          have m1 := Int.emod_lt_of_pos (xk * bk) (show 0 < (q : Int) by omega)
          have M1 := Lib.hid fun w1 => fdMulS_any q xk bk w1 (by omega) (by omega) hxb.1 (by omega) B2.1 (by omega)
          have m2 := fun w1 => fdAddS_any q ak (xk * bk % q) w1 (by omega) (by omega) B1.1 (by omega) m0 (by omega)
          rw [add_mod] at m2
          have M2 := Lib.hid m2
          clear m0 m1 m2 hak hbk
          go_wp2_with fail
          go_region_law (first
            | (try go_simp
               go_at_call 199
               refine (M1.out _).mono ?_
               rintro e w' ⟨rfl, rfl⟩)
            | (try go_simp
               go_at_call 248
               refine (M2.out _).mono ?_
               rintro e w' ⟨rfl, rfl⟩))
          all_goals
            go_wp2
            go_roundw
            case rel => exact ⟨j + 1, zs.set j ((ak + xk * bk) % q), by omega, by go_num, by rw [List.length_set]; exact HZ.out, fun t ht => by
              rw [getD_setI HJZ.out]
              split
              · next e => rw [e, HAK.out, HBK.out]
              · exact H1.out t (by omega), fun t ht => by
              rw [getD_setI HJZ.out, if_neg (by omega)]
              exact H2.out t (by omega), HSN.out _⟩
            case measure => simp [intOf]; omega
        · have hfin : zs = addT q acc xk (B.getD k []) := ext_getD (by rw [HZ.out]; exact ((addT_ok (p := q) xk HAL.out HRL.out).1).symm) fun t ht => by
            have := HZ.out
            rw [H1.out t (by omega), addT_getD (by rw [HAL.out, HRL.out]) (by rw [HAL.out]; omega)]
          have hsy := HSY.out
          rw [hfin, ← HAD.out] at hsy
          have HSF := Lib.hid hsy
          clear hfin hsy
          go_wp2
          go_roundw
          case rel => exact ⟨k + 1, by omega, by go_num, HSF.out⟩
          case measure => simp [intOf]; omega
    · have hkn : k = n := by omega
      subst hkn
      clear hg
      go_wp2
      go_ret
      exact ⟨_, rfl, HSX.out.drop2.ints, HSX.out.tl.tl.hd⟩

theorem times_snoc {q : Int} {A B : List (List Int)} {c k : Nat} (h : k < A.length) : (timesL q A B c).take (k + 1) = (timesL q A B c).take k ++ [combTo q (A.getD k []) B c B.length] := by
  unfold timesL
  rw [← take_push (show k < (A.map fun row => combTo q row B c B.length).length by simpa using h), List.getElem_map, List.getD_eq_getElem?_getD, List.getElem?_eq_getElem h]
  rfl
theorem Sep.set22 {w : World} {l : List Asrt} {b : Nat} {x y : Value} {t : TypeId} (h : Sep w (BxA b #[x, y] t :: l)) (y' : Value) : Sep (w.setCell ⟨b, 1, none⟩ y') (BxA b #[x, y'] t :: l) := h.setB 1 y'
set_option maxRecDepth 100000 in
set_option maxHeartbeats 2000000 in
theorem mxMul_any (q c : Nat) [NeZero q] (ca : Int) (v u : Value) (A B : List (List Int)) (w : World) (hq2 : 2 ≤ q) (hq : q ≤ 97) (hv : MatV w v A) (hu : MatV w u B) (hA : RowsOk q B.length A) (hB : RowsOk q c B) (ha : A.length ≤ 1000) (hm : B.length ≤ 1000) (hc : c ≤ 1000) :
    Calls Tryd.prog 182 #[.int .i64 q, mxV ca v, mxV c u] w fun e w' => ∃ o vs, e = .returned (mxV c o) ∧ OwnM w.heap.size w' o vs (timesL q A B c) ∧ w.grownBy w' none := by
  have HR := Lib.hid fun W xv x (hg : w.grownBy W none) (hx : IntsV W xv x) (hok : VecOk q B.length x) => mxRow_any q c xv u x B W hq2 hq hx (hu.carry hg) hok hB hm hc
  have HV := Lib.hid hv; have HAO := Lib.hid hA
  have HCL := Lib.hid fun x => (combTo_ok (x := x) (show 1 < q by omega) hB B.length (Nat.le_refl _)).1
  have HTL := Lib.hid (timesL_len q A B c)
  have HSN := Lib.hid fun k (hk : k < A.length) => times_snoc (q := (q : Int)) (B := B) (c := c) hk
  obtain ⟨va, vc, rfl⟩ := hv.shape
  obtain ⟨ua, uc, rfl⟩ := hu.shape
  unfold mxV at *
  generalize hla : A.length = la at *
  generalize hlb : B.length = lb at *
  have HLA := Lib.hid hla
  have HS0 := Lib.hid ((((((Sep.start w).box #[.int .i64 ca, .slice va la vc] 39).box #[.int .i64 c, .slice ua lb uc] 39).box #[.int .i64 0, .slice none 0 0] 39).box #[.int .i64 c, .slice none 0 0] 39).nilM)
  simp only [show ∀ (W : World) o, (W.alloc o).heap.size = W.heap.size + 1 from fun W o => by simp] at HS0
  obtain ⟨y0, y1, _, _⟩ := bx HS0.out.s5.hd
  obtain ⟨y2, y3, _, _⟩ := bx HS0.out.s4.hd
  clear hv hu hA hB hla hlb
  go_enter Tryd.func182, Tryd.ntmps182
  go_wp2_with fail
  clear y0 y1 y2 y3
  go_loopw [16] (fun i wr => ∃ (k : Nat) (oa : Option Addr) (oc : Nat) (vs : List Value), k ≤ la ∧ i = .int .i64 k ∧ Sep wr [OM (.slice oa k oc) vs ((timesL q A B c).take k), BxA (w.heap.size + 1 + 1 + 1) #[.int .i64 c, .slice oa k oc] 39, BxA (w.heap.size + 1 + 1) #[.int .i64 0, .slice none 0 0] 39, BxA (w.heap.size + 1) #[.int .i64 c, .slice ua lb uc] 39, BxA w.heap.size #[.int .i64 ca, .slice va la vc] 39, KeepA w]) (fun i _ => la - (intOf i).toNat)
  case atStart => exact ⟨0, none, 0, [], by omega, rfl, HS0.out⟩
  case round =>
    obtain ⟨k, oa, oc, vs, hk, rfl, hs⟩ := hrel
    have HSX := Lib.hid hs
    have hg : w.grownBy wr none := hs.tl.tl.tl.tl.tl.hd
    clear hs
    by_cases hlt : k < la
    · have hkA : k < A.length := by rw [HLA.out]; exact hlt
      obtain ⟨bb, bo, bcap, bml, br, brc, he, hcell, hrow⟩ := HV.out.rowK hg hkA
      cases he
      have hro := HAO.out _ (getD_mem hkA)
      have HD := Lib.hid HSX.out.dr
      have hgd : w.grownBy wr.drew none := HD.out.tl.tl.tl.tl.tl.hd
      have HRW := Lib.hid (HR.out wr.drew _ _ hgd (hrow.carry hgd) hro)
      have HTS := Lib.hid (HSN.out k hlt)
      have HPL := Lib.hid (show ((timesL q A B c).take k).length = k by rw [List.length_take, HTL.out]; omega)
      have HCK := Lib.hid (HCL.out (A.getD k []))
      obtain ⟨a0, a1, a2, a3⟩ := bx HD.out.s2.hd
      obtain ⟨b0, b1, _, _⟩ := bx HD.out.s4.hd
      clear hro hrow hg hgd hkA
      generalize (A.getD k []).length = rl at *
      generalize combTo q (A.getD k []) B c lb = nz at *
      go_wp2_with fail
      go_region_law (first
        | (try go_simp
           go_at_call 191
           go_loud (refine HRW.out.mono ?_)
           rintro e w2 ⟨o2, rfl, ho, g2⟩
           obtain ⟨oa2, oc2, rfl⟩ := own_shape ho
           rw [HCK.out] at ho ⊢
           have HS2 := Lib.hid (HD.out.newI g2 ho)
           obtain ⟨c0, c1, c2, c3⟩ := bx HS2.out.s3.hd
           have z2 := fun o => cell_alloc c1 o
           clear ho g2)
        | (go_loud (refine step_app_rowS rfl (.tmp 21) (.tmp 26) rfl rfl rfl HS2.out (by rw [HPL.out]; omega) ?_)
           intro g8 c8 w8 h8
           rw [HPL.out] at h8 ⊢
           obtain ⟨x0, x1, x2, x3⟩ := bx h8.s2.hd
           have HS9 := Lib.hid ((h8.s2.set22 (.slice (some ⟨g8, 0, none⟩) (k + 1) c8)).s2)
           clear h8))
      all_goals
        go_wp2
        go_roundw
        case rel => exact ⟨k + 1, _, _, _, by omega, by go_num, by rw [HTS.out]; exact HS9.out⟩
        case measure => simp [intOf]; omega
    · have hkn : k = la := by omega
      subst hkn
      have HALL := Lib.hid (show (timesL q A B c).take k = timesL q A B c from List.take_of_length_le (by rw [HTL.out]; exact Nat.le_refl _))
      obtain ⟨a0, a1, a2, a3⟩ := bx HSX.out.s2.hd
      obtain ⟨b0, b1, b2, b3⟩ := bx HSX.out.s3.hd
      have HQ := Lib.hid ((HSX.out.s3.setB 0 (.int .i64 c)).setB 1 (.slice oa k oc))
      clear hg
      go_wp2
      refine bodyPost_ret_by (v := .agg #[.int .i64 c, .slice oa k oc]) ?_ rfl ?_
      · simp [results, go_sem, *]
      · have h := HQ.out.s2.drop2.drop2.drop2.drop2
        rw [HALL.out] at h
        exact ⟨_, vs, rfl, h.mat, h.s2.hd⟩
end Go.Proofs.YtpeaeminjbjlnaaDoor

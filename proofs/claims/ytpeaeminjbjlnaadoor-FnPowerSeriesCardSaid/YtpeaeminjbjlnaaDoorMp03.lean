/-
  Quotients of polynomials in the reference. Conditions: small sizes.
-/
import Derived.Test.YtpeaeminjbjlnaaDoorMp02
import Derived.Test.YtpeaeminjbjlnaaDoorMp01
import Derived.RangeFuncBox
import Derived.RangeFuncLeaves
import Derived.Shelf.Abstract
import Derived.WalkKit
import Derived.OwnWalkIn
import Derived.TacticsInMore
import Derived.LoopNIn
import Derived.LoopIn
import Derived.Test.YtpeaeminjbjlnaaDoorMp00
namespace Go.Proofs.YtpeaeminjbjlnaaDoor
open Go.RowKit
set_option linter.unusedVariables false

theorem sub_mod {q : Int} (r k x : Int) : (r + q - k * x % q) % q = (r + -k * x) % q := by
  have h := Int.mul_ediv_add_emod (k * x) q
  have e : r + -k * x = (r + q - k * x % q) + q * (-(k * x / q) - 1) := by
    rw [Int.neg_mul]
    have : q * (-(k * x / q) - 1) = -(q * (k * x / q)) - q := by rw [Int.mul_sub, Int.mul_neg, Int.mul_one]
    omega
  rw [e, Int.add_mul_emod_self_left]
set_option maxRecDepth 100000 in
set_option maxHeartbeats 2000000 in
theorem poDiv_any (q : Nat) [NeZero q] (u v : Value) (f g : List Int) (w : World) (hfl : fldN q = true) (hq2 : q ≤ 97) (hu : IntsV w u f) (hv : IntsV w v g) (hf : PolyOk q f) (hg : PolyOk q g) (hne : g ≠ []) (lf : f.length ≤ 200) (lg : g.length ≤ 200) :
    Calls Tryd.prog 104 #[.int .i64 q, u, v] w fun e w' => ∃ o1 o2, e = .returned (.tuple #[o1, o2]) ∧ IntsV w' o1 (quoL q f g) ∧ IntsV w' o2 (remL q f g) ∧ w.grownBy w' none := by
  obtain ⟨i0, hi, hz0, hz1, hz2⟩ := info_parts info_int
  have HI := Lib.hid hi; have HZ0 := Lib.hid hz0; have HZ1 := Lib.hid hz1; have HZ2 := Lib.hid hz2
  have hq := lt_p hfl
  have HU := Lib.hid hu; have HV := Lib.hid hv
  have hgl := len_pos hne
  have HGB := Lib.hid hg.els
  have HCL := Lib.hid (l1Own_any u f w hu (by omega))
  have HFO := Lib.hid hf.1
  have HFT := Lib.hid hf.trim
  have hlast : 0 < lastC g ∧ lastC g < q := by
    have l : g.length - 1 < g.length := by omega
    have e : lastC g = g[g.length - 1] := by unfold lastC; rw [List.getD_eq_getElem?_getD, List.getElem?_eq_getElem l]; rfl
    have h1 := hg.els _ (List.getElem_mem l)
    have h2 : lastC g ≠ 0 := hg.2 hne
    rw [← e] at h1
    omega
  have hib := invI_bd (q : Int) (lastC g) (by omega) (by omega) (by omega) (by omega)
  have hib2 : invI (q : Int) (lastC g) ≤ 97 := by
    have := Int.emod_lt_of_pos (lastC g ^ ((q : Int).toNat - 2 + if (q : Int) = 2 then 1 else 0)) (show 0 < (q : Int) by omega)
    unfold invI
    omega
  have HIV := Lib.hid fun wx => fdInvS_any q (lastC g) wx hfl (by omega) hlast.1 hlast.2
  have HTR := Lib.hid fun (a : Option Addr) (c : Nat) (zs : List Int) (W : World) (h : IntsV W (.slice a zs.length c) zs) (hc : zs.length ≤ c) (hl : zs.length ≤ 1000) => poTrim_any a c zs W h hc hl
  obtain ⟨ua, uc, rfl, hui⟩ := hu
  obtain ⟨va, vc, rfl, hvi⟩ := id hv
  obtain ⟨d, hva, hs1, hd1, hc1⟩ := hv.at (show g.length - 1 < g.length by omega)
  rw [← getD_lt (by omega)] at hc1
  have hgl2 : IntKind.i64.wrap ((g.length : Int) - 1) = ((g.length - 1 : Nat) : Int) := by rw [IntKind.wrap_i64]; omega
  cases hva
  obtain ⟨db, dof, _⟩ := d
  simp only at hs1 hc1
  subst hs1
  change w.cell? ⟨db, dof + (g.length - 1), none⟩ = some (.int .i64 (lastC g)) at hc1
  have HC1 := Lib.hid hc1
  have hdbw : db < w.heap.size := hd1
  have i1 : ((g.length - 1 : Nat) : Int) < (g.length : Int) := by omega
  clear hui hvi hv hf hg hi hz0 hz1 hz2 hc1 hd1
  by_cases hlt : f.length < g.length
  · have HQ := Lib.hid (show quoL q f g = [] by unfold quoL; rw [if_pos hlt])
    have HR := Lib.hid (show remL q f g = f by unfold remL; rw [if_pos hlt])
    have hlt' : ¬ (g.length : Int) ≤ (f.length : Int) := by omega
    rw [HQ.out, HR.out]
    generalize hlc : lastC g = lc at *
    generalize invI (q : Int) lc = y at *
    clear hlc
    go_enter Tryd.func104, Tryd.ntmps104
    go_wp2_with (first
      | (go_at_call 217
         go_loud (with_reducible refine HCL.out.mono ?_)
         rintro e w1 ⟨o, rfl, ho, hg⟩
         obtain ⟨a, c, rfl, hac⟩ := own_cap' ho
         have HO := Lib.hid ho.read; have HG := Lib.hid hg
         have hc1 : w1.cell? ⟨db, dof + (g.length - 1), none⟩ = some (.int .i64 lc) := (World.cell?_of_block (w := w) (a := ⟨db, dof + (g.length - 1), none⟩) (hg.block db hdbw (by simp))).trans HC1.out
         clear ho hg)
      | (go_at_call 198
         go_loud (with_reducible refine (HIV.out _).mono ?_)
         rintro e w' ⟨rfl, rfl⟩))
    go_wp2_with fail
    go_loopw [11] (fun i wr => i = .int .i64 (-1) ∧ wr = w1) (fun i _ => 0)
    case atStart => exact ⟨rfl, rfl⟩
    case round =>
      obtain ⟨rfl, rfl⟩ := hrel
      have HT2 := Lib.hid fun W (hg : wr.grownBy W none) => HTR.out a c f W (HO.out.carry hg) hac (by omega)
      have HT1 := Lib.hid (show Calls Tryd.prog 246 #[.slice none 0 0] wr (fun e w' => ∃ o, e = .returned o ∧ OwnInts wr.heap.size w' o [] ∧ wr.grownBy w' none) from HTR.out none 0 [] wr (IntsV.nil _) (Nat.le_refl _) (by simp))
      clear HTR hc1 HCL HIV HC1
      go_wp2_with (first
        | (go_at_call 246
           with_reducible refine HT1.out.mono ?_
           rintro e w3 ⟨o, rfl, ho, hg⟩
           obtain ⟨b1, d1, rfl, _⟩ := own_cap' ho
           have HO1 := Lib.hid ho.read; have HG1 := Lib.hid hg
           clear ho hg)
        | (go_at_call 246
           with_reducible refine (HT2.out _ HG1.out).mono ?_
           rintro e w4 ⟨o, rfl, ho, hg⟩
           rw [HFT.out] at ho
           obtain ⟨b2, d2, rfl, _⟩ := own_cap' ho
           have HO2 := Lib.hid ho.read; have HG2 := Lib.hid hg
           clear ho hg))
      go_ret2
      exact ⟨_, _, rfl, HO1.out.carry HG2.out, HO2.out, HG.out.trans (HG1.out.trans HG2.out)⟩
  · have HQ := Lib.hid (show quoL q f g = trimL (divTo q f g (invI q (lastC g)) (f.length - g.length + 1) (f.length - g.length + 1)).1 by unfold quoL; rw [if_neg hlt]; rfl)
    have HR := Lib.hid (show remL q f g = trimL (divTo q f g (invI q (lastC g)) (f.length - g.length + 1) (f.length - g.length + 1)).2 by unfold remL; rw [if_neg hlt]; rfl)
    generalize hm : f.length - g.length + 1 = m at *
    have hcast : (f.length : Int) - (g.length : Int) + 1 = (m : Int) := by omega
    have hw1 : IntKind.i64.wrap ((f.length : Int) - (g.length : Int)) = (f.length : Int) - (g.length : Int) := by rw [IntKind.wrap_i64]; omega
    have hw2 : IntKind.i64.wrap ((f.length : Int) - (g.length : Int) + 1) = (m : Int) := by rw [IntKind.wrap_i64]; omega
    have hmf : f.length + 1 = m + g.length := by omega
    have hlt' : (g.length : Int) ≤ (f.length : Int) := by omega
    generalize invI (q : Int) (lastC g) = y at *
    have HDL := Lib.hid fun t => div_len (q : Int) f g y m t
    have HDO := Lib.hid fun t => div_ok (g := g) (y := y) (m := m) HFO.out t
    generalize lastC g = lc at *
    have hw3 : IntKind.i64.wrap ((m : Int) - 1) = (m : Int) - 1 := by rw [IntKind.wrap_i64]; omega
    have hmn : m ≤ 200 := by omega
    have HCAST := Lib.hid hcast; have HMF := Lib.hid hmf
    clear hm hcast hmf
    go_enter Tryd.func104, Tryd.ntmps104
    go_wp2_with (first
      | (go_at_call 217
         go_loud (with_reducible refine HCL.out.mono ?_)
         rintro e w1 ⟨o, rfl, ho, hg⟩
         obtain ⟨a, c, rfl, hac⟩ := own_cap' ho
         have HS1 := Lib.hid (Sep.one hg ho)
         clear ho hg)
      | (at_make
         refine wpList_make_full _ rfl _ _ 24 rfl _ 3 i0 (.int .i64 0) 1 Tryd.underlying24 HI.out HZ0.out HZ1.out _ _ _ _ m (by first | rfl | rw [HCAST.out]) (by first | rfl | rw [HCAST.out]) rfl rfl (by rw [HZ2.out]; omega) (by unfold maxLen; omega) (Nat.le_refl _) ?_
         intro w2 hown' hgr'
         rw [madeCells_int] at hown'
         have hs5 := HS1.out.newI hgr' (show OwnInts _ w2 (.slice (some ⟨w1.heap.size, 0, none⟩) m m) (List.replicate m 0) by unfold OwnInts; rw [List.length_replicate]; exact hown')
         have HS2 := Lib.hid hs5
         have hc1 : w2.cell? ⟨db, dof + (g.length - 1), none⟩ = some (.int .i64 lc) := (World.cell?_of_block (w := w) (a := ⟨db, dof + (g.length - 1), none⟩) (hs5.tl.tl.hd.block db hdbw (by simp))).trans HC1.out
         clear hown' hgr' hs5)
      | (go_at_call 198
         go_loud (with_reducible refine (HIV.out _).mono ?_)
         rintro e w' ⟨rfl, rfl⟩))
    obtain ⟨gr, gc, hge, _⟩ := (show OwnInts 0 w2 (.slice a f.length c) f from HS2.out.tl.hd).parts (fun h => hlt (by rw [h]; exact hgl))
    cases hge
    have HMD := Lib.hid (show divTo q f g y m 0 = (List.replicate m 0, f) from rfl)
    clear HCL hc1 HIV HC1
    generalize w1.heap.size = gq at *
    go_wp2_with fail
    go_loopw [11] (fun i wr => ∃ (t : Nat) (x : Int), t ≤ m ∧ i = .int .i64 x ∧ x = (m : Int) - 1 - t ∧ Sep wr [OI (.slice (some ⟨gq, 0, none⟩) m m) (divTo q f g y m t).1, OI (.slice (some ⟨gr, 0, none⟩) f.length c) (divTo q f g y m t).2, KeepA w]) (fun i _ => ((intOf i) + 1).toNat)
    case atStart => exact ⟨0, (m : Int) - 1, by omega, rfl, by omega, by rw [HMD.out]; exact HS2.out⟩
    case round =>
      obtain ⟨t, x, ht, rfl, hx, hs⟩ := hrel
      have HSX := Lib.hid hs
      clear hs
      by_cases hlt : t < m
      · obtain ⟨j, hj⟩ : ∃ j : Nat, j + t + 1 = m := ⟨m - 1 - t, by omega⟩
        obtain rfl : x = (j : Int) := by omega
        have hjm : m - 1 - t = j := by omega
        have hstep : divTo q f g y m (t + 1) = ((divTo q f g y m t).1.set j ((divTo q f g y m t).2.getD (j + g.length - 1) 0 * y % q), addAt q (divTo q f g y m t).2 j (-((divTo q f g y m t).2.getD (j + g.length - 1) 0 * y % q)) g) := by
          rw [← hjm]
          rfl
        have HSTP := Lib.hid hstep
        have hl := HDL.out t
        have ho := HDO.out t
        have HL1 := Lib.hid hl.1; have HL2 := Lib.hid hl.2; have HO2 := Lib.hid ho.2
        generalize divTo (q : Int) f g y m t = S at *
        obtain ⟨S1, S2⟩ := S
        dsimp only at HSX HSTP HL1 HL2 HO2
        have hmf := HMF.out
        have hjr : j + g.length - 1 < S2.length := by rw [HL2.out]; omega
        have hcr := (show OwnInts 0 wr (.slice (some ⟨gr, 0, none⟩) f.length c) S2 from HSX.out.tl.hd).cell HL2.out.symm hjr
        rw [← getD_lt hjr] at hcr
        have hrb := HO2.out.2 _ (List.getElem_mem hjr)
        rw [← getD_lt hjr] at hrb
        have a1 : IntKind.i64.wrap ((j : Int) + (g.length : Int)) = (j : Int) + (g.length : Int) := by rw [IntKind.wrap_i64]; omega
        have a2 : IntKind.i64.wrap ((j : Int) + (g.length : Int) - 1) = ((j + g.length - 1 : Nat) : Int) := by rw [IntKind.wrap_i64]; omega
        have a3 : ((j + g.length - 1 : Nat) : Int) < (f.length : Int) := by omega
        have a4 : (j : Int) < (m : Int) := by omega
        have HJG := Lib.hid (show j + g.length ≤ f.length by omega)
        generalize S2.getD (j + g.length - 1) 0 = r0 at *
        have hk0 := Int.emod_nonneg (r0 * y) (show (q : Int) ≠ 0 by omega)
        have hk1 := Int.emod_lt_of_pos (r0 * y) (show (0 : Int) < q by omega)
        have M0 := Lib.hid fun w1 => fdMulS_any q r0 y w1 (by omega) (by omega) hrb.1 (by omega) hib.1 (by omega)
        generalize r0 * y % (q : Int) = k0 at *
        obtain ⟨xq, hcq⟩ : ∃ z : Int, wr.cell? ⟨gq, j, none⟩ = some (.int .i64 z) := ⟨_, (show OwnInts 0 wr (.slice (some ⟨gq, 0, none⟩) m m) S1 from HSX.out.hd).cell HL1.out.symm (j := j) (by rw [HL1.out]; omega)⟩
        have hfq := (show OwnInts 0 wr (.slice (some ⟨gq, 0, none⟩) m m) S1 from HSX.out.hd).free HL1.out.symm j
        have HSET := Lib.hid ((HSX.out.setI HL1.out.symm j k0).s2)
        have HJ := Lib.hid hj
        clear hstep hl ho hjr hx hj hjm hmf
        go_wp2_with (go_at_call 199; with_reducible refine (M0.out _).mono ?_; rintro e w' ⟨rfl, rfl⟩)
        go_loopw [61] (fun i wx => ∃ (n : Nat) (zs : List Int), n ≤ g.length ∧ i = .int .i64 n ∧ zs.length = f.length ∧ (∀ s, j ≤ s → s < j + n → zs.getD s 0 = (S2.getD s 0 + -k0 * g.getD (s - j) 0) % q) ∧ (∀ s, s < j ∨ j + n ≤ s → zs.getD s 0 = S2.getD s 0) ∧ Sep wx [OI (.slice (some ⟨gr, 0, none⟩) f.length c) zs, OI (.slice (some ⟨gq, 0, none⟩) m m) (S1.set j k0), KeepA w]) (fun i _ => g.length - (intOf i).toNat)
        case atStart => exact ⟨0, S2, by omega, rfl, HL2.out, fun s h1 h2 => absurd h1 (by omega), fun _ _ => rfl, HSET.out⟩
        case round =>
          clear hcr hcq hfq
          obtain ⟨n, zs, hn, rfl, hz, h1, h2, hs⟩ := hrel
          have HZ := Lib.hid hz; have H1 := Lib.hid h1; have H2 := Lib.hid h2; have HSY := Lib.hid hs
          clear hz h1 h2 hs
          by_cases hlj : n < g.length
          · have HD := Lib.hid HSY.out.dr
            have hgd : w.grownBy wr.drew none := HD.out.tl.tl.hd
            have hkj : j + n < f.length := by have := HJG.out; omega
            have hjz : j + n < zs.length := by rw [HZ.out]; exact hkj
            have hc0 := HD.out.hd.cell HZ.out.symm hjz
            have hfr := HD.out.hd.free HZ.out.symm (j + n)
            rw [← getD_lt hjz, H2.out (j + n) (Or.inr (Nat.le_refl _))] at hc0
            have hzk : j + n < S2.length := by rw [HL2.out]; exact hkj
            have B1 := HO2.out.2 _ (List.getElem_mem hzk)
            rw [← getD_lt hzk] at B1
            have B2 := HGB.out _ (List.getElem_mem hlj)
            rw [← getD_lt hlj] at B2
            obtain ⟨d2, hd2, hsp2, hdb2, hcy⟩ := (HV.out.carry hgd).at hlj
            cases hd2
            simp only at hcy
            rw [← getD_lt hlj] at hcy
            have hcy' : wr.cell? ⟨db, dof + n, none⟩ = some (.int .i64 (g.getD n 0)) := hcy
            have HSN := Lib.hid fun y => HD.out.setI HZ.out.symm (j + n) y
            have HJZ := Lib.hid hjz
            have e1 : IntKind.i64.wrap ((j + n : Nat) : Int) = ((j + n : Nat) : Int) := by rw [IntKind.wrap_i64]; omega
            have e2 : ((j + n : Nat) : Int) < (f.length : Int) := by omega
            have e3 : (j : Int) + (n : Int) = ((j + n : Nat) : Int) := by omega
            clear hgd hdb2 hjz hzk
            generalize hak : S2.getD (j + n) 0 = ak at *
            generalize hbk : g.getD n 0 = bk at *
            have HAK := Lib.hid hak; have HBK := Lib.hid hbk
            generalize hm : j + n = i at *
            have HM := Lib.hid hm
            have m0 := Int.emod_nonneg (k0 * bk) (show (q : Int) ≠ 0 by omega)
            have m1 := Int.emod_lt_of_pos (k0 * bk) (show 0 < (q : Int) by omega)
            have M1 := Lib.hid fun w1 => fdMulS_any q k0 bk w1 (by omega) (by omega) hk0 (by omega) B2.1 (by omega)
            have m2 := fun w1 => fdSubS_any q ak (k0 * bk % q) w1 (by omega) (by omega) B1.1 (by omega) m0 (by omega)
            rw [sub_mod] at m2
            have M2 := Lib.hid m2
            clear m0 m1 m2 hak hbk hm
            go_wp2_with fail
            go_region_law (first
              | (try go_simp
                 go_at_call 199
                 refine (M1.out _).mono ?_
                 rintro e w' ⟨rfl, rfl⟩)
              | (try go_simp
                 go_at_call 245
                 refine (M2.out _).mono ?_
                 rintro e w' ⟨rfl, rfl⟩))
            all_goals
              go_wp2
              go_roundw
              case rel => exact ⟨n + 1, zs.set i ((ak + -k0 * bk) % q), by omega, by go_num, by rw [List.length_set]; exact HZ.out, fun s ht ht2 => by
                have := HM.out
                rw [getD_setI HJZ.out]
                split
                · next e => rw [e, HAK.out, show i - j = n by omega, HBK.out]
                · exact H1.out s ht (by omega), fun s ht => by
                have := HM.out
                rw [getD_setI HJZ.out, if_neg (by omega)]
                exact H2.out s (by omega), HSN.out _⟩
              case measure => simp [intOf]; omega
          · have hfin : zs = addAt q S2 j (-k0) g := by
              refine list_ext_getD (by rw [HZ.out, addAt_len, HL2.out]) fun s hs => ?_
              have htz : s < S2.length := by rw [HL2.out, ← HZ.out]; exact hs
              rw [addAt_getD htz]
              by_cases hc : j ≤ s ∧ s < j + g.length
              · rw [if_pos hc]
                exact H1.out s hc.1 (by omega)
              · rw [if_neg hc]
                exact H2.out s (by omega)
            have hsy := HSY.out.s2
            rw [hfin] at hsy
            have HSF := Lib.hid hsy
            clear hfin hsy
            go_wp2
            go_roundw
            case rel => exact ⟨t + 1, (j : Int) - 1, by omega, by go_num, by have := HJ.out; omega, by rw [HSTP.out]; exact HSF.out⟩
            case measure => simp [intOf]
      · have htm : t = m := by omega
        subst htm
        obtain rfl : x = -1 := by omega
        have hl := HDL.out t
        generalize divTo (q : Int) f g y t t = S at *
        obtain ⟨S1, S2⟩ := S
        dsimp only at HSX hl HQ HR
        have hrd1 := HSX.out.hd.read
        have hrd2 := HSX.out.tl.hd.read
        have hmf := HMF.out
        have t1 := HTR.out (some ⟨gq, 0, none⟩) t S1 wr (by rw [hl.1]; exact hrd1) (by rw [hl.1]; exact Nat.le_refl _) (by rw [hl.1]; omega)
        have t2 := fun W (hg : wr.grownBy W none) => HTR.out (some ⟨gr, 0, none⟩) c S2 W (by rw [hl.2]; exact hrd2.carry hg) (by rw [hl.2]; omega) (by rw [hl.2]; omega)
        rw [hl.1, ← HQ.out] at t1
        rw [hl.2, ← HR.out] at t2
        have T1 := Lib.hid t1; have T2 := Lib.hid t2
        have HK := Lib.hid (show w.grownBy wr none from HSX.out.tl.tl.hd)
        clear t1 t2 hrd1 hrd2 hl HTR hmf
        go_wp2_with (first
          | (go_at_call 246
             with_reducible refine T1.out.mono ?_
             rintro e w3 ⟨o, rfl, ho, hg⟩
             obtain ⟨b1, d1, rfl, _⟩ := own_cap' ho
             have HO1 := Lib.hid ho.read; have HG1 := Lib.hid hg
             clear ho hg)
          | (go_at_call 246
             with_reducible refine (T2.out _ HG1.out).mono ?_
             rintro e w4 ⟨o, rfl, ho, hg⟩
             obtain ⟨b2, d2, rfl, _⟩ := own_cap' ho
             have HO2 := Lib.hid ho.read; have HG2 := Lib.hid hg
             clear ho hg))
        go_ret2
        exact ⟨_, _, rfl, HO1.out.carry HG2.out, HO2.out, HK.out.trans (HG1.out.trans HG2.out)⟩
end Go.Proofs.YtpeaeminjbjlnaaDoor

/-
  The checked functions on polynomials, in the reference. Conditions: small sizes.
-/
namespace Go.Proofs.YtpeaeminjbjlnaaDoor
open Go.RowKit
set_option linter.unusedVariables false

section
variable (p : Int) (u v : Value) (f g : List Int) (w : World) (hp0 : -1000 ≤ p) (hp1 : p ≤ 1000) (hu : IntsV w u f) (hv : IntsV w v g) (lf : f.length ≤ 1000000) (lg : g.length ≤ 1000000)
include hp0 hp1 hu hv lf lg
set_option maxRecDepth 100000 in
theorem sMul_no (hno : (polyB p f && polyB p g) = false) : Calls Tryd.prog 19 #[.int .i64 p, u, v] w fun e w' => e = .returned (.tuple #[nilS, .bool false]) ∧ w.grownBy w' none := by
  have h1 := poGood_any p u f w hp0 hp1 hu lf
  have h2 := poGood_any p v g w hp0 hp1 hv lg
  obtain ⟨a, c, rfl, _⟩ := id hu
  obtain ⟨a2, c2, rfl, _⟩ := id hv
  unfold nilS
  clear hu hv
  cases hb : polyB p f
  · rw [hb] at h1
    have H1 := Lib.hid h1
    clear h1 h2 hb hno
    go_enter Tryd.func19, Tryd.ntmps19
    go_wp2_with (go_at_call 103; with_reducible refine H1.out.mono ?_; rintro e w' ⟨rfl, rfl⟩)
    go_ret2
    exact ⟨rfl, ⟨rfl, rfl, rfl, Nat.le_refl _, fun _ _ _ => rfl⟩⟩
  · rw [hb, Bool.true_and] at hno
    rw [hb] at h1
    rw [hno] at h2
    have H1 := Lib.hid h1; have H2 := Lib.hid h2
    clear h1 h2 hb hno
    go_enter Tryd.func19, Tryd.ntmps19
    go_wp2_with (first
      | (go_at_call 103; with_reducible refine H1.out.mono ?_; rintro e w' ⟨rfl, rfl⟩)
      | (go_at_call 103; with_reducible refine H2.out.mono ?_; rintro e w' ⟨rfl, rfl⟩))
    go_ret2
    exact ⟨rfl, ⟨rfl, rfl, rfl, Nat.le_refl _, fun _ _ _ => rfl⟩⟩
set_option maxRecDepth 100000 in
theorem sMul_yes (hb : (polyB p f && polyB p g) = true) : Calls Tryd.prog 19 #[.int .i64 p, u, v] w fun e w' => ∃ o, e = .returned (.tuple #[o, .bool (decide ((poMulL p f g).length ≤ 41))]) ∧ IntsV w' o (if (poMulL p f g).length ≤ 41 then poMulL p f g else []) ∧ w.grownBy w' none := by
  have h1 := poGood_any p u f w hp0 hp1 hu lf
  have h2 := poGood_any p v g w hp0 hp1 hv lg
  rw [Bool.and_eq_true] at hb
  rw [hb.1] at h1
  rw [hb.2] at h2
  obtain ⟨q, iq, rfl, hf, hq, hq2, l1, o1⟩ := polyB_nat hb.1
  obtain ⟨q', iq', e1, _, _, _, l2, o2⟩ := polyB_nat hb.2
  obtain rfl : q = q' := by omega
  have hml := poMul_len (p := q) f g
  have hm := poMul_any q u v f g w hq hq2 hu hv o1.els o2.els (by omega) (by omega)
  rw [mulF_eq hf o1 o2] at hm
  have HM := Lib.hid hm
  have HV := Lib.hid fun W o (h : IntsV W o (poMulL q f g)) => poIf_any o (poMulL q f g) W h (by omega)
  have H1 := Lib.hid h1; have H2 := Lib.hid h2
  obtain ⟨a, c, rfl, _⟩ := id hu
  obtain ⟨a2, c2, rfl, _⟩ := id hv
  clear hu hv hb hml e1 h1 h2 hm
  generalize poMulL (q : Int) f g = K at *
  generalize decide (K.length ≤ 41) = kb at *
  generalize (if K.length ≤ 41 then K else []) = KI at *
  go_enter Tryd.func19, Tryd.ntmps19
  go_wp2_with (first
    | (go_at_call 103; with_reducible refine H1.out.mono ?_; rintro e w' ⟨rfl, rfl⟩)
    | (go_at_call 103; with_reducible refine H2.out.mono ?_; rintro e w' ⟨rfl, rfl⟩)
    | (go_at_call 108
       go_loud (with_reducible refine HM.out.mono ?_)
       rintro e w2 ⟨o, rfl, hi, hg⟩
       obtain ⟨b1, d1, rfl, _⟩ := own_cap' hi
       have HI := Lib.hid hi.read; have HG := Lib.hid hg
       clear hi hg)
    | (go_at_call 107
       go_loud (with_reducible refine (HV.out _ _ HI.out).mono ?_)
       rintro e w3 ⟨o3, rfl, hi, rfl⟩
       obtain ⟨b3, d3, rfl, _⟩ := id hi
       have HI3 := Lib.hid hi
       clear hi))
  go_ret2
  exact ⟨_, rfl, HI3.out, HG.out⟩
set_option maxRecDepth 100000 in
theorem sDiv_no (hno : (polyB p f && polyB p g) = false ∨ g = []) : Calls Tryd.prog 16 #[.int .i64 p, u, v] w fun e w' => e = .returned (.tuple #[nilS, nilS, .bool false]) ∧ w.grownBy w' none := by
  have h1 := poGood_any p u f w hp0 hp1 hu lf
  have h2 := poGood_any p v g w hp0 hp1 hv lg
  obtain ⟨a, c, rfl, _⟩ := id hu
  obtain ⟨a2, c2, rfl, _⟩ := id hv
  unfold nilS
  clear hu hv
  have hgr : w.grownBy w none := ⟨rfl, rfl, rfl, Nat.le_refl _, fun _ _ _ => rfl⟩
  have HGR := Lib.hid hgr
  clear hgr
  cases hb : polyB p f
  · rw [hb] at h1
    have H1 := Lib.hid h1
    clear h1 h2 hb hno
    go_enter Tryd.func16, Tryd.ntmps16
    go_wp2_with (go_at_call 103; with_reducible refine H1.out.mono ?_; rintro e w' ⟨rfl, rfl⟩)
    refine bodyPost_ret_by (v := .tuple #[.slice none 0 0, .slice none 0 0, .bool false]) ?_ rfl ⟨rfl, HGR.out⟩
    simp [results, go_sem, *]
  · cases hb2 : polyB p g
    · rw [hb] at h1
      rw [hb2] at h2
      have H1 := Lib.hid h1; have H2 := Lib.hid h2
      clear h1 h2 hb hb2 hno
      go_enter Tryd.func16, Tryd.ntmps16
      go_wp2_with (first
        | (go_at_call 103; with_reducible refine H1.out.mono ?_; rintro e w' ⟨rfl, rfl⟩)
        | (go_at_call 103; with_reducible refine H2.out.mono ?_; rintro e w' ⟨rfl, rfl⟩))
      refine bodyPost_ret_by (v := .tuple #[.slice none 0 0, .slice none 0 0, .bool false]) ?_ rfl ⟨rfl, HGR.out⟩
      simp [results, go_sem, *]
    · have hg0 : g = [] := by
        rcases hno with h | h
        · rw [hb, hb2] at h; cases h
        · exact h
      rw [hb] at h1
      rw [hb2] at h2
      have hgl : g.length = 0 := by rw [hg0]; rfl
      rw [hgl] at h2 ⊢
      have H1 := Lib.hid h1; have H2 := Lib.hid h2
      clear h1 h2 hb hb2 hno hg0
      go_enter Tryd.func16, Tryd.ntmps16
      go_wp2_with (first
        | (go_at_call 103; with_reducible refine H1.out.mono ?_; rintro e w' ⟨rfl, rfl⟩)
        | (go_at_call 103; with_reducible refine H2.out.mono ?_; rintro e w' ⟨rfl, rfl⟩))
      refine bodyPost_ret_by (v := .tuple #[.slice none 0 0, .slice none 0 0, .bool false]) ?_ rfl ⟨rfl, HGR.out⟩
      simp [results, go_sem, *]
set_option maxRecDepth 100000 in
theorem sDiv_yes (hb : (polyB p f && polyB p g) = true) (hne : g ≠ []) : Calls Tryd.prog 16 #[.int .i64 p, u, v] w fun e w' => ∃ o1 o2, e = .returned (.tuple #[o1, o2, .bool true]) ∧ IntsV w' o1 (quoL p f g) ∧ IntsV w' o2 (remL p f g) ∧ w.grownBy w' none := by
  have h1 := poGood_any p u f w hp0 hp1 hu lf
  have h2 := poGood_any p v g w hp0 hp1 hv lg
  rw [Bool.and_eq_true] at hb
  rw [hb.1] at h1
  rw [hb.2] at h2
  obtain ⟨q, iq, rfl, hf, hq, hq2, l1, o1⟩ := polyB_nat hb.1
  obtain ⟨q', iq', e1, _, _, _, l2, o2⟩ := polyB_nat hb.2
  obtain rfl : q = q' := by omega
  have HM := Lib.hid (poDiv_any q u v f g w hf hq2 hu hv o1 o2 hne (by omega) (by omega))
  have hgl := len_pos hne
  have hg0 : ((g.length : Int) == 0) = false := by rw [beq_eq_false_iff_ne]; omega
  have H1 := Lib.hid h1; have H2 := Lib.hid h2
  obtain ⟨a, c, rfl, _⟩ := id hu
  obtain ⟨a2, c2, rfl, _⟩ := id hv
  clear hu hv hb e1 h1 h2
  go_enter Tryd.func16, Tryd.ntmps16
  go_wp2_with (first
    | (go_at_call 103; with_reducible refine H1.out.mono ?_; rintro e w' ⟨rfl, rfl⟩)
    | (go_at_call 103; with_reducible refine H2.out.mono ?_; rintro e w' ⟨rfl, rfl⟩)
    | (go_at_call 104
       go_loud (with_reducible refine HM.out.mono ?_)
       rintro e w2 ⟨o1, o2, rfl, hi1, hi2, hg⟩
       obtain ⟨b1, d1, rfl, _⟩ := id hi1
       obtain ⟨b2, d2, rfl, _⟩ := id hi2
       have HI1 := Lib.hid hi1; have HI2 := Lib.hid hi2; have HG := Lib.hid hg
       clear hi1 hi2 hg))
  refine bodyPost_ret_by (v := .tuple #[.slice b1 (quoL q f g).length d1, .slice b2 (remL q f g).length d2, .bool true]) ?_ rfl ⟨_, _, rfl, HI1.out, HI2.out, HG.out⟩
  simp [results, go_sem, *]
end
end Go.Proofs.YtpeaeminjbjlnaaDoor

/-
  Values of polynomials in the program: a range over slices.Backward. Conditions: small sizes.
-/
namespace Go.Proofs.YtpeaeminjbjlnaaDoor
open Go.RowKit Go.Shelf
set_option linter.unusedVariables false

attribute [local go_sem] Oper.semAt_some

/-- what a round keeps: all that lay below N, but block X -/
def KpX (N X : Nat) (A B : World) : Prop := ∀ k, k < N → k ≠ X → B.heap[k]? = A.heap[k]?
theorem KpX.trans {N X : Nat} {A B C : World} (h : KpX N X A B) (k : KpX N X B C) : KpX N X A C := fun j h1 h2 => (k j h1 h2).trans (h j h1 h2)
/-- what is handed out: an index and an element of the field -/
abbrev El (q : Nat) := Nat × { z : Int // 0 ≤ z ∧ z < q }
def uptoE {α : Type} (f : Nat → α) (k : Nat) : List α := (List.range k).map f
theorem uptoE_succ {α : Type} (f : Nat → α) (k : Nat) : uptoE f (k + 1) = uptoE f k ++ [f k] := by simp [uptoE, List.range_succ]
theorem uptoE_length {α : Type} (f : Nat → α) (k : Nat) : (uptoE f k).length = k := by simp [uptoE]
/-- the k-th element from the end -/
def fromEnd {q : Nat} (zs : List Int) (hz : ∀ k : Nat, 0 ≤ zs[k]?.getD 0 ∧ zs[k]?.getD 0 < q) (k : Nat) : El q := (zs.length - 1 - k, ⟨zs[zs.length - 1 - k]?.getD 0, hz _⟩)

set_option maxRecDepth 100000 in
set_option maxHeartbeats 2000000 in
theorem back1_in (F : Fence) (n : Nat) (hF : F.fn 291) (hro : F.round = none) (hn : 1 ≤ n) (l Bs N X b off len cap q : Nat) (zs : List Int) (hlen : zs.length = len) (hz : ∀ k : Nat, 0 ≤ zs[k]?.getD 0 ∧ zs[k]?.getD 0 < q) (hreach : len ≤ 1000) (hb : 0 < len → b < N ∧ b ≠ X) (hBs : Bs < N ∧ Bs ≠ X) (J Jx : List (El q) → World → Prop)
    (hY : ∀ pre x W, J pre W → pre.length < len → YieldAt F (n - 1) Tryd.prog l #[.int .i64 (x.1 : Int), .int .i64 x.2.1] W fun e W' =>
      (e = .returned (.bool true) ∧ J (pre ++ [x]) W' ∧ KpX N X W W') ∨ (e = .returned (.bool false) ∧ Jx (pre ++ [x]) W'))
    (a : Option Addr) (ha : 0 < len → a = some ⟨b, off, none⟩) (W : World) (hBc : W.cell? ⟨Bs, 0, none⟩ = some (.slice a len cap)) (hc : ∀ j, j < len → W.cell? ⟨b, off + j, none⟩ = some (.int .i64 (zs[j]?.getD 0))) (h0 : J [] W) :
    CallsIn F n Tryd.prog 291 #[.func (.yield l) #[] #[], .pointer (some ⟨Bs, 0, none⟩)] W fun e W' => (∃ v, e = .returned v) ∧
      ((∃ ys, ys = uptoE (fromEnd zs hz) len ∧ J ys W') ∨ (∃ pre, (∃ k, k ≤ len ∧ pre = uptoE (fromEnd zs hz) k) ∧ Jx pre W')) := by
  refine callsIn_of_wp Tryd.func291 rfl hF ?_ hro
  simp only [Tryd.ntmps291, List.size_toArray, List.length_cons, List.length_nil, Nat.reduceAdd, Nat.reduceSub, Array.replicate_succ, Array.replicate_zero, List.push_toArray, List.append_toArray, List.nil_append, List.cons_append]
  have hw0 : IntKind.i64.wrap ((len : Int) - 1) = (len : Int) - 1 := by rw [IntKind.wrap_i64]; omega
  gi_wp2
  gi_loopw [3] (fun i wr => ∃ (k : Nat) (y : Int), k ≤ len ∧ i = .int .i64 y ∧ y = (len : Int) - 1 - k ∧ J (uptoE (fromEnd zs hz) k) wr ∧ KpX N X W wr)
    (fun i _ => ((intOf i) + 1).toNat)
  case atStart => exact ⟨0, (len : Int) - 1, Nat.zero_le _, rfl, by omega, h0, fun _ _ _ => rfl⟩
  case round =>
    obtain ⟨k, y, hk, rfl, hy', hJs, hnx⟩ := hrel
    have hbc := (World.cell?_of_block (w := W) (a := ⟨Bs, 0, none⟩) (hnx Bs hBs.1 hBs.2)).trans hBc
    by_cases hlt : k < len
    · obtain ⟨j, hj⟩ : ∃ j : Nat, j + k + 1 = len := ⟨len - 1 - k, by omega⟩
      obtain rfl : y = (j : Int) := by omega
      have hge : fromEnd zs hz k = (j, ⟨zs[j]?.getD 0, hz j⟩) := by
        unfold fromEnd
        have e : zs.length - 1 - k = j := by omega
        simp only [e]
      obtain ⟨hb1, hb2⟩ := hb (by omega)
      have hcx := (World.cell?_of_block (w := W) (a := ⟨b, off + j, none⟩) (hnx b hb1 hb2)).trans (hc j (by omega))
      have hae := ha (by omega)
      subst hae
      obtain ⟨fn, tmps, assign, body, hy, hR⟩ := hY _ (fromEnd zs hz k) wr hJs (by rw [uptoE_length]; exact hlt)
      rw [hge] at hy hR
      dsimp only at hy
      have hup := uptoE_succ (fromEnd zs hz) k
      rw [hge] at hup
      have i1 : (j : Int) < (len : Int) := by omega
      have HJ := Lib.hid hj
      have HUP := Lib.hid hup
      clear hge hj hy' hup
      gi_wp2
      refine hR.mono ?_
      rintro e W3 (⟨rfl, hJ3, hk3⟩ | ⟨rfl, hJx3⟩)
      · gi_wp2
        go_roundw
        case rel => exact ⟨k + 1, (j : Int) - 1, by omega, by go_num, by have := HJ.out; omega, by rw [HUP.out]; exact hJ3, hnx.trans hk3⟩
        case measure => simp [intOf]
      · gi_wp2
        refine bodyPost_ret (results_none rfl _ _ _) rfl ?_
        exact ⟨⟨_, rfl⟩, .inr ⟨_, ⟨k + 1, by omega, HUP.out.symm⟩, hJx3⟩⟩
    · obtain rfl : k = len := by omega
      obtain rfl : y = -1 := by omega
      gi_wp2
      go_end0
      exact ⟨⟨_, rfl⟩, .inl ⟨_, rfl, hJs⟩⟩
set_option maxHeartbeats 1000000 in
theorem back_in (F : Fence) (n : Nat) (hF : F.fn 253) (hro : F.round = none) (a : Option Addr) (len cap : Nat) (w : World) :
    CallsIn F n Tryd.prog 253 #[.slice a len cap] w fun e w' => e = .returned (.func (.func 291) #[] #[.pointer (some ⟨w.heap.size, 0, none⟩)]) ∧ w' = w.alloc (.cells #[.slice a len cap] 111) := by
  refine callsIn_of_wp Tryd.func253 rfl hF ?_ hro
  simp only [Tryd.ntmps253, List.size_toArray, List.length_cons, List.length_nil, Nat.reduceAdd, Nat.reduceSub, Array.replicate_succ, Array.replicate_zero, List.push_toArray, List.append_toArray, List.nil_append, List.cons_append]
  gi_wp2
  go_ret
  exact ⟨rfl, rfl⟩
theorem grown_below {w w' : World} (h : w.grownBy w' none) : Below w.heap.size w w' := Below.grown (Below.refl _ w) h (Nat.le_refl _) (by simp)
theorem getq {zs : List Int} {j : Nat} (h : j < zs.length) : zs[j]?.getD 0 = zs[j] := by rw [List.getElem?_eq_getElem h]; rfl
theorem back_stops (F : Fence) (n : Nat) (hF : F.fn 291) (hro : F.round = none) (hn : 1 ≤ n) (Bs N X cap q : Nat) (a : Option Addr) (zs : List Int) (hz : ∀ k : Nat, 0 ≤ zs[k]?.getD 0 ∧ zs[k]?.getD 0 < q) (hreach : zs.length ≤ 1000) (w : World) (hBs : Bs < N ∧ Bs ≠ X) (hN : N = w.heap.size)
    (hc : w.cell? ⟨Bs, 0, none⟩ = some (.slice a zs.length cap)) (hI : IntsV w (.slice a zs.length cap) zs) (hX : ∀ d, a = some d → zs ≠ [] → d.block ≠ X) :
    SeqStopsK F n Tryd.prog 291 #[.pointer (some ⟨Bs, 0, none⟩)] (fun x : El q => #[Value.int .i64 (x.1 : Int), Value.int .i64 x.2.1]) (KpX N X) (fun ys => ys = uptoE (fromEnd zs hz) zs.length)
      (fun pre => ∃ k, k ≤ zs.length ∧ pre = uptoE (fromEnd zs hz) k) zs.length w := fun l J Jx W hW _ _ hY h0 => by
  subst hN
  have hc' := (hW.cell (p := ⟨Bs, 0, none⟩) hBs.1).trans hc
  obtain ⟨a0, c0, he, hi⟩ := hI
  cases he
  by_cases h00 : zs = []
  · exact back1_in F n hF hro hn l Bs w.heap.size X 0 0 zs.length cap q zs rfl hz hreach (fun h => by rw [h00] at h; simp at h) hBs J Jx hY a (fun h => by rw [h00] at h; simp at h) W hc' (fun j hj => by rw [h00] at hj; simp at hj) h0
  · obtain ⟨d, rfl, hs, hd, hcs⟩ := hi h00
    obtain ⟨b, o, _⟩ := d
    simp only at hs hd
    subst hs
    refine back1_in F n hF hro hn l Bs w.heap.size X b o zs.length cap q zs rfl hz hreach (fun _ => ⟨hd, hX _ rfl h00⟩) hBs J Jx hY _ (fun _ => rfl) W hc' (fun j hj => ?_) h0
    rw [getq hj]
    exact (hW.cell (p := ⟨b, o + j, none⟩) hd).trans (hcs j hj)
/-- the value so far -/
def hrn {q : Nat} (X : Int) (pre : List (El q)) : Int := pre.foldl (fun s p => (s * X + p.2.1) % q) 0
theorem hrn_snoc {q : Nat} (X : Int) (pre : List (El q)) (x : El q) : hrn X (pre ++ [x]) = (hrn X pre * X + x.2.1) % q := by simp [hrn]
theorem hrn_bd {q : Nat} (hq : 2 ≤ q) (X : Int) (pre : List (El q)) : 0 ≤ hrn X pre ∧ hrn X pre < q := by
  rcases List.eq_nil_or_concat pre with rfl | ⟨l, x, rfl⟩
  · simp [hrn]; omega
  · rw [List.concat_eq_append, hrn_snoc]
    exact ⟨Int.emod_nonneg _ (by omega), Int.emod_lt_of_pos _ (by omega)⟩
theorem hrn_ev {q : Nat} (X : Int) (zs : List Int) (hz : ∀ k : Nat, 0 ≤ zs[k]?.getD 0 ∧ zs[k]?.getD 0 < q) : ∀ k, hrn X (uptoE (fromEnd (q := q) zs hz) k) = evTo q zs X k
  | 0 => rfl
  | k + 1 => by
    rw [uptoE_succ, hrn_snoc, hrn_ev X zs hz k]
    show _ = (evTo q zs X k * X + zs.getD (zs.length - 1 - k) 0) % (q : Int)
    rw [List.getD_eq_getElem?_getD]
    rfl
theorem els_q {q : Nat} {f : List Int} (hq : 2 ≤ q) (hf : ∀ z ∈ f, 0 ≤ z ∧ z < q) (k : Nat) : 0 ≤ f[k]?.getD 0 ∧ f[k]?.getD 0 < q := by
  rcases Nat.lt_or_ge k f.length with h | h
  · rw [getq h]; exact hf _ (List.getElem_mem h)
  · rw [List.getElem?_eq_none h]; simp; omega
set_option maxRecDepth 100000 in
set_option maxHeartbeats 4000000 in
theorem polyEval_in (F : Fence) (n : Nat) (hP : F.fn 115) (hB : F.fn 253) (hB1 : F.fn 291) (hro : F.round = none) (hn : 3 ≤ n) (q : Nat) [NeZero q] (hq : 2 ≤ q) (hq2 : q ≤ 97) (a : Option Addr) (cap : Nat) (f : List Int) (X : Int) (hX : 0 ≤ X ∧ X < q) (w : World)
    (hI : IntsV w (.slice a f.length cap) f) (hf : ∀ z ∈ f, 0 ≤ z ∧ z < q) (hl : f.length ≤ 1000) :
    CallsIn F n Tryd.prog 115 #[.int .i64 q, .slice a f.length cap, .int .i64 X] w fun e W' => e = .returned (.int .i64 (evTo q f X f.length)) ∧ Below w.heap.size w W' := by
  have h1 : 1 ≤ n := by omega
  have hz := els_q hq hf
  refine callsIn_of_wp_marks Tryd.func115 rfl hP ?_ hro
  simp only [Tryd.ntmps115, List.size_toArray, List.length_cons, List.length_nil, Nat.reduceAdd, Nat.reduceSub, Array.replicate_succ, Array.replicate_zero, List.push_toArray, List.append_toArray, List.nil_append, List.cons_append]
  gi_wp2_with (gi_at_call 253; refine (back_in F (n - 1) hB hro _ _ _ _).mono ?_; rintro e w' ⟨rfl, rfl⟩)
  have hs := ((((Sep.start w).box #[.int .i64 q] 3).box #[.int .i64 X] 3).box #[.int .i64 0] 3).box #[.slice a f.length cap] 111
  simp only [World.size_alloc] at hs
  have hgB := grown_below hs.tl.tl.tl.tl.hd
  have hsz : ((((w.alloc (.cells #[.int .i64 q] 3)).alloc (.cells #[.int .i64 X] 3)).alloc (.cells #[.int .i64 0] 3)).alloc (.cells #[.slice a f.length cap] 111)).heap.size = w.heap.size + 4 := by simp only [World.size_alloc]
  have c1 := bx_one hs.hd
  have c2 := bx_one hs.s2.hd
  have c3 := bx_one hs.s3.hd
  have c4 := bx_one hs.s4.hd
  have f2 := free_blk hs.s2.hd 0
  have hI4 := hI.carry hs.tl.tl.tl.tl.hd
  have hXa : ∀ d, a = some d → f ≠ [] → d.block ≠ w.heap.size + 1 + 1 := fun d hd hne e => by
    have := hI.blk_lt hne (k := d.block) (by rw [hd]; rfl)
    omega
  clear hs
  generalize hw4 : (((w.alloc (.cells #[.int .i64 q] 3)).alloc (.cells #[.int .i64 X] 3)).alloc (.cells #[.int .i64 0] 3)).alloc (.cells #[.slice a f.length cap] 111) = w4 at *
  clear hw4
  refine wpIn_rangeFunc_ownF hro h1 (gf := 291) (lb := #[.pointer (some ⟨w.heap.size + 1 + 1 + 1, 0, none⟩)]) rfl hB1 (enters_of Tryd.func291 (by kernel_rfl) rfl)
    (back_stops F (n - 1) hB1 hro (by omega) (w.heap.size + 1 + 1 + 1) w4.heap.size (w.heap.size + 1 + 1) cap q a f hz hl w4 ⟨by omega, by omega⟩ rfl c1 hI4 hXa) (fun h k => h.trans k) (fun W l o o' hl' h h1' h2' k hk hkX => (belowK_b (n₀ := w4.heap.size) (w := w4) (Nat.le_refl _) W l o o' hl' h h1' h2').block k hk) (Below.refl _ _) (fun _ => rfl)
    (fun pre W => ((W.cell? ⟨w.heap.size + 1 + 1, 0, none⟩ = some (.int .i64 (hrn X pre)) ∧ W.frozen? ⟨w.heap.size + 1 + 1, 0, none⟩ = false) ∧ W.cell? ⟨w.heap.size + 1, 0, none⟩ = some (.int .i64 X) ∧ W.cell? ⟨w.heap.size, 0, none⟩ = some (.int .i64 q)) ∧ Below w.heap.size w W)
    (fun _ _ _ => False)
    (OwnFrom.and (Own.from (fun s A B row hs hg hr => ⟨⟨cell_kept hs.1.1 hg hr, (frozen_kept hs.1.1 hg hr).trans hs.1.2⟩, cell_kept hs.2.1 hg hr, cell_kept hs.2.2 hg hr⟩) _) (ownFrom_below (Nat.le_refl _) (by omega)))
    (fun _ _ _ _ _ hs _ _ => hs)
    ⟨⟨⟨c2, f2⟩, c3, c4⟩, hgB⟩
    (fun x => { tmps := #[.int .i64 q, .slice a f.length cap, .int .i64 X, .pointer (some ⟨w.heap.size, 0, none⟩), undef, .pointer (some ⟨w.heap.size + 1, 0, none⟩), .int .i64 0, .pointer (some ⟨w.heap.size + 1 + 1, 0, none⟩), undef, .int .i64 x.2.1, .slice a f.length cap, .func (.func 291) #[] #[.pointer (some ⟨w.heap.size + 1 + 1 + 1, 0, none⟩)], .int .i64 (x.1 : Int), .int .i64 x.2.1, undef, undef, undef, undef, undef, undef, undef, undef], defers := [] }) ?assign ?body ?done ?stop
  case assign =>
    intro l x W K hK
    gi_wp2
    exact hK
  case body =>
    rintro l pre x W ⟨⟨⟨hc, hf'⟩, hxc, hqc⟩, hB'⟩ _
    have hsn := hrn_snoc X pre x
    have hbd := hrn_bd hq X pre
    have hxb := x.2.2
    obtain ⟨xi, xv, hxv⟩ := x
    dsimp only at hsn hxb ⊢
    generalize hrn X pre = s at *
    have hm1 := mul_bd2 (a := s) (b := X) (A := 97) (B := 97) (by omega) (by omega) (by omega) (by omega)
    have hm0 := Int.mul_nonneg hbd.1 hX.1
    have e1 : IntKind.i64.wrap (s * X) = s * X := by
      generalize s * X = rr at *
      rw [IntKind.wrap_i64]; omega
    have e2 : IntKind.i64.wrap (s * X + xv) = s * X + xv := by
      generalize s * X = rr at *
      rw [IntKind.wrap_i64]; omega
    have e3 : (s * X + xv).tmod q = (s * X + xv) % q := Int.tmod_eq_emod_of_nonneg (by omega)
    have e4 : ((q : Int) == 0) = false := by rw [beq_eq_false_iff_ne]; omega
    have e5 : (q : Int) ≠ 0 := by omega
    have k0 := Int.emod_nonneg (s * X + xv) e5
    have k1 := Int.emod_lt_of_pos (s * X + xv) (show (0 : Int) < q by omega)
    have e6 : IntKind.i64.wrap ((s * X + xv) % q) = (s * X + xv) % q := by
      generalize (s * X + xv) % (q : Int) = rr at *
      rw [IntKind.wrap_i64]; omega
    have hne1 : w.heap.size + 1 ≠ w.heap.size + 1 + 1 := by omega
    have hne2 : w.heap.size ≠ w.heap.size + 1 + 1 := by omega
    gi_wp2
    refine ⟨KeepsOthers.setCell _ _ _, fun k hk hkX => Below.heap_setCell _ _ _ _ hkX, ⟨⟨by rw [hsn]; exact World.cell?_setCell_same' _ _ _ (by rw [hc]; rfl), by rw [World.frozen?_setCell]; exact hf'⟩, ?_, ?_⟩, hB'.setCell (p := ⟨w.heap.size + 1 + 1, 0, none⟩) (by show w.heap.size ≤ w.heap.size + 1 + 1; omega) _⟩
    · exact (World.cell?_of_block (w := W) (a := ⟨w.heap.size + 1, 0, none⟩) (Below.heap_setCell _ _ _ _ hne1)).trans hxc
    · exact (World.cell?_of_block (w := W) (a := ⟨w.heap.size, 0, none⟩) (Below.heap_setCell _ _ _ _ hne2)).trans hqc
  case done =>
    rintro D ys W hD rfl ⟨⟨⟨hc, _⟩, _⟩, hB'⟩ hK
    rw [hrn_ev] at hc
    gi_wp2
    refine ⟨by simp, .inl ⟨_, _, rfl, run_takeDeferred hK, ?_⟩⟩
    exact ⟨_, results_tmp rfl _ _ _, rfl, hB'.trans (belowK_b (w := w) (Nat.le_refl _) W D _ _ (by omega) hK rfl rfl)⟩
  case stop =>
    rintro D c pre W _ _ h _
    exact h.elim
theorem polyEval_any (q : Nat) [NeZero q] (u : Value) (f : List Int) (X : Int) (w : World) (hq : 2 ≤ q) (hq2 : q ≤ 97) (hu : IntsV w u f) (hf : ∀ z ∈ f, 0 ≤ z ∧ z < q) (hl : f.length ≤ 1000) (hX : 0 ≤ X ∧ X < q) :
    Calls Tryd.prog 115 #[.int .i64 q, u, .int .i64 X] w fun e w' => e = .returned (.int .i64 (evTo q f X f.length)) ∧ w.grownBy w' none := by
  obtain ⟨a, c, rfl, _⟩ := id hu
  refine (callsIn_wide (n := 3)).1 ((polyEval_in Fence.wide 3 trivial trivial trivial rfl (Nat.le_refl _) q hq hq2 a c f X hX w hu hf hl).mono ?_)
  rintro e w' ⟨he, hB⟩
  exact ⟨he, grown_of_below hB⟩
end Go.Proofs.YtpeaeminjbjlnaaDoor

/-
  The checked functions on polynomials, in the program. Conditions: small sizes.
-/
namespace Go.Proofs.YtpeaeminjbjlnaaDoor
open Go.RowKit
set_option linter.unusedVariables false

theorem are_two {p : Int} {f g : List Int} : arePB p [f, g] = (polyB p f && polyB p g) := by
  unfold arePB
  simp only [List.all_cons, List.all_nil, Bool.and_true]
  cases h : polyB p f
  · simp
  · have hf : fldB p = true := by unfold polyB at h; rw [Bool.and_eq_true] at h; exact h.1
    rw [hf]
    simp
theorem are_one {p : Int} {f : List Int} : arePB p [f] = polyB p f := by
  unfold arePB
  simp only [List.all_cons, List.all_nil, Bool.and_true]
  cases h : polyB p f
  · simp
  · have hf : fldB p = true := by unfold polyB at h; rw [Bool.and_eq_true] at h; exact h.1
    rw [hf]
    simp
/-- the check of two polynomials, behind the list that is laid for it -/
theorem are_call (p : Int) (u v : Value) (f g : List Int) (w : World) (ht : Tab w) (hu : IntsV w u f) (hv : IntsV w v g) (lf : f.length ≤ 1000000) (lg : g.length ≤ 1000000) :
    Calls Tryd.prog 101 #[.int .i64 p, .slice (some ⟨w.heap.size, 0, none⟩) 2 2] (w.alloc (.cells #[u, v] 24)) fun e w' => e = .returned (.bool (polyB p f && polyB p g)) ∧ (w.alloc (.cells #[u, v] 24)) = w' := by
  rw [← are_two]
  exact arePolys_any p _ [f, g] _ (ht.grown (grownBy_alloc w _ none)) (pair_mat hu hv) (by simp) (fun row hr => by
    simp only [List.mem_cons, List.mem_nil_iff, or_false] at hr
    rcases hr with rfl | rfl <;> assumption)
theorem are_call1 (p : Int) (u : Value) (f : List Int) (w : World) (ht : Tab w) (hu : IntsV w u f) (lf : f.length ≤ 1000000) :
    Calls Tryd.prog 101 #[.int .i64 p, .slice (some ⟨w.heap.size, 0, none⟩) 1 1] (w.alloc (.cells #[u] 24)) fun e w' => e = .returned (.bool (polyB p f)) ∧ (w.alloc (.cells #[u] 24)) = w' := by
  rw [← are_one]
  exact arePolys_any p _ [f] _ (ht.grown (grownBy_alloc w _ none)) (mat_one hu) (by simp) (fun row hr => by
    rw [List.mem_singleton] at hr
    rw [hr]; exact lf)
theorem degree_any (u : Value) (f : List Int) (w : World) (hu : IntsV w u f) (hl : f.length ≤ 1000000) : Calls Tryd.prog 247 #[u] w fun e w' => e = .returned (.int .i64 ((f.length : Int) - 1)) ∧ w = w' := by
  obtain ⟨a, c, rfl, _⟩ := hu
  go_enter Tryd.func247, Tryd.ntmps247
  go_wp2
  go_ret
  exact ⟨rfl, rfl⟩
theorem validPoly_any (u : Value) (f : List Int) (w : World) (hu : IntsV w u f) (hl : f.length ≤ 1000000) : Calls Tryd.prog 105 #[u] w fun e w' => ∃ o, e = .returned (.tuple #[o, .bool (decide (f.length ≤ 41))]) ∧ IntsV w o (if f.length ≤ 41 then f else []) ∧ w = w' := by
  have HD := Lib.hid (degree_any u f w hu hl)
  have HU := Lib.hid hu
  obtain ⟨a, c, rfl, _⟩ := id hu
  clear hu
  by_cases h : f.length ≤ 41
  · have h' : ¬ (40 : Int) < (f.length : Int) - 1 := by omega
    rw [if_pos h, decide_eq_true h]
    go_enter Tryd.func105, Tryd.ntmps105
    go_wp2_with (go_at_call 247; with_reducible refine HD.out.mono ?_; rintro e w' ⟨rfl, rfl⟩)
    go_ret2
    exact ⟨_, rfl, HU.out, rfl⟩
  · have h' : (40 : Int) < (f.length : Int) - 1 := by omega
    rw [if_neg h, decide_eq_false h]
    go_enter Tryd.func105, Tryd.ntmps105
    go_wp2_with (go_at_call 247; with_reducible refine HD.out.mono ?_; rintro e w' ⟨rfl, rfl⟩)
    go_ret2
    exact ⟨_, rfl, IntsV.nil _, rfl⟩

section
variable (p : Int) (u v : Value) (f g : List Int) (w : World) (ht : Tab w) (hu : IntsV w u f) (hv : IntsV w v g) (lf : f.length ≤ 1000000) (lg : g.length ≤ 1000000)
include ht hu hv lf lg
set_option maxRecDepth 100000 in
theorem cMul_no (hno : (polyB p f && polyB p g) = false) : Calls Tryd.prog 18 #[.int .i64 p, u, v] w fun e w' => e = .returned (.tuple #[nilS, .bool false]) ∧ w.grownBy w' none := by
  have ha := are_call p u v f g w ht hu hv lf lg
  rw [hno] at ha
  have HA := Lib.hid ha
  obtain ⟨a, c, rfl, _⟩ := id hu
  obtain ⟨a2, c2, rfl, _⟩ := id hv
  clear ha hu hv ht hno
  unfold nilS
  go_enter Tryd.func18, Tryd.ntmps18
  go_wp2_with (go_at_call 101; refine HA.out.mono ?_; rintro e w' ⟨rfl, rfl⟩)
  go_ret2
  exact ⟨rfl, grownBy_alloc w _ none⟩
set_option maxRecDepth 100000 in
theorem cMul_yes (hb : (polyB p f && polyB p g) = true) : Calls Tryd.prog 18 #[.int .i64 p, u, v] w fun e w' => ∃ o, e = .returned (.tuple #[o, .bool (decide ((poMulL p f g).length ≤ 41))]) ∧ IntsV w' o (if (poMulL p f g).length ≤ 41 then poMulL p f g else []) ∧ w.grownBy w' none := by
  have ha := are_call p u v f g w ht hu hv lf lg
  rw [hb] at ha
  have HA := Lib.hid ha
  rw [Bool.and_eq_true] at hb
  obtain ⟨q, iq, rfl, hf, hq, hq2, l1, o1⟩ := polyB_nat hb.1
  obtain ⟨q', iq', e1, _, _, _, l2, o2⟩ := polyB_nat hb.2
  obtain rfl : q = q' := by omega
  have hml := poMul_len (p := q) f g
  have HM := Lib.hid (polyMul_any q u v f g (w.alloc (.cells #[u, v] 24)) hq hq2 (hu.carry (grownBy_alloc w _ none)) (hv.carry (grownBy_alloc w _ none)) o1.els o2.els (by omega) (by omega))
  have HV := Lib.hid fun W o (h : IntsV W o (poMulL q f g)) => validPoly_any o (poMulL q f g) W h (by omega)
  obtain ⟨a, c, rfl, _⟩ := id hu
  obtain ⟨a2, c2, rfl, _⟩ := id hv
  clear ha hu hv ht hb hml e1
  generalize poMulL (q : Int) f g = K at *
  generalize decide (K.length ≤ 41) = kb at *
  generalize (if K.length ≤ 41 then K else []) = KI at *
  go_enter Tryd.func18, Tryd.ntmps18
  go_wp2_with (first
    | (go_at_call 101; refine HA.out.mono ?_; rintro e w' ⟨rfl, rfl⟩)
    | (go_at_call 106
       go_loud (with_reducible refine HM.out.mono ?_)
       rintro e w2 ⟨o, rfl, hi, hg⟩
       obtain ⟨b1, d1, rfl, _⟩ := id hi
       have HI := Lib.hid hi; have HG := Lib.hid hg
       clear hi hg)
    | (go_at_call 105
       go_loud (with_reducible refine (HV.out _ _ HI.out).mono ?_)
       rintro e w3 ⟨o3, rfl, hi, rfl⟩
       obtain ⟨b3, d3, rfl, _⟩ := id hi
       have HI3 := Lib.hid hi
       clear hi))
  go_ret2
  exact ⟨_, rfl, HI3.out, (grownBy_alloc w _ none).trans HG.out⟩
set_option maxRecDepth 100000 in
theorem cDiv_no (hno : (polyB p f && polyB p g) = false ∨ g = []) : Calls Tryd.prog 15 #[.int .i64 p, u, v] w fun e w' => e = .returned (.tuple #[nilS, nilS, .bool false]) ∧ w.grownBy w' none := by
  have ha := are_call p u v f g w ht hu hv lf lg
  obtain ⟨a, c, rfl, _⟩ := id hu
  obtain ⟨a2, c2, rfl, _⟩ := id hv
  unfold nilS
  clear hu hv ht
  cases hb : (polyB p f && polyB p g)
  · rw [hb] at ha
    have HA := Lib.hid ha
    clear ha hb hno
    go_enter Tryd.func15, Tryd.ntmps15
    go_wp2_with (go_at_call 101; refine HA.out.mono ?_; rintro e w' ⟨rfl, rfl⟩)
    refine bodyPost_ret_by (v := .tuple #[.slice none 0 0, .slice none 0 0, .bool false]) ?_ rfl ⟨rfl, grownBy_alloc w _ none⟩
    simp [results, go_sem, *]
  · rw [hb] at ha
    have hg0 : g = [] := by
      rcases hno with h | h
      · rw [hb] at h; cases h
      · exact h
    have HA := Lib.hid ha
    have hgl : g.length = 0 := by rw [hg0]; rfl
    rw [hgl] at HA ⊢
    clear ha hb hno hg0
    go_enter Tryd.func15, Tryd.ntmps15
    go_wp2_with (go_at_call 101; refine HA.out.mono ?_; rintro e w' ⟨rfl, rfl⟩)
    refine bodyPost_ret_by (v := .tuple #[.slice none 0 0, .slice none 0 0, .bool false]) ?_ rfl ⟨rfl, grownBy_alloc w _ none⟩
    simp [results, go_sem, *]
set_option maxRecDepth 100000 in
theorem cDiv_yes (hb : (polyB p f && polyB p g) = true) (hne : g ≠ []) : Calls Tryd.prog 15 #[.int .i64 p, u, v] w fun e w' => ∃ o1 o2, e = .returned (.tuple #[o1, o2, .bool true]) ∧ IntsV w' o1 (quoL p f g) ∧ IntsV w' o2 (remL p f g) ∧ w.grownBy w' none := by
  have ha := are_call p u v f g w ht hu hv lf lg
  rw [hb] at ha
  have HA := Lib.hid ha
  rw [Bool.and_eq_true] at hb
  obtain ⟨q, iq, rfl, hf, hq, hq2, l1, o1⟩ := polyB_nat hb.1
  obtain ⟨q', iq', e1, _, _, _, l2, o2⟩ := polyB_nat hb.2
  obtain rfl : q = q' := by omega
  have HM := Lib.hid (polyDivide_any q u v f g (w.alloc (.cells #[u, v] 24)) hq hq2 (hu.carry (grownBy_alloc w _ none)) (hv.carry (grownBy_alloc w _ none)) o1.1 o2.els hne (by omega) (by omega))
  have hgl := len_pos hne
  have hg0 : ((g.length : Int) == 0) = false := by rw [beq_eq_false_iff_ne]; omega
  obtain ⟨a, c, rfl, _⟩ := id hu
  obtain ⟨a2, c2, rfl, _⟩ := id hv
  clear ha hu hv ht hb e1
  go_enter Tryd.func15, Tryd.ntmps15
  go_wp2_with (first
    | (go_at_call 101; refine HA.out.mono ?_; rintro e w' ⟨rfl, rfl⟩)
    | (go_at_call 102
       go_loud (with_reducible refine HM.out.mono ?_)
       rintro e w2 ⟨o1, o2, rfl, hi1, hi2, hg⟩
       obtain ⟨b1, d1, rfl, _⟩ := id hi1
       obtain ⟨b2, d2, rfl, _⟩ := id hi2
       have HI1 := Lib.hid hi1; have HI2 := Lib.hid hi2; have HG := Lib.hid hg
       clear hi1 hi2 hg))
  refine bodyPost_ret_by (v := .tuple #[.slice b1 (quoL q f g).length d1, .slice b2 (remL q f g).length d2, .bool true]) ?_ rfl ⟨_, _, rfl, HI1.out, HI2.out, (grownBy_alloc w _ none).trans HG.out⟩
  simp [results, go_sem, *]
set_option maxRecDepth 100000 in
theorem cAdd_yes (hb : (polyB p f && polyB p g) = true) : Calls Tryd.prog 20 #[.int .i64 p, u, v] w fun e w' => ∃ o, e = .returned (.tuple #[o, .bool true]) ∧ IntsV w' o (poAddL p f 1 g) ∧ w.grownBy w' none := by
  have ha := are_call p u v f g w ht hu hv lf lg
  rw [hb] at ha
  have HA := Lib.hid ha
  rw [Bool.and_eq_true] at hb
  obtain ⟨q, iq, rfl, hf, hq, hq2, l1, o1⟩ := polyB_nat hb.1
  obtain ⟨q', iq', e1, _, _, _, l2, o2⟩ := polyB_nat hb.2
  obtain rfl : q = q' := by omega
  have HM := Lib.hid (polyAdd_any q 1 u v f g (w.alloc (.cells #[u, v] 24)) hq hq2 (hu.carry (grownBy_alloc w _ none)) (hv.carry (grownBy_alloc w _ none)) o1.els o2.els (by omega) (by omega) (by omega) (by omega))
  obtain ⟨a, c, rfl, _⟩ := id hu
  obtain ⟨a2, c2, rfl, _⟩ := id hv
  clear ha hu hv ht hb e1
  go_enter Tryd.func20, Tryd.ntmps20
  go_wp2_with (first
    | (go_at_call 101; refine HA.out.mono ?_; rintro e w' ⟨rfl, rfl⟩)
    | (go_at_call 109
       go_loud (with_reducible refine HM.out.mono ?_)
       rintro e w2 ⟨o, rfl, hi, hg⟩
       obtain ⟨b1, d1, rfl, _⟩ := id hi
       have HI := Lib.hid hi; have HG := Lib.hid hg
       clear hi hg))
  go_ret2
  exact ⟨_, rfl, HI.out, (grownBy_alloc w _ none).trans HG.out⟩
set_option maxRecDepth 100000 in
theorem cGcd_yes (hb : (polyB p f && polyB p g) = true) (hne : g ≠ []) : Calls Tryd.prog 22 #[.int .i64 p, u, v] w fun e w' => ∃ o, e = .returned (.tuple #[o, .bool true]) ∧ IntsV w' o (gcdL p f g) ∧ w.grownBy w' none := by
  have ha := are_call p u v f g w ht hu hv lf lg
  rw [hb] at ha
  have HA := Lib.hid ha
  rw [Bool.and_eq_true] at hb
  obtain ⟨q, iq, rfl, hf, hq, hq2, l1, o1⟩ := polyB_nat hb.1
  obtain ⟨q', iq', e1, _, _, _, l2, o2⟩ := polyB_nat hb.2
  obtain rfl : q = q' := by omega
  have HM := Lib.hid (polyGcd_any q u v f g (w.alloc (.cells #[u, v] 24)) hf hq2 (hu.carry (grownBy_alloc w _ none)) (hv.carry (grownBy_alloc w _ none)) o1 o2 (by omega) (by omega))
  have B := bezout hf o1 o2 hne l1 l2
  have HC := Lib.hid fun W o (h : IntsV W o (gcdL q f g)) => clone_any o (gcdL q f g) W h (by have := B.len; omega)
  have hgl := len_pos hne
  have w1 : IntKind.i64.wrap ((f.length : Int) + (g.length : Int)) = (f.length : Int) + (g.length : Int) := by rw [IntKind.wrap_i64]; omega
  have hg0 : ((f.length : Int) + (g.length : Int) == 0) = false := by rw [beq_eq_false_iff_ne]; omega
  obtain ⟨a, c, rfl, _⟩ := id hu
  obtain ⟨a2, c2, rfl, _⟩ := id hv
  clear ha hu hv ht hb e1 B
  generalize gcdL (q : Int) f g = D at *
  go_enter Tryd.func22, Tryd.ntmps22
  go_wp2_with (first
    | (go_at_call 101; refine HA.out.mono ?_; rintro e w' ⟨rfl, rfl⟩)
    | (go_at_call 113
       go_loud (with_reducible refine HM.out.mono ?_)
       rintro e w2 ⟨o, rfl, hi, hg⟩
       obtain ⟨b1, d1, rfl, _⟩ := id hi
       have HI := Lib.hid hi; have HG := Lib.hid hg
       clear hi hg)
    | (go_at_call 112
       go_loud (with_reducible refine (HC.out _ _ HI.out).mono ?_)
       rintro e w3 ⟨o, rfl, ho, hg⟩
       obtain ⟨b3, d3, rfl, _⟩ := own_cap' ho
       have HO := Lib.hid ho.read; have HG3 := Lib.hid hg
       clear ho hg))
  go_ret2
  exact ⟨_, rfl, HO.out, ((grownBy_alloc w _ none).trans HG.out).trans HG3.out⟩
end
set_option maxRecDepth 100000 in
theorem cEval_yes (p : Int) (u : Value) (f : List Int) (X : Int) (w : World) (ht : Tab w) (hu : IntsV w u f) (lf : f.length ≤ 1000000) (hb : polyB p f = true) (hX : 0 ≤ X ∧ X < p) : Calls Tryd.prog 24 #[.int .i64 p, u, .int .i64 X] w fun e w' => e = .returned (.tuple #[.int .i64 (evTo p f X f.length), .bool true]) ∧ w.grownBy w' none := by
  have ha := are_call1 p u f w ht hu lf
  rw [hb] at ha
  have HA := Lib.hid ha
  obtain ⟨q, iq, rfl, hf, hq, hq2, l1, o1⟩ := polyB_nat hb
  have he := fun W => isElement_any (q : Int) X W
  rw [show elB (q : Int) X = true by unfold elB; simp; omega] at he
  have HE := Lib.hid he
  have HM := Lib.hid (polyEval_any q u f X (w.alloc (.cells #[u] 24)) hq hq2 (hu.carry (grownBy_alloc w _ none)) o1.els (by omega) hX)
  obtain ⟨a, c, rfl, _⟩ := id hu
  clear ha hu ht hb he
  generalize evTo (q : Int) f X f.length = ev at *
  go_enter Tryd.func24, Tryd.ntmps24
  go_wp2_with (first
    | (go_at_call 101; refine HA.out.mono ?_; rintro e w' ⟨rfl, rfl⟩)
    | (go_at_call 114; with_reducible refine (HE.out _).mono ?_; rintro e w' ⟨rfl, rfl⟩)
    | (go_at_call 115
       go_loud (with_reducible refine HM.out.mono ?_)
       rintro e w2 ⟨rfl, hg⟩
       have HG := Lib.hid hg
       clear hg))
  go_ret2
  exact ⟨rfl, (grownBy_alloc w _ none).trans HG.out⟩
end Go.Proofs.YtpeaeminjbjlnaaDoor

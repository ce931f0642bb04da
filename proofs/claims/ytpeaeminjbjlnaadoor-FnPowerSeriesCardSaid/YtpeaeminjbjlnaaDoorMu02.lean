/-
  The power series of a fraction, in the program: the walk. Conditions: small sizes.
-/
import Derived.Test.YtpeaeminjbjlnaaDoorMu01
import Derived.Test.YtpeaeminjbjlnaaDoorMu00
import Derived.Test.YtpeaeminjbjlnaaDoorMk08
import Derived.Test.YtpeaeminjbjlnaaDoorMp02
namespace Go.Proofs.YtpeaeminjbjlnaaDoor
open Go.RowKit
set_option linter.unusedVariables false

theorem set_head (A : List Int) (m : Nat) (x : Int) : (A ++ List.replicate (m + 1) 0).set A.length x = (A ++ [x]) ++ List.replicate m 0 := by
  rw [List.replicate_succ, List.set_append_right _ _ (Nat.le_refl _), Nat.sub_self, List.set_cons_zero, List.append_assoc]
  rfl
set_option maxRecDepth 100000 in
set_option maxHeartbeats 2000000 in
theorem series_any (q n : Nat) [NeZero q] (u v : Value) (num den : List Int) (w : World) (hfl : fldN q = true) (hq2 : q ≤ 97) (hu : IntsV w u num) (hv : IntsV w v den) (h1 : ∀ z ∈ num, 0 ≤ z ∧ z < (q : Int)) (h2 : ∀ z ∈ den, 0 ≤ z ∧ z < (q : Int)) (dne : den ≠ []) (ln : num.length ≤ 100) (ld : den.length ≤ 100) (hn : n ≤ 60) :
    Calls Tryd.prog 134 #[.int .i64 q, frV u v, .int .i64 n] w fun e w' => ∃ o, e = .returned o ∧ IntsV w' o (serL q num den (invI q (den.getD 0 0)) n) ∧ w.grownBy w' none := by
  have hq := lt_p hfl
  have hs := ((Sep.start w).box #[u, v] 53)
  obtain ⟨y0, y1, _, _⟩ := bx hs.hd
  have HG0 := Lib.hid (show w.grownBy _ none from hs.tl.hd)
  have HS0 := Lib.hid hs
  have HU := Lib.hid hu; have HV := Lib.hid hv; have H1 := Lib.hid h1; have H2 := Lib.hid h2
  have hz := zeros_at n (w.alloc (.cells #[u, v] 53)) (by omega)
  have hsz : (w.alloc (.cells #[u, v] 53)).heap.size = w.heap.size + 1 := by simp
  rw [hsz] at hz
  have HZ := Lib.hid hz
  have HSZ := Lib.hid hsz
  have hd0 := getD_bd h2 (by omega) 0
  have hb := inv_bd97 (q := q) (x := den.getD 0 0) (by omega) hq2
  have HIV := Lib.hid fun wx => inverse_any (q : Int) (den.getD 0 0) wx (by omega) (by omega) (by omega) (by omega)
  have HCN := Lib.hid fun k W (hg : w.grownBy W none) => coef_any u num k W (hu.carry hg) (by omega)
  have HCD := Lib.hid fun k W (hg : w.grownBy W none) => coef_any v den k W (hv.carry hg) (by omega)
  have hdl := len_pos dne
  obtain ⟨ua, uc, rfl, _⟩ := hu
  obtain ⟨va, vc, rfl, hvi⟩ := hv
  have HSB := Lib.hid fun k => sum_bd (q := q) (by omega) hq2 H1.out H2.out (ser_ok (q := q) num den (invI q (den.getD 0 0)) k).2 k
  have HSO := Lib.hid fun k => ser_ok (q := q) num den (invI q (den.getD 0 0)) k
  have HSS := Lib.hid fun k => (show serL q num den (invI q (den.getD 0 0)) (k + 1) = serL q num den (invI q (den.getD 0 0)) k ++ [sumT num den (serL q num den (invI q (den.getD 0 0)) k) k k % q * invI q (den.getD 0 0) % q] from rfl)
  have HDB := Lib.hid fun k => getD_bd H2.out (by omega) k
  clear h1 h2 hs hvi dne hz hsz
  generalize hy : invI (q : Int) (den.getD 0 0) = y at *
  have HY := Lib.hid hy
  clear hy
  obtain ⟨dd, rfl, hss, hdw, hcc⟩ := HV.out.at hdl
  obtain ⟨db, dof, _⟩ := dd
  simp only at hss hcc
  subst hss
  have hdw : db < w.heap.size := hdw
  rw [← getD_lt hdl] at hcc
  have HCC := Lib.hid hcc
  clear hcc
  unfold frV
  generalize den.getD 0 0 = d0 at *
  go_enter Tryd.func134, Tryd.ntmps134
  go_wp2_with (first
    | (go_at_call 243
       go_loud (with_reducible refine HZ.out.mono ?_)
       rintro e w1 ⟨rfl, ho, hg⟩
       rw [← HSZ.out] at ho
       have hs1 := HS0.out.newI hg ho
       rw [HSZ.out] at hs1
       obtain ⟨z0, z1, _, _⟩ := bx hs1.tl.hd
       have hcc : w1.cell? ⟨db, dof + 0, none⟩ = some (.int .i64 d0) := (World.cell?_of_block (w := w) (a := ⟨db, dof + 0, none⟩) ((show w.grownBy w1 none from hs1.tl.tl.hd).block db hdw (by simp))).trans HCC.out
       have hcc2 : w1.cell? ⟨db, dof, none⟩ = some (.int .i64 d0) := hcc
       have HS1 := Lib.hid hs1
       clear ho hg hs1)
    | (go_at_call 110
       with_reducible refine (HIV.out _).mono ?_
       rintro e w' ⟨rfl, rfl⟩))
  generalize w.heap.size + 1 = gz at *
  go_wp2_with fail
  go_loopw [22] (fun i wr => ∃ k : Nat, k ≤ n ∧ i = .int .i64 k ∧ Sep wr [OI (.slice (some ⟨gz, 0, none⟩) n n) (serL q num den y k ++ List.replicate (n - k) 0), BxA w.heap.size #[.slice ua num.length uc, .slice (some ⟨db, dof, none⟩) den.length vc] 53, KeepA w]) (fun i _ => n - (intOf i).toNat)
  case atStart => exact ⟨0, by omega, rfl, HS1.out⟩
  case round =>
    obtain ⟨k, hk, rfl, hs⟩ := hrel
    have HSX := Lib.hid hs
    clear hs
    by_cases hlt : k < n
    · have HNX := Lib.hid (HSS.out k)
      have HBD := Lib.hid (HSB.out k)
      have HOK := Lib.hid (HSO.out k)
      have HGW := Lib.hid (show w.grownBy wr none from HSX.out.tl.tl.hd)
      obtain ⟨z2, z3, _, _⟩ := bx HSX.out.tl.hd
      generalize serL (q : Int) num den y k = A at *
      have hzl : (A ++ List.replicate (n - k) (0 : Int)).length = n := by rw [List.length_append, List.length_replicate, HOK.out.1]; omega
      have HZL := Lib.hid hzl
      clear hzl
      go_wp2_with (
        go_at_call 263
        with_reducible refine (HCN.out k _ HGW.out).mono ?_
        rintro e w3 ⟨rfl, rfl⟩)
      go_loopw [10, 11] (fun sm i wx => ∃ j : Nat, j ≤ k ∧ i = .int .i64 ((j : Int) + 1) ∧ sm = .int .i64 (sumT num den A k j) ∧ Sep wx [OI (.slice (some ⟨gz, 0, none⟩) n n) (A ++ List.replicate (n - k) 0), BxA w.heap.size #[.slice ua num.length uc, .slice (some ⟨db, dof, none⟩) den.length vc] 53, KeepA w]) (fun _ i _ => k + 1 - (intOf i).toNat)
      case atStart => exact ⟨0, by omega, rfl, rfl, HSX.out⟩
      case round =>
        clear z2 z3
        obtain ⟨j, hj, rfl, rfl, hs⟩ := hrel
        have HSY := Lib.hid hs
        clear hs
        obtain ⟨z2, z3, _, _⟩ := bx HSY.out.tl.hd
        by_cases hlj : j < k
        · have HD := Lib.hid HSY.out.dr
          obtain ⟨x2, x3, _, _⟩ := bx HD.out.tl.hd
          have HGD := Lib.hid (show w.grownBy wr.drew none from HD.out.tl.tl.hd)
          obtain ⟨m, hm⟩ : ∃ m, m + (j + 1) = k := ⟨k - (j + 1), by omega⟩
          have hmz : m < (A ++ List.replicate (n - k) (0 : Int)).length := by rw [HZL.out]; omega
          have hcm := (show OwnInts 0 wr.drew (.slice (some ⟨gz, 0, none⟩) n n) (A ++ List.replicate (n - k) 0) from HD.out.hd).cell HZL.out.symm hmz
          have hmA : m < A.length := by rw [HOK.out.1]; omega
          rw [List.getElem_append_left hmA, ← getD_lt hmA] at hcm
          have b1 := HDB.out (j + 1)
          have b2 := HOK.out.2 _ (List.getElem_mem hmA)
          rw [← getD_lt hmA] at b2
          have b3 := HBD.out j
          have HST := Lib.hid (show sumT num den A k (j + 1) = sumT num den A k j - den.getD (j + 1) 0 * A.getD m 0 by
            show sumT num den A k j - den.getD (j + 1) 0 * A.getD (k - (j + 1)) 0 = _
            rw [show k - (j + 1) = m by omega])
          have b4 := mul_bd (X := 97) (Y := 97) b1.1 (by omega) b2.1 (by omega)
          have w1 : IntKind.i64.wrap (den.getD (j + 1) 0 * A.getD m 0) = den.getD (j + 1) 0 * A.getD m 0 := by
            generalize den.getD (j + 1) 0 * A.getD m 0 = dd at *
            rw [IntKind.wrap_i64]; omega
          have w2 : IntKind.i64.wrap (sumT num den A k j - den.getD (j + 1) 0 * A.getD m 0) = sumT num den A k j - den.getD (j + 1) 0 * A.getD m 0 := by
            generalize den.getD (j + 1) 0 * A.getD m 0 = dd at *
            rw [IntKind.wrap_i64]; omega
          have w3 : (k : Int) - ((j : Int) + 1) = (m : Int) := by omega
          have w4 : IntKind.i64.wrap (m : Int) = (m : Int) := by rw [IntKind.wrap_i64]; omega
          have w5 : (m : Int) < (n : Int) := by omega
          have w6 : (j : Int) + 1 ≤ (k : Int) := by omega
          have hcj := HCD.out (j + 1) _ HGD.out
          rw [show (((j + 1 : Nat)) : Int) = (j : Int) + 1 by omega] at hcj
          have HCJ := Lib.hid hcj
          clear hmz hmA b1 b2 b3 b4 hm hcj
          generalize den.getD (j + 1) 0 = dj at *
          generalize A.getD m 0 = am at *
          generalize sumT num den A k j = sj at *
          go_wp2_with fail
          go_region_law (
            try go_simp
            go_at_call 263
            refine HCJ.out.mono ?_
            rintro e w4 ⟨rfl, rfl⟩)
          all_goals
            go_wp2
            go_roundw
            case rel => exact ⟨j + 1, by omega, by go_num, by rw [HST.out], HD.out⟩
            case measure => simp [intOf]; omega
        · have hjk : j = k := by omega
          subst hjk
          have b3 := HBD.out j
          have m0 := Int.emod_nonneg (sumT num den A j j) (show (q : Int) ≠ 0 by omega)
          have m1 := Int.emod_lt_of_pos (sumT num den A j j) (show (0 : Int) < q by omega)
          have M1 := Lib.hid fun W => mod_all (q : Int) (sumT num den A j j) (by omega) (by omega) (by omega) (by omega) W
          generalize sumT num den A j j = sj at *
          generalize sj % (q : Int) = sm at *
          have b4 := mul_bd (X := 97) (Y := 97) m0 (by omega) hb.1 (by omega)
          have w1 : IntKind.i64.wrap (sm * y) = sm * y := by
            generalize sm * y = dd at *
            rw [IntKind.wrap_i64]; omega
          have M2 := Lib.hid fun W => mod_all (q : Int) (sm * y) (by omega) (by omega) (by omega) (by omega) W
          have hjz : j < (A ++ List.replicate (n - j) (0 : Int)).length := by rw [HZL.out]; omega
          have hc0 := (show OwnInts 0 wr (.slice (some ⟨gz, 0, none⟩) n n) (A ++ List.replicate (n - j) 0) from HSY.out.hd).cell HZL.out.symm hjz
          have hfr := (show OwnInts 0 wr (.slice (some ⟨gz, 0, none⟩) n n) (A ++ List.replicate (n - j) 0) from HSY.out.hd).free HZL.out.symm j
          have hset := HSY.out.setI HZL.out.symm j (sm * y % q)
          have hse : (A ++ List.replicate (n - j) (0 : Int)).set j (sm * y % q) = serL q num den y (j + 1) ++ List.replicate (n - (j + 1)) 0 := by
            rw [HNX.out, show n - j = (n - (j + 1)) + 1 by omega]
            have := set_head A (n - (j + 1)) (sm * y % q)
            rw [HOK.out.1] at this
            exact this
          rw [hse] at hset
          have HSET := Lib.hid hset
          generalize (A ++ List.replicate (n - j) (0 : Int))[j] = z9 at hc0
          have w6 : ¬ (j : Int) + 1 ≤ (j : Int) := by omega
          have w7 : (j : Int) < (n : Int) := by omega
          clear b3 b4 m0 m1 hset hse hjz
          go_wp2_with (first
            | (go_at_call 236; with_reducible refine (M1.out _).mono ?_; rintro e w' ⟨rfl, rfl⟩)
            | (go_at_call 236; with_reducible refine (M2.out _).mono ?_; rintro e w' ⟨rfl, rfl⟩))
          go_roundw
          case rel => exact ⟨j + 1, by omega, by go_num, HSET.out⟩
          case measure => simp [intOf]; omega
    · have hkn : k = n := by omega
      subst hkn
      have hr := HSX.out.hd.read
      rw [Nat.sub_self, List.replicate_zero, List.append_nil] at hr
      have HR := Lib.hid hr
      have HGF := Lib.hid (show w.grownBy wr none from HSX.out.tl.tl.hd)
      clear hr
      go_wp2
      go_ret
      exact ⟨_, rfl, HR.out, HGF.out⟩
end Go.Proofs.YtpeaeminjbjlnaaDoor

/-
  The power series of a fraction, checked, in the program. Conditions: small sizes.
-/
namespace Go.Proofs.YtpeaeminjbjlnaaDoor
open Go.RowKit
set_option linter.unusedVariables false

theorem frB_ok {p : Int} {n d : List Int} (h : frB p n d = true) : (polyB p n && polyB p d) = true ∧ n.length ≤ 21 ∧ d.length ≤ 21 ∧ d ≠ [] := by
  unfold frB at h
  simp only [Bool.and_eq_true, decide_eq_true_eq, Bool.not_eq_true', decide_eq_false_iff_not] at h
  obtain ⟨h1, h2, h3, h4, _⟩ := h
  refine ⟨by rw [Bool.and_eq_true]; exact h1, h2, h3, fun e => ?_⟩
  rw [e] at h4
  simp at h4
def serB (p : Int) (n d : List Int) (k : Int) : Bool := frB p n d && (cauB d && decide (0 ≤ k ∧ k ≤ 60))
set_option maxRecDepth 100000 in
set_option maxHeartbeats 2000000 in
theorem seriesOf_any (p k : Int) (u v : Value) (n d : List Int) (w : World) (ht : Tab w) (hu : IntsV w u n) (hv : IntsV w v d) (ln : n.length ≤ 1000000) (ld : d.length ≤ 1000000) :
    Calls Tryd.prog 35 #[.int .i64 p, frV u v, .int .i64 k] w fun e w' => ∃ o, e = .returned (.tuple #[o, .bool (serB p n d k)]) ∧ IntsV w' o (if serB p n d k = true then serL p n d (invI p (d.getD 0 0)) k.toNat else []) ∧ w.grownBy w' none := by
  have hs := ((Sep.start w).box #[u, v] 53)
  have hs2 := hs.al (.cells #[u, v] 53)
  obtain ⟨x0, x1, _, _⟩ := bx hs.hd
  obtain ⟨x2, x3, _, _⟩ := bx hs2.hd
  have hg2 : w.grownBy ((w.alloc (.cells #[u, v] 53)).alloc (.cells #[u, v] 53)) none := hs2.tl.hd
  have hsz : (w.alloc (.cells #[u, v] 53)).heap.size = w.heap.size + 1 := by simp
  have hbx := bx (alloc_heap_new (w.alloc (.cells #[u, v] 53)) (.cells #[u, v] 53))
  rw [hsz] at hbx
  have ha := (areFr_any p (w.heap.size + 1) 1 (fun _ => u) (fun _ => v) (fun _ => n) (fun _ => d) ((w.alloc (.cells #[u, v] 53)).alloc (.cells #[u, v] 53)) (ht.grown hg2) (by simp) (fun i hi => by
    obtain rfl : i = 0 := by omega
    exact ⟨hbx.1, hbx.2.1⟩) (fun i _ => ⟨hu.carry hg2, hv.carry hg2, ln, ld⟩) (Nat.le_refl _) (by omega)).mono (R' := fun e w' => e = .returned (.bool (frB p n d)) ∧ ((w.alloc (.cells #[u, v] 53)).alloc (.cells #[u, v] 53)).grownBy w' none) (by
      rintro e w' ⟨b, rfl, hb, hg⟩
      have hb' : b = frB p n d := by
        rw [Bool.eq_iff_iff, hb]
        exact ⟨fun h => h 0 (by omega), fun h i _ => h⟩
      exact ⟨by rw [hb'], hg⟩)
  have HS2 := Lib.hid hs2
  have HG2 := Lib.hid hg2
  have HU := Lib.hid hu; have HV := Lib.hid hv
  have HCA := Lib.hid fun W (hg : w.grownBy W none) (dne : d ≠ []) => isCausal_any u v d W (hv.carry hg) dne ld
  have HSB := Lib.hid (show serB p n d k = (frB p n d && (cauB d && decide (0 ≤ k ∧ k ≤ 60))) from rfl)
  have HWI := Lib.hid fun W => within_any k 0 60 W
  obtain ⟨ua, uc, rfl, _⟩ := id hu
  obtain ⟨va, vc, rfl, _⟩ := id hv
  rw [HSB.out]
  unfold frV at *
  clear hs hs2 hg2 hsz hbx ht hu hv
  cases hfr : frB p n d
  · rw [hfr] at ha
    have HA := Lib.hid ha
    clear ha hfr
    rw [Bool.false_and]
    · go_enter Tryd.func35, Tryd.ntmps35
      go_wp2_with (first
          | (go_at_call 132
             with_reducible refine HA.out.mono ?_
             rintro e w1 ⟨rfl, hg⟩
             have hs3 := HS2.out.grown hg
             obtain ⟨t0, t1, _, _⟩ := bx hs3.hd
             have HG3 := Lib.hid (show w.grownBy w1 none from hs3.tl.hd)
             have HS3 := Lib.hid hs3
             clear hg hs3))
      go_ret2
      exact ⟨_, rfl, IntsV.nil _, HG3.out⟩
  · rw [hfr] at ha
    have HA := Lib.hid ha
    obtain ⟨hpp, l1, l2, dne⟩ := frB_ok hfr
    rw [Bool.and_eq_true] at hpp
    obtain ⟨q, iq, rfl, hf, hq, hq2, _, o1⟩ := polyB_nat hpp.1
    obtain ⟨q', iq', e1, _, _, _, _, o2⟩ := polyB_nat hpp.2
    obtain rfl : q = q' := by omega
    have HSE := Lib.hid fun (m : Nat) W (hm : m ≤ 60) (hg : w.grownBy W none) => series_any q m _ _ n d W hf hq2 (HU.out.carry hg) (HV.out.carry hg) o1.els o2.els dne (by omega) (by omega) hm
    unfold frV at HSE
    have hca := fun W hg => HCA.out W hg dne
    rw [Bool.true_and]
    clear ha hfr hpp e1 o1 o2 dne HCA
    cases hc : cauB d
    · rw [hc] at hca
      have HC1 := Lib.hid hca
      clear hca hc
      rw [Bool.false_and]
      · go_enter Tryd.func35, Tryd.ntmps35
        go_wp2_with (first
          | (go_at_call 132
             with_reducible refine HA.out.mono ?_
             rintro e w1 ⟨rfl, hg⟩
             have hs3 := HS2.out.grown hg
             obtain ⟨t0, t1, _, _⟩ := bx hs3.hd
             have HG3 := Lib.hid (show w.grownBy w1 none from hs3.tl.hd)
             have HS3 := Lib.hid hs3
             clear hg hs3)
          | (go_at_call 133
             with_reducible refine (HC1.out _ HG3.out).mono ?_
             rintro e w2 ⟨rfl, hg⟩
             have HG4 := Lib.hid (HG3.out.trans hg)
             obtain ⟨z0, z1, _, _⟩ := bx (HS3.out.grown hg).hd
             clear hg))
        go_ret2
        exact ⟨_, rfl, IntsV.nil _, HG4.out⟩
    · rw [hc] at hca
      have HC1 := Lib.hid hca
      clear hca hc
      rw [Bool.true_and]
      by_cases hk : 0 ≤ k ∧ k ≤ 60
      · obtain ⟨m, rfl⟩ := Int.eq_ofNat_of_zero_le hk.1
        have hwi := HWI.out
        rw [decide_eq_true hk] at hwi ⊢
        have HW2 := Lib.hid hwi
        have hm : m ≤ 60 := by omega
        clear hwi hk HWI
        go_enter Tryd.func35, Tryd.ntmps35
        go_wp2_with (first
          | (go_at_call 132
             with_reducible refine HA.out.mono ?_
             rintro e w1 ⟨rfl, hg⟩
             have hs3 := HS2.out.grown hg
             obtain ⟨t0, t1, _, _⟩ := bx hs3.hd
             have HG3 := Lib.hid (show w.grownBy w1 none from hs3.tl.hd)
             have HS3 := Lib.hid hs3
             clear hg hs3)
          | (go_at_call 133
             with_reducible refine (HC1.out _ HG3.out).mono ?_
             rintro e w2 ⟨rfl, hg⟩
             have HG4 := Lib.hid (HG3.out.trans hg)
             obtain ⟨z0, z1, _, _⟩ := bx (HS3.out.grown hg).hd
             clear hg)
          | (go_at_call 125
             with_reducible refine (HW2.out _).mono ?_
             rintro e w' ⟨rfl, rfl⟩)
          | (go_at_call 134
             with_reducible refine (HSE.out _ _ hm HG4.out).mono ?_
             rintro e w3 ⟨o, rfl, hi, hg⟩
             obtain ⟨b5, c5, rfl, _⟩ := id hi
             have HI5 := Lib.hid hi
             have HG5 := Lib.hid (HG4.out.trans hg)
             clear hi hg))
        go_ret2
        exact ⟨_, rfl, HI5.out, HG5.out⟩
      · have hwi := HWI.out
        rw [decide_eq_false hk] at hwi ⊢
        have HW2 := Lib.hid hwi
        clear hwi hk HWI
        go_enter Tryd.func35, Tryd.ntmps35
        go_wp2_with (first
          | (go_at_call 132
             with_reducible refine HA.out.mono ?_
             rintro e w1 ⟨rfl, hg⟩
             have hs3 := HS2.out.grown hg
             obtain ⟨t0, t1, _, _⟩ := bx hs3.hd
             have HG3 := Lib.hid (show w.grownBy w1 none from hs3.tl.hd)
             have HS3 := Lib.hid hs3
             clear hg hs3)
          | (go_at_call 133
             with_reducible refine (HC1.out _ HG3.out).mono ?_
             rintro e w2 ⟨rfl, hg⟩
             have HG4 := Lib.hid (HG3.out.trans hg)
             obtain ⟨z0, z1, _, _⟩ := bx (HS3.out.grown hg).hd
             clear hg)
          | (go_at_call 125
             with_reducible refine (HW2.out _).mono ?_
             rintro e w' ⟨rfl, rfl⟩))
        go_ret2
        exact ⟨_, rfl, IntsV.nil _, HG4.out⟩
end Go.Proofs.YtpeaeminjbjlnaaDoor

/-
  The order of a fraction, in the program. Conditions: small sizes.
-/
namespace Go.Proofs.YtpeaeminjbjlnaaDoor
open Go.RowKit
set_option linter.unusedVariables false
def ordL (n d : List Int) : Int := max ((d.length : Int) - 1) (n.length : Int)
set_option maxRecDepth 100000 in
theorem orderOf_any (u v : Value) (n d : List Int) (w : World) (hu : IntsV w u n) (hv : IntsV w v d) (ln : n.length ≤ 1000) (ld : d.length ≤ 1000) :
    Calls Tryd.prog 139 #[frV u v] w fun e w' => e = .returned (.int .i64 (ordL n d)) ∧ w.grownBy w' none := by
  have hs := ((Sep.start w).box #[u, v] 53)
  obtain ⟨x0, x1, _, _⟩ := bx hs.hd
  have hs2 := hs.dr
  obtain ⟨x2, x3, _, _⟩ := bx hs2.hd
  have HG := Lib.hid (show w.grownBy (w.alloc (.cells #[u, v] 53)).drew none from hs2.tl.hd)
  have D1 := Lib.hid fun W (hg : w.grownBy W none) => degree_any u n W (hu.carry hg) (by omega)
  have D2 := Lib.hid fun W (hg : w.grownBy W none) => degree_any v d W (hv.carry hg) (by omega)
  obtain ⟨ua, uc, rfl, _⟩ := id hu
  obtain ⟨va, vc, rfl, _⟩ := id hv
  clear hs hs2 hu hv
  have w1 : IntKind.i64.wrap (1 + ((n.length : Int) - 1)) = (n.length : Int) := by rw [IntKind.wrap_i64]; omega
  unfold frV ordL
  generalize n.length = a at *
  generalize d.length = b at *
  go_enter Tryd.func139, Tryd.ntmps139
  go_wp2_with fail
  go_region_law (first
    | (try go_simp
       go_at_call 247
       with_reducible refine (D1.out _ HG.out).mono ?_
       rintro e w4 ⟨rfl, rfl⟩)
    | (try go_simp
       go_at_call 247
       with_reducible refine (D2.out _ HG.out).mono ?_
       rintro e w4 ⟨rfl, rfl⟩))
  all_goals
    go_wp2
    go_ret
    exact ⟨by first | rfl | simp, HG.out⟩
end Go.Proofs.YtpeaeminjbjlnaaDoor

/-
  Fractions that are not too large, in the reference. Conditions: small sizes.
-/
namespace Go.Proofs.YtpeaeminjbjlnaaDoor
open Go.RowKit
set_option linter.unusedVariables false

def frFit (n d : List Int) : Bool := decide (n.length ≤ 21) && decide (d.length ≤ 21)
set_option maxRecDepth 100000 in
set_option maxHeartbeats 1000000 in
theorem frIf_any (u v : Value) (n d : List Int) (w : World) (hu : IntsV w u n) (hv : IntsV w v d) (ln : n.length ≤ 1000000) (ld : d.length ≤ 1000000) :
    Calls Tryd.prog 149 #[frV u v] w fun e w' => ∃ o1 o2, e = .returned (.tuple #[frV o1 o2, .bool (frFit n d)]) ∧ IntsV w' o1 (if frFit n d = true then n else []) ∧ IntsV w' o2 (if frFit n d = true then d else []) ∧ w.grownBy w' none := by
  have hs := ((Sep.start w).box #[u, v] 53).box #[.slice none 0 0, .slice none 0 0] 53
  simp only [show ∀ (W : World) o, (W.alloc o).heap.size = W.heap.size + 1 from fun W o => by simp] at hs
  obtain ⟨x0, x1, _, _⟩ := bx hs.tl.hd
  obtain ⟨x2, x3, x4, x5⟩ := bx hs.hd
  have hg0 : w.grownBy ((w.alloc (.cells #[u, v] 53)).alloc (.cells #[.slice none 0 0, .slice none 0 0] 53)) none := hs.tl.tl.hd
  have s1 := fun W (hg : w.grownBy W none) => frSize_any u n W (hu.carry hg) ln
  have s2 := fun W (hg : w.grownBy W none) => frSize_any v d W (hv.carry hg) ld
  have h2 := (((Sep.start w).box #[u, v] 53).box #[u, v] 53)
  simp only [show ∀ (W : World) o, (W.alloc o).heap.size = W.heap.size + 1 from fun W o => by simp] at h2
  obtain ⟨k0, k1, _, _⟩ := bx h2.hd
  have HG2 := Lib.hid (show w.grownBy ((w.alloc (.cells #[u, v] 53)).alloc (.cells #[u, v] 53)) none from h2.tl.tl.hd)
  have HU := Lib.hid hu; have HV := Lib.hid hv; have HG0 := Lib.hid hg0
  obtain ⟨ua, uc, rfl, _⟩ := id hu
  obtain ⟨va, vc, rfl, _⟩ := id hv
  unfold frV at *
  unfold frFit
  clear hs hg0 h2 hu hv
  by_cases k1' : n.length ≤ 21
  · rw [decide_eq_true k1'] at s1 ⊢
    rw [Bool.true_and]
    by_cases k2' : d.length ≤ 21
    · rw [decide_eq_true k2'] at s2 ⊢
      have S1 := Lib.hid s1; have S2 := Lib.hid s2
      clear s1 s2
      go_enter Tryd.func149, Tryd.ntmps149
      go_wp2_with (first
      | (go_at_call 264
         with_reducible refine (S1.out _ HG0.out).mono ?_
         rintro e w' ⟨rfl, rfl⟩)
      | (go_at_call 264
         with_reducible refine (S2.out _ HG0.out).mono ?_
         rintro e w' ⟨rfl, rfl⟩))
      refine bodyPost_ret_by (v := .tuple #[.agg #[.slice ua n.length uc, .slice va d.length vc], .bool true]) ?_ rfl ⟨_, _, rfl, HU.out.carry HG2.out, HV.out.carry HG2.out, HG2.out⟩
      simp [results, go_sem, *]
    · rw [decide_eq_false k2'] at s2 ⊢
      have S1 := Lib.hid s1; have S2 := Lib.hid s2
      clear s1 s2 k0 k1
      go_enter Tryd.func149, Tryd.ntmps149
      go_wp2_with (first
      | (go_at_call 264
         with_reducible refine (S1.out _ HG0.out).mono ?_
         rintro e w' ⟨rfl, rfl⟩)
      | (go_at_call 264
         with_reducible refine (S2.out _ HG0.out).mono ?_
         rintro e w' ⟨rfl, rfl⟩))
      refine bodyPost_ret_by (v := .tuple #[.agg #[.slice none 0 0, .slice none 0 0], .bool false]) ?_ rfl ⟨_, _, rfl, IntsV.nil _, IntsV.nil _, HG0.out⟩
      simp [results, go_sem, *]
  · rw [decide_eq_false k1'] at s1 ⊢
    rw [Bool.false_and]
    have S1 := Lib.hid s1; have S2 := Lib.hid s2
    clear s1 s2 k0 k1
    go_enter Tryd.func149, Tryd.ntmps149
    go_wp2_with (first
      | (go_at_call 264
         with_reducible refine (S1.out _ HG0.out).mono ?_
         rintro e w' ⟨rfl, rfl⟩)
      | (go_at_call 264
         with_reducible refine (S2.out _ HG0.out).mono ?_
         rintro e w' ⟨rfl, rfl⟩))
    refine bodyPost_ret_by (v := .tuple #[.agg #[.slice none 0 0, .slice none 0 0], .bool false]) ?_ rfl ⟨_, _, rfl, IntsV.nil _, IntsV.nil _, HG0.out⟩
    simp [results, go_sem, *]
end Go.Proofs.YtpeaeminjbjlnaaDoor

/-
  What the law on power series asks of the lists. Conditions: valid fractions.
-/
namespace Go.Proofs.YtpeaeminjbjlnaaDoor
open Go.RowKit
set_option linter.unusedVariables false

/-- what a valid fraction is -/
structure FrIs (q : Nat) [NeZero q] (n d : List Int) : Prop where
  hf : fldN q = true
  q2 : 2 ≤ q
  q97 : q ≤ 97
  on : PolyOk q n
  od : PolyOk q d
  dne : d ≠ []
  ln : n.length ≤ 21
  ld : d.length ≤ 21
  last : lastC d = 1
  cop : Cop (vec q n) (vec q d)
theorem frIs_of {p : Int} {n d : List Int} (h : frB p n d = true) : ∃ (q : Nat) (_ : NeZero q), p = q ∧ FrIs q n d := by
  obtain ⟨hpp, l1, l2, dne⟩ := frB_ok h
  have hpp' := hpp
  rw [Bool.and_eq_true] at hpp
  obtain ⟨q, iq, rfl, hf, hq, hq2, _, o1⟩ := polyB_nat hpp.1
  obtain ⟨q', iq', e1, _, _, _, _, o2⟩ := polyB_nat hpp.2
  obtain rfl : q = q' := by omega
  have L := low_of hf o1 o2 dne (by omega) (by omega)
  have e : lowL q n d = (n, d) := by
    unfold frB at h
    simp only [Bool.and_eq_true, beq_iff_eq] at h
    exact Prod.ext h.2.2.2.2.1 h.2.2.2.2.2
  rw [e] at L
  exact ⟨q, iq, rfl, hf, hq, hq2, o1, o2, dne, l1, l2, L.last, L.cop⟩
theorem frB_of {q : Nat} [NeZero q] {n d : List Int} (hf : fldN q = true) (on : PolyOk q n) (od : PolyOk q d) (dne : d ≠ []) (ln : n.length ≤ 41) (ld : d.length ≤ 41) (l1 : lastC d = 1) (hc : Cop (vec q n) (vec q d)) : frB q n d = frFit n d := by
  have e := low_id hf on od dne ln ld l1 (cop_len hf on od dne ln ld hc)
  unfold frB frFit
  rw [e, polyB_of hf ln on, polyB_of hf ld od, decide_eq_false (show ¬ d.length = 0 by have := len_pos dne; omega)]
  simp
/-- the product of two fractions -/
def mulK (p : Int) (n d n' d' : List Int) : List Int × List Int := lowL p (poMulL p n n') (poMulL p d d')
theorem poMul_ne {q : Nat} [NeZero q] {f g : List Int} (hf : fldN q = true) (of : PolyOk q f) (og : PolyOk q g) (f0 : f ≠ []) (g0 : g ≠ []) : poMulL q f g ≠ [] := by
  intro e
  have h1 := vec_poMul (p := q) f g
  rw [e, vec_nil] at h1
  have hfl := len_pos f0
  have hgl := len_pos g0
  have h2 := congrFun h1 (f.length - 1 + (g.length - 1))
  rw [cv_top (by rw [show f.length - 1 + 1 = f.length by omega]; exact vec_sz f) (by rw [show g.length - 1 + 1 = g.length by omega]; exact vec_sz g)] at h2
  have h3 : vec q f (f.length - 1) * toF q (invI q (lastC f)) = 1 := last_inv hf of f0
  have h4 : vec q g (g.length - 1) * toF q (invI q (lastC g)) = 1 := last_inv hf og g0
  have : (1 : Fin q) = 0 := by
    have a : vec q f (f.length - 1) * toF q (invI q (lastC f)) * (vec q g (g.length - 1) * toF q (invI q (lastC g))) = (1 : Fin q) * 1 := by rw [h3, h4]
    grind
  exact fr_one_ne hf this
theorem els_get {q : Nat} {f : List Int} (hq : 2 ≤ q) (h : ∀ z ∈ f, 0 ≤ z ∧ z < (q : Int)) : 0 ≤ f.getD 0 0 ∧ f.getD 0 0 < q := getD_bd h hq 0
theorem cau_unit {q : Nat} [NeZero q] {d : List Int} (hf : fldN q = true) (hq : 2 ≤ q) (od : PolyOk q d) (c : cauB d = true) : vec q d 0 * toF q (invI q (d.getD 0 0)) = 1 := by
  have b := els_get hq od.els
  have h0 : d.getD 0 0 ≠ 0 := by
    unfold cauB at c
    simpa using c
  exact toF_inv hf (by omega) b.2
theorem cau_of {q : Nat} [NeZero q] {d : List Int} (h : vec q d 0 ≠ 0) : cauB d = true := by
  unfold cauB
  rw [bne_iff_ne]
  intro e
  apply h
  show toF q (d.getD 0 0) = 0
  rw [e]
  exact toF_zero
structure MulFacts (p : Int) (n d n' d' : List Int) : Prop where
  ln : (poMulL p n n').length ≤ 41
  ld : (poMulL p d d').length ≤ 41
  dne : poMulL p d d' ≠ []
  kn : (mulK p n d n' d').1.length ≤ 41
  kd : (mulK p n d n' d').2.length ≤ 41
  fr : frB p (mulK p n d n' d').1 (mulK p n d n' d').2 = frFit (mulK p n d n' d').1 (mulK p n d n' d').2
  cau : cauB d = true → cauB d' = true → cauB (mulK p n d n' d').2 = true
  ser : cauB d = true → cauB d' = true → ∀ m, serL p (mulK p n d n' d').1 (mulK p n d n' d').2 (invI p ((mulK p n d n' d').2.getD 0 0)) m = convL p (serL p n d (invI p (d.getD 0 0)) m) (serL p n' d' (invI p (d'.getD 0 0)) m) m
theorem mul_facts {p : Int} {n d n' d' : List Int} (h1 : frB p n d = true) (h2 : frB p n' d' = true) : MulFacts p n d n' d' := by
  obtain ⟨q, iq, rfl, I⟩ := frIs_of h1
  obtain ⟨q', iq', e1, J⟩ := frIs_of h2
  obtain rfl : q = q' := by omega
  have hm1 := poMul_len (p := q) n n'
  have hm2 := poMul_len (p := q) d d'
  have i1 := I.ln; have i2 := I.ld; have j1 := J.ln; have j2 := J.ld
  have hne := poMul_ne I.hf I.od J.od I.dne J.dne
  have L := low_of I.hf (poMul_ok n n') (poMul_ok d d') hne (by omega) (by omega)
  have la := L.la
  have lb := L.lb
  have hser := fun (c1 : cauB d = true) (c2 : cauB d' = true) m => ser_mul (n := m) (ym := invI q ((mulK q n d n' d').2.getD 0 0)) I.hf L (cau_unit I.hf I.q2 I.od c1) (cau_unit I.hf I.q2 J.od c2)
  have hcau : cauB d = true → cauB d' = true → cauB (mulK q n d n' d').2 = true := fun c1 c2 => cau_of (hser c1 c2 0).1
  refine ⟨by omega, by omega, hne, by show (lowL (q : Int) (poMulL q n n') (poMulL q d d')).1.length ≤ 41; omega, by show (lowL (q : Int) (poMulL q n n') (poMulL q d d')).2.length ≤ 41; omega, frB_of I.hf L.oka L.okb L.bne (by show (lowL (q : Int) (poMulL q n n') (poMulL q d d')).1.length ≤ 41; omega) (by show (lowL (q : Int) (poMulL q n n') (poMulL q d d')).2.length ≤ 41; omega) L.last L.cop, hcau, fun c1 c2 m => (hser c1 c2 m).2 ?_⟩
  exact cau_unit I.hf I.q2 L.okb (hcau c1 c2)
/-- the fraction that is found from a series -/
def fosK (p : Int) (s : List Int) : List Int × List Int := lowL p (trimL (convL p (bmN p s s.length).now s (bmN p s s.length).len)) (bmN p s s.length).now
def fosB (p : Int) (s : List Int) : Bool := decide (2 * (bmN p s s.length).len ≤ s.length) && frB p (fosK p s).1 (fosK p s).2
theorem serB_parts {p k : Int} {n d : List Int} (h : serB p n d k = true) : frB p n d = true ∧ cauB d = true ∧ 0 ≤ k ∧ k ≤ 60 := by
  unfold serB at h
  simp only [Bool.and_eq_true, decide_eq_true_eq] at h
  exact ⟨h.1, h.2.1, h.2.2.1, h.2.2.2⟩
theorem fos_found {p k : Int} {n d : List Int} (h : serB p n d k = true) (hk : 2 * ordL n d ≤ k) : fosB p (serL p n d (invI p (d.getD 0 0)) k.toNat) = true ∧ fosK p (serL p n d (invI p (d.getD 0 0)) k.toNat) = (n, d) := by
  obtain ⟨hfr, hc, k0, k60⟩ := serB_parts h
  obtain ⟨q, iq, rfl, I⟩ := frIs_of hfr
  unfold ordL at hk
  have F := found (N := k.toNat) (L := (max ((d.length : Int) - 1) (n.length : Int)).toNat) I.hf I.on I.od I.dne I.last I.cop (cau_unit I.hf I.q2 I.od hc) (by omega) (by omega) (by omega) (by omega)
  have hK : fosK q (serL q n d (invI q (d.getD 0 0)) k.toNat) = (n, d) := by
    unfold fosK
    rw [ser_len]
    exact F.2
  refine ⟨?_, hK⟩
  unfold fosB
  rw [hK, hfr, ser_len, decide_eq_true F.1]
  rfl
end Go.Proofs.YtpeaeminjbjlnaaDoor

/-
  The reference's way of a power series. Conditions: none.
-/
namespace Go.Proofs.YtpeaeminjbjlnaaDoor
open Go.RowKit
set_option linter.unusedVariables false

def fsT (p : Int) (num den out : List Int) (k : Nat) : Nat → Int
  | 0 => num.getD k 0
  | i + 1 => (fsT p num den out k i + p - den.getD (i + 1) 0 * out.getD (k - (i + 1)) 0 % p) % p
theorem sub_mod3 (a b p : Int) : (a % p + p - b % p) % p = (a - b) % p := by
  have e : a % p + p - b % p = (a - b) + p * (b / p - a / p + 1) := by
    rw [Int.emod_def, Int.emod_def]
    simp only [Int.mul_add, Int.mul_sub, Int.mul_one]
    omega
  rw [e, Int.add_mul_emod_self_left]
theorem fs_eq {q : Nat} {num den out : List Int} {k : Nat} (h1 : ∀ z ∈ num, 0 ≤ z ∧ z < (q : Int)) (hq : 2 ≤ q) : ∀ i, fsT q num den out k i = sumT num den out k i % q
  | 0 => by
    have := getD_bd h1 hq k
    show num.getD k 0 = num.getD k 0 % q
    rw [Int.emod_eq_of_lt this.1 this.2]
  | i + 1 => by
    show (fsT q num den out k i + q - _) % (q : Int) = (sumT num den out k i - _) % (q : Int)
    rw [fs_eq h1 hq i, sub_mod3]
theorem sumT_past {num den out : List Int} {k i : Nat} (h : den.length ≤ i + 1) : ∀ j, sumT num den out k (i + j) = sumT num den out k i
  | 0 => rfl
  | j + 1 => by
    show sumT num den out k (i + j) - den.getD (i + j + 1) 0 * _ = _
    rw [sumT_past h j, List.getD_eq_getElem?_getD, List.getElem?_eq_none (by omega)]
    show _ - (0 : Int) * _ = _
    rw [Int.zero_mul, Int.sub_zero]
theorem fs_done {q : Nat} {num den out : List Int} {k j : Nat} (h1 : ∀ z ∈ num, 0 ≤ z ∧ z < (q : Int)) (hq : 2 ≤ q) (hj : j ≤ k) (hx : ¬ (j + 1 < den.length ∧ j + 1 ≤ k)) : fsT q num den out k j = sumT num den out k k % q := by
  rw [fs_eq h1 hq]
  by_cases h : j = k
  · rw [h]
  · obtain ⟨m, rfl⟩ : ∃ m, k = j + m := ⟨k - j, by omega⟩
    rw [sumT_past (by omega) m]
theorem fs_bd {q : Nat} {num den out : List Int} {k : Nat} (h1 : ∀ z ∈ num, 0 ≤ z ∧ z < (q : Int)) (hq : 2 ≤ q) (i : Nat) : 0 ≤ fsT q num den out k i ∧ fsT q num den out k i < q := by
  rw [fs_eq h1 hq]
  exact ⟨Int.emod_nonneg _ (by omega), Int.emod_lt_of_pos _ (by omega)⟩
end Go.Proofs.YtpeaeminjbjlnaaDoor

/-
  The power series of a fraction, in the reference: the walk. Conditions: small sizes.
-/
namespace Go.Proofs.YtpeaeminjbjlnaaDoor
open Go.RowKit
set_option linter.unusedVariables false

set_option maxRecDepth 100000 in
set_option maxHeartbeats 2000000 in
theorem frSeries_any (q n : Nat) [NeZero q] (u v : Value) (num den : List Int) (w : World) (hfl : fldN q = true) (hq2 : q ≤ 97) (hu : IntsV w u num) (hv : IntsV w v den) (h1 : ∀ z ∈ num, 0 ≤ z ∧ z < (q : Int)) (h2 : ∀ z ∈ den, 0 ≤ z ∧ z < (q : Int)) (dne : den ≠ []) (hc0 : den.getD 0 0 ≠ 0) (ln : num.length ≤ 100) (ld : den.length ≤ 100) (hn : n ≤ 60) :
    Calls Tryd.prog 138 #[.int .i64 q, frV u v, .int .i64 n] w fun e w' => ∃ o, e = .returned o ∧ IntsV w' o (serL q num den (invI q (den.getD 0 0)) n) ∧ w.grownBy w' none := by
  have hq := lt_p hfl
  have hs := ((Sep.start w).box #[u, v] 53)
  obtain ⟨y0, y1, _, _⟩ := bx hs.hd
  have HS0 := Lib.hid hs
  have HU := Lib.hid hu; have HV := Lib.hid hv; have H1 := Lib.hid h1; have H2 := Lib.hid h2
  have hd0 := getD_bd h2 (by omega) 0
  have hb := inv_bd97 (q := q) (x := den.getD 0 0) (by omega) hq2
  have HIV := Lib.hid fun wx => fdInvS_any q (den.getD 0 0) wx hfl (by omega) (by omega) (by omega)
  have hdl := len_pos dne
  obtain ⟨ua, uc, rfl, _⟩ := hu
  obtain ⟨va, vc, rfl, hvi⟩ := hv
  have HSO := Lib.hid fun k => ser_ok (q := q) num den (invI q (den.getD 0 0)) k
  have HSS := Lib.hid fun k => (show serL q num den (invI q (den.getD 0 0)) (k + 1) = serL q num den (invI q (den.getD 0 0)) k ++ [sumT num den (serL q num den (invI q (den.getD 0 0)) k) k k % q * invI q (den.getD 0 0) % q] from rfl)
  have HDB := Lib.hid fun k => getD_bd H2.out (by omega) k
  have HNB := Lib.hid fun k => getD_bd H1.out (by omega) k
  have HFB := Lib.hid fun out k i => fs_bd (num := num) (den := den) (out := out) (k := k) H1.out (by omega) i
  have HFD := Lib.hid fun out k j hj hx => fs_done (num := num) (den := den) (out := out) (k := k) (j := j) H1.out (show 2 ≤ q by omega) hj hx
  clear h1 h2 hs hvi dne hc0
  generalize hy : invI (q : Int) (den.getD 0 0) = y at *
  have HY := Lib.hid hy
  clear hy
  obtain ⟨dd, rfl, hss, hdw, hcc⟩ := HV.out.at hdl
  obtain ⟨db, dof, _⟩ := dd
  simp only at hss hcc
  subst hss
  have hdw : db < w.heap.size := hdw
  rw [← getD_lt hdl] at hcc
  have hcc1 : (w.alloc (.cells #[.slice ua num.length uc, .slice (some ⟨db, dof, none⟩) den.length vc] 53)).cell? ⟨db, dof + 0, none⟩ = some (.int .i64 (den.getD 0 0)) := (World.cell?_of_block (w := w) (a := ⟨db, dof + 0, none⟩) ((show w.grownBy _ none from HS0.out.tl.hd).block db hdw (by simp))).trans hcc
  have hcc2 : (w.alloc (.cells #[.slice ua num.length uc, .slice (some ⟨db, dof, none⟩) den.length vc] 53)).cell? ⟨db, dof, none⟩ = some (.int .i64 (den.getD 0 0)) := hcc1
  clear hcc
  unfold frV
  generalize den.getD 0 0 = d0 at *
  go_enter Tryd.func138, Tryd.ntmps138
  go_wp2_with (
    go_at_call 198
    with_reducible refine (HIV.out _).mono ?_
    rintro e w' ⟨rfl, rfl⟩)
  go_loopw [8, 9] (fun out i wr => ∃ k : Nat, k ≤ n ∧ i = .int .i64 k ∧ Sep wr [OI out (serL q num den y k), BxA w.heap.size #[.slice ua num.length uc, .slice (some ⟨db, dof, none⟩) den.length vc] 53, KeepA w]) (fun _ i _ => n - (intOf i).toNat)
  case atStart => exact ⟨0, by omega, rfl, HS0.out.nilI⟩
  case round =>
    clear y0 y1 hcc1 hcc2
    obtain ⟨k, hk, rfl, hs⟩ := hrel
    have HSX := Lib.hid hs
    clear hs
    by_cases hlt : k < n
    · have HNX := Lib.hid (HSS.out k)
      have HOK := Lib.hid (HSO.out k)
      have HGW := Lib.hid (show w.grownBy wr none from HSX.out.tl.tl.hd)
      obtain ⟨z2, z3, _, _⟩ := bx HSX.out.tl.hd
      obtain ⟨oa, oc, rfl, hoc⟩ := own_cap' (show OwnInts 0 wr _ _ from HSX.out.hd)
      generalize serL (q : Int) num den y k = A at *
      have hok1 := HOK.out.1
      generalize hal : A.length = al at *
      obtain rfl : k = al := hok1.symm
      have HAL := Lib.hid hal
      clear hal hok1
      have hun := HU.out.carry HGW.out
      go_upto_if 27 with fail
      go_cut [10] from 27 to 32 (fun c wx => c = .int .i64 (num.getD k 0) ∧ wx = wr)
      case first =>
        by_cases hkn : k < num.length
        · obtain ⟨nd, rfl, hns, hnb, hnc⟩ := hun.at hkn
          obtain ⟨nb, no, _⟩ := nd
          simp only at hns hnc
          subst hns
          rw [← getD_lt hkn] at hnc
          generalize num.getD k 0 = x0 at *
          go_wp2_with fail
          go_meet
          first | exact ⟨rfl, rfl⟩ | ((repeat apply Exists.intro); exact ⟨⟨rfl, rfl⟩, rfl⟩)
        · have hz : num.getD k 0 = 0 := by rw [List.getD_eq_getElem?_getD, List.getElem?_eq_none (by omega)]; rfl
          go_wp2_with fail
          go_meet
          first | exact ⟨by rw [hz], rfl⟩ | ((repeat apply Exists.intro); exact ⟨⟨by rw [hz], rfl⟩, rfl⟩)
      case rest =>
        obtain ⟨rfl, rfl⟩ := hcut
        clear z2 z3 hun
        go_wp2_with fail
        go_loopw [10, 11] (fun c j wx => ∃ t : Nat, t ≤ k ∧ t + 1 ≤ den.length ∧ j = .int .i64 ((t : Int) + 1) ∧ c = .int .i64 (fsT q num den A k t) ∧ Sep wx [OI (.slice oa k oc) A, BxA w.heap.size #[.slice ua num.length uc, .slice (some ⟨db, dof, none⟩) den.length vc] 53, KeepA w]) (fun _ j _ => k + 1 - (intOf j).toNat)
        case atStart => exact ⟨0, by omega, by omega, rfl, rfl, HSX.out⟩
        case round =>
          obtain ⟨t, ht, htd, rfl, rfl, hs⟩ := hrel
          have HSY := Lib.hid hs
          clear hs
          obtain ⟨z2, z3, _, _⟩ := bx HSY.out.tl.hd
          have HGY := Lib.hid (show w.grownBy wr none from HSY.out.tl.tl.hd)
          by_cases hx : t + 1 < den.length ∧ t + 1 ≤ k
          · obtain ⟨x1, x2⟩ := hx
            have w6 : (t : Int) + 1 < (den.length : Int) := by omega
            have w7 : (t : Int) + 1 ≤ (k : Int) := by omega
            obtain ⟨m, hm⟩ : ∃ m, m + (t + 1) = k := ⟨k - (t + 1), by omega⟩
            have w3 : (k : Int) - ((t : Int) + 1) = (m : Int) := by omega
            have w4 : IntKind.i64.wrap (m : Int) = (m : Int) := by rw [IntKind.wrap_i64]; omega
            have w5 : (m : Int) < (k : Int) := by omega
            have hmA : m < A.length := by rw [HAL.out]; omega
            have HGD := Lib.hid HSY.out.dr
            obtain ⟨z4, z5, _, _⟩ := bx HGD.out.tl.hd
            have w8 : 0 ≤ (t : Int) + 1 := by omega
            have w9 : 0 ≤ (m : Int) := by omega
            obtain ⟨d2, hd2, hs2, hb2, hc2⟩ := (HV.out.carry (show w.grownBy wr.drew none from HGD.out.tl.tl.hd)).at x1
            obtain rfl : d2 = ⟨db, dof, none⟩ := (Option.some.inj hd2).symm
            simp only at hc2
            obtain ⟨d3, rfl, hs3, hb3, hc3⟩ := (show OwnInts 0 wr.drew (.slice oa k oc) A from HGD.out.hd).read.at hmA
            obtain ⟨b3, o3, _⟩ := d3
            simp only at hs3 hc3
            subst hs3
            rw [← getD_lt x1] at hc2
            rw [← getD_lt hmA] at hc3
            have b1 := HDB.out (t + 1)
            have b2 := HOK.out.2 _ (List.getElem_mem hmA)
            rw [← getD_lt hmA] at b2
            have bc := HFB.out A k t
            have HST := Lib.hid (show fsT q num den A k (t + 1) = (fsT q num den A k t + q - den.getD (t + 1) 0 * A.getD m 0 % q) % q by
              show (fsT q num den A k t + q - den.getD (t + 1) 0 * A.getD (k - (t + 1)) 0 % q) % q = _
              rw [show k - (t + 1) = m by omega])
            generalize den.getD (t + 1) 0 = dj at *
            generalize A.getD m 0 = am at *
            generalize fsT (q : Int) num den A k t = sj at *
            have b5 := Int.emod_nonneg (dj * am) (show (q : Int) ≠ 0 by omega)
            have b6 := Int.emod_lt_of_pos (dj * am) (show (0 : Int) < q by omega)
            have FM := Lib.hid fun W => fdMulS_any q dj am W (by omega) (by omega) (by omega) (by omega) (by omega) (by omega)
            generalize dj * am % (q : Int) = pr at *
            have FS := Lib.hid fun W => fdSubS_any q sj pr W (by omega) (by omega) (by omega) (by omega) (by omega) (by omega)
            clear hm hmA
            go_wp2_with fail
            go_region_law (first
              | (try go_simp
                 go_at_call 199
                 with_reducible refine (FM.out _).mono ?_
                 rintro e w4 ⟨rfl, rfl⟩)
              | (try go_simp
                 go_at_call 245
                 with_reducible refine (FS.out _).mono ?_
                 rintro e w5 ⟨rfl, rfl⟩))
            all_goals
              go_wp2
              go_roundw
              case rel => exact ⟨t + 1, by omega, by omega, by go_num, by rw [HST.out], HGD.out⟩
              case measure => simp [intOf]; omega
          · have hE := HFD.out A k t ht hx
            have bE := HFB.out A k t
            rw [hE] at bE ⊢
            generalize sumT num den A k k % (q : Int) = E at *
            have FM := Lib.hid fun W => fdMulS_any q E y W (by omega) (by omega) (by omega) (by omega) (by omega) (by omega)
            clear hE
            by_cases hx1 : t + 1 < den.length
            · have w6 : (t : Int) + 1 < (den.length : Int) := by omega
              have w7 : ¬ (t : Int) + 1 ≤ (k : Int) := by omega
              clear hx
              go_wp2_with (first
                | (go_at_call 199; with_reducible refine (FM.out _).mono ?_; rintro e w3 ⟨rfl, rfl⟩)
                | (at_builtin
                   refine app_intS rfl _ _ rfl rfl rfl HSY.out (by rw [HAL.out]; omega) ?_
                   intro g4 cap4 w4 hs4
                   have HS4 := Lib.hid hs4
                   clear hs4))
              go_roundw
              case rel => exact ⟨k + 1, by omega, by go_num, by rw [HNX.out]; exact HS4.out⟩
              case measure => simp [intOf]; omega
            · have w6 : ¬ (t : Int) + 1 < (den.length : Int) := by omega
              clear hx
              go_wp2_with (first
                | (go_at_call 199; with_reducible refine (FM.out _).mono ?_; rintro e w3 ⟨rfl, rfl⟩)
                | (at_builtin
                   refine app_intS rfl _ _ rfl rfl rfl HSY.out (by rw [HAL.out]; omega) ?_
                   intro g4 cap4 w4 hs4
                   have HS4 := Lib.hid hs4
                   clear hs4))
              go_roundw
              case rel => exact ⟨k + 1, by omega, by go_num, by rw [HNX.out]; exact HS4.out⟩
              case measure => simp [intOf]; omega
    · have hkn : k = n := by omega
      subst hkn
      have HR := Lib.hid (show OwnInts 0 wr _ _ from HSX.out.hd).read
      obtain ⟨oa, oc, rfl, _⟩ := own_cap' (show OwnInts 0 wr _ _ from HSX.out.hd)
      have HGF := Lib.hid (show w.grownBy wr none from HSX.out.tl.tl.hd)
      go_wp2
      go_ret
      exact ⟨_, rfl, HR.out, HGF.out⟩
end Go.Proofs.YtpeaeminjbjlnaaDoor

/-
  The power series of a fraction, checked, in the reference. Conditions: small sizes.
-/
namespace Go.Proofs.YtpeaeminjbjlnaaDoor
open Go.RowKit
set_option linter.unusedVariables false

set_option maxRecDepth 100000 in
set_option maxHeartbeats 2000000 in
theorem sSeriesOf_any (p k : Int) (u v : Value) (n d : List Int) (w : World) (hp0 : -1000 ≤ p) (hp1 : p ≤ 1000) (hu : IntsV w u n) (hv : IntsV w v d) (ln : n.length ≤ 1000000) (ld : d.length ≤ 1000000) :
    Calls Tryd.prog 36 #[.int .i64 p, frV u v, .int .i64 k] w fun e w' => ∃ o, e = .returned (.tuple #[o, .bool (serB p n d k)]) ∧ IntsV w' o (if serB p n d k = true then serL p n d (invI p (d.getD 0 0)) k.toNat else []) ∧ w.grownBy w' none := by
  have hs := ((Sep.start w).box #[u, v] 53)
  obtain ⟨x0, x1, _, _⟩ := bx hs.hd
  have hg0 : w.grownBy (w.alloc (.cells #[u, v] 53)) none := hs.tl.hd
  have ha := frGood_any p u v n d _ hp0 hp1 (hu.carry hg0) (hv.carry hg0) ln ld
  have HS := Lib.hid hs
  have HU := Lib.hid hu; have HV := Lib.hid hv
  have HCA := Lib.hid fun W (hg : w.grownBy W none) (dne : d ≠ []) => frCausal_any u v d W (hv.carry hg) dne ld
  have HSB := Lib.hid (show serB p n d k = (frB p n d && (cauB d && decide (0 ≤ k ∧ k ≤ 60))) from rfl)
  have HWI := Lib.hid fun W => l1In_any k 0 60 W
  obtain ⟨ua, uc, rfl, _⟩ := id hu
  obtain ⟨va, vc, rfl, _⟩ := id hv
  rw [HSB.out]
  unfold frV at *
  clear hs hg0 hu hv
  cases hfr : frB p n d
  · rw [hfr] at ha
    have HA := Lib.hid ha
    clear ha hfr
    rw [Bool.false_and]
    · go_enter Tryd.func36, Tryd.ntmps36
      go_wp2_with (first
          | (go_at_call 135
             with_reducible refine HA.out.mono ?_
             rintro e w1 ⟨rfl, hg⟩
             have hs3 := HS.out.grown hg
             obtain ⟨t0, t1, _, _⟩ := bx hs3.hd
             have HG3 := Lib.hid (show w.grownBy w1 none from hs3.tl.hd)
             have HS3 := Lib.hid hs3
             clear hg hs3))
      go_ret2
      exact ⟨_, rfl, IntsV.nil _, HG3.out⟩
  · rw [hfr] at ha
    have HA := Lib.hid ha
    obtain ⟨hpp, l1, l2, dne⟩ := frB_ok hfr
    rw [Bool.and_eq_true] at hpp
    obtain ⟨q, iq, rfl, hf, hq, hq2, _, o1⟩ := polyB_nat hpp.1
    obtain ⟨q', iq', e1, _, _, _, _, o2⟩ := polyB_nat hpp.2
    obtain rfl : q = q' := by omega
    have hca := fun W hg => HCA.out W hg dne
    rw [Bool.true_and]
    cases hc : cauB d
    · rw [hc] at hca
      have HC1 := Lib.hid hca
      clear ha hfr hpp e1 o1 o2 dne HCA hca hc
      rw [Bool.false_and]
      · go_enter Tryd.func36, Tryd.ntmps36
        go_wp2_with (first
          | (go_at_call 135
             with_reducible refine HA.out.mono ?_
             rintro e w1 ⟨rfl, hg⟩
             have hs3 := HS.out.grown hg
             obtain ⟨t0, t1, _, _⟩ := bx hs3.hd
             have HG3 := Lib.hid (show w.grownBy w1 none from hs3.tl.hd)
             have HS3 := Lib.hid hs3
             clear hg hs3)
          | (go_at_call 136
             with_reducible refine (HC1.out _ HG3.out).mono ?_
             rintro e w2 ⟨rfl, hg⟩
             have HG4 := Lib.hid (HG3.out.trans hg)
             obtain ⟨z0, z1, _, _⟩ := bx (HS3.out.grown hg).hd
             clear hg))
        go_ret2
        exact ⟨_, rfl, IntsV.nil _, HG4.out⟩
    · rw [hc] at hca
      have HC1 := Lib.hid hca
      have hc0 : d.getD 0 0 ≠ 0 := by unfold cauB at hc; simpa using hc
      have HSE := Lib.hid fun (m : Nat) W (hm : m ≤ 60) (hg : w.grownBy W none) => frSeries_any q m _ _ n d W hf hq2 (HU.out.carry hg) (HV.out.carry hg) o1.els o2.els dne hc0 (by omega) (by omega) hm
      unfold frV at HSE
      clear ha hfr hpp e1 o1 o2 dne HCA hca hc hc0
      rw [Bool.true_and]
      by_cases hk : 0 ≤ k ∧ k ≤ 60
      · obtain ⟨m, rfl⟩ := Int.eq_ofNat_of_zero_le hk.1
        have hwi := HWI.out
        rw [decide_eq_true hk] at hwi ⊢
        have HW2 := Lib.hid hwi
        have hm : m ≤ 60 := by omega
        clear hwi hk HWI
        go_enter Tryd.func36, Tryd.ntmps36
        go_wp2_with (first
          | (go_at_call 135
             with_reducible refine HA.out.mono ?_
             rintro e w1 ⟨rfl, hg⟩
             have hs3 := HS.out.grown hg
             obtain ⟨t0, t1, _, _⟩ := bx hs3.hd
             have HG3 := Lib.hid (show w.grownBy w1 none from hs3.tl.hd)
             have HS3 := Lib.hid hs3
             clear hg hs3)
          | (go_at_call 136
             with_reducible refine (HC1.out _ HG3.out).mono ?_
             rintro e w2 ⟨rfl, hg⟩
             have HG4 := Lib.hid (HG3.out.trans hg)
             obtain ⟨z0, z1, _, _⟩ := bx (HS3.out.grown hg).hd
             clear hg)
          | (go_at_call 137
             with_reducible refine (HW2.out _).mono ?_
             rintro e w' ⟨rfl, rfl⟩)
          | (go_at_call 138
             with_reducible refine (HSE.out _ _ hm HG4.out).mono ?_
             rintro e w3 ⟨o, rfl, hi, hg⟩
             obtain ⟨b5, c5, rfl, _⟩ := id hi
             have HI5 := Lib.hid hi
             have HG5 := Lib.hid (HG4.out.trans hg)
             clear hi hg))
        go_ret2
        exact ⟨_, rfl, HI5.out, HG5.out⟩
      · have hwi := HWI.out
        rw [decide_eq_false hk] at hwi ⊢
        have HW2 := Lib.hid hwi
        clear hwi hk HWI
        go_enter Tryd.func36, Tryd.ntmps36
        go_wp2_with (first
          | (go_at_call 135
             with_reducible refine HA.out.mono ?_
             rintro e w1 ⟨rfl, hg⟩
             have hs3 := HS.out.grown hg
             obtain ⟨t0, t1, _, _⟩ := bx hs3.hd
             have HG3 := Lib.hid (show w.grownBy w1 none from hs3.tl.hd)
             have HS3 := Lib.hid hs3
             clear hg hs3)
          | (go_at_call 136
             with_reducible refine (HC1.out _ HG3.out).mono ?_
             rintro e w2 ⟨rfl, hg⟩
             have HG4 := Lib.hid (HG3.out.trans hg)
             obtain ⟨z0, z1, _, _⟩ := bx (HS3.out.grown hg).hd
             clear hg)
          | (go_at_call 137
             with_reducible refine (HW2.out _).mono ?_
             rintro e w' ⟨rfl, rfl⟩))
        go_ret2
        exact ⟨_, rfl, IntsV.nil _, HG4.out⟩
end Go.Proofs.YtpeaeminjbjlnaaDoor

/-
  The product of two fractions, in the reference. Conditions: valid fractions.
-/
namespace Go.Proofs.YtpeaeminjbjlnaaDoor
open Go.RowKit
set_option linter.unusedVariables false

theorem Sep.graft2 {w w' : World} {l : List Asrt} {A C : Asrt} (h : Sep w l) (h2 : Sep w' [A, C, KeepA w]) (hA : ∀ k, A.sees k → A.foot k) (hC : ∀ k, C.sees k → C.foot k) : Sep w' (A :: C :: l) := by
  have hg : w.grownBy w' none := h2.tl.tl.hd
  have sA : ∀ k, A.sees k → w.heap.size ≤ k := fun k hk => Nat.le_of_not_lt ((h2.2.1 (KeepA w) (by simp)).1 k (hA k hk))
  have sC : ∀ k, C.sees k → w.heap.size ≤ k := fun k hk => Nat.le_of_not_lt ((h2.tl.2.1 (KeepA w) (by simp)).1 k (hC k hk))
  refine ⟨h2.hd, fun D hD => ?_, h.new hg h2.tl.hd sC⟩
  rcases List.mem_cons.1 hD with rfl | hD
  · exact h2.apt
  · exact (h.new hg h2.hd sA).2.1 D hD
set_option maxRecDepth 100000 in
set_option maxHeartbeats 4000000 in
theorem frMul_any (q : Nat) [NeZero q] (u1 v1 u2 v2 : Value) (n d n' d' : List Int) (w : World) (I : FrIs q n d) (J : FrIs q n' d') (h1 : IntsV w u1 n) (h2 : IntsV w v1 d) (h3 : IntsV w u2 n') (h4 : IntsV w v2 d') :
    Calls Tryd.prog 150 #[.int .i64 q, frV u1 v1, frV u2 v2] w fun e w' => ∃ o1 o2, e = .returned (frV o1 o2) ∧ Sep w' [OI o1 (mulK q n d n' d').1, OI o2 (mulK q n d n' d').2, KeepA w] := by
  have hs := (((Sep.start w).box #[u1, v1] 53).box #[u2, v2] 53).box #[.slice none 0 0, .slice none 0 0] 53
  simp only [show ∀ (W : World) o, (W.alloc o).heap.size = W.heap.size + 1 from fun W o => by simp] at hs
  have S0 := Lib.hid hs.dr
  have G0 := Lib.hid (show w.grownBy _ none from hs.dr.tl.tl.tl.hd)
  have i1 := I.ln; have i2 := I.ld; have j1 := J.ln; have j2 := J.ld
  have hm1 := poMul_len (p := q) n n'
  have hm2 := poMul_len (p := q) d d'
  have hne := poMul_ne I.hf I.od J.od I.dne J.dne
  have L1 : (poMulL q n n').length ≤ 41 := by omega
  have L2 : (poMulL q d d').length ≤ 41 := by omega
  have m1 := fun W (hg : w.grownBy W none) => poMul_any q u1 u2 n n' W I.q2 I.q97 (h1.carry hg) (h3.carry hg) I.on.els J.on.els (by omega) (by omega)
  have m2 := fun W (hg : w.grownBy W none) => poMul_any q v1 v2 d d' W I.q2 I.q97 (h2.carry hg) (h4.carry hg) I.od.els J.od.els (by omega) (by omega)
  rw [mulF_eq I.hf I.on J.on] at m1
  rw [mulF_eq I.hf I.od J.od] at m2
  have M1 := Lib.hid m1; have M2 := Lib.hid m2
  clear m1 m2
  have LO := Lib.hid fun W x y (hx : IntsV W x (poMulL q n n')) (hy : IntsV W y (poMulL q d d')) => frMake_own q x y _ _ W I.hf I.q97 hx hy (poMul_ok _ _) (poMul_ok _ _) hne L1 L2
  obtain ⟨e1, f1, rfl, _⟩ := id h1
  obtain ⟨e2, f2, rfl, _⟩ := id h2
  obtain ⟨e3, f3, rfl, _⟩ := id h3
  obtain ⟨e4, f4, rfl, _⟩ := id h4
  have XF := Lib.hid fun W cs (h : Sep W [BxA (w.heap.size + 1 + 1) cs 53, BxA (w.heap.size + 1) #[.slice e3 n'.length f3, .slice e4 d'.length f4] 53, BxA w.heap.size #[.slice e1 n.length f1, .slice e2 d.length f2] 53, KeepA w]) =>
    (show W.cell? ⟨w.heap.size, 0, none⟩ = some (.slice e1 n.length f1) ∧ W.cell? ⟨w.heap.size, 1, none⟩ = some (.slice e2 d.length f2) ∧ W.cell? ⟨w.heap.size + 1, 0, none⟩ = some (.slice e3 n'.length f3) ∧ W.cell? ⟨w.heap.size + 1, 1, none⟩ = some (.slice e4 d'.length f4) from ⟨(bx h.tl.tl.hd).1, (bx h.tl.tl.hd).2.1, (bx h.tl.hd).1, (bx h.tl.hd).2.1⟩)
  have X0 := Lib.hid (XF.out _ _ S0.out)
  unfold frV mulK at *
  clear hs h1 h2 h3 h4 hm1 hm2 hne L1 L2 i1 i2 j1 j2 I J
  generalize poMulL (q : Int) n n' = N at *
  generalize poMulL (q : Int) d d' = D at *
  generalize (lowL (q : Int) N D).1 = K1 at *
  generalize (lowL (q : Int) N D).2 = K2 at *
  go_enter Tryd.func150, Tryd.ntmps150
  go_wp2_with fail
  go_region_held3 (fun w' => w'.cell? ⟨w.heap.size, 0, none⟩ = some (.slice e1 n.length f1) ∧ w'.cell? ⟨w.heap.size, 1, none⟩ = some (.slice e2 d.length f2) ∧ w'.cell? ⟨w.heap.size + 1, 0, none⟩ = some (.slice e3 n'.length f3) ∧ w'.cell? ⟨w.heap.size + 1, 1, none⟩ = some (.slice e4 d'.length f4))
    (first | with_reducible exact X0.out | with_reducible exact X1.out | with_reducible exact X2.out | with_reducible exact X3.out | with_reducible exact X4.out | with_reducible exact X5.out | with_reducible exact X6.out | with_reducible exact Y5.out | with_reducible exact Y6.out)
    (first
      | (go_at_call 108
         with_reducible refine (M1.out _ G0.out).mono ?_
         rintro e w1 ⟨o, rfl, hi, hg⟩
         obtain ⟨a1, c1, rfl, _⟩ := own_cap' hi
         have I1 := Lib.hid hi.read
         have E1 := Lib.hid hg
         have S1 := Lib.hid (S0.out.grown hg)
         have G1 := Lib.hid (G0.out.trans hg)
         have X1 := Lib.hid (XF.out _ _ (S0.out.grown hg))
         clear hi hg)
      | (go_at_call 108
         with_reducible refine (M2.out _ G0.out).mono ?_
         rintro e w2 ⟨o, rfl, hi, hg⟩
         obtain ⟨a2, c2, rfl, _⟩ := own_cap' hi
         have I2 := Lib.hid hi.read
         have E2 := Lib.hid hg
         have S2 := Lib.hid (S0.out.grown hg)
         have G2 := Lib.hid (G0.out.trans hg)
         have X2 := Lib.hid (XF.out _ _ (S0.out.grown hg))
         clear hi hg)
      | (go_at_call 108
         with_reducible refine (M2.out _ G1.out).mono ?_
         rintro e w3 ⟨o, rfl, hi, hg⟩
         obtain ⟨a3, c3, rfl, _⟩ := own_cap' hi
         have I3 := Lib.hid hi.read
         have E3 := Lib.hid hg
         have S3 := Lib.hid (S1.out.grown hg)
         have G3 := Lib.hid (G1.out.trans hg)
         have X3 := Lib.hid (XF.out _ _ (S1.out.grown hg))
         clear hi hg)
      | (go_at_call 108
         with_reducible refine (M1.out _ G2.out).mono ?_
         rintro e w4 ⟨o, rfl, hi, hg⟩
         obtain ⟨a4, c4, rfl, _⟩ := own_cap' hi
         have I4 := Lib.hid hi.read
         have E4 := Lib.hid hg
         have S4 := Lib.hid (S2.out.grown hg)
         have G4 := Lib.hid (G2.out.trans hg)
         have X4 := Lib.hid (XF.out _ _ (S2.out.grown hg))
         clear hi hg)
      | (go_at_call 266
         with_reducible refine (LO.out _ _ _ (I1.out.carry E3.out) I3.out).mono ?_
         rintro e w5 ⟨o1, o2, rfl, hk⟩
         obtain ⟨a5, c5, rfl, _⟩ := own_cap' hk.hd
         obtain ⟨b5, d5, rfl, _⟩ := own_cap' hk.tl.hd
         have hs5 := (S3.out.graft2 hk (fun _ h => h) (fun _ h => h)).s3
         have X5 := Lib.hid (XF.out _ _ hs5.drop2.drop2)
         obtain ⟨t0, t1, t2, t3⟩ := bx hs5.hd
         have hf5 := (hs5.setB 0 (.slice a5 K1.length c5)).setB 1 (.slice b5 K2.length d5)
         have Y5 := Lib.hid (XF.out _ _ hf5.drop2.drop2)
         have F5 := Lib.hid hf5
         clear hk hs5 hf5)
      | (go_at_call 266
         with_reducible refine (LO.out _ _ _ I4.out (I2.out.carry E4.out)).mono ?_
         rintro e w6 ⟨o1, o2, rfl, hk⟩
         obtain ⟨a6, c6, rfl, _⟩ := own_cap' hk.hd
         obtain ⟨b6, d6, rfl, _⟩ := own_cap' hk.tl.hd
         have hs6 := (S4.out.graft2 hk (fun _ h => h) (fun _ h => h)).s3
         have X6 := Lib.hid (XF.out _ _ hs6.drop2.drop2)
         obtain ⟨t0, t1, t2, t3⟩ := bx hs6.hd
         have hf6 := (hs6.setB 0 (.slice a6 K1.length c6)).setB 1 (.slice b6 K2.length d6)
         have Y6 := Lib.hid (XF.out _ _ hf6.drop2.drop2)
         have F6 := Lib.hid hf6
         clear hk hs6 hf6))
  all_goals
    go_wp2
    first
    | (refine bodyPost_ret_by (v := .agg #[.slice a5 K1.length c5, .slice b5 K2.length d5]) ?_ rfl ⟨_, _, rfl, F5.out.tl.under (fun h => h.under (fun h => h.tl.tl) (by simp +contextual)) (by simp +contextual)⟩
       obtain ⟨k0, k1, _, _⟩ := bx F5.out.hd
       simp [results, go_sem, *])
    | (refine bodyPost_ret_by (v := .agg #[.slice a6 K1.length c6, .slice b6 K2.length d6]) ?_ rfl ⟨_, _, rfl, F6.out.tl.under (fun h => h.under (fun h => h.tl.tl) (by simp +contextual)) (by simp +contextual)⟩
       obtain ⟨k0, k1, _, _⟩ := bx F6.out.hd
       simp [results, go_sem, *])
end Go.Proofs.YtpeaeminjbjlnaaDoor

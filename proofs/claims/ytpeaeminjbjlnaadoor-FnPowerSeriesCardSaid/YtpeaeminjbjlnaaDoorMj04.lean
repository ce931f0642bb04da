/-
  The program's MatrixPower, for every matrix. Conditions: small sizes.
-/
import Derived.Test.YtpeaeminjbjlnaaDoorMj03
import Derived.Deep.CutRange
import Derived.Deep.RegionHeld3
import Derived.Test.YtpeaeminjbjlnaaDoorMj01
import Derived.Test.YtpeaeminjbjlnaaDoorMk16
namespace Go.Proofs.YtpeaeminjbjlnaaDoor
open Go.RowKit
set_option linter.unusedVariables false

def powB (p cols : Int) (M : List (List Int)) (n : Int) : Bool := sqB p cols M && decide (0 ≤ n ∧ n ≤ 1000)
set_option maxRecDepth 100000 in
set_option maxHeartbeats 1000000 in
theorem matrixPower_no (p cols n : Int) (u : Value) (M : List (List Int)) (w : World) (ht : Tab w) (hu : MatV w u M) (ha : M.length ≤ 1000000) (haa : ∀ row ∈ M, row.length ≤ 1000000) (hno : powB p cols M n = false) :
    Calls Tryd.prog 66 #[.int .i64 p, mxV cols u, .int .i64 n] w fun e w' => e = .returned (.tuple #[mxV 0 nilS, .bool false]) ∧ w.grownBy w' none := by
  have H1 := fun W (hg : w.grownBy W none) => isMatrix_any p cols u M W (ht.grown hg) (hu.carry hg) ha haa
  have H2 := fun W (hg : w.grownBy W none) => isSquare_any cols u M W (hu.carry hg) ha
  have H3 := fun W => within_any n 0 1000 W
  obtain ⟨ua, uc, rfl⟩ := hu.shape
  unfold mxV nilS at *
  unfold powB sqB at hno
  generalize M.length = l at *
  have HS := Lib.hid (((Sep.start w).box #[.int .i64 cols, .slice ua l uc] 39).box #[.int .i64 0, .slice none 0 0] 39)
  have HG := Lib.hid (show w.grownBy _ none from HS.out.tl.tl.hd)
  simp only [show ∀ (W : World) o, (W.alloc o).heap.size = W.heap.size + 1 from fun W o => by simp] at HS
  obtain ⟨y0, y1, _, _⟩ := bx HS.out.s2.hd
  obtain ⟨z0, z1, z2, z3⟩ := bx HS.out.hd
  clear hu haa ht
  cases h1 : matB p cols M <;> cases h2 : decide ((l : Int) = cols) <;> cases h3 : decide (0 ≤ n ∧ n ≤ 1000)
  all_goals
    rw [h1] at H1
    rw [h2] at H2
    rw [h3] at H3
    first
      | (exfalso; rw [h1, h2, h3] at hno; cases hno; done)
      | (have HA := Lib.hid H1; have HB := Lib.hid H2; have HC := Lib.hid H3
         clear H1 H2 H3 h1 h2 h3 hno
         go_enter Tryd.func66, Tryd.ntmps66
         go_wp2_with (first
           | (go_at_call 117
              with_reducible refine (HA.out _ HG.out).mono ?_
              rintro e w1 ⟨rfl, g1⟩
              have HS1 := Lib.hid (HS.out.grown g1)
              have HG1 := Lib.hid (HG.out.trans g1)
              obtain ⟨x0, x1, x2, x3⟩ := bx HS1.out.hd
              obtain ⟨a0, a1, _, _⟩ := bx HS1.out.s2.hd
              have HQ := Lib.hid ((HS1.out.setB 0 (.int .i64 0)).setB 1 (.slice none 0 0))
              clear g1)
           | (go_at_call 124
              with_reducible refine (HB.out _ HG1.out).mono ?_
              rintro e w2 ⟨rfl, g2⟩
              have HS2 := Lib.hid (HS1.out.grown g2)
              obtain ⟨d0, d1, d2, d3⟩ := bx HS2.out.hd
              obtain ⟨e0, e1, _, _⟩ := bx HS2.out.s2.hd
              have HQ := Lib.hid ((HS2.out.setB 0 (.int .i64 0)).setB 1 (.slice none 0 0))
              clear g2)
           | (go_at_call 125
              with_reducible refine (HC.out _).mono ?_
              rintro e w' ⟨rfl, rfl⟩))
         refine bodyPost_ret_by (v := .tuple #[.agg #[.int .i64 0, .slice none 0 0], .bool false]) ?_ rfl ?_
         · simp [results, go_sem, *]
         · exact ⟨rfl, HQ.out.tl.tl.hd⟩)
/-- the state of the squaring: what has been gathered, what is squared, and their boxes -/
def PowSt (w : World) (br bo bb : Nat) (l : Nat) (r0 : Array Value) (p : Int) (M : List (List Int)) (a b : Nat) (W : World) : Prop :=
  ∃ (oa ba : Option Addr) (oc bc : Nat) (S1 S2 : Nat → Prop), Sep W [MVA S1 (.slice oa l oc) (pwL p l M a), MVA S2 (.slice ba l bc) (pwL p l M b), BxA bb #[.int .i64 l, .slice ba l bc] 39, BxA bo #[.int .i64 l, .slice oa l oc] 39, BxA (br + 1) r0 39, KeepA w]
set_option maxRecDepth 100000 in
set_option maxHeartbeats 2000000 in
theorem matrixPower_yes (q : Nat) [NeZero q] (u : Value) (M : List (List Int)) (n : Int) (w : World) (ht : Tab w) (hu : MatV w u M) (hb : powB q M.length M n = true) :
    Calls Tryd.prog 66 #[.int .i64 q, mxV M.length u, .int .i64 n] w fun e w' => ∃ o, e = .returned (.tuple #[mxV M.length o, .bool true]) ∧ MatV w' o (pwL q M.length M n.toNat) ∧ w.grownBy w' none := by
  unfold powB at hb
  rw [Bool.and_eq_true, decide_eq_true_eq] at hb
  obtain ⟨hb, hn0, hn1⟩ := hb
  obtain ⟨m, rfl⟩ := Int.eq_ofNat_of_zero_le hn0
  obtain ⟨q', _, e1, _, hf, hq, hm, hok⟩ := sqB_nat hb
  obtain rfl : q' = q := by omega
  unfold sqB at hb
  rw [Bool.and_eq_true] at hb
  have H1 := fun W (hg : w.grownBy W none) => isMatrix_any q' M.length u M W (ht.grown hg) (hu.carry hg) (by omega) (fun row hr => by rw [(hok row hr).1]; omega)
  have H2 := fun W (hg : w.grownBy W none) => isSquare_any M.length u M W (hu.carry hg) (by omega)
  rw [hb.1] at H1
  rw [hb.2] at H2
  have H3 := fun W => within_any m 0 1000 W
  rw [show decide ((0 : Int) ≤ m ∧ (m : Int) ≤ 1000) = true from decide_eq_true ⟨hn0, hn1⟩] at H3
  have hp := lt_p hf
  have hpo := fun k => pw_ok (p := q') (n := M.length) hp hok k
  have hpl := fun k => pw_len (q' : Int) (n := M.length) M k
  have hpa := fun a b => pw_add (p := q') (n := M.length) hp hok rfl a b
  have HP1 := Lib.hid (pw_one (p := q') (n := M.length) hp hok rfl)
  rw [Int.toNat_natCast]
  have HT := Lib.hid fun a b W (v1 v2 : Value) (h1 : MatV W v1 (pwL q' M.length M a)) (h2 : MatV W v2 (pwL q' M.length M b)) => times_any q' M.length M.length v1 v2 _ _ W hp (by omega) h1 h2 (by rw [hpl]; exact hpo a) (hpo b) (by rw [hpl]; omega) (by rw [hpl]; omega) (by omega)
  simp only [hpa] at HT
  have HI := Lib.hid fun W => identityRows_any M.length W (by omega)
  have HA := Lib.hid H1; have HB := Lib.hid H2; have HC := Lib.hid H3
  have HPL := Lib.hid hpl
  have HIL := Lib.hid (idL_len M.length)
  obtain ⟨ua, uc, rfl⟩ := hu.shape
  have HS := Lib.hid (((Sep.startV hu).box #[.int .i64 M.length, .slice ua M.length uc] 39).box #[.int .i64 0, .slice none 0 0] 39)
  have HG := Lib.hid (show w.grownBy _ none from HS.out.tl.tl.tl.hd)
  simp only [show ∀ (W : World) o, (W.alloc o).heap.size = W.heap.size + 1 from fun W o => by simp] at HS
  unfold mxV at *
  clear hok hb H1 H2 H3 ht hu hf e1 hpo hpl hpa
  generalize M.length = l at *
  obtain ⟨y0, y1, _, _⟩ := bx HS.out.s2.hd
  obtain ⟨z0, z1, _, _⟩ := bx HS.out.hd
  go_enter Tryd.func66, Tryd.ntmps66
  go_wp2_with (first
    | (go_at_call 117
       with_reducible refine (HA.out _ HG.out).mono ?_
       rintro e w1 ⟨rfl, g1⟩
       have HS1 := Lib.hid (HS.out.grown g1)
       have HG1 := Lib.hid (HG.out.trans g1)
       obtain ⟨a0, a1, _, _⟩ := bx HS1.out.s2.hd
       clear g1)
    | (go_at_call 124
       with_reducible refine (HB.out _ HG1.out).mono ?_
       rintro e w2 ⟨rfl, g2⟩
       have HS2 := Lib.hid (HS1.out.grown g2)
       have HG2 := Lib.hid (HG1.out.trans g2)
       obtain ⟨b0, b1, _, _⟩ := bx HS2.out.s2.hd
       clear g2)
    | (go_at_call 125
       with_reducible refine (HC.out _).mono ?_
       rintro e w' ⟨rfl, rfl⟩))
  generalize hbe : w.heap.size = b at *
  have HBE := Lib.hid hbe
  clear hbe
  have XF := Lib.hid fun W (h : w2.grownBy W none) => And.intro (bx (HS2.out.grown h).s2.hd).1 (bx (HS2.out.grown h).s2.hd).2.1
  have hgd : w2.grownBy w2.drew none := ⟨rfl, rfl, rfl, Nat.le_refl _, fun _ _ _ => rfl⟩
  have X0 := Lib.hid (XF.out _ hgd)
  have X1 := Lib.hid fun o => XF.out _ (hgd.trans (grownBy_alloc _ o none))
  have X2 := Lib.hid fun o => XF.out (w2.alloc o).drew ((grownBy_alloc _ o none).trans ⟨rfl, rfl, rfl, Nat.le_refl _, fun _ _ _ => rfl⟩)
  go_upto_region 3 with fail
  go_cut [8] from 25 to 30 (fun tb wx => ∃ (bo : Nat) (oa : Option Addr) (oc : Nat) (S1 : Nat → Prop), tb = .pointer (some ⟨bo, 0, none⟩) ∧ Sep wx [MVA S1 (.slice oa l oc) (idL l), BxA bo #[.int .i64 l, .slice oa l oc] 39, BxA (b + 1) #[.int .i64 0, .slice none 0 0] 39, BxA b #[.int .i64 l, .slice ua l uc] 39, MVA (fun k => k < b) (.slice ua l uc) M, KeepA w])
  case first =>
    go_region_held3 (fun w' => w'.cell? ⟨b, 0, none⟩ = some (.int .i64 l) ∧ w'.cell? ⟨b, 1, none⟩ = some (.slice ua l uc))
      (first | with_reducible exact X0.out | with_reducible exact X1.out _ | with_reducible exact X2.out _ | with_reducible exact X3.out | with_reducible exact X4.out _ | with_reducible exact X5.out)
      (first
        | (go_at_call 119
           first
             | (with_reducible refine (HI.out w2.drew).mono ?_
                rintro e w3 ⟨o3, vs3, rfl, hp, g3⟩
                obtain ⟨ra, rc, hoe, _, _⟩ := own_form hp
                rw [HIL.out] at hoe
                subst hoe
                have X3 := Lib.hid (XF.out _ (hgd.trans g3))
                have X4 := Lib.hid fun o => XF.out _ ((hgd.trans g3).trans (grownBy_alloc _ o none))
                have HS4 := Lib.hid (((HS2.out.grown hgd).newM g3 hp).box #[.int .i64 l, .slice ra l rc] 39)
                clear hp g3)
             | (with_reducible refine (HI.out (w2.alloc (.cells #[.int .i64 0, .slice none 0 0] 39)).drew).mono ?_
                rintro e w3 ⟨o3, vs3, rfl, hp, g3⟩
                obtain ⟨ra, rc, hoe, _, _⟩ := own_form hp
                rw [HIL.out] at hoe
                subst hoe
                have hs3 := ((HS2.out.box #[.int .i64 0, .slice none 0 0] 39).dr).newM g3 hp
                obtain ⟨k0, k1, k2, k3⟩ := bx hs3.s2.hd
                have hs4 := ((hs3.s2.setB 0 (.int .i64 l)).setB 1 (.slice ra l rc)).s2
                have X3 := Lib.hid (show w3.cell? ⟨b, 0, none⟩ = some (.int .i64 l) ∧ w3.cell? ⟨b, 1, none⟩ = some (.slice ua l uc) from ⟨(bx hs3.s4.hd).1, (bx hs3.s4.hd).2.1⟩)
                have X5 := Lib.hid (show ((w3.setCell ⟨w2.heap.size, 0, none⟩ (.int .i64 l)).setCell ⟨w2.heap.size, 1, none⟩ (.slice ra l rc)).cell? ⟨b, 0, none⟩ = some (.int .i64 l) ∧ ((w3.setCell ⟨w2.heap.size, 0, none⟩ (.int .i64 l)).setCell ⟨w2.heap.size, 1, none⟩ (.slice ra l rc)).cell? ⟨b, 1, none⟩ = some (.slice ua l uc) from ⟨(bx hs4.s4.hd).1, (bx hs4.s4.hd).2.1⟩)
                have HS4 := Lib.hid hs4
                clear hp g3 hs3 hs4)))
    all_goals
      go_wp2_with fail
      go_meet
      first
        | exact ⟨_, ra, rc, _, rfl, HS4.out.s2.mv⟩
        | exact ⟨_, ra, rc, _, rfl, HS4.out.mv⟩
  case rest =>
    obtain ⟨bo, oa, oc, S1, rfl, hs⟩ := hcut
    have HSC := Lib.hid hs
    clear hs
    obtain ⟨c0, c1, _, _⟩ := bx HSC.out.s4.hd
    have HS5 := Lib.hid (HSC.out.box #[.int .i64 l, .slice ua l uc] 39).s5.tl.s5.s3
    go_wp2_with fail
    go_loopw [2, 9] (fun nv bv wr => ∃ (e a b' bb : Nat), nv = .int .i64 e ∧ bv = .pointer (some ⟨bb, 0, none⟩) ∧ a + b' * e = m ∧ e ≤ 1000 ∧ PowSt w b bo bb l #[.int .i64 0, .slice none 0 0] q' M a b' wr) (fun nv _ _ => (intOf nv).toNat)
    case atStart => exact ⟨m, 0, 1, _, rfl, rfl, by omega, by omega, oa, ua, oc, uc, S1, _, by rw [HP1.out]; exact HS5.out⟩
    case round =>
      obtain ⟨e, a, b', bb, rfl, rfl, hab, he, hst⟩ := hrel
      obtain ⟨oa, ba, oc, bc, S1, S2, hs⟩ := hst
      have HSX := Lib.hid hs
      have HAB := Lib.hid hab
      clear hs hab
      obtain ⟨a0, a1, a2, a3⟩ := bx HSX.out.s3.hd
      obtain ⟨b0, b1, b2, b3⟩ := bx HSX.out.s4.hd
      by_cases h0 : e = 0
      · subst h0
        have ham : a = m := by have := HAB.out; omega
        subst ham
        obtain ⟨c0, c1, c2, c3⟩ := bx HSX.out.s5.hd
        have HQ := Lib.hid ((HSX.out.s5.setB 0 (.int .i64 l)).setB 1 (.slice oa l oc))
        clear HAB
        go_wp2
        refine bodyPost_ret_by (v := .tuple #[.agg #[.int .i64 l, .slice oa l oc], .bool true]) ?_ rfl ?_
        · simp [results, go_sem, *]
        · exact ⟨_, rfl, HQ.out.tl.readV, HQ.out.tl.tl.tl.tl.tl.hd⟩
      · have h0' : 0 < e := by omega
        by_cases hodd : e % 2 = 1
        · have hbt : ((e : Int) % 2 == 1) = true := by rw [beq_iff_eq]; omega
          have hnx : (a + b') + (b' + b') * (e / 2) = m := by
            have h1 : e = 2 * (e / 2) + 1 := by omega
            have h2 := HAB.out
            generalize e / 2 = k at *
            subst h1
            rw [← h2]
            grind
          have HNX := Lib.hid hnx
          clear hodd h0 hnx
          go_wp2_with (
            go_at_call 123
            first
              | (have HS6 := HSZ.out
                 go_loud (with_reducible refine (HT.out b' b' _ _ _ HS6.s2.readV HS6.s2.readV).mono ?_)
                 rintro e' w6 ⟨o6, vs6, rfl, hp, g6⟩
                 obtain ⟨sa, sc, hoe, _, _⟩ := own_form hp
                 rw [HPL.out] at hoe
                 subst hoe
                 have HSV := Lib.hid ((HS6.newM g6 hp).mv.s3.tl.s2)
                 obtain ⟨f0, f1, f2, f3⟩ := bx HSV.out.s3.hd
                 have HSW := Lib.hid (((HSV.out.s3.setB 0 (.int .i64 l)).setB 1 (.slice sa l sc)).s3.s3)
                 obtain ⟨i0, i1, i2, i3⟩ := bx HSW.out.s3.hd
                 clear hp g6 HS6)
              | (go_loud (with_reducible refine (HT.out a b' wr _ _ HSX.out.readV HSX.out.s2.readV).mono ?_)
                 rintro e' w4 ⟨o4, vs4, rfl, hp, g4⟩
                 obtain ⟨ra, rc, hoe, _, _⟩ := own_form hp
                 rw [HPL.out] at hoe
                 subst hoe
                 have HSY := Lib.hid ((HSX.out.newM g4 hp).mv.drop2)
                 obtain ⟨d0, d1, d2, d3⟩ := bx HSY.out.s3.hd
                 obtain ⟨e0, e1, e2, e3⟩ := bx HSY.out.s4.hd
                 have HSZ := Lib.hid (((HSY.out.s4.setB 0 (.int .i64 l)).setB 1 (.slice ra l rc)).s4.s4.s4)
                 obtain ⟨h0, h1, h2, h3⟩ := bx HSZ.out.s3.hd
                 clear hp g4))
          go_roundw
          case rel =>
            have h := HSW.out.box #[.int .i64 l, .slice sa l sc] 39
            rw [show ((w6.setCell ⟨bb, 0, none⟩ (.int .i64 l)).setCell ⟨bb, 1, none⟩ (.slice sa l sc)).heap.size = w6.heap.size by simp] at h
            exact ⟨e / 2, a + b', b' + b', w6.heap.size, by go_num, rfl, HNX.out, by omega, ra, sa, rc, sc, _, _, h.s4.tl.s3.s3⟩
          case measure => simp [intOf]; omega
        · have hbt : ((e : Int) % 2 == 1) = false := by rw [beq_eq_false_iff_ne]; omega
          have hnx : a + (b' + b') * (e / 2) = m := by
            have h1 : e = 2 * (e / 2) := by omega
            have h2 := HAB.out
            generalize e / 2 = k at *
            subst h1
            rw [← h2]
            grind
          have HNX := Lib.hid hnx
          clear hodd h0 hnx
          go_wp2_with (
            go_at_call 123
            go_loud (with_reducible refine (HT.out b' b' wr _ _ HSX.out.s2.readV HSX.out.s2.readV).mono ?_)
            rintro e' w6 ⟨o6, vs6, rfl, hp, g6⟩
            obtain ⟨sa, sc, hoe, _, _⟩ := own_form hp
            rw [HPL.out] at hoe
            subst hoe
            have HSV := Lib.hid ((HSX.out.newM g6 hp).mv.s3.tl.s2)
            obtain ⟨f0, f1, f2, f3⟩ := bx HSV.out.s3.hd
            have HSW := Lib.hid (((HSV.out.s3.setB 0 (.int .i64 l)).setB 1 (.slice sa l sc)).s3.s3)
            obtain ⟨i0, i1, i2, i3⟩ := bx HSW.out.s3.hd
            clear hp g6)
          go_roundw
          case rel =>
            have h := HSW.out.box #[.int .i64 l, .slice sa l sc] 39
            rw [show ((w6.setCell ⟨bb, 0, none⟩ (.int .i64 l)).setCell ⟨bb, 1, none⟩ (.slice sa l sc)).heap.size = w6.heap.size by simp] at h
            exact ⟨e / 2, a, b' + b', w6.heap.size, by go_num, rfl, HNX.out, by omega, oa, sa, oc, sc, _, _, h.s4.tl.s3.s3⟩
          case measure => simp [intOf]; omega
/-- what MatrixPower answers, whatever the matrix is -/
theorem pow_some (p cols : Int) (M : List (List Int)) (n : Int) : ∃ (b : Bool) (c' : Int) (K : List (List Int)), b = powB p cols M n ∧ (b = true → c' = cols ∧ K = pwL p M.length M n.toNat) ∧ Small 24 K ∧
    ∀ (u : Value) (W : World), Tab W → MatV W u M → Small 1000 M → Calls Tryd.prog 66 #[.int .i64 p, mxV cols u, .int .i64 n] W fun e w' => ∃ o, e = .returned (.tuple #[mxV c' o, .bool b]) ∧ MatV w' o K ∧ W.grownBy w' none := by
  cases hb : powB p cols M n
  · refine ⟨false, 0, [], rfl, (fun h => by cases h), ⟨by simp, fun r hr => by simp at hr⟩, fun u W ht hu hs => ?_⟩
    refine (matrixPower_no p cols n u M W ht hu (Nat.le_trans hs.1 (by decide)) (fun row hr => Nat.le_trans (hs.2 row hr) (by decide)) hb).mono ?_
    rintro e w' ⟨rfl, g⟩
    exact ⟨nilS, rfl, nil_mat' _, g⟩
  · have hb0 := hb
    unfold powB at hb0
    rw [Bool.and_eq_true] at hb0
    obtain ⟨q, iq, rfl, rfl, hf, hq, hm, hok⟩ := sqB_nat hb0.1
    refine ⟨true, M.length, _, rfl, fun _ => ⟨rfl, rfl⟩, ⟨by rw [pw_len]; exact hm, fun row hr => by rw [(pw_ok (lt_p hf) hok _ row hr).1]; exact hm⟩, fun u W ht hu hs => matrixPower_yes q u M n W ht hu hb⟩
end Go.Proofs.YtpeaeminjbjlnaaDoor

/-
  The cursor as a part of memory; drawn lists. Conditions: small sizes.
-/
namespace Go.Proofs.YtpeaeminjbjlnaaDoor
open Go.RowKit
set_option linter.unusedVariables false

def CA (N b : Nat) (n : Int) : Asrt where
  foot := fun k => k = b
  sees := fun k => k = b ∨ k < N
  holds := fun w => Bd.Cur N w b n
  sub := fun _ h => Or.inl h
  lt := fun w k h hk => by
    have h1 := h.lt
    have h2 := h.nb
    rcases hk with rfl | hk
    · exact h1
    · omega
  keep := fun w w' h ho => h.only ho (fun h' => h' (Or.inl rfl)) fun k hk => Nat.le_of_not_lt fun h' => hk (Or.inr h')
/-- All that was there stays, but the cursor. -/
def KeepX (w0 : World) (b : Nat) : Asrt where
  foot := fun _ => False
  sees := fun k => k < w0.heap.size ∧ k ≠ b
  holds := fun w => w0.grownBy w (some b)
  sub := fun _ h => h.elim
  lt := fun _ _ h hk => Nat.lt_of_lt_of_le hk.1 h.size
  keep := fun w w' h ho => ⟨ho.os.trans h.os, ho.tape.trans h.tape, ho.output.trans h.output, Nat.le_trans h.size ho.size,
    fun k hk hn => (ho.block k (Nat.lt_of_lt_of_le hk h.size) fun h' => h' ⟨hk, fun e => hn (by rw [e])⟩).trans (h.block k hk hn)⟩
section
variable {w w0 w' : World} {l : List Asrt} {N b : Nat} {n m : Int} {v : Value} {vs : List Value} {zs : List Int} {L : List (List Int)}
theorem Sep.startX (hc : Bd.Cur N w b n) : Sep w [CA N b n, KeepX w b] :=
  ⟨hc, fun C hC => by rw [List.mem_singleton] at hC; subst hC; exact ⟨fun k hk h => h.2 hk, fun k hk => hk.elim⟩, ⟨rfl, rfl, rfl, Nat.le_refl _, fun _ _ _ => rfl⟩, by simp, trivial⟩
theorem Sep.draw (h : Sep w (CA N b n :: l)) (hc : Bd.Cur N w' b m) (hg : w.grownBy w' (some b)) : Sep w' (CA N b m :: l) :=
  h.upd (A' := CA N b m) (Only.of_grown hg fun k hk => (Option.some.inj hk).symm) hc (fun _ hk => Or.inl hk) fun _ hk => Or.inl hk
theorem Sep.more (h : Sep w (CA N b n :: l)) (hm : n ≤ m) : Sep w (CA N b m :: l) := h.draw (h.hd.mono hm) ⟨rfl, rfl, rfl, Nat.le_refl _, fun _ _ _ => rfl⟩
theorem new_base {A : Asrt} (h : Sep w (A :: CA N b n :: KeepX w0 b :: l)) {k : Nat} (hk : A.foot k) : w0.heap.size ≤ k := by
  refine Nat.le_of_not_lt fun hlt => ?_
  by_cases e : k = b
  · exact h.apt.1 k hk (Or.inl e)
  · exact (h.drop2).apt.1 k hk ⟨hlt, e⟩
theorem Sep.intsX (h : Sep w (OI v zs :: CA N b n :: KeepX w0 b :: l)) : OwnInts w0.heap.size w v zs := h.hd.rebase fun k hk => new_base h hk
theorem Sep.matX (h : Sep w (OM v vs L :: CA N b n :: KeepX w0 b :: l)) : OwnM w0.heap.size w v vs L := h.hd.rebase fun k hk => new_base h hk
/-- a callee's new list beside the cursor -/
theorem Sep.drawI (h : Sep w (CA N b n :: l)) (hc : Bd.Cur N w' b m) (hg : w.grownBy w' (some b)) (ho : OwnInts w.heap.size w' v zs) : Sep w' (OI v zs :: CA N b m :: l) := by
  have h1 := h.draw hc hg
  have hal := h.all
  refine ⟨ho.rebase fun _ _ => Nat.zero_le _, fun C hC => ?_, h1⟩
  have hlt : ∀ k, C.sees k → k < w.heap.size := by
    intro k hk
    rcases List.mem_cons.1 hC with rfl | hC
    · exact (CA N b n).lt w k h.hd hk
    · exact C.lt w k (hal C (by simp [hC])) hk
  exact ⟨fun k hk hk' => by have := hlt k hk'; have := (ho.lt k hk).1; omega, fun k hk hk' => by have := hlt k (C.sub k hk); have := (ho.lt k hk').1; omega⟩
theorem Sep.drawM (h : Sep w (CA N b n :: l)) (hc : Bd.Cur N w' b m) (hg : w.grownBy w' (some b)) (ho : OwnM w.heap.size w' v vs L) : Sep w' (OM v vs L :: CA N b m :: l) := by
  have h1 := h.draw hc hg
  have hal := h.all
  refine ⟨ho.rebase fun _ _ => Nat.zero_le _, fun C hC => ?_, h1⟩
  have hlt : ∀ k, C.sees k → k < w.heap.size := by
    intro k hk
    rcases List.mem_cons.1 hC with rfl | hC
    · exact (CA N b n).lt w k h.hd hk
    · exact C.lt w k (hal C (by simp [hC])) hk
  exact ⟨fun k hk hk' => by have := hlt k hk'; have := (ho.lt hk).1; omega, fun k hk hk' => by have := hlt k (C.sub k hk); have := (ho.lt hk').1; omega⟩
end

/-- what a drawn list's elements are -/
def ElOk (p : Int) (zs : List Int) : Prop := ∀ z ∈ zs, 0 ≤ z ∧ (z = 0 ∨ z < p)
theorem ElOk.snoc {p z : Int} {zs : List Int} (h : ElOk p zs) (hz : 0 ≤ z ∧ (z = 0 ∨ z < p)) : ElOk p (zs ++ [z]) := by
  intro x hx
  rcases List.mem_append.1 hx with h1 | h1
  · exact h x h1
  · rw [List.mem_singleton] at h1; rw [h1]; exact hz
theorem ElOk.set {p z : Int} {zs : List Int} (h : ElOk p zs) (hz : 0 ≤ z ∧ (z = 0 ∨ z < p)) (j : Nat) : ElOk p (zs.set j z) := by
  intro x hx
  rcases List.mem_or_eq_of_mem_set hx with h1 | h1
  · exact h x h1
  · rw [h1]; exact hz
theorem ElOk.zeros (p : Int) (n : Nat) : ElOk p (List.replicate n 0) := fun x hx => by rw [List.eq_of_mem_replicate hx]; omega

theorem size_any {N : Nat} (b : Nat) (n : Int) (w : World) (hc : Bd.Cur N w b n) (hn : n + 2 ≤ 1000000000000) :
    Calls Tryd.prog 163 #[.pointer (some ⟨b, 0, none⟩)] w (Bd.Drawn N (fun v => 0 ≤ v ∧ v ≤ 24) b (n + 2) w) := by
  have HC := Lib.hid hc
  clear hc
  go_enter Tryd.func163, Tryd.ntmps163
  go_wp2_with fail
  refine (Bd.among_new [(0 : Int), 1, 2, 3, 4, 5, 3, 4, 6, 24] _ _ _ _ HC.out (by decide) (by decide) hn).mono ?_
  rintro e w1 ⟨v, rfl, hv, c1, g1⟩
  have C1 := Lib.hid c1; have G1 := Lib.hid g1; have HV := Lib.hid hv; clear c1 g1 hv
  go_wp2
  go_ret
  exact ⟨_, rfl, by have h := HV.out; simp at h; omega, C1.out, G1.out⟩

set_option maxRecDepth 100000 in
theorem elems_any {N : Nat} (p m : Int) (b : Nat) (n : Int) (w : World) (hc : Bd.Cur N w b n) (hp : p ≤ 1000000) (hm : m ≤ 1000) (hm0 : -1000 ≤ m) (hn : n + 2000 ≤ 1000000000000) :
    Calls Tryd.prog 175 #[.pointer (some ⟨b, 0, none⟩), .int .i64 p, .int .i64 m] w fun e w' => ∃ o zs, e = .returned o ∧ OwnInts w.heap.size w' o zs ∧ zs.length = m.toNat ∧ ElOk p zs ∧ Bd.Cur N w' b (n + 2000) ∧ w.grownBy w' (some b) := by
  have HS := Lib.hid (Sep.startX hc)
  clear hc
  go_enter Tryd.func175, Tryd.ntmps175
  go_wp2
  go_loopw [2, 7] (fun i out wr => ∃ (k : Nat) (zs : List Int), (k = 0 ∨ (k : Int) ≤ m) ∧ i = .int .i64 (m - k) ∧ zs.length = k ∧ ElOk p zs ∧ Sep wr [OI out zs, CA N b (n + 2 * k), KeepX w b]) (fun i _ _ => (intOf i).toNat)
  case atStart => exact ⟨0, [], Or.inl rfl, by simp, rfl, fun z hz => by simp at hz, by have h := HS.out.nilI; rw [show n + 2 * ((0 : Nat) : Int) = n by omega]; exact h⟩
  case round =>
    obtain ⟨k, zs, hk, rfl, hz, hok, hs⟩ := hrel
    have HZ := Lib.hid hz; have HOK := Lib.hid hok; have HS1 := Lib.hid hs
    clear hz hok hs
    by_cases hlt : 0 < m - (k : Int)
    · have hk2 : (k : Int) < m := by omega
      go_wp2_with (first
        | (go_at_call 274
           refine (Bd.elem_any p b _ _ HS1.out.s2.hd hp (by omega)).mono ?_
           rintro e w1 ⟨z, rfl, hz, c1, g1⟩
           have HS2 := Lib.hid ((HS1.out.s2.draw c1 g1).s2)
           have HZZ := Lib.hid hz
           clear c1 g1 hz)
        | (at_builtin
           refine app_intS rfl _ _ rfl rfl rfl HS2.out (by rw [HZ.out]; omega) ?_
           intro g2 cap2 w2 hs2
           have HS3 := Lib.hid hs2
           clear hs2))
      go_roundw
      case rel => exact ⟨k + 1, _, Or.inr (by omega), by rw [show m - (k : Int) - 1 = m - ((k + 1 : Nat) : Int) by omega], by rw [List.length_append, HZ.out]; rfl, HOK.out.snoc HZZ.out, by have h := HS3.out; rw [show n + 2 * (k : Int) + 2 = n + 2 * ((k + 1 : Nat) : Int) by omega] at h; exact h⟩
      case measure => simp [intOf]; omega
    · go_wp2
      go_ret
      have hk3 : k = m.toNat := by omega
      exact ⟨_, rfl, zs, HS1.out.intsX, by rw [HZ.out]; exact hk3, HOK.out, HS1.out.s2.hd.mono (by omega), HS1.out.s3.hd⟩

set_option maxRecDepth 100000 in
set_option maxHeartbeats 1000000 in
theorem rows_any {N : Nat} (p : Int) (sz m : Nat) (b : Nat) (n : Int) (w : World) (hc : Bd.Cur N w b n) (hp : p ≤ 1000000) (hsz : sz ≤ 1000) (hm : m ≤ 1000) (hn : n + 10000000 ≤ 1000000000000) :
    Calls Tryd.prog 202 #[.pointer (some ⟨b, 0, none⟩), .int .i64 p, .int .i64 sz, .int .i64 m] w fun e w' => ∃ o, e = .returned o ∧ ∃ vs L, OwnM w.heap.size w' o vs L ∧ L.length ≤ m ∧ (∀ row ∈ L, row.length = sz ∧ ElOk p row) ∧ Bd.Cur N w' b (n + 10000000) ∧ w.grownBy w' (some b) := by
  obtain ⟨i0, hi, hz0, hz1, hz2⟩ := info_parts info_int
  have HI := Lib.hid hi; have HZ0 := Lib.hid hz0; have HZ1 := Lib.hid hz1; have HZ2 := Lib.hid hz2
  have HS := Lib.hid (Sep.startX hc)
  clear hc hi hz0 hz1 hz2
  go_enter Tryd.func202, Tryd.ntmps202
  go_wp2_with (
    go_at_call 131
    refine (Bd.pick_any _ b _ _ HS.out.hd (by omega) (by omega)).mono ?_
    rintro e w1 ⟨x, rfl, ⟨x0, x1⟩, c1, g1⟩
    have HS1 := Lib.hid (HS.out.draw c1 g1)
    clear c1 g1)
  obtain ⟨x, rfl⟩ := Int.eq_ofNat_of_zero_le x0
  have hxm : x ≤ m := by omega
  clear x1
  go_loopw [9, 10] (fun out i wr => ∃ (k : Nat) (vs : List Value) (L : List (List Int)), k ≤ x ∧ i = .int .i64 (x - k : Int) ∧ L.length = k ∧ (∀ row ∈ L, row.length = sz ∧ ElOk p row) ∧ Sep wr [OM out vs L, CA N b (n + 2 + 4000 * k), KeepX w b]) (fun _ i _ => (intOf i).toNat)
  case atStart => exact ⟨0, [], [], by omega, by simp, rfl, fun r hr => by simp at hr, by rw [show n + 2 + 4000 * ((0 : Nat) : Int) = n + 2 by omega]; exact HS1.out.nilM⟩
  case round =>
    obtain ⟨k, vs, L, hk, rfl, hl, hok, hs⟩ := hrel
    have HL := Lib.hid hl; have HOK := Lib.hid hok; have HS2 := Lib.hid hs
    clear hl hok hs
    by_cases hlt : k < x
    · have hlt2 : (0 : Int) < (x : Int) - (k : Int) := by omega
      go_wp2_with (
        at_make
        refine wpList_make_full _ rfl _ _ 24 rfl wr.heap.size 3 i0 (.int .i64 0) 1 Tryd.underlying24 HI.out HZ0.out HZ1.out _ _ _ _ sz rfl rfl rfl rfl (by rw [HZ2.out]; omega) (by unfold maxLen; omega) (Nat.le_refl _) ?_
        intro w5 hown' hgr'
        rw [madeCells_int] at hown'
        have ho' : OwnInts wr.heap.size w5 (.slice (some ⟨wr.heap.size, 0, none⟩) sz sz) (List.replicate sz 0) := by
          unfold OwnInts; rw [List.length_replicate]; exact hown'
        have HS5 := Lib.hid (HS2.out.newI hgr' ho')
        clear hown' hgr' ho')
      generalize wr.heap.size = gv at *
      obtain ⟨w6, hw6⟩ : ∃ w6, w6 = w5 := ⟨_, rfl⟩
      subst hw6
      go_loopw [25] (fun i wx => ∃ (q : Nat) (zs : List Int), q ≤ sz ∧ i = .int .i64 q ∧ zs.length = sz ∧ ElOk p zs ∧ Sep wx [OI (.slice (some ⟨gv, 0, none⟩) sz sz) zs, OM u9 vs L, CA N b (n + 2 + 4000 * k + 4 * q), KeepX w b]) (fun i _ => sz - (intOf i).toNat)
      case atStart => exact ⟨0, _, by omega, rfl, by simp, ElOk.zeros p sz, by rw [show n + 2 + 4000 * (k : Int) + 4 * ((0 : Nat) : Int) = n + 2 + 4000 * (k : Int) by omega]; exact HS5.out⟩
      case round =>
        obtain ⟨q, zs, hq, rfl, hz, hok, hs⟩ := hrel
        have HZ := Lib.hid hz; have HOZ := Lib.hid hok; have HS6 := Lib.hid hs
        clear hz hok hs
        by_cases hqn : q < sz
        · go_wp2_with fail
          refine (Bd.one_any 2 b _ _ HS6.out.s3.hd (by omega) (by omega)).mono ?_
          rintro e w7 ⟨bv, rfl, c7, g7⟩
          have HS7 := Lib.hid (HS6.out.s3.draw c7 g7)
          clear c7 g7
          cases bv
          · go_wp2
            go_roundw
            case rel => exact ⟨q + 1, zs, by omega, by go_num, HZ.out, HOZ.out, by have h := (HS7.out.more (m := n + 2 + 4000 * (k : Int) + 4 * ((q + 1 : Nat) : Int)) (by omega)).s3.s3; exact h⟩
            case measure => simp [intOf]; omega
          · go_wp2_with (
              go_at_call 274
              refine (Bd.elem_any p b _ _ HS7.out.hd hp (by omega)).mono ?_
              rintro e w8 ⟨z, rfl, hz, c8, g8⟩
              have hs8 := (HS7.out.draw c8 g8).s3.s3
              have hc := hs8.hd.cell HZ.out.symm (show q < zs.length by rw [HZ.out]; exact hqn)
              have hfr := hs8.hd.free HZ.out.symm q
              have HP := Lib.hid (hs8.setI HZ.out.symm q z)
              have HZZ := Lib.hid hz
              obtain ⟨old, hold⟩ : ∃ old, old = zs[q]'(by rw [HZ.out]; exact hqn) := ⟨_, rfl⟩
              rw [← hold] at hc
              clear c8 g8 hz hs8 hold)
            go_roundw
            case rel => exact ⟨q + 1, zs.set q z, by omega, by go_num, by rw [List.length_set]; exact HZ.out, HOZ.out.set HZZ.out q, by have h := HP.out; rw [show n + 2 + 4000 * (k : Int) + 4 * (q : Int) + 2 + 2 = n + 2 + 4000 * (k : Int) + 4 * ((q + 1 : Nat) : Int) by omega] at h; exact h⟩
            case measure => simp [intOf]; omega
        · go_wp2_with (
            at_builtin
            refine app_rowS rfl _ _ rfl rfl rfl HS6.out (by rw [HL.out]; omega) ?_
            intro g2 cap2 w8 hs8
            have HS8 := Lib.hid hs8
            clear hs8)
          go_roundw
          case rel => exact ⟨k + 1, _, L ++ [zs], by omega, by rw [show (x : Int) - (k : Int) - 1 = (x : Int) - ((k + 1 : Nat) : Int) by omega], by rw [List.length_append, HL.out]; rfl, fun r hr => by
            rcases List.mem_append.1 hr with h1 | h1
            · exact HOK.out r h1
            · rw [List.mem_singleton] at h1; rw [h1]; exact ⟨HZ.out, HOZ.out⟩, by have h := (HS8.out.s2.more (m := n + 2 + 4000 * ((k + 1 : Nat) : Int)) (by omega)).s2; rw [HL.out] at h ⊢; exact h⟩
          case measure => simp [intOf]; omega
    · have hkx : k = x := by omega
      go_wp2
      go_ret
      exact ⟨_, rfl, vs, L, HS2.out.matX, by rw [HL.out]; omega, HOK.out, HS2.out.s2.hd.mono (by omega), HS2.out.s3.hd⟩
end Go.Proofs.YtpeaeminjbjlnaaDoor

/-
  The start of a drawn entry. Conditions: the code is well laid.
-/
namespace Go.Proofs.YtpeaeminjbjlnaaDoor
open Go.RowKit
set_option linter.unusedVariables false

theorem cur_low {w W : World} {cv : Value} (h : CodeAt w cv) (hg : w.grownBy W none) : Bd.Cur w.heap.size (W.alloc (.cells #[cv, .int .i64 0, .int .u64 0] 140)) W.heap.size 0 := by
  obtain ⟨a, len, cap, rfl, hl, hx⟩ := h
  refine ⟨by have := hg.size; simp; omega, a, len, cap, 0, 0, alloc_heap_new _ _, by omega, by omega, hl, fun k hk => ?_⟩
  obtain ⟨d, x, ha, hs', hsp, hc, x0, x1⟩ := hx k hk
  have hs := hg.size
  exact ⟨d, x, ha, fun e => by omega, hs', hsp, (World.cell?_of_block (w := w) (a := ⟨d.block, d.off + k, none⟩) ((alloc_heap_old _ _ _ (Nat.lt_of_lt_of_le hs' hs)).trans (hg.block _ hs' (by simp)))).trans hc, x0, x1⟩
theorem Sep.cur {w W : World} {cv : Value} {l : List Asrt} (h : Sep W l) (hc : CodeAt w cv) (hg : w.grownBy W none) (hl : ∀ C ∈ l, ∀ k, C.foot k → w.heap.size ≤ k) :
    Sep (W.alloc (.cells #[cv, .int .i64 0, .int .u64 0] 140)) (CA w.heap.size W.heap.size 0 :: l) := by
  refine ⟨cur_low hc hg, fun C hC => ⟨fun k hk hk' => ?_, fun k hk hk' => ?_⟩, h.al _⟩
  · have h1 : k = W.heap.size := hk
    have := C.lt _ _ (h.all C hC) hk'; omega
  · have h1 := hl C hC k hk
    have h2 := C.lt _ _ (h.all C hC) (C.sub k hk)
    rcases hk' with h3 | h3 <;> omega
theorem Sep.startD {w : World} {cv : Value} (hc : CodeAt w cv) : Sep (w.alloc (.cells #[cv, .int .i64 0, .int .u64 0] 140)) [CA w.heap.size w.heap.size 0, KeepA w] :=
  (Sep.start w).cur hc ⟨rfl, rfl, rfl, Nat.le_refl _, fun _ _ _ => rfl⟩ fun C hC k hk => by rw [List.mem_singleton] at hC; subst hC; exact hk.elim
theorem Sep.startDB {w : World} {cv : Value} (hc : CodeAt w cv) (cs : Array Value) (t : TypeId) : Sep ((w.alloc (.cells cs t)).alloc (.cells #[cv, .int .i64 0, .int .u64 0] 140)) [CA w.heap.size (w.heap.size + 1) 0, BxA w.heap.size cs t, KeepA w] := by
  have h := ((Sep.start w).box cs t).cur hc (grownBy_alloc w _ none) fun C hC k hk => by
    rcases List.mem_cons.1 hC with rfl | hC
    · have : k = w.heap.size := hk; omega
    · rw [List.mem_singleton] at hC; subst hC; exact hk.elim
  rw [show (w.alloc (.cells cs t)).heap.size = w.heap.size + 1 by simp] at h
  exact h
theorem Sep.startD2 {w : World} {cv : Value} (hc : CodeAt w cv) (cs ds : Array Value) (t t' : TypeId) : Sep (((w.alloc (.cells cs t)).alloc (.cells ds t')).alloc (.cells #[cv, .int .i64 0, .int .u64 0] 140)) [CA w.heap.size (w.heap.size + 1 + 1) 0, BxA (w.heap.size + 1) ds t', BxA w.heap.size cs t, KeepA w] := by
  have h := (((Sep.start w).box cs t).box ds t').cur hc ((grownBy_alloc w _ none).trans (grownBy_alloc _ _ none)) fun C hC k hk => by
    rcases List.mem_cons.1 hC with rfl | hC
    · have : k = (w.alloc (.cells cs t)).heap.size := hk; rw [show (w.alloc (.cells cs t)).heap.size = w.heap.size + 1 by simp] at this; omega
    · rcases List.mem_cons.1 hC with rfl | hC
      · have : k = w.heap.size := hk; omega
      · rw [List.mem_singleton] at hC; subst hC; exact hk.elim
  simp only [show ∀ (W : World) o, (W.alloc o).heap.size = W.heap.size + 1 from fun W o => by simp] at h
  exact h
theorem Sep.s6 {w : World} {A C D E F G : Asrt} {l : List Asrt} (h : Sep w (A :: C :: D :: E :: F :: G :: l)) : Sep w (G :: A :: C :: D :: E :: F :: l) := (h.under Sep.s5 (by simp +contextual)).s2
theorem Sep.s7 {w : World} {A C D E F G H : Asrt} {l : List Asrt} (h : Sep w (A :: C :: D :: E :: F :: G :: H :: l)) : Sep w (H :: A :: C :: D :: E :: F :: G :: l) := (h.under Sep.s6 (by simp +contextual)).s2
end Go.Proofs.YtpeaeminjbjlnaaDoor

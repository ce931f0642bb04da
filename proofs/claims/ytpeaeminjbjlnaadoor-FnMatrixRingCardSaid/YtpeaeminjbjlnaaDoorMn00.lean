/-
  The reference's MatrixPower, for every matrix. Conditions: small sizes.
-/
import Derived.Test.YtpeaeminjbjlnaaDoorMj04
import Derived.Test.YtpeaeminjbjlnaaDoorMk13
import Derived.Test.YtpeaeminjbjlnaaDoorMj03
import Derived.Test.YtpeaeminjbjlnaaDoorMk07
import Derived.Test.YtpeaeminjbjlnaaDoorMj07
import Derived.Test.YtpeaeminjbjlnaaDoorMk18
import Derived.Deep.RegionHeld3
import Derived.Deep.CutRange
import Derived.Test.YtpeaeminjbjlnaaDoorMk09
import Derived.Test.YtpeaeminjbjlnaaDoorMk06
import Derived.Test.YtpeaeminjbjlnaaDoorMk08
namespace Go.Proofs.YtpeaeminjbjlnaaDoor
open Go.RowKit
set_option linter.unusedVariables false

set_option maxRecDepth 100000 in
theorem mxSquare_any (p cols : Int) (u : Value) (M : List (List Int)) (w : World) (hu : MatV w u M) (ha : M.length ≤ 1000000) (haa : ∀ row ∈ M, row.length ≤ 1000000) (hp0 : -1000 ≤ p) (hp1 : p ≤ 1000) :
    Calls Tryd.prog 186 #[.int .i64 p, mxV cols u] w fun e w' => e = .returned (.bool (sqB p cols M)) ∧ w.grownBy w' none := by
  have H1 := fun W (hg : w.grownBy W none) => mxGood_any p cols u M W (hu.carry hg) ha haa hp0 hp1
  obtain ⟨ua, uc, rfl⟩ := hu.shape
  unfold mxV at *
  unfold sqB
  generalize M.length = l at *
  have HS := Lib.hid ((Sep.start w).box #[.int .i64 cols, .slice ua l uc] 39)
  have HG := Lib.hid (show w.grownBy _ none from HS.out.tl.hd)
  obtain ⟨y0, y1, _, _⟩ := bx HS.out.hd
  clear hu haa
  cases h1 : matB p cols M <;> by_cases h2 : (l : Int) = cols
  all_goals
    rw [h1] at H1
    have HA := Lib.hid H1
    have HD := Lib.hid (show decide ((l : Int) = cols) = decide ((l : Int) = cols) from rfl)
    first
      | (have HE := Lib.hid (decide_eq_true h2)
         have hb : ((l : Int) == cols) = true := by rw [beq_iff_eq]; exact h2)
      | (have HE := Lib.hid (decide_eq_false h2)
         have hb : ((l : Int) == cols) = false := by rw [beq_eq_false_iff_ne]; exact h2)
    rw [HE.out]
    clear H1 h1 h2 HD
    go_enter Tryd.func186, Tryd.ntmps186
    go_wp2_with (
      go_at_call 121
      with_reducible refine (HA.out _ HG.out).mono ?_
      rintro e w1 ⟨rfl, g1⟩
      have HG1 := Lib.hid (HG.out.trans g1)
      obtain ⟨a0, a1, _, _⟩ := bx (HS.out.grown g1).hd
      clear g1)
    go_ret
    exact ⟨rfl, HG1.out⟩
set_option maxRecDepth 100000 in
set_option maxHeartbeats 2000000 in
theorem mxPower_any (q : Nat) [NeZero q] (u : Value) (M : List (List Int)) (m : Nat) (w : World) (hf : fldN q = true) (hok : RowsOk q M.length M) (hm : M.length ≤ 24) (hu : MatV w u M) (hn1 : m ≤ 1000) :
    Calls Tryd.prog 187 #[.int .i64 q, mxV M.length u, .int .i64 m] w fun e w' => ∃ (a : Option Addr) (c : Nat) (S : Nat → Prop), e = .returned (mxV M.length (.slice a M.length c)) ∧ (MVA S (.slice a M.length c) (pwL q M.length M m)).holds w' ∧ (∀ k, S k → w.heap.size ≤ k) ∧ w.grownBy w' none := by
  have hq := (of_decide_eq_true hf).2.1
  have hp := lt_p hf
  have hpo := fun k => pw_ok (p := q) (n := M.length) hp hok k
  have hpl := fun k => pw_len (q : Int) (n := M.length) M k
  have hpa := fun a b => pw_add (p := q) (n := M.length) hp hok rfl a b
  have HP1 := Lib.hid (pw_one (p := q) (n := M.length) hp hok rfl)
  have HT := Lib.hid fun a b W (v1 v2 : Value) (h1 : MatV W v1 (pwL q M.length M a)) (h2 : MatV W v2 (pwL q M.length M b)) => mxMul_any q M.length M.length v1 v2 _ _ W hp hq h1 h2 (by rw [hpl]; exact hpo a) (hpo b) (by rw [hpl]; omega) (by rw [hpl]; omega) (by omega)
  simp only [hpa] at HT
  have HI := Lib.hid fun W => mxId_any M.length W (by omega)
  have HPL := Lib.hid hpl
  have HIL := Lib.hid (idL_len M.length)
  obtain ⟨ua, uc, rfl⟩ := hu.shape
  have HS := Lib.hid (((Sep.startV hu).box #[.int .i64 M.length, .slice ua M.length uc] 39).box #[.int .i64 0, .slice none 0 0] 39)
  simp only [show ∀ (W : World) o, (W.alloc o).heap.size = W.heap.size + 1 from fun W o => by simp] at HS
  unfold mxV at *
  clear hok hu hf hpo hpl hpa
  generalize M.length = l at *
  obtain ⟨y0, y1, _, _⟩ := bx HS.out.s2.hd
  obtain ⟨z0, z1, _, _⟩ := bx HS.out.hd
  go_enter Tryd.func187, Tryd.ntmps187
  go_wp2_with fail
  generalize hbe : w.heap.size = b at *
  have HBE := Lib.hid hbe
  clear hbe
  go_wp2_with (
    go_at_call 256
    go_loud (with_reducible refine (HI.out _).mono ?_)
    rintro e w3 ⟨o3, vs3, rfl, hp3, g3⟩
    obtain ⟨ra, rc, hoe, _, _⟩ := own_form hp3
    rw [HIL.out] at hoe
    subst hoe
    have hs3 := HS.out.newM g3 hp3
    have hfr : ∀ k, Foot (.slice ra l rc) vs3 k → b ≤ k := fun k hk => by
      have h1 := (hp3.lt hk).1
      have h2 : ((w.alloc (.cells #[.int .i64 l, .slice ua l uc] 39)).alloc (.cells #[.int .i64 0, .slice none 0 0] 39)).heap.size = w.heap.size + 1 + 1 := by simp
      have h3 := HBE.out
      omega
    have HFR := Lib.hid hfr
    obtain ⟨c0, c1, _, _⟩ := bx hs3.s3.hd
    have HS3 := Lib.hid (hs3.mv.box #[.int .i64 l, .slice ra l rc] 39)
    clear hp3 g3 hs3 hfr)
  generalize w3.heap.size = bo at *
  go_loopw [2] (fun nv wr => ∃ (e a b' : Nat) (oa ba : Option Addr) (oc bc : Nat) (S1 S2 : Nat → Prop), nv = .int .i64 e ∧ a + b' * e = m ∧ e ≤ 1000 ∧ (∀ k, S1 k → b ≤ k) ∧ Sep wr [MVA S1 (.slice oa l oc) (pwL q l M a), MVA S2 (.slice ba l bc) (pwL q l M b'), BxA b #[.int .i64 l, .slice ba l bc] 39, BxA bo #[.int .i64 l, .slice oa l oc] 39, BxA (b + 1) #[.int .i64 0, .slice none 0 0] 39, KeepA w]) (fun nv _ => (intOf nv).toNat)
  case atStart =>
    refine ⟨m, 0, 1, ra, ua, rc, uc, _, fun k => k < b, rfl, by omega, by omega, HFR.out, ?_⟩
    rw [HP1.out]
    exact HS3.out.s5.s5.s2.s4
  case round =>
    obtain ⟨e, a, b', oa, ba, oc, bc, S1, S2, rfl, hab, he, hf1, hs⟩ := hrel
    have HSX := Lib.hid hs
    have HAB := Lib.hid hab
    have HF1 := Lib.hid hf1
    have hbw : b ≤ wr.heap.size := by
      have h1 := (show w.grownBy wr none from hs.tl.tl.tl.tl.tl.hd).size
      have h2 := HBE.out
      omega
    have HBW := Lib.hid hbw
    clear hs hab hf1 hbw
    obtain ⟨a0, a1, a2, a3⟩ := bx HSX.out.s3.hd
    obtain ⟨b0, b1, b2, b3⟩ := bx HSX.out.s4.hd
    by_cases h0 : e = 0
    · subst h0
      have ham : a = m := by have := HAB.out; omega
      subst ham
      obtain ⟨c0, c1, c2, c3⟩ := bx HSX.out.s5.hd
      have HQ := Lib.hid ((HSX.out.s5.setB 0 (.int .i64 l)).setB 1 (.slice oa l oc))
      clear HAB
      go_wp2
      refine bodyPost_ret_by (v := .agg #[.int .i64 l, .slice oa l oc]) ?_ rfl ?_
      · simp [results, go_sem, *]
      · exact ⟨oa, oc, S1, rfl, HQ.out.tl.hd, by rw [HBE.out]; exact HF1.out, HQ.out.tl.tl.tl.tl.tl.hd⟩
    · have h0' : 0 < e := by omega
      by_cases hodd : e % 2 = 1
      · have hbt : ((e : Int) % 2 == 1) = true := by rw [beq_iff_eq]; omega
        have hnx : (a + b') + (b' + b') * (e / 2) = m := by
          have h1 : e = 2 * (e / 2) + 1 := by omega
          have h2 := HAB.out
          generalize e / 2 = k at *
          subst h1
          rw [← h2]
          grind
        have HNX := Lib.hid hnx
        clear hodd h0 hnx
        go_wp2_with (
          go_at_call 182
          first
            | (have HS6 := HSZ.out
               go_loud (with_reducible refine (HT.out b' b' _ _ _ HS6.s2.readV HS6.s2.readV).mono ?_)
               rintro e' w6 ⟨o6, vs6, rfl, hp, g6⟩
               obtain ⟨sa, sc, hoe, _, _⟩ := own_form hp
               rw [HPL.out] at hoe
               subst hoe
               have HSV := Lib.hid ((HS6.newM g6 hp).mv.s3.tl.s2)
               obtain ⟨f0, f1, f2, f3⟩ := bx HSV.out.s3.hd
               have HSW := Lib.hid (((HSV.out.s3.setB 0 (.int .i64 l)).setB 1 (.slice sa l sc)).s3.s3)
               clear hp g6 HS6)
            | (go_loud (with_reducible refine (HT.out a b' wr _ _ HSX.out.readV HSX.out.s2.readV).mono ?_)
               rintro e' w4 ⟨o4, vs4, rfl, hp, g4⟩
               obtain ⟨ra, rc, hoe, _, _⟩ := own_form hp
               rw [HPL.out] at hoe
               subst hoe
               have HSY := Lib.hid ((HSX.out.newM g4 hp).mv.drop2)
               have HF4 := Lib.hid (show ∀ k, Foot (.slice ra l rc) vs4 k → b ≤ k from fun k hk => by
                 have h1 := (hp.lt hk).1
                 have h2 := HBW.out
                 omega)
               obtain ⟨d0, d1, d2, d3⟩ := bx HSY.out.s3.hd
               obtain ⟨e0, e1, e2, e3⟩ := bx HSY.out.s4.hd
               have HSZ := Lib.hid (((HSY.out.s4.setB 0 (.int .i64 l)).setB 1 (.slice ra l rc)).s4.s4.s4)
               obtain ⟨h0, h1, h2, h3⟩ := bx HSZ.out.s3.hd
               clear hp g4))
        go_roundw
        case rel => exact ⟨e / 2, a + b', b' + b', ra, sa, rc, sc, _, _, by go_num, HNX.out, by omega, HF4.out, HSW.out⟩
        case measure => simp [intOf]; omega
      · have hbt : ((e : Int) % 2 == 1) = false := by rw [beq_eq_false_iff_ne]; omega
        have hnx : a + (b' + b') * (e / 2) = m := by
          have h1 : e = 2 * (e / 2) := by omega
          have h2 := HAB.out
          generalize e / 2 = k at *
          subst h1
          rw [← h2]
          grind
        have HNX := Lib.hid hnx
        clear hodd h0 hnx
        go_wp2_with (
          go_at_call 182
          go_loud (with_reducible refine (HT.out b' b' wr _ _ HSX.out.s2.readV HSX.out.s2.readV).mono ?_)
          rintro e' w6 ⟨o6, vs6, rfl, hp, g6⟩
          obtain ⟨sa, sc, hoe, _, _⟩ := own_form hp
          rw [HPL.out] at hoe
          subst hoe
          have HSV := Lib.hid ((HSX.out.newM g6 hp).mv.s3.tl.s2)
          obtain ⟨f0, f1, f2, f3⟩ := bx HSV.out.s3.hd
          have HSW := Lib.hid (((HSV.out.s3.setB 0 (.int .i64 l)).setB 1 (.slice sa l sc)).s3.s3)
          clear hp g6)
        go_roundw
        case rel => exact ⟨e / 2, a, b' + b', oa, sa, oc, sc, _, _, by go_num, HNX.out, by omega, HF1.out, HSW.out⟩
        case measure => simp [intOf]; omega
set_option maxRecDepth 100000 in
set_option maxHeartbeats 1000000 in
theorem sMatrixPower_no (p cols n : Int) (u : Value) (M : List (List Int)) (w : World) (hu : MatV w u M) (ha : M.length ≤ 1000000) (haa : ∀ row ∈ M, row.length ≤ 1000000) (hp0 : -1000 ≤ p) (hp1 : p ≤ 1000) (hno : powB p cols M n = false) :
    Calls Tryd.prog 67 #[.int .i64 p, mxV cols u, .int .i64 n] w fun e w' => e = .returned (.tuple #[mxV 0 nilS, .bool false]) ∧ w.grownBy w' none := by
  have H1 := fun W (hg : w.grownBy W none) => mxSquare_any p cols u M W (hu.carry hg) ha haa hp0 hp1
  have H3 := fun W => l1In_any n 0 1000 W
  obtain ⟨ua, uc, rfl⟩ := hu.shape
  unfold mxV nilS at *
  unfold powB at hno
  generalize M.length = l at *
  have HS := Lib.hid (((Sep.start w).box #[.int .i64 cols, .slice ua l uc] 39).box #[.int .i64 0, .slice none 0 0] 39)
  have HG := Lib.hid (show w.grownBy _ none from HS.out.tl.tl.hd)
  simp only [show ∀ (W : World) o, (W.alloc o).heap.size = W.heap.size + 1 from fun W o => by simp] at HS
  obtain ⟨y0, y1, _, _⟩ := bx HS.out.s2.hd
  obtain ⟨z0, z1, z2, z3⟩ := bx HS.out.hd
  clear hu haa
  cases h1 : sqB p cols M <;> cases h3 : decide (0 ≤ n ∧ n ≤ 1000)
  all_goals
    rw [h1] at H1
    rw [h3] at H3
    first
      | (exfalso; rw [h1, h3] at hno; cases hno; done)
      | (have HA := Lib.hid H1; have HC := Lib.hid H3
         clear H1 H3 h1 h3 hno
         go_enter Tryd.func67, Tryd.ntmps67
         go_wp2_with (first
           | (go_at_call 186
              with_reducible refine (HA.out _ HG.out).mono ?_
              rintro e w1 ⟨rfl, g1⟩
              have HS1 := Lib.hid (HS.out.grown g1)
              obtain ⟨x0, x1, x2, x3⟩ := bx HS1.out.hd
              obtain ⟨a0, a1, _, _⟩ := bx HS1.out.s2.hd
              have HQ := Lib.hid ((HS1.out.setB 0 (.int .i64 0)).setB 1 (.slice none 0 0))
              clear g1)
           | (go_at_call 137
              with_reducible refine (HC.out _).mono ?_
              rintro e w' ⟨rfl, rfl⟩))
         refine bodyPost_ret_by (v := .tuple #[.agg #[.int .i64 0, .slice none 0 0], .bool false]) ?_ rfl ?_
         · simp [results, go_sem, *]
         · exact ⟨rfl, HQ.out.tl.tl.hd⟩)
set_option maxRecDepth 100000 in
set_option maxHeartbeats 1000000 in
theorem sMatrixPower_yes (q : Nat) [NeZero q] (u : Value) (M : List (List Int)) (n : Int) (w : World) (hu : MatV w u M) (hb : powB q M.length M n = true) :
    Calls Tryd.prog 67 #[.int .i64 q, mxV M.length u, .int .i64 n] w fun e w' => ∃ o, e = .returned (.tuple #[mxV M.length o, .bool true]) ∧ MatV w' o (pwL q M.length M n.toNat) ∧ w.grownBy w' none := by
  unfold powB at hb
  rw [Bool.and_eq_true, decide_eq_true_eq] at hb
  obtain ⟨hb, hn0, hn1⟩ := hb
  obtain ⟨m, rfl⟩ := Int.eq_ofNat_of_zero_le hn0
  obtain ⟨q', _, e1, _, hf, hq, hm, hok⟩ := sqB_nat hb
  obtain rfl : q' = q := by omega
  have H1 := fun W (hg : w.grownBy W none) => mxSquare_any q' M.length u M W (hu.carry hg) (by omega) (fun row hr => by rw [(hok row hr).1]; omega) (by omega) (by omega)
  rw [hb] at H1
  have H3 := fun W => l1In_any m 0 1000 W
  rw [show decide ((0 : Int) ≤ m ∧ (m : Int) ≤ 1000) = true from decide_eq_true ⟨hn0, hn1⟩] at H3
  have HD := Lib.hid fun W (hg : w.grownBy W none) => mxPower_any q' u M m W hf hok hm (hu.carry hg) (by omega)
  rw [Int.toNat_natCast]
  have HA := Lib.hid H1; have HC := Lib.hid H3
  obtain ⟨ua, uc, rfl⟩ := hu.shape
  unfold mxV at *
  generalize pwL q' M.length M m = PL at *
  generalize M.length = l at *
  have HS := Lib.hid (((Sep.start w).box #[.int .i64 l, .slice ua l uc] 39).box #[.int .i64 0, .slice none 0 0] 39)
  have HG := Lib.hid (show w.grownBy _ none from HS.out.tl.tl.hd)
  simp only [show ∀ (W : World) o, (W.alloc o).heap.size = W.heap.size + 1 from fun W o => by simp] at HS
  obtain ⟨y0, y1, _, _⟩ := bx HS.out.s2.hd
  obtain ⟨z0, z1, z2, z3⟩ := bx HS.out.hd
  clear hok hb H1 H3 hu hf e1
  go_enter Tryd.func67, Tryd.ntmps67
  go_wp2_with (first
    | (go_at_call 186
       with_reducible refine (HA.out _ HG.out).mono ?_
       rintro e w1 ⟨rfl, g1⟩
       have HS1 := Lib.hid (HS.out.grown g1)
       have HG1 := Lib.hid (HG.out.trans g1)
       obtain ⟨a0, a1, _, _⟩ := bx HS1.out.s2.hd
       clear g1)
    | (go_at_call 137
       with_reducible refine (HC.out _).mono ?_
       rintro e w' ⟨rfl, rfl⟩)
    | (go_at_call 187
       go_loud (with_reducible refine (HD.out _ HG1.out).mono ?_)
       rintro e w3 ⟨oa, oc, S, rfl, hh, hf, g3⟩
       have HS3 := Lib.hid (HS1.out.new g3 hh hf)
       obtain ⟨b0, b1, b2, b3⟩ := bx HS3.out.s2.hd
       have HQ := Lib.hid ((HS3.out.s2.setB 0 (.int .i64 l)).setB 1 (.slice oa l oc))
       clear hh hf g3))
  refine bodyPost_ret_by (v := .tuple #[.agg #[.int .i64 l, .slice oa l oc], .bool true]) ?_ rfl ?_
  · simp [results, go_sem, *]
  · exact ⟨_, rfl, HQ.out.tl.readV, HQ.out.tl.tl.tl.hd⟩
/-- what the reference's MatrixPower answers, whatever the matrix is -/
theorem sPow_some (p cols : Int) (M : List (List Int)) (n : Int) (hp0 : -1000 ≤ p) (hp1 : p ≤ 1000) : ∃ (b : Bool) (c' : Int) (K : List (List Int)), b = powB p cols M n ∧ (b = true → c' = cols ∧ K = pwL p M.length M n.toNat) ∧ (b = false → c' = 0 ∧ K = []) ∧ Small 24 K ∧
    ∀ (u : Value) (W : World), MatV W u M → Small 1000 M → Calls Tryd.prog 67 #[.int .i64 p, mxV cols u, .int .i64 n] W fun e w' => ∃ o, e = .returned (.tuple #[mxV c' o, .bool b]) ∧ MatV w' o K ∧ W.grownBy w' none := by
  cases hb : powB p cols M n
  · refine ⟨false, 0, [], rfl, (fun h => by cases h), (fun _ => ⟨rfl, rfl⟩), ⟨by simp, fun r hr => by simp at hr⟩, fun u W hu hs => ?_⟩
    refine (sMatrixPower_no p cols n u M W hu (Nat.le_trans hs.1 (by decide)) (fun row hr => Nat.le_trans (hs.2 row hr) (by decide)) hp0 hp1 hb).mono ?_
    rintro e w' ⟨rfl, g⟩
    exact ⟨nilS, rfl, nil_mat' _, g⟩
  · have hb0 := hb
    unfold powB at hb0
    rw [Bool.and_eq_true] at hb0
    obtain ⟨q, iq, rfl, rfl, hf, hq, hm, hok⟩ := sqB_nat hb0.1
    refine ⟨true, M.length, _, rfl, fun _ => ⟨rfl, rfl⟩, (fun h => by cases h), ⟨by rw [pw_len]; exact hm, fun row hr => by rw [(pw_ok (lt_p hf) hok _ row hr).1]; exact hm⟩, fun u W hu hs => sMatrixPower_yes q u M n W hu hb⟩
end Go.Proofs.YtpeaeminjbjlnaaDoor

/-
  Solutions of linear systems, as the program finds them. Conditions: small sizes.
-/
namespace Go.Proofs.YtpeaeminjbjlnaaDoor
open Go.RowKit La
set_option linter.unusedVariables false

/-- a matrix and a list of its width -/
def slvB (p c : Int) (M : List (List Int)) (x : List Int) : Bool := matB p c M && vecB p c x
theorem pre_of {w : World} {a : Option Addr} {n cap : Nat} {L : List (List Int)} (h : MatV w (.slice a n cap) L) (hl : L.length = n) {r : Nat} (hr : r ≤ n) (ha : a = none ∨ ∃ g, a = some ⟨g, 0, none⟩) (c' : Nat) : MatV w (.slice a r c') (L.take r) := by
  have h1 := h.part 0 r c' (by omega) a fun d hd _ => by
    subst hd
    rcases ha with h | ⟨g, h⟩
    · cases h
    · cases h; exact ⟨_, rfl, rfl, rfl, rfl⟩
  simpa using h1

section
variable (p c : Int) (u v : Value) (M : List (List Int)) (x : List Int) (w : World)
set_option maxRecDepth 100000 in
theorem solveLinear_no (ht : Tab w) (hu : MatV w u M) (hv : IntsV w v x) (hl : M.length ≤ 1000000) (hll : ∀ row ∈ M, row.length ≤ 1000000) (hxl : x.length ≤ 1000000) (hno : slvB p c M x = false) :
    Calls Tryd.prog 69 #[.int .i64 p, mxV c u, v] w fun e w' => e = .returned (.tuple #[nilS, .bool false]) ∧ w.grownBy w' none := by
  have HS := Lib.hid fun w' (hg : w.grownBy w' none) => isMatrix_any p c u M w' (ht.grown hg) (hu.carry hg) hl hll
  have HX := Lib.hid fun w' (hg : w.grownBy w' none) => isVector_any p c v x w' (hv.carry hg) hxl
  unfold slvB at hno
  unfold mxV at *
  unfold nilS
  obtain ⟨a, cc, rfl⟩ := hu.shape
  obtain ⟨xa, xc, rfl, hvx⟩ := hv
  have e0 := Lib.hid (alloc_heap_new w (.cells #[.int .i64 c, .slice a M.length cc] 39))
  clear hu hvx hll ht
  generalize M.length = l at *
  generalize x.length = xl at *
  cases h1 : matB p c M <;> cases h2 : vecB p c x
  all_goals
    rw [h1] at HS
    rw [h2] at HX
    first
      | (exfalso; rw [h1, h2] at hno; exact absurd hno (by decide))
      | (clear h1 h2 hno
         go_enter Tryd.func69, Tryd.ntmps69
         go_wp2_with (first
           | (go_at_call 117
              with_reducible refine (HS.out _ (grownBy_alloc _ _ none)).mono ?_
              rintro e w1 ⟨rfl, hg⟩
              obtain ⟨c0, c1, f0, f1⟩ := bx (bx_on e0.out hg)
              have HG := Lib.hid ((grownBy_alloc w _ none).trans hg)
              clear hg)
           | (go_at_call 173; with_reducible refine (HX.out _ HG.out).mono ?_; rintro e w' ⟨rfl, rfl⟩))
         go_ret2
         exact ⟨rfl, HG.out⟩)
end
set_option maxRecDepth 100000 in
set_option maxHeartbeats 1000000 in
theorem solveLinear_yes (p n : Nat) [NeZero p] (u v : Value) (L : List (List Int)) (x : List Int) (w : World) (ht : Tab w) (hv : MatV w u L) (hx : IntsV w v x) (hb : slvB p n L x = true) :
    Calls Tryd.prog 69 #[.int .i64 p, mxV n u, v] w fun e w' => ∃ o, e = .returned (.tuple #[o, .bool (solveB p n L x)]) ∧ OwnInts w.heap.size w' o (if solveB p n L x then solveL p n L x else []) ∧ w.grownBy w' none := by
  unfold slvB at hb
  rw [Bool.and_eq_true] at hb
  obtain ⟨hb, hxb⟩ := hb
  obtain ⟨hfld, hp2, n', hn', hn, hm, hL⟩ := matB_parts hb
  have : n' = n := by omega
  subst this
  have hxo := vecB_ok.1 hxb
  have HIS := Lib.hid fun w1 (hg : w.grownBy w1 none) => isMatrix_any p n' u L w1 (ht.grown hg) (hv.carry hg) (by omega) (fun row hrow => by rw [(hL row hrow).1]; omega)
  rw [hb] at HIS
  have HVE := Lib.hid fun w1 (hg : w.grownBy w1 none) => isVector_any p n' v x w1 (hx.carry hg) (by rw [hxo.1]; omega)
  rw [hxb] at HVE
  have HCL := Lib.hid fun w1 (hg : w.grownBy w1 none) => clones_any u L w1 (hv.carry hg) (by omega) (fun row hrow => by rw [(hL row hrow).1]; omega)
  have g := ge hfld hL rfl
  have HRL := Lib.hid (show (reducedL p n' L).length = (redTo p L (idL L.length) n').r by rw [reducedL_len hfld hL, rankL_eq])
  have hred := reducedL_red hfld hL
  have HRE := Lib.hid (reducedL_eq (p : Int) n' L (idL L.length)).symm
  have hrl : (reducedL p n' L).length ≤ L.length := by rw [HRL.out]; exact g.rm
  have HRM := Lib.hid g.rm
  have HLR := Lib.hid g.lenR; have HLT := Lib.hid g.lenT
  have HCO := Lib.hid fun W o (h : MatV W o (reducedL p n' L)) (hg : w.grownBy W none) => coordinates_any p n' o v (reducedL p n' L) x W hfld hp2 h (hx.carry hg) hred hxo (by omega) (by omega)
  have hbd := coordsL_bd (m := reducedL p n' L) hxo fun i hi => lead_lt hfld hred hi
  have hTl : ((redTo p L (idL L.length) n').T.take (redTo p L (idL L.length) n').r).length = (redTo p L (idL L.length) n').r := by rw [List.length_take, g.lenT]; have := g.rm; omega
  have HCB := Lib.hid fun W o t (h1 : IntsV W o (coordsL (reducedL p n' L) x)) (h2 : MatV W t ((redTo p L (idL L.length) n').T.take (redTo p L (idL L.length) n').r)) => combine_any p o t (coordsL (reducedL p n' L) x) _ L.length W (lt_p hfld) hp2 h1 h2 (by rw [hTl, ← HRL.out]; simp [coordsL]) hbd (take_ok g.okT) (by rw [hTl]; have := g.rm; omega) (by omega)
  rw [hTl, ← HRL.out] at HCB
  have hxsh : ∃ a c, v = .slice a n' c := by
    obtain ⟨a, c, rfl, _⟩ := hx
    exact ⟨a, c, by rw [hxo.1]⟩
  have HFIT := Lib.hid (show Fit p L.length n' L.length L (idL L.length) from ⟨rfl, idL_len _, hL, idL_ok (lt_p hfld)⟩)
  have hsh := hv.shape
  unfold solveL
  unfold solveB at *
  unfold mxV at *
  obtain ⟨ua, uc, rfl⟩ := hsh
  obtain ⟨xa, xc, rfl⟩ := hxsh
  clear hv ht hb hn' hx hxb hred hbd hTl g hxo hL
  rw [HRL.out] at hrl
  generalize coordsL (reducedL p n' L) x = co at *
  generalize hasB p n' (reducedL p n' L) x = hs at *
  generalize hlen : L.length = m at *
  have HLEN := Lib.hid hlen
  clear hlen
  generalize hS : redTo p L (idL m) n' = s at *
  have HS := Lib.hid hS
  clear hS
  rw [HRL.out] at HCB ⊢
  generalize hr : s.r = r at *
  have HR := Lib.hid hr
  clear hr
  have e0 := Lib.hid (alloc_heap_new w (.cells #[.int .i64 n', .slice ua m uc] 39))
  cases hs
  all_goals
    go_enter Tryd.func69, Tryd.ntmps69
    go_wp2_with (first
      | (go_at_call 117
         with_reducible refine (HIS.out _ (grownBy_alloc _ _ none)).mono ?_
         rintro e w1 ⟨rfl, hg1⟩
         have B1 := Lib.hid (bx_on e0.out hg1)
         obtain ⟨c0, c1, _, _⟩ := bx B1.out
         have HW1 := Lib.hid ((grownBy_alloc w _ none).trans hg1)
         clear hg1)
      | (go_at_call 173
         with_reducible refine (HVE.out _ HW1.out).mono ?_
         rintro e w' ⟨rfl, rfl⟩))
    have HWD := Lib.hid (show w.grownBy w1.drew none from ⟨HW1.out.os, HW1.out.tape, HW1.out.output, HW1.out.size, HW1.out.block⟩)
    have hb2 := lt_of_blk B1.out
    generalize hbe : w.heap.size = b at *
    have HBE := Lib.hid hbe
    clear hbe
    go_region_held3 (fun w' => w'.cell? ⟨b, 1, none⟩ = some (.slice ua m uc) ∧ w'.cell? ⟨b, 0, none⟩ = some (.int .i64 n')) (first | exact ⟨c1, c0⟩ | exact ⟨e1, e2⟩ | exact ⟨f1, f0⟩)
      (first
        | (go_at_call 118
           refine (HCL.out _ HWD.out).mono ?_
           rintro e w3 ⟨v3, vs, rfl, hown, hg⟩
           have b1 := (hg.block b (by show b < w1.heap.size; omega) (by simp)).trans B1.out
           obtain ⟨e2, e1, _, _⟩ := bx b1
           have HO := Lib.hid hown; have HG := Lib.hid hg; have E1 := Lib.hid b1
           clear hown hg b1)
        | (go_at_call 119
           refine (identityRows_any m _ (by omega)).mono ?_
           rintro e w4 ⟨v2, vs2, rfl, hown2, hg2⟩
           have b1 := (hg2.block b (lt_of_blk E1.out) (by simp)).trans E1.out
           obtain ⟨f0, f1, _, _⟩ := bx b1
           have HO2 := Lib.hid hown2; have HG2 := Lib.hid hg2; have F1 := Lib.hid b1
           clear hown2 hg2 b1))
    obtain ⟨va, vc, hve, hvi, hcap⟩ := own_form HO.out
    obtain ⟨va2, vc2, hve2, hvi2, hcap2⟩ := own_form HO2.out
    rw [HLEN.out] at hve
    rw [idL_len] at hve2
    subst hve hve2
    have HTW := Lib.hid (two_ids HO.out HG.out HO2.out HG2.out)
    have hbel4 : Below w1.heap.size w1 w4 := Below.grown (Below.grown (show Below w1.heap.size w1 w1.drew from ⟨rfl, rfl, rfl, Nat.le_refl _, fun _ _ => rfl⟩) HG.out (Nat.le_refl _) (by simp)) HG2.out HG.out.size (by simp)
    have HB4 := Lib.hid hbel4
    rw [HLEN.out] at hcap
    rw [idL_len] at hcap2
    clear c0 c1 e1 e2 hbel4
    go_wp2_with (first
      | (go_at_call 120
         go_loud (refine (reduction_any p _ _ _ _ L _ m n' m _ _ hfld HTW.out HFIT.out (by omega) (by omega) (by omega) hp2).mono ?_)
         go_loud (
           rintro e w5 ⟨rfl, vs', us', t, on⟩
           rw [HS.out, HR.out]
           rw [HS.out] at t
           have hb5 := HB4.out.trans (on.below HB4.out.size fun k hk => HTW.out.base hk)
           have G5 := Lib.hid (grown_of_below ((Below.grown (Below.refl _ w) HW1.out (Nat.le_refl _) (by simp)).trans (hb5.mono HW1.out.size)))
           have b5 := (hb5.block b (by omega)).trans B1.out
           have B5 := Lib.hid b5
           obtain ⟨h0, h1, _, _⟩ := bx b5
           have HPR := Lib.hid fun c' => pre_of (c' := c') (r := r) t.mR.read HLR.out hrl hvi
           rw [HRE.out] at HPR
           have HPT := Lib.hid fun c' => pre_of (c' := c') (r := r) t.mT.read HLT.out hrl hvi2
           clear t on hb5 b5))
      | (go_at_call 174
         with_reducible refine (HCO.out _ _ (HPR.out _) G5.out).mono ?_
         rintro e w6 ⟨o6, rfl, ho6, g6⟩
         have HO6 := Lib.hid ho6
         have G6 := Lib.hid (G5.out.trans g6)
         have g56 := Lib.hid g6
         obtain ⟨k0, k1, _, _⟩ := bx (bx_on B5.out g6)
         have HPT6 := Lib.hid fun c' => (HPT.out c').carry g6
         clear ho6 g6))
    first
      | (go_ret2
         exact ⟨nilS, rfl, OwnInts.nil _ _, G6.out⟩)
      | (have hgd : w6.grownBy w6.drew none := ⟨rfl, rfl, rfl, Nat.le_refl _, fun _ _ _ => rfl⟩
         have HPD := Lib.hid fun c' => (HPT6.out c').carry hgd
         have HOD := Lib.hid (HO6.out.read.carry hgd)
         have GD := Lib.hid (G6.out.trans hgd)
         have i1 : (0 : Int) ≤ (r : Int) := by omega
         have i2 : (r : Int) ≤ (vc2 : Int) := by omega
         have i3 : (r : Int) ≤ (m : Int) := by omega
         clear hgd
         go_region_held3 (fun w' => w'.cell? ⟨b, 1, none⟩ = some (.slice ua m uc)) (first | exact k1 | exact k2)
           (first
             | (go_at_call 170
                go_loud (with_reducible refine (HCB.out _ _ _ HOD.out (HPD.out _)).mono ?_)
                rintro e w7 ⟨o7, rfl, ho7, g7⟩
                have HO7 := Lib.hid ho7
                have G7 := Lib.hid (GD.out.trans g7)
                have hk := (bx (bx_on (bx_on B5.out g56.out) (gdrw w6 |>.trans g7))).2.1
                have k2 := hk
                clear ho7 g7 hk))
         go_wp2_with fail
         go_ret2
         exact ⟨o7, rfl, HO7.out.base (by have := GD.out.size; omega), G7.out⟩)
end Go.Proofs.YtpeaeminjbjlnaaDoor

/-
  Solutions of linear systems, as the reference finds them. Conditions: small sizes.
-/
namespace Go.Proofs.YtpeaeminjbjlnaaDoor
open Go.RowKit La
set_option linter.unusedVariables false

theorem all0_zero (zs : List Int) : (zs.all fun n => decide (0 ≤ n ∧ n ≤ 0)) = zeroB zs := by
  unfold zeroB leadL
  rw [Bool.eq_iff_iff, List.all_eq_true, beq_iff_eq, List.findIdx_eq_length]
  constructor
  · intro h x hx
    have h1 := h x hx
    rw [decide_eq_true_eq] at h1
    rw [bne_eq_false_iff_eq]
    omega
  · intro h x hx
    have h1 := h x hx
    rw [bne_eq_false_iff_eq] at h1
    subst h1
    decide
theorem addT_neg (p y : Int) (z t : List Int) : addT p z (-((p - y) % p)) t = addT p z y t := by
  unfold addT
  congr 1
  funext a b
  have h := Int.emod_def (p - y) p
  have e : a + -((p - y) % p) * b = (a + y * b) + p * (((p - y) / p - 1) * b) := by rw [h]; grind
  rw [e, Int.add_mul_emod_self_left]
theorem Sep.newTwo {w w' : World} {l : List Asrt} {v u : Value} {vs us : List Value} {R T : List (List Int)} (h : Sep w l) (hg : w.grownBy w' none) (t : Two w.heap.size w' v vs u us R T) : Sep w' (OM v vs R :: OM u us T :: l) := by
  refine ⟨t.mR.rebase fun _ _ => Nat.zero_le _, fun C hC => ?_, h.newM hg t.mT⟩
  rcases List.mem_cons.1 hC with rfl | hC
  · exact ⟨fun k hk hk' => t.ap k hk hk', fun k hk hk' => t.ap k hk' hk⟩
  · refine ⟨fun k hk hk' => ?_, fun k hk hk' => ?_⟩
    · have := C.lt _ _ (h.all C hC) hk'
      have := (t.mR.lt hk).1
      omega
    · have := C.lt _ _ (h.all C hC) (C.sub k hk)
      have := (t.mR.lt hk').1
      omega
theorem Sep.apt' {w : World} {A C : Asrt} {l : List Asrt} (h : Sep w (A :: l)) (hC : C ∈ l) : Apt A C := h.2.1 C hC
theorem Sep.intsK {w w0 : World} {l : List Asrt} {v : Value} {zs : List Int} (h : Sep w (OI v zs :: l)) (hk : KeepA w0 ∈ l) : OwnInts w0.heap.size w v zs := h.hd.rebase fun k hk' => Nat.le_of_not_lt ((h.2.1 _ hk).1 k hk')
/-- the steps of the solution: what is left and what has been gathered -/
theorem solve_steps {p n : Nat} [NeZero p] {L : List (List Int)} {x : List Int} (hf : fldN p = true) (hL : RowsOk p n L) (hx : VecOk p n x) : ∃ rst cmb : Nat → List Int, rst 0 = x ∧ cmb 0 = List.replicate L.length 0 ∧
    (∀ k, k < (redTo p L (idL L.length) n).r → leadL ((redTo p L (idL L.length) n).R.getD k []) < n ∧ rst (k + 1) = addT p (rst k) (-((rst k).getD (leadL ((redTo p L (idL L.length) n).R.getD k [])) 0)) ((redTo p L (idL L.length) n).R.getD k []) ∧
      cmb (k + 1) = addT p (cmb k) ((rst k).getD (leadL ((redTo p L (idL L.length) n).R.getD k [])) 0) ((redTo p L (idL L.length) n).T.getD k [])) ∧
    (∀ k, k ≤ (redTo p L (idL L.length) n).r → VecOk p n (rst k) ∧ VecOk p L.length (cmb k)) ∧ zeroB (rst (redTo p L (idL L.length) n).r) = solveB p n L x ∧ cmb (redTo p L (idL L.length) n).r = solveL p n L x := by
  have hred := reducedL_red hf hL
  have hrl : (reducedL p n L).length = (redTo p L (idL L.length) n).r := by rw [reducedL_len hf hL, rankL_eq]
  have hRE := reducedL_eq (p : Int) n L (idL L.length)
  have g := ge hf hL rfl
  have hgr := g.rm; have hlR := g.lenR; have hlT := g.lenT; have hoT := g.okT
  unfold solveB solveL
  have hat : ∀ k, k < (redTo p L (idL L.length) n).r → (reducedL p n L).getD k [] = (redTo p L (idL L.length) n).R.getD k [] := by
    intro k hk
    rw [hRE, List.getD_eq_getElem?_getD, List.getElem?_take, if_pos hk, List.getD_eq_getElem?_getD]
  have htt : ∀ k, k < (redTo p L (idL L.length) n).r → ((redTo p L (idL L.length) n).T.take (redTo p L (idL L.length) n).r).getD k [] = (redTo p L (idL L.length) n).T.getD k [] := by
    intro k hk
    rw [List.getD_eq_getElem?_getD, List.getElem?_take, if_pos hk, List.getD_eq_getElem?_getD]
  rw [hrl]
  refine ⟨restTo p (reducedL p n L) x, combTo p (coordsL (reducedL p n L) x) ((redTo p L (idL L.length) n).T.take (redTo p L (idL L.length) n).r) L.length, rfl, rfl, fun k hk => ?_, fun k hk => ⟨rest_ok hred.1 hx k (by omega), combTo_ok (lt_p hf) (take_ok hoT) k (by rw [List.length_take]; omega)⟩, ?_, rfl⟩
  · have hkl : k < (reducedL p n L).length := by omega
    have h1 := lead_lt hf hred hkl
    have h2 := rest_coord hf hred hx hkl
    have h3 := coordsL_at (v := x) hkl
    rw [hat k hk] at h1 h2 h3
    refine ⟨h1, ?_, ?_⟩
    · show addT p _ (-((restTo p (reducedL p n L) x k).getD (leadL ((reducedL p n L).getD k [])) 0)) ((reducedL p n L).getD k []) = _
      rw [hat k hk]
    · show addT p _ ((coordsL (reducedL p n L) x).getD k 0) (((redTo p L (idL L.length) n).T.take (redTo p L (idL L.length) n).r).getD k []) = _
      rw [htt k hk, h3, h2]
  · rw [← hrl]
    exact rest_has hf hred hx
theorem own_apt {w : World} {l : List Asrt} {v : Value} {vs : List Value} {R : List (List Int)} {rv : Value} {zs : List Int} (h : Sep w (OI rv zs :: l)) (hC : OM v vs R ∈ l) (i : Nat) : ∀ q, Hits rv q → Value.blk' (vs.getD i nilS) ≠ some q := by
  intro q hq hq'
  have ho : OwnM 0 w v vs R := h.tl.all _ hC
  rw [(ho.row i).blk] at hq'
  exact (h.apt' hC).1 q hq (Foot.at (i := i) hq')

set_option maxRecDepth 100000 in
set_option maxHeartbeats 4000000 in
theorem mxSolve_any (p n : Nat) [NeZero p] (u v : Value) (L : List (List Int)) (x : List Int) (w : World) (hfld : fldN p = true) (hp2 : p ≤ 1000) (hv : MatV w u L) (hx : IntsV w v x) (hL : RowsOk p n L) (hxo : VecOk p n x) (hm : L.length ≤ 24) (hn : n ≤ 24) :
    Calls Tryd.prog 193 #[.int .i64 p, mxV n u, v] w fun e w' => ∃ o, e = .returned (.tuple #[o, .bool (solveB p n L x)]) ∧ OwnInts w.heap.size w' o (solveL p n L x) ∧ w.grownBy w' none := by
  have hp1 := lt_p hfld
  have HR := Lib.hid fun W (hg : w.grownBy W none) => mxReduce_any p n u L W hfld hp2 (hv.carry hg) hL (by omega) (by omega)
  have HOW := Lib.hid fun W (hg : w.grownBy W none) => l1Own_any v x W (hx.carry hg) (by rw [hxo.1]; omega)
  obtain ⟨rst, cmb, hr0, hc0, hst, hok, hzb, hsl⟩ := solve_steps hfld hL hxo
  rw [← hzb, ← hsl]
  have g := ge hfld hL rfl
  have HRM := Lib.hid g.rm; have HLR := Lib.hid g.lenR; have HLT := Lib.hid g.lenT
  have hrm := g.rm
  have HST := Lib.hid hst; have HOK := Lib.hid hok; have HR0 := Lib.hid hr0; have HC0 := Lib.hid hc0
  have hrk : ∀ k, k < (redTo p L (idL L.length) n).r → VecOk p n ((redTo p L (idL L.length) n).R.getD k []) ∧ VecOk p L.length ((redTo p L (idL L.length) n).T.getD k []) := fun k hk => ⟨g.okR _ (getD_mem (by rw [g.lenR]; omega)), g.okT _ (getD_mem (by rw [g.lenT]; omega))⟩
  have HRK := Lib.hid hrk
  have hxsh : ∃ a c, v = .slice a n c := by
    obtain ⟨a, c, rfl, _⟩ := hx
    exact ⟨a, c, by rw [hxo.1]⟩
  have hsh := hv.shape
  clear hst hok hr0 hc0 hzb hsl g hrk hL hxo hv hx
  unfold mxV at *
  obtain ⟨ua, uc, rfl⟩ := hsh
  obtain ⟨xa, xc, rfl⟩ := hxsh
  generalize redTo (p : Int) L (idL L.length) n = s at *
  generalize L.length = m at *
  have HS := Lib.hid ((Sep.start w).box #[.int .i64 n, .slice ua m uc] 39)
  have HG := Lib.hid (show w.grownBy _ none from HS.out.tl.hd)
  obtain ⟨y0, y1, _, _⟩ := bx HS.out.hd
  have hmk := make_row m (by omega)
  go_enter Tryd.func193, Tryd.ntmps193
  go_wp2_with (
    go_at_call 122
    go_loud (with_reducible refine (HR.out _ HG.out).mono ?_)
    rintro e w2 ⟨o1, o2, det, rfl, hdet, ⟨vs, us, t⟩, hg2⟩
    obtain ⟨va, vc, hve, hvi, hcap⟩ := own_form t.mR
    obtain ⟨va2, vc2, hve2, hvi2, hcap2⟩ := own_form t.mT
    rw [HLR.out] at hve
    rw [HLT.out] at hve2
    subst hve hve2
    have hs2 := HS.out.newTwo hg2 t
    have hs3 := hs2.box #[.int .i64 n, .slice va m vc] 39
    have hs4 := hs3.box #[.int .i64 m, .slice va2 m vc2] 39
    rw [show (w2.alloc (Obj.cells #[.int .i64 n, .slice va m vc] 39)).heap.size = w2.heap.size + 1 by simp] at hs4
    have HS4 := Lib.hid hs4
    clear t hg2 hvi hvi2 hcap hcap2 hs2 hs3 hs4 hdet)
  generalize w.heap.size = b at *
  generalize w2.heap.size = ba at *
  generalize hw4 : (w2.alloc (Obj.cells #[.int .i64 n, .slice va m vc] 39)).alloc (Obj.cells #[.int .i64 m, .slice va2 m vc2] 39) = w4 at *
  clear hw4
  have XF := Lib.hid fun W (h : w4.grownBy W none) => And.intro (bx (HS4.out.grown h).s5.hd).1 (bx (HS4.out.grown h).s5.hd).2.1
  have hgd : w4.grownBy w4.drew none := ⟨rfl, rfl, rfl, Nat.le_refl _, fun _ _ _ => rfl⟩
  have HGD := Lib.hid (show w.grownBy w4.drew none from (HS4.out.dr.tl.tl.tl.tl.tl.hd))
  have HG4 := Lib.hid (show w.grownBy w4 none from (HS4.out.tl.tl.tl.tl.tl.hd))
  have X0 := Lib.hid (XF.out _ hgd)
  have X1 := Lib.hid fun o => XF.out (w4.alloc o).drew ((grownBy_alloc w4 o none).trans ⟨rfl, rfl, rfl, Nat.le_refl _, fun _ _ _ => rfl⟩)
  generalize hz : zeroCells m = Z at *
  go_upto_region 2 with fail
  go_cut [12, 13] from 24 to 30 (fun ov rv wx => Sep wx [OI ov (cmb 0), OI rv (rst 0), BxA (ba + 1) #[.int .i64 m, .slice va2 m vc2] 39, BxA ba #[.int .i64 n, .slice va m vc] 39, OM (.slice va m vc) vs s.R, OM (.slice va2 m vc2) us s.T, BxA b #[.int .i64 n, .slice ua m uc] 39, KeepA w])
  case first =>
    go_region_held3 (fun w' => w'.cell? ⟨b, 0, none⟩ = some (.int .i64 n) ∧ w'.cell? ⟨b, 1, none⟩ = some (.slice ua m uc))
      (first | with_reducible exact X0.out | with_reducible exact X1.out _ | with_reducible exact X3.out | with_reducible exact X4.out _)
      (first
        | (go_at_call 217
           first
             | (with_reducible refine (HOW.out w4.drew HGD.out).mono ?_
                rintro e w5 ⟨o5, rfl, ho5, g5⟩
                have X3 := Lib.hid (XF.out _ (hgd.trans g5))
                have X4 := Lib.hid fun o => XF.out _ ((hgd.trans g5).trans (grownBy_alloc _ o none))
                have h5 := HS4.out.dr.newI g5 ho5
                have h6 := h5.newI (grownBy_alloc w5 (.cells Z 3) none) (by rw [← hz]; exact row_made m (by omega) w5 (Nat.le_refl _))
                have HS6 := Lib.hid h6
                clear ho5 g5 h5 h6)
             | (have hga := (grownBy_alloc w4 (.cells Z 3) none).trans (show (w4.alloc (.cells Z 3)).grownBy (w4.alloc (.cells Z 3)).drew none from ⟨rfl, rfl, rfl, Nat.le_refl _, fun _ _ _ => rfl⟩)
                with_reducible refine (HOW.out (w4.alloc (.cells Z 3)).drew (HG4.out.trans hga)).mono ?_
                rintro e w5 ⟨o5, rfl, ho5, g5⟩
                have X3 := Lib.hid (XF.out _ (hga.trans g5))
                have h5 := (HS4.out.newI (grownBy_alloc w4 (.cells Z 3) none) (by rw [← hz]; exact row_made m (by omega) w4 (Nat.le_refl _))).dr
                have h6 := (h5.newI g5 ho5).s2
                have HS6 := Lib.hid h6
                clear ho5 g5 h5 h6 hga)))
    all_goals
      go_wp2_with fail
      go_meet
      rw [HR0.out, HC0.out]
      exact HS6.out
  case rest =>
    have HS7 := Lib.hid hcut
    clear hcut X0 X1 XF HS4 hgd HGD HG4 hmk y0 y1
    go_wp2_with fail
    go_loopw [14] (fun i wr => ∃ k : Nat, k ≤ s.r ∧ i = .int .i64 k ∧ Sep wr [OI u12 (cmb k), OI u13 (rst k), BxA (ba + 1) #[.int .i64 m, .slice va2 m vc2] 39, BxA ba #[.int .i64 n, .slice va m vc] 39, OM (.slice va m vc) vs s.R, OM (.slice va2 m vc2) us s.T, BxA b #[.int .i64 n, .slice ua m uc] 39, KeepA w]) (fun i _ => s.r - (intOf i).toNat)
    case atStart => exact ⟨0, Nat.zero_le _, rfl, HS7.out⟩
    case round =>
      obtain ⟨k, hk, rfl, hs⟩ := hrel
      have HSX := Lib.hid hs
      clear hs
      by_cases hlt : k < s.r
      · have hkm : k < m := by omega
        obtain ⟨a0, a1, _, _⟩ := bx HSX.out.s4.hd
        obtain ⟨b0, b1, _, _⟩ := bx HSX.out.s3.hd
        have hor : OwnM 0 wr (.slice va m vc) vs s.R := HSX.out.s5.hd
        have hot : OwnM 0 wr (.slice va2 m vc2) us s.T := HSX.out.tl.s5.hd
        obtain ⟨g, gc, hge, _⟩ := hor.head (by intro h; have := HLR.out; rw [h] at this; simp at this; omega)
        rw [HLR.out] at hge
        cases hge
        obtain ⟨g2, gc2, hge, _⟩ := hot.head (by intro h; have := HLT.out; rw [h] at this; simp at this; omega)
        rw [HLT.out] at hge
        cases hge
        have r1 := hor.cell HLR.out.symm (show k < s.R.length by rw [HLR.out]; exact hkm)
        have r2 := hot.cell HLT.out.symm (show k < s.T.length by rw [HLT.out]; exact hkm)
        have hapR := own_apt HSX.out.s2 (show OM (.slice (some ⟨g, 0, none⟩) m vc) vs s.R ∈ _ by simp) k
        obtain ⟨h1, h2, h3⟩ := HST.out k hlt
        obtain ⟨vr, vt⟩ := HRK.out k hlt
        obtain ⟨ok1, ok2⟩ := HOK.out k hk
        obtain ⟨ar, cr, er⟩ := own_shape (hor.row k)
        obtain ⟨at', ct, et⟩ := own_shape (hot.row k)
        have hrow := (hor.row k).read
        rw [er] at r1 hrow hapR
        rw [et] at r2
        rw [vr.1] at r1 hrow hapR
        rw [vt.1] at r2
        have HLD := Lib.hid (spLead_any _ _ wr hrow (by rw [vr.1]; omega))
        obtain ⟨ra, rc2, hrv⟩ := own_shape HSX.out.s2.hd
        rw [ok1.1] at hrv
        subst hrv
        obtain ⟨gr, gcr, hgr, _⟩ := (show OwnInts 0 wr (.slice ra n rc2) (rst k) from HSX.out.s2.hd).parts (by intro h; have := ok1.1; rw [h] at this; simp at this; omega)
        rw [ok1.1] at hgr
        cases hgr
        have hcell := (show OwnInts 0 wr (.slice (some ⟨gr, 0, none⟩) n rc2) (rst k) from HSX.out.s2.hd).cell ok1.1.symm (j := leadL (s.R.getD k [])) (by rw [ok1.1]; exact h1)
        rw [← getD_lt (by rw [ok1.1]; exact h1)] at hcell
        have hyb := ok1.2 _ (List.getElem_mem (show leadL (s.R.getD k []) < (rst k).length by rw [ok1.1]; exact h1))
        rw [← getD_lt (by rw [ok1.1]; exact h1)] at hyb
        have hld : ((leadL (s.R.getD k []) : Nat) : Int) < (n : Int) := by omega
        generalize leadL (s.R.getD k []) = ld at *
        generalize (rst k).getD ld 0 = y at *
        have HM1 := Lib.hid (mxLess_any p y (.slice (some ⟨gr, 0, none⟩) n rc2) (.slice ar n cr) (rst k) (s.R.getD k []) 0 wr HSX.out.s2.hd hrow (fun _ => hapR) (by rw [ok1.1, vr.1]) (by rw [ok1.1]; omega) (by omega) (by omega) (by omega) (by omega) (fun z hz => by have := ok1.2 z hz; omega) (fun z hz => by have := vr.2 z hz; omega))
        rw [← h2] at HM1
        have hm2 := fun W (h : Sep W [OI u12 (cmb k), OI (.slice (some ⟨gr, 0, none⟩) n rc2) (rst (k + 1)), BxA (ba + 1) #[.int .i64 m, .slice (some ⟨g2, 0, none⟩) m vc2] 39, BxA ba #[.int .i64 n, .slice (some ⟨g, 0, none⟩) m vc] 39, OM (.slice (some ⟨g, 0, none⟩) m vc) vs s.R, OM (.slice (some ⟨g2, 0, none⟩) m vc2) us s.T, BxA b #[.int .i64 n, .slice ua m uc] 39, KeepA w]) (nk : Int) (hnk : nk = ((p : Int) - y) % p) =>
          mxLess_any p nk u12 (.slice at' m ct) (cmb k) (s.T.getD k []) 0 W h.hd (by have hr := ((show OwnM 0 W (.slice (some ⟨g2, 0, none⟩) m vc2) us s.T from h.tl.s5.hd).row k).read; rw [et, vt.1] at hr; exact hr) (fun _ => by have ha := own_apt h (show OM (.slice (some ⟨g2, 0, none⟩) m vc2) us s.T ∈ _ by simp) k; rw [et, vt.1] at ha; exact ha) (by rw [ok2.1, vt.1]) (by rw [ok2.1]; omega) (by omega) (by omega)
            (by rw [hnk]; exact Int.emod_nonneg _ (by omega)) (by rw [hnk]; have := Int.emod_lt_of_pos ((p : Int) - y) (show (0 : Int) < p by omega); omega) (fun z hz => by have := ok2.2 z hz; omega) (fun z hz => by have := vt.2 z hz; omega)
        have hm3 : ∀ nk : Int, nk = ((p : Int) - y) % p → addT p (cmb k) (-nk) (s.T.getD k []) = cmb (k + 1) := fun nk hnk => by rw [hnk, addT_neg, h3]
        have HM2 := Lib.hid hm2; have HM3 := Lib.hid hm3
        have HNE := Lib.hid fun wx => fdNegE_any (p : Int) y wx (by omega) (by omega) (by omega) (by omega)
        obtain ⟨nk, hnk⟩ : ∃ nk, nk = ((p : Int) - y) % p := ⟨_, rfl⟩
        rw [← hnk] at HNE
        have HNK := Lib.hid hnk
        have hk1 : (k : Int) < (m : Int) := by omega
        have HEU := Lib.hid (show us.getD k nilS = .slice at' m ct by rw [et, vt.1])
        clear h1 h2 h3 vr vt ok1 ok2 hor hot hrow hapR er et hm2 hm3 hnk hyb
        go_wp2_with (first
          | (go_at_call 276
             with_reducible refine HLD.out.mono ?_
             rintro e w' ⟨rfl, rfl⟩)
          | (go_at_call 258
             go_loud (with_reducible refine HM1.out.mono ?_)
             rintro e w3 ⟨rfl, ho3, hon3⟩
             have HS3 := Lib.hid ((HSX.out.s2.updI hon3 ho3).s2)
             have HD3 := Lib.hid HS3.out.dr
             obtain ⟨d0, d1, _, _⟩ := bx HD3.out.s3.hd
             have r3 := (show OwnM 0 w3.drew (.slice (some ⟨g2, 0, none⟩) m vc2) us s.T from HD3.out.tl.s5.hd).cell HLT.out.symm (show k < s.T.length by rw [HLT.out]; exact hkm)
             rw [HEU.out] at r3
             clear ho3 hon3))
        have hdd := And.intro d1 r3
        go_region_held3 (fun w' => w'.cell? ⟨ba + 1, 1, none⟩ = some (.slice (some ⟨g2, 0, none⟩) m vc2) ∧ w'.cell? ⟨g2, k, none⟩ = some (.slice at' m ct)) (first | with_reducible exact hdd | with_reducible exact hde)
          (first
            | (go_at_call 237
               with_reducible refine (HNE.out _).mono ?_
               rintro e w' ⟨rfl, rfl⟩)
            | (go_at_call 258
               go_loud (with_reducible refine (HM2.out _ HD3.out nk HNK.out).mono ?_)
               rintro e w5 ⟨rfl, ho5, hon5⟩
               rw [HM3.out nk HNK.out] at ho5
               have HS5 := Lib.hid (HD3.out.updI hon5 ho5)
               have r5 := (show OwnM 0 w5 (.slice (some ⟨g2, 0, none⟩) m vc2) us s.T from HS5.out.tl.s5.hd).cell HLT.out.symm (show k < s.T.length by rw [HLT.out]; exact hkm)
               rw [HEU.out] at r5
               have hde := And.intro (bx HS5.out.s3.hd).2.1 r5
               clear ho5 hon5 r5))
        all_goals
          go_wp2_with fail
          go_roundw
          case rel => exact ⟨k + 1, by omega, by go_num, HS5.out⟩
          case measure => simp [intOf]; omega
      · have hkr : k = s.r := by omega
        subst hkr
        have hall := l1All_any 0 0 u13 (rst s.r) wr HSX.out.s2.hd.read (by rw [(HOK.out s.r (Nat.le_refl _)).1.1]; omega)
        rw [all0_zero] at hall
        have HALL := Lib.hid hall
        clear hall
        go_wp2_with (
          go_at_call 278
          with_reducible refine HALL.out.mono ?_
          rintro e w' ⟨rfl, rfl⟩)
        go_ret2
        exact ⟨u12, rfl, HSX.out.intsK (by simp), HSX.out.tl.tl.tl.tl.tl.tl.tl.hd⟩
end Go.Proofs.YtpeaeminjbjlnaaDoor

/-
  The reference's SolveLinear; what both answer, whatever the arguments are. Conditions: small sizes.
-/
namespace Go.Proofs.YtpeaeminjbjlnaaDoor
open Go.RowKit La
set_option linter.unusedVariables false

section
variable (p c : Int) (u v : Value) (M : List (List Int)) (x : List Int) (w : World)
set_option maxRecDepth 100000 in
theorem sSolveLinear_no (hu : MatV w u M) (hv : IntsV w v x) (hl : M.length ≤ 1000000) (hll : ∀ row ∈ M, row.length ≤ 1000000) (hxl : x.length ≤ 1000000) (hp0 : -1000 ≤ p) (hp1 : p ≤ 1000) (hno : slvB p c M x = false) :
    Calls Tryd.prog 70 #[.int .i64 p, mxV c u, v] w fun e w' => e = .returned (.tuple #[nilS, .bool false]) ∧ w.grownBy w' none := by
  have HS := Lib.hid fun w' (hg : w.grownBy w' none) => mxGood_any p c u M w' (hu.carry hg) hl hll hp0 hp1
  have HX := Lib.hid fun w' (hg : w.grownBy w' none) => fdIn_any p v x w' (hv.carry hg) hxl (by omega) (by omega)
  unfold slvB vecB at hno
  unfold mxV at *
  unfold nilS
  obtain ⟨a, cc, rfl⟩ := hu.shape
  obtain ⟨xa, xc, rfl, hvx⟩ := hv
  have e0 := Lib.hid (alloc_heap_new w (.cells #[.int .i64 c, .slice a M.length cc] 39))
  clear hu hvx hll
  generalize M.length = l at *
  generalize hxx : x.length = xl at *
  cases h1 : matB p c M
  · rw [h1] at HS
    clear h1 hno hxx
    go_enter Tryd.func70, Tryd.ntmps70
    go_wp2_with (
      go_at_call 121
      with_reducible refine (HS.out _ (grownBy_alloc _ _ none)).mono ?_
      rintro e w1 ⟨rfl, hg⟩
      obtain ⟨c0, c1, f0, f1⟩ := bx (bx_on e0.out hg)
      have HG := Lib.hid ((grownBy_alloc w _ none).trans hg)
      clear hg)
    go_ret2
    exact ⟨rfl, HG.out⟩
  · rw [h1] at HS
    by_cases h2 : (xl : Int) = c
    · subst h2
      cases h3 : x.all (elB p)
      · rw [h3] at HX
        clear h1 h3 hno hxx
        go_enter Tryd.func70, Tryd.ntmps70
        go_wp2_with (first
          | (go_at_call 121
             with_reducible refine (HS.out _ (grownBy_alloc _ _ none)).mono ?_
             rintro e w1 ⟨rfl, hg⟩
             obtain ⟨c0, c1, f0, f1⟩ := bx (bx_on e0.out hg)
             have HG := Lib.hid ((grownBy_alloc w _ none).trans hg)
             clear hg)
          | (go_at_call 192; with_reducible refine (HX.out _ HG.out).mono ?_; rintro e w' ⟨rfl, rfl⟩))
        go_ret2
        exact ⟨rfl, HG.out⟩
      · exfalso
        rw [h1, h3] at hno
        simp at hno
    · have h2a : ((xl : Int) != c) = true := by rw [bne_iff_ne]; exact h2
      have h2b : ((xl : Int) == c) = false := by rw [beq_eq_false_iff_ne]; exact h2
      clear h1 hno hxx
      go_enter Tryd.func70, Tryd.ntmps70
      go_wp2_with (
        go_at_call 121
        with_reducible refine (HS.out _ (grownBy_alloc _ _ none)).mono ?_
        rintro e w1 ⟨rfl, hg⟩
        obtain ⟨c0, c1, f0, f1⟩ := bx (bx_on e0.out hg)
        have HG := Lib.hid ((grownBy_alloc w _ none).trans hg)
        clear hg)
      go_ret2
      exact ⟨rfl, HG.out⟩
end
set_option maxRecDepth 100000 in
set_option maxHeartbeats 1000000 in
theorem sSolveLinear_yes (p n : Nat) [NeZero p] (u v : Value) (L : List (List Int)) (x : List Int) (w : World) (hv : MatV w u L) (hx : IntsV w v x) (hb : slvB p n L x = true) :
    Calls Tryd.prog 70 #[.int .i64 p, mxV n u, v] w fun e w' => ∃ o, e = .returned (.tuple #[o, .bool (solveB p n L x)]) ∧ OwnInts w.heap.size w' o (if solveB p n L x then solveL p n L x else []) ∧ w.grownBy w' none := by
  unfold slvB at hb
  rw [Bool.and_eq_true] at hb
  obtain ⟨hb, hxb⟩ := hb
  obtain ⟨hfld, hp2, n', hn', hn, hm, hL⟩ := matB_parts hb
  have : n' = n := by omega
  subst this
  have hxo := vecB_ok.1 hxb
  have hp97 : (p : Int) ≤ 1000 := by omega
  have HS := fun w' (hg : w.grownBy w' none) => mxGood_any p n' u L w' (hv.carry hg) (by omega) (fun row hr => by rw [(hL row hr).1]; omega) (by omega) (by omega)
  rw [hb] at HS
  have HX := fun w' (hg : w.grownBy w' none) => fdIn_any p v x w' (hx.carry hg) (by rw [hxo.1]; omega) (by omega) (by omega)
  have hall : x.all (elB (p : Int)) = true := by
    unfold vecB at hxb
    rw [Bool.and_eq_true] at hxb
    exact hxb.2
  rw [hall] at HX
  have HS := Lib.hid HS; have HX := Lib.hid HX
  have HM := Lib.hid fun w' (hg : w.grownBy w' none) => mxSolve_any p n' u v L x w' hfld hp2 (hv.carry hg) (hx.carry hg) hL hxo hm hn
  have hxsh : ∃ a c, v = .slice a n' c := by
    obtain ⟨a, c, rfl, _⟩ := hx
    exact ⟨a, c, by rw [hxo.1]⟩
  unfold mxV at *
  obtain ⟨a, cc, rfl⟩ := hv.shape
  obtain ⟨xa, xc, rfl⟩ := hxsh
  have e0 := Lib.hid (alloc_heap_new w (.cells #[.int .i64 n', .slice a L.length cc] 39))
  clear hv hx hL hxo hb hxb hall hfld
  generalize solveL p n' L x = so at *
  generalize L.length = l at *
  have hnn : ((n' : Int) != n') = false := by simp
  cases hsb : solveB p n' L x
  all_goals
    rw [hsb] at HM
    clear hsb
    go_enter Tryd.func70, Tryd.ntmps70
    go_wp2_with (first
      | (go_at_call 121
         with_reducible refine (HS.out _ (grownBy_alloc _ _ none)).mono ?_
         rintro e w1 ⟨rfl, hg⟩
         obtain ⟨c0, c1, f0, f1⟩ := bx (bx_on e0.out hg)
         have HG := Lib.hid ((grownBy_alloc w _ none).trans hg)
         clear hg)
      | (go_at_call 192; with_reducible refine (HX.out _ HG.out).mono ?_; rintro e w' ⟨rfl, rfl⟩)
      | (go_at_call 193
         go_loud (with_reducible refine (HM.out _ HG.out).mono ?_)
         rintro e w2 ⟨o, rfl, ho, hg⟩
         have HG2 := Lib.hid (HG.out.trans hg)
         have HO := Lib.hid (ho.base HG.out.size)
         clear ho hg))
    go_ret2
    first
      | exact ⟨nilS, rfl, OwnInts.nil _ _, HG2.out⟩
      | exact ⟨o, rfl, HO.out, HG2.out⟩
/-- what both answer, whatever the matrix and the list are -/
structure SlvAns (p c : Int) (M : List (List Int)) (x : List Int) (b : Bool) (K : List Int) : Prop where
  small : K.length ≤ 24
  yes : b = true → ∃ (q : Nat) (_ : NeZero q) (n : Nat), p = q ∧ c = n ∧ fldN q = true ∧ q ≤ 97 ∧ n ≤ 24 ∧ M.length ≤ 24 ∧ RowsOk q n M ∧ VecOk q n x ∧ VecOk q M.length K ∧ combTo q K M n M.length = x
  impl : ∀ (u v : Value) (W : World), Tab W → MatV W u M → IntsV W v x → Calls Tryd.prog 69 #[.int .i64 p, mxV c u, v] W fun e w' => ∃ o, e = .returned (.tuple #[o, .bool b]) ∧ IntsV w' o K ∧ W.grownBy w' none
  spec : ∀ (u v : Value) (W : World), MatV W u M → IntsV W v x → Calls Tryd.prog 70 #[.int .i64 p, mxV c u, v] W fun e w' => ∃ o, e = .returned (.tuple #[o, .bool b]) ∧ IntsV w' o K ∧ W.grownBy w' none
theorem slv_both (p c : Int) (M : List (List Int)) (x : List Int) (hM : Small 1000 M) (hx : x.length ≤ 1000000) (hp0 : -1000 ≤ p) (hp1 : p ≤ 1000) : ∃ (b : Bool) (K : List Int), SlvAns p c M x b K := by
  have m1 := Nat.le_trans hM.1 (show 1000 ≤ 1000000 by decide)
  have m2 := fun row hr => Nat.le_trans (hM.2 row hr) (show 1000 ≤ 1000000 by decide)
  cases hb : slvB p c M x
  · refine ⟨false, [], by simp, (fun h => by cases h), fun u v W ht hu hv => ?_, fun u v W hu hv => ?_⟩
    · refine (solveLinear_no p c u v M x W ht hu hv m1 m2 hx hb).mono ?_
      rintro e w' ⟨rfl, g⟩
      exact ⟨nilS, rfl, IntsV.nil _, g⟩
    · refine (sSolveLinear_no p c u v M x W hu hv m1 m2 hx hp0 hp1 hb).mono ?_
      rintro e w' ⟨rfl, g⟩
      exact ⟨nilS, rfl, IntsV.nil _, g⟩
  · have hb0 := hb
    unfold slvB at hb0
    rw [Bool.and_eq_true] at hb0
    obtain ⟨q, iq, n, rfl, rfl, hf, hq, hn, hm, hok⟩ := matB_nat hb0.1
    have hxo := vecB_ok.1 hb0.2
    have hso := solve_ok (b := x) hf hok
    refine ⟨solveB q n M x, if solveB q n M x then solveL q n M x else [], ?_, fun h => ?_, fun u v W ht hu hv => ?_, fun u v W hu hv => ?_⟩
    · split
      · rw [hso.1]; exact hm
      · simp
    · rw [if_pos h]
      exact ⟨q, iq, n, rfl, rfl, hf, hq, hn, hm, hok, hxo, hso, solve_solves hf hok hxo h⟩
    · refine (solveLinear_yes q n u v M x W ht hu hv hb).mono ?_
      rintro e w' ⟨o, rfl, ho, g⟩
      exact ⟨o, rfl, ho.read, g⟩
    · refine (sSolveLinear_yes q n u v M x W hu hv hb).mono ?_
      rintro e w' ⟨o, rfl, ho, g⟩
      exact ⟨o, rfl, ho.read, g⟩
end Go.Proofs.YtpeaeminjbjlnaaDoor

/-
  Small helping facts. Conditions: as each says.
-/
namespace Go.Proofs.YtpeaeminjbjlnaaDoor
open Go.RowKit
set_option linter.unusedVariables false

theorem matB_of {p n : Nat} {L : List (List Int)} (hf : fldN p = true) (hn : n ≤ 24) (hl : L.length ≤ 24) (hL : RowsOk p n L) : matB p n L = true := by
  unfold matB
  rw [fldB_nat, hf, rowsB_ok.2 hL]
  simp
  omega
theorem pSame_m (c : Int) (u v : Value) (w : World) {A : List (List Int)} (hu : MatV w u A) (hv : MatV w v A) (hs : Small 1000 A) :
    Calls Tryd.prog 28 #[.agg #[.int .i64 c, u], .agg #[.int .i64 c, v]] w fun e w' => e = .returned (.bool true) ∧ w.grownBy w' none := by
  have h := pSame_any c c u v A A w hu hv (Nat.le_trans hs.1 (by decide)) (Nat.le_trans hs.1 (by decide)) (fun row hr => Nat.le_trans (hs.2 row hr) (by decide)) (fun row hr => Nat.le_trans (hs.2 row hr) (by decide))
  rw [show (c == c && A == A) = true by simp] at h
  exact h
theorem mat_one {w : World} {r : Value} {x : List Int} (h : IntsV w r x) : MatV (w.alloc (.cells #[r] 24)) (.slice (some ⟨w.heap.size, 0, none⟩) 1 1) [x] := by
  refine ⟨some ⟨w.heap.size, 0, none⟩, 1, rfl, fun _ => ⟨⟨w.heap.size, 0, none⟩, rfl, rfl, by simp, fun i hi => ?_⟩⟩
  have hi0 : i = 0 := by simp at hi; exact hi
  subst hi0
  exact ⟨r, box_cell w #[r] 24 0, h.carry (grownBy_alloc w _ none)⟩
end Go.Proofs.YtpeaeminjbjlnaaDoor

/-
 Is it a graph, in the reference. Conditions: lengths are small.
-/
import Derived.Test.YtjagjhchnpmngaaGreatCz02
import Derived.Test.YtjagjhchnpmngaaGreatCz01
import Derived.Test.YtjagjhchnpmngaaGreatCz00
import Derived.Test.YtjagjhchnpmngaaGreatCz03
import Derived.Test.YtjagjhchnpmngaaGreatCz04
import Derived.StillTailTactics
set_option linter.unusedVariables false
set_option linter.unusedSimpArgs false
set_option maxRecDepth 100000
namespace Go.Proofs.YtjagjhchnpmngaaGreat
open Go.RowKit
def sEdB (n : Int) (x : Ed) : Bool := edB x && (rngB n x.i && rngB n x.o)
theorem rng_app (n : Int) (A B : List Int) : rngB n (A ++ B) = (rngB n A && rngB n B) := by unfold rngB; rw [List.all_append]
theorem rng_wires (n : Int) (es : List Ed) : (es.all edB && rngB n (wiresE es)) = es.all (sEdB n) := by
 induction es with
 | nil => rfl
 | cons e es ih =>
  rw [List.all_cons, List.all_cons, ← ih, show wiresE (e :: es) = (e.i ++ e.o) ++ wiresE es from rfl, rng_app, rng_app]
  unfold sEdB
  cases edB e <;> cases rngB n e.i <;> cases rngB n e.o <;> simp
theorem grB_spec (g : Gr) : grB g = (inB g.n 0 100 && (decide (g.es.length ≤ 60) && (decide (g.i.length ≤ 12) && (decide (g.o.length ≤ 12) && (rngB g.n g.i && (rngB g.n g.o && (g.es.all (sEdB g.n) && (List.range g.n.toNat).all fun w : Nat => decide ((w : Int) ∈ wiresL g)))))))) := by
 rw [← rng_wires]
 unfold grB
 rw [show wiresL g = g.i ++ (g.o ++ wiresE g.es) from rfl, rng_app, rng_app]
 simp only [Bool.decide_and]
 generalize inB g.n 0 100 = b1
 generalize decide (g.es.length ≤ 60) = b2
 generalize decide (g.i.length ≤ 12) = b3
 generalize decide (g.o.length ≤ 12) = b4
 generalize rngB g.n g.i = b5
 generalize rngB g.n g.o = b6
 generalize g.es.all edB = b7
 generalize rngB g.n (wiresE g.es) = b8
 generalize ((List.range g.n.toNat).all fun w : Nat => decide ((w : Int) ∈ g.i ++ (g.o ++ wiresE g.es))) = b9
 cases b1 <;> cases b2 <;> cases b3 <;> cases b4 <;> cases b5 <;> cases b6 <;> cases b7 <;> cases b8 <;> cases b9 <;> rfl
theorem sall_take {n : Int} {es : List Ed} {k : Nat} (hk : k < es.length) : (es.take (k + 1)).all (sEdB n) = ((es.take k).all (sEdB n) && sEdB n (es.getD k e0)) := by
 rw [List.take_succ_eq_append_getElem hk, List.all_append, List.getD_eq_getElem?_getD, List.getElem?_eq_getElem hk]
 simp
theorem sall_bad {n : Int} {es : List Ed} {k : Nat} (hk : k < es.length) (h : sEdB n (es.getD k e0) = false) : es.all (sEdB n) = false := by
 rw [Bool.eq_false_iff]
 intro ha
 have := List.all_eq_true.1 ha (es.getD k e0) (by rw [List.getD_eq_getElem?_getD, List.getElem?_eq_getElem hk]; exact List.getElem_mem _)
 rw [h] at this
 cases this
theorem used_cnt (g : Gr) (w : Nat) : ((w : Int) ∈ wiresL g) ↔ ¬ ((((fromL g).count (w : Int) : Nat) : Int) + (((toL g).count (w : Int) : Nat) : Int) = 0) := by
 rw [mem_wires]
 have h1 := List.count_pos_iff (a := (w : Int)) (l := fromL g)
 have h2 := List.count_pos_iff (a := (w : Int)) (l := toL g)
 constructor
 ·rintro (h | h)
  ·have := h1.2 h; omega
  ·have := h2.2 h; omega
 ·intro h
  by_cases a : 0 < (fromL g).count (w : Int)
  ·exact Or.inl (h1.1 a)
  ·exact Or.inr (h2.1 (by omega))
theorem two_small {q1 q2 a b : Nat} (h1 : q1 ≤ a) (h2 : q2 ≤ b) (ha : a ≤ 1000) (hb : b ≤ 1000) : wrap64 ((q1 : Int) + (q2 : Int)) = (q1 : Int) + (q2 : Int) ∧ IntKind.i64.wrap ((q1 : Int) + (q2 : Int)) = (q1 : Int) + (q2 : Int) :=
 ⟨wrap64_id (by omega) (by omega), wrap_id (by omega) (by omega)⟩
theorem range_bad (g : Gr) {m k : Nat} (hk : k < m) (h : ¬ (k : Int) ∈ wiresL g) : ((List.range m).all fun w : Nat => decide ((w : Int) ∈ wiresL g)) = false := by
 rw [Bool.eq_false_iff]
 intro ha
 exact h (of_decide_eq_true (List.all_eq_true.1 ha k (List.mem_range.2 hk)))
theorem edge_small {n : Int} {es : List Ed} (h : es.all (sEdB n) = true) : ∀ e ∈ es, e.i.length ≤ 2 ∧ e.o.length ≤ 2 := by
 intro e he
 have := List.all_eq_true.1 h e he
 unfold sEdB edB at this
 simp only [Bool.and_eq_true, decide_eq_true_iff] at this
 have h2 := this.1.2
 have hw : (edW e.k).1 ≤ 2 ∧ (edW e.k).2 ≤ 2 := by unfold edW; (repeat' split) <;> simp
 rw [← h2] at hw
 exact hw
theorem flat_small (f : Ed → List Int) (es : List Ed) (h : ∀ e ∈ es, (f e).length ≤ 2) : (es.flatMap f).length ≤ 2 * es.length := by
 induction es with
 | nil => simp
 | cons e es ih =>
  have h1 := h e (by simp)
  have h2 := ih fun x hx => h x (by simp [hx])
  rw [List.flatMap_cons, List.length_append, List.length_cons]
  omega
set_option maxHeartbeats 16000000 in
theorem hgValid_any (ev iv ov : Value) (g : Gr) (w : World) (he : RdE edgeE w ev g.es) (hi : IntsV w iv g.i) (ho : IntsV w ov g.o) (l0 : g.es.length ≤ 2000000) (l1 : g.i.length ≤ 2000000) (l2 : g.o.length ≤ 2000000) :
 Calls Tryz.prog 52 #[grV g.n ev iv ov] w fun e w' => e = .returned (.bool (grB g)) ∧ w.grownBy w' none := by
 have HE := qd he; have HI := qd hi; have HO := qd ho
 have HW := qd fun W => l1In_any g.n 0 100 W
 rw [show decide (0 ≤ g.n ∧ g.n ≤ 100) = inB g.n 0 100 from rfl] at HW
 have HCT := qd fun W (h : w.grownBy W none) m hm => hgCounts_any ev iv ov g m W (he.carry h) (hi.carry h) (ho.carry h) hm
 obtain ⟨ea, ec, rfl⟩ := he.shape
 obtain ⟨ia, ic, rfl⟩ := hi.shape
 obtain ⟨oa, oc, rfl⟩ := ho.shape
 have HS0 := qd ((Sep.start w).box #[.int .i64 g.n, .slice ea g.es.length ec, .slice ia g.i.length ic, .slice oa g.o.length oc] 38)
 have HK0 := qd (show w.grownBy _ none from HS0.out.tl.hd)
 unfold grV at *
 clear he hi ho
 rw [grB_spec]
 cases h1 : inB g.n 0 100
 ·rw [h1] at HW
  rw [Bool.false_and]
  clear h1
  clear HCT HE HI HO 
  generalize g.es.length = m0 at *
  generalize g.i.length = m1 at *
  generalize g.o.length = m2 at *
  generalize g.n = n at *
  go_enter Tryz.func52, Tryz.ntmps52
  go_wp2_with (first
   |(go_at_call 91; with_reducible refine (HW.out _).mono ?_; rintro e w3 ⟨rfl, rfl⟩))
  go_ret
  exact ⟨rfl, HK0.out⟩
 ·rw [h1] at HW
  rw [Bool.true_and]
  have hn := inB_iff.1 h1
  have hwr : IntKind.i64.wrap (g.n - 1) = g.n - 1 := by rw [IntKind.wrap_i64]; omega
  by_cases a0 : g.es.length ≤ 60
  ·have b0 : ¬ (60 : Int) < (g.es.length : Int) := by omega
   rw [decide_eq_true a0, Bool.true_and]
   by_cases a1 : g.i.length ≤ 12
   ·have b1 : ¬ (12 : Int) < (g.i.length : Int) := by omega
    rw [decide_eq_true a1, Bool.true_and]
    have HAI := qd fun W (h : w.grownBy W none) => l1All_rng g.n _ g.i W (HI.out.carry h) (by omega)
    by_cases a2 : g.o.length ≤ 12
    ·have b2 : ¬ (12 : Int) < (g.o.length : Int) := by omega
     rw [decide_eq_true a2, Bool.true_and]
     have HAO := qd fun W (h : w.grownBy W none) => l1All_rng g.n _ g.o W (HO.out.carry h) (by omega)
     cases h5 : rngB g.n g.i
     ·rw [h5] at HAI
      rw [Bool.false_and]
      clear HCT HE HI HO h1 h5 hn a0 a1 a2
      generalize g.es.length = m0 at *
      generalize g.i.length = m1 at *
      generalize g.o.length = m2 at *
      generalize g.n = n at *
      go_enter Tryz.func52, Tryz.ntmps52
      go_wp2_with (first
       |(go_at_call 91; with_reducible refine (HW.out _).mono ?_; rintro e w3 ⟨rfl, rfl⟩)
       |(go_at_call 92; with_reducible refine (HAI.out _ HK0.out).mono ?_; rintro e w3 ⟨rfl, rfl⟩))
      go_ret
      exact ⟨rfl, HK0.out⟩
     ·rw [h5] at HAI
      rw [Bool.true_and]
      cases h6 : rngB g.n g.o
      ·rw [h6] at HAO
       rw [Bool.false_and]
       clear HCT HE HI HO h1 h5 h6 hn a0 a1 a2
       generalize g.es.length = m0 at *
       generalize g.i.length = m1 at *
       generalize g.o.length = m2 at *
       generalize g.n = n at *
       go_enter Tryz.func52, Tryz.ntmps52
       go_wp2_with (first
        |(go_at_call 91; with_reducible refine (HW.out _).mono ?_; rintro e w3 ⟨rfl, rfl⟩)
        |(go_at_call 92; with_reducible refine (HAI.out _ HK0.out).mono ?_; rintro e w3 ⟨rfl, rfl⟩)
        |(go_at_call 92; with_reducible refine (HAO.out _ HK0.out).mono ?_; rintro e w3 ⟨rfl, rfl⟩))
       go_ret
       exact ⟨rfl, HK0.out⟩
      ·rw [h6] at HAO
       rw [Bool.true_and]
       obtain ⟨m, hm⟩ := Int.eq_ofNat_of_zero_le hn.1
       have hm100 : m ≤ 100 := by omega
       have HM := qd hm
       have HLS := qd (And.intro a0 (And.intro a1 a2))
       have HR5 := qd h5; have HR6 := qd h6
       rw [hm] at HW HS0 HK0 HAI HAO hwr ⊢
       rw [Int.toNat_natCast]
       have HEG := qd fun iv ov x W (h1 : IntsV W iv x.i) (h2 : IntsV W ov x.o) => hgEdge_any (m : Int) iv ov x W h1 h2 (by omega) (by omega)
       clear h1 h5 h6 hn hm l0 l1 l2 a0 a1 a2
       obtain ⟨m0, hm0⟩ : ∃ m0, m0 = g.es.length := ⟨_, rfl⟩
       obtain ⟨m1, hm1⟩ : ∃ m1, m1 = g.i.length := ⟨_, rfl⟩
       obtain ⟨m2, hm2⟩ : ∃ m2, m2 = g.o.length := ⟨_, rfl⟩
       rw [← hm0, ← hm1, ← hm2] at HS0 HK0 HCT ⊢
       rw [← hm0] at b0 HE
       rw [← hm1] at b1 HI HAI
       rw [← hm2] at b2 HO HAO
       rw [HM.out] at HCT
       have HM0 := qd hm0
       clear hm0 hm1 hm2
       go_enter Tryz.func52, Tryz.ntmps52
       go_wp2_with (first
        |(go_at_call 91; with_reducible refine (HW.out _).mono ?_; rintro e w3 ⟨rfl, rfl⟩)
        |(go_at_call 92; with_reducible refine (HAI.out _ HK0.out).mono ?_; rintro e w3 ⟨rfl, rfl⟩)
        |(go_at_call 92; with_reducible refine (HAO.out _ HK0.out).mono ?_; rintro e w3 ⟨rfl, rfl⟩))
       go_loopw [4, 51] (fun _ i wr => ∃ k : Nat, k ≤ m0 ∧ i = .int .i64 k ∧ (g.es.take k).all (sEdB m) = true ∧ Sep wr [BxA w.heap.size #[.int .i64 m, .slice ea m0 ec, .slice ia m1 ic, .slice oa m2 oc] 38, KeepA w]) (fun _ i _ => m0 - (intOf i).toNat)
       case atStart => exact ⟨0, by omega, rfl, rfl, HS0.out⟩
       case round =>
        obtain ⟨k, hk, rfl, hall, hs⟩ := hrel
        have HSX := qd hs; have HAL := qd hall
        obtain ⟨x0, x1, x2, x3, _⟩ := bq4 hs.hd
        clear hs hall HS0 HK0
        by_cases hlt : k < m0
        ·have hke : k < g.es.length := by rw [← HM0.out]; exact hlt
         obtain ⟨b, o, iv, ov, rfl, hat⟩ := HE.out.atK rfl rfl hke
         obtain ⟨⟨q0, q1, q2, q3⟩, hiv, hov⟩ := hat wr HSX.out.tl.hd
         have HIE := qd fun W (h : wr.grownBy W none) => HEG.out iv ov (g.es.getD k e0) W (hiv.carry h) (hov.carry h)
         have HTK := qd (sall_take (n := m) hke)
         have HBD := qd fun h => sall_bad (n := m) hke h
         obtain ⟨s1, r1, rfl⟩ := hiv.shape
         obtain ⟨s2, r2, rfl⟩ := hov.shape
         have HGR := qd fun n1 n2 => gr1 wr (.cells #[.int .i64 (g.es.getD k e0).k, .int .i64 (g.es.getD k e0).v, .slice s1 n1 r1, .slice s2 n2 r2] 104)
         have HAX := qd fun n1 n2 => (bq4 (HSX.out.al (.cells #[.int .i64 (g.es.getD k e0).k, .int .i64 (g.es.getD k e0).v, .slice s1 n1 r1, .slice s2 n2 r2] 104)).hd).1
         have hax := fun n1 n2 => HAX.out n1 n2
         rw [show (edB (g.es.getD k e0) && (rngB m (g.es.getD k e0).i && rngB m (g.es.getD k e0).o)) = sEdB m (g.es.getD k e0) from rfl] at HIE
         cases hbe : sEdB m (g.es.getD k e0)
         ·rw [hbe] at HIE
          have HF := qd (HBD.out hbe)
          clear hat hke hbe HTK HBD hiv hov
          generalize (g.es.getD k e0).i.length = n1 at *
          generalize (g.es.getD k e0).o.length = n2 at *
          generalize (g.es.getD k e0).k = ek at *
          generalize (g.es.getD k e0).v = ev at *
          go_wp2_with (
           go_at_call 93
           with_reducible refine (HIE.out _ (HGR.out _ _)).mono ?_
           rintro e w5 ⟨rfl, hg5⟩
           have HKF := qd (show w.grownBy w5 none from grownBy_trans HSX.out.tl.hd (grownBy_trans (HGR.out _ _) hg5))
           clear hg5)
          go_ret
          exact ⟨by rw [HF.out, Bool.false_and]; rfl, HKF.out⟩
         ·rw [hbe] at HIE
          have HNX := qd (show (g.es.take (k + 1)).all (sEdB m) = true by rw [HTK.out, HAL.out, hbe]; rfl)
          clear hat hke hbe HTK HBD hiv hov
          generalize (g.es.getD k e0).i.length = n1 at *
          generalize (g.es.getD k e0).o.length = n2 at *
          generalize (g.es.getD k e0).k = ek at *
          generalize (g.es.getD k e0).v = ev at *
          go_wp2_with (
           go_at_call 93
           with_reducible refine (HIE.out _ (HGR.out _ _)).mono ?_
           rintro e w5 ⟨rfl, hg5⟩
           have HS5 := qd (HSX.out.grown (grownBy_trans (HGR.out _ _) hg5))
           clear hg5)
          go_roundw
          case rel => exact ⟨k + 1, by omega, by go_num, HNX.out, HS5.out⟩
          case measure => simp [intOf]; omega
        ·have hkm : m0 = k := by omega
         subst hkm
         have hal := HAL.out
         rw [List.take_of_length_le (by rw [← HM0.out]; exact Nat.le_refl _)] at hal
         have HALL := qd hal
         have hsm := edge_small hal
         have hls := HLS.out
         have hro : rngB g.n (wiresL g) = true := by
          have h := rng_wires (m : Int) g.es
          rw [hal] at h
          simp only [Bool.and_eq_true] at h
          rw [show wiresL g = g.i ++ (g.o ++ wiresE g.es) from rfl, rng_app, rng_app, HR5.out, HR6.out, HM.out, h.2]
          rfl
         have hfo := flat_small (fun e => e.o) g.es fun e he => (hsm e he).2
         have hfi := flat_small (fun e => e.i) g.es fun e he => (hsm e he).1
         have HC := qd fun W (h : w.grownBy W none) => HCT.out W h m rfl (by omega) (by rw [HM.out] at hro; exact hro) (by rw [HM0.out]; omega) (by omega) (by omega) (by unfold outE; omega) (by unfold inE; omega)
         have HLF := qd (show (fromL g).length ≤ 1000 ∧ (toL g).length ≤ 1000 from by unfold fromL toL; rw [List.length_append, List.length_append]; exact ⟨by omega, by omega⟩)
         clear hal hsm hls hro hfo hfi HAL HAI HAO HEG HLS HR5 HR6 HE HI HO HCT hlt
         obtain ⟨y0, y1, y2, y3, _⟩ := bq4 HSX.out.hd
         have HKX := qd (show w.grownBy wr none from HSX.out.tl.hd)
         go_wp2_with (
          go_at_call 94
          with_reducible refine (HC.out _ HKX.out).mono ?_
          rintro e w5 ⟨u1, u2, rfl, hs5⟩
          have HU1 := qd hs5.hd.read
          have HU2 := qd hs5.tl.hd.read
          have HK5 := qd (show w.grownBy w5 none from grownBy_trans HKX.out hs5.tl.tl.hd)
          obtain ⟨a1, c1, hu1⟩ := own_shape hs5.hd
          obtain ⟨a2, c2, hu2⟩ := own_shape hs5.tl.hd
          rw [cntL_len] at hu1 hu2
          subst hu1 hu2
          clear hs5)
         clear HC HSX
         go_loopw [7, 68] (fun _ i wr => ∃ k : Nat, k ≤ m ∧ i = .int .i64 k ∧ (∀ j : Nat, j < k → (j : Int) ∈ wiresL g) ∧ w5.grownBy wr none) (fun _ i _ => m - (intOf i).toNat)
         case atStart => exact ⟨0, by omega, rfl, fun j h => absurd h (by omega), grownBy_refl _ _⟩
         case round =>
          obtain ⟨k, hk, rfl, hall2, hg2⟩ := hrel
          have HA2 := qd hall2; have HG := qd hg2; have HKF := qd (grownBy_trans HK5.out hg2)
          clear hall2 hg2
          by_cases hlt : k < m
          ·obtain ⟨b1, o1, rfl⟩ := IntsV.addr HU1.out (by rw [cntL_len]; omega)
           obtain ⟨b2, o2, rfl⟩ := IntsV.addr HU2.out (by rw [cntL_len]; omega)
           have hc1 := (HU1.out.carry HG.out).cellN (i := k) (by rw [cntL_len]; exact hlt)
           have hc2 := (HU2.out.carry HG.out).cellN (i := k) (by rw [cntL_len]; exact hlt)
           rw [cntL_at hlt] at hc1 hc2
           have hus := used_cnt g k
           have l1 := List.count_le_length (a := (k : Int)) (l := fromL g)
           have l2 := List.count_le_length (a := (k : Int)) (l := toL g)
           have hlf := HLF.out
           generalize (fromL g).count (k : Int) = q1 at *
           generalize (toL g).count (k : Int) = q2 at *
           obtain ⟨hw1, hw2⟩ := two_small l1 l2 hlf.1 hlf.2
           by_cases hz : (q1 : Int) + (q2 : Int) = 0
           ·have HF := qd (range_bad g hlt (fun h => hus.1 h hz))
            clear hus l1 l2 hlf
            have hzb : (((q1 : Int) + (q2 : Int)) == 0) = true := by rw [hz]; rfl
            go_wp2
            go_quiet (fail)
            go_wp2
            go_ret
            exact ⟨by rw [HALL.out, Bool.true_and, HF.out]; rfl, ⟨HKF.out.os, HKF.out.tape, HKF.out.output, HKF.out.size, HKF.out.block⟩⟩
           ·have HN := qd (hus.2 hz)
            clear hus l1 l2 hlf
            have hzb : (((q1 : Int) + (q2 : Int)) == 0) = false := beq_eq_false_iff_ne.2 hz
            go_wp2
            go_quiet (fail)
            go_wp2
            go_roundw
            case rel => exact ⟨k + 1, by omega, by go_num, fun j hj => by
             by_cases hjk : j = k
             ·rw [hjk]; exact HN.out
             ·exact HA2.out j (by omega), ⟨HG.out.os, HG.out.tape, HG.out.output, HG.out.size, HG.out.block⟩⟩
            case measure => simp [intOf]; omega
          ·have hkm : k = m := by omega
           subst hkm
           have HT := qd (show ((List.range k).all fun w : Nat => decide ((w : Int) ∈ wiresL g)) = true from by
            rw [List.all_eq_true]
            intro j hj
            exact decide_eq_true (HA2.out j (List.mem_range.1 hj)))
           go_wp2
           go_ret
           exact ⟨by rw [HALL.out, Bool.true_and, HT.out]; rfl, HKF.out⟩
    ·have b2 : (12 : Int) < (g.o.length : Int) := by omega
     rw [decide_eq_false a2, Bool.false_and]
     clear HCT HE HI HO h1 hn a0 a1 a2
     generalize g.es.length = m0 at *
     generalize g.i.length = m1 at *
     generalize g.o.length = m2 at *
     generalize g.n = n at *
     go_enter Tryz.func52, Tryz.ntmps52
     go_wp2_with (first
      |(go_at_call 91; with_reducible refine (HW.out _).mono ?_; rintro e w3 ⟨rfl, rfl⟩))
     go_ret
     exact ⟨rfl, HK0.out⟩
   ·have b1 : (12 : Int) < (g.i.length : Int) := by omega
    rw [decide_eq_false a1, Bool.false_and]
    clear HCT HE HI HO h1 hn a0 a1
    generalize g.es.length = m0 at *
    generalize g.i.length = m1 at *
    generalize g.o.length = m2 at *
    generalize g.n = n at *
    go_enter Tryz.func52, Tryz.ntmps52
    go_wp2_with (first
     |(go_at_call 91; with_reducible refine (HW.out _).mono ?_; rintro e w3 ⟨rfl, rfl⟩))
    go_ret
    exact ⟨rfl, HK0.out⟩
  ·have b0 : (60 : Int) < (g.es.length : Int) := by omega
   rw [decide_eq_false a0, Bool.false_and]
   clear HCT HE HI HO h1 hn a0
   generalize g.es.length = m0 at *
   generalize g.i.length = m1 at *
   generalize g.o.length = m2 at *
   generalize g.n = n at *
   go_enter Tryz.func52, Tryz.ntmps52
   go_wp2_with (first
    |(go_at_call 91; with_reducible refine (HW.out _).mono ?_; rintro e w3 ⟨rfl, rfl⟩))
   go_ret
   exact ⟨rfl, HK0.out⟩
set_option maxHeartbeats 1000000 in
theorem toEdge_any (k v : Int) (iv ov : Value) (is os : List Int) (w : World) (hi : IntsV w iv is) (ho : IntsV w ov os) (l1 : is.length ≤ 2000000) (l2 : os.length ≤ 2000000) :
 Calls Tryz.prog 64 #[.agg #[.int .i64 k, .int .i64 v, iv, ov]] w fun e w' => ∃ u1 u2, e = .returned (.agg #[.int .i64 k, .int .i64 v, u1, u2]) ∧ Sep w' [OI u1 is, OI u2 os, KeepA w] := by
 have HG := qd fun W (h : w.grownBy W none) => toIntS_any iv is W (hi.carry h) l1
 have HO := qd fun W (h : w.grownBy W none) => toIntS_any ov os W (ho.carry h) l2
 obtain ⟨a1, c1, rfl⟩ := hi.shape
 obtain ⟨a2, c2, rfl⟩ := ho.shape
 generalize is.length = n1 at *
 generalize os.length = n2 at *
 clear hi ho
 have hs0 := (((Sep.start w).box #[.int .i64 k, .int .i64 v, .slice a1 n1 c1, .slice a2 n2 c2] 97).box #[.int .i64 0, .int .i64 0, .slice none 0 0, .slice none 0 0] 104).box #[.int .i64 k, .int .i64 v, .slice none 0 0, .slice none 0 0] 104
 have e1 : (w.alloc (.cells #[.int .i64 k, .int .i64 v, .slice a1 n1 c1, .slice a2 n2 c2] 97)).heap.size = w.heap.size + 1 := by simp
 have e2 : ((w.alloc (.cells #[.int .i64 k, .int .i64 v, .slice a1 n1 c1, .slice a2 n2 c2] 97)).alloc (.cells #[.int .i64 0, .int .i64 0, .slice none 0 0, .slice none 0 0] 104)).heap.size = w.heap.size + 2 := by simp
 rw [e1, e2] at hs0
 have HS0 := qd hs0
 have HK0 := qd (show w.grownBy _ none from hs0.tl.tl.tl.hd)
 clear hs0 e1 e2
 go_enter Tryz.func64, Tryz.ntmps64
 go_wp2_with (first
  |(go_at_call 34
    with_reducible refine (HG.out _ HK0.out).mono ?_
    rintro e w4 ⟨g, c, rfl, hsg⟩
    have hs1 := (HS0.out.graft1 hsg OI_own).s2
    obtain ⟨x0, x1, x2, x3, y0, y1, y2, y3⟩ := bq4 hs1.hd
    have hs2 := hs1.setB 2 (.slice (some ⟨g, 0, none⟩) n1 c)
    obtain ⟨z0, z1, z2, z3, _⟩ := bq4 hs2.tl.tl.tl.hd
    have HS2 := qd hs2
    have HK2 := qd (show w.grownBy _ none from hs2.tl.tl.tl.tl.hd)
    clear hsg hs1 hs2)
  |(go_at_call 34
    with_reducible refine (HO.out _ HK2.out).mono ?_
    rintro e w6 ⟨g2, c3, rfl, hsg⟩
    have hs1 := (HS2.out.graft1 hsg OI_own).s2
    obtain ⟨x0, x1, x2, x3, y0, y1, y2, y3⟩ := bq4 hs1.hd
    have hs2 := hs1.setB 3 (.slice (some ⟨g2, 0, none⟩) n2 c3)
    obtain ⟨z0, z1, z2, z3, _⟩ := bq4 hs2.hd
    have hs3 := hs2.s4
    obtain ⟨r0, r1, r2, r3, q0, q1, q2, q3⟩ := bq4 hs3.hd
    have hs4 := (((hs3.setB 0 (.int .i64 k)).setB 1 (.int .i64 v)).setB 2 (.slice (some ⟨g, 0, none⟩) n1 c)).setB 3 (.slice (some ⟨g2, 0, none⟩) n2 c3)
    obtain ⟨k0, k1, k2, k3, _⟩ := bq4 hs4.hd
    have HSF := qd (show Sep _ [OI (.slice (some ⟨g, 0, none⟩) n1 c) is, OI (.slice (some ⟨g2, 0, none⟩) n2 c3) os, KeepA w] from (hs4.tl.tl.s2.under (fun h => h.under (fun h => h.tl) (by simp +contextual)) (by simp +contextual)))
    clear hsg hs1 hs2 hs3 hs4))
 refine bodyPost_ret_by (v := .agg #[.int .i64 k, .int .i64 v, .slice (some ⟨g, 0, none⟩) n1 c, .slice (some ⟨g2, 0, none⟩) n2 c3]) ?_ rfl ⟨_, _, rfl, HSF.out⟩
 simp [results, go_sem, *]
theorem Sep.bagTwo {w : World} {X A B : Asrt} {L r : List Asrt} (h : Sep w (X :: A :: B :: Bag L :: r)) : Sep w (X :: Bag (L ++ [A, B]) :: r) := by
 have h1 := Sep.unbag h.s4
 have h2 : Sep w ((L ++ [A, B]) ++ (X :: r)) := Sep.perm (by rw [List.append_assoc]; exact List.Perm.append_left L ((List.Perm.swap A X (B :: r)).trans ((List.Perm.swap B X r).cons A))) h1
 exact (Sep.bag h2).s2
theorem fillX_set {xs : List XE} {n k : Nat} {x : XE} (hl : xs.length = k) (hk : k < n) : (xs ++ List.replicate (n - k) xe0).set k x = (xs ++ [x]) ++ List.replicate (n - (k + 1)) xe0 := by
 rw [List.set_append_right _ _ (by omega), hl, Nat.sub_self, show n - k = (n - (k + 1)) + 1 by omega, List.replicate_succ, List.set_cons_zero, List.append_assoc]
 rfl
theorem eds_take {es : List Ed} {xs : List XE} {x : XE} {k : Nat} (h : eds xs = es.take k) (hk : k < es.length) (hx : x.ed = es.getD k e0) : eds (xs ++ [x]) = es.take (k + 1) := by
 unfold eds at h ⊢
 rw [List.map_append, h, List.take_succ_eq_append_getElem hk, List.map_cons, List.map_nil, hx, List.getD_eq_getElem?_getD, List.getElem?_eq_getElem hk]
 rfl
set_option maxHeartbeats 2000000 in
theorem toEdgeS_any (v : Value) (es : List Ed) (w : World) (hv : RdE argEdE w v es) (hl : es.length ≤ 2000000) (hle : ∀ e ∈ es, e.i.length ≤ 2000000 ∧ e.o.length ≤ 2000000) :
 Calls Tryz.prog 33 #[v] w fun e w' => ∃ g c xs, e = .returned (.slice (some ⟨g, 0, none⟩) es.length c) ∧ eds xs = es ∧ Sep w' [OE (.slice (some ⟨g, 0, none⟩) es.length c) xs, KeepA w] := by
 obtain ⟨i0, hi, hz0, hz1, hz2⟩ := info_parts info_edge
 have HI := qd hi; have HZ0 := qd hz0; have HZ1 := qd hz1; have HZ2 := qd hz2
 have HV := qd hv; have HLE := qd hle
 obtain ⟨a, cap, rfl⟩ := hv.shape
 generalize hlen : es.length = n at *
 have HL := qd hlen
 clear hi hz0 hz1 hz2 hv hlen hle
 go_enter Tryz.func33, Tryz.ntmps33
 go_wp2_with (
  at_make
  refine wpList_make_full _ rfl _ _ 36 rfl w.heap.size 104 i0 _ 4 Tryz.underlying36 HI.out HZ0.out HZ1.out _ _ _ _ n rfl rfl rfl rfl (by rw [HZ2.out]; omega) (by unfold maxLen; omega) (Nat.le_refl _) ?_
  intro w1 hown' hgr'
  have hs0 : Sep w1 [OR edgeE (.slice (some ⟨w.heap.size, 0, none⟩) n n) (List.replicate n xe0), KeepA w] := (Sep.start w).newR hgr' (OwnR.made zeroEdge_cells hown')
  have HS := qd hs0
  clear hs0 hown' hgr')
 go_loopw [4] (fun i wr => ∃ (k : Nat) (xs : List XE), k ≤ n ∧ i = .int .i64 k ∧ xs.length = k ∧ eds xs = es.take k ∧ Sep wr [OR edgeE (.slice (some ⟨w.heap.size, 0, none⟩) n n) (xs ++ List.replicate (n - k) xe0), Bag (rowsE xs), KeepA w]) (fun i _ => n - (intOf i).toNat)
 case atStart => exact ⟨0, [], by omega, rfl, rfl, rfl, by simpa [rowsE] using (HS.out.s2.noBag.s3 : Sep _ (OR edgeE _ _ :: Bag [] :: KeepA w :: []))⟩
 case round =>
  obtain ⟨k, xs, hk, rfl, hxl, hxe, hs⟩ := hrel
  have HSX := qd hs; have HXE := qd hxe; have HXL := qd hxl
  clear hs hxe hxl HS
  by_cases hlt : k < n
  ·have hke : k < es.length := by rw [HL.out]; exact hlt
   obtain ⟨b, o, iv, ov, rfl, _, q0, q1, q2, q3, hiv, hov⟩ := (HV.out.carry HSX.out.tl.tl.hd).at rfl rfl hke
   have hlm := HLE.out _ (show es.getD k e0 ∈ es by rw [List.getD_eq_getElem?_getD, List.getElem?_eq_getElem hke]; exact List.getElem_mem _)
   have HT := qd (toEdge_any (es.getD k e0).k (es.getD k e0).v iv ov (es.getD k e0).i (es.getD k e0).o wr hiv hov hlm.1 hlm.2)
   have HTK := qd fun (x : XE) (hx : x.ed = es.getD k e0) => eds_take HXE.out hke hx
   have HFS := qd fun x => @fillX_set xs n k x HXL.out hlt
   have HLL := qd (show n = (xs ++ List.replicate (n - k) xe0).length by rw [List.length_append, List.length_replicate, HXL.out]; omega)
   generalize es.getD k e0 = y at *
   obtain ⟨yk, yv, yi, yo⟩ := y
   simp only at HT q0 q1
   clear hke hiv hov hlm
   go_wp2_with (
    go_at_call 64
    with_reducible refine HT.out.mono ?_
    rintro e w2 ⟨u1, u2, rfl, hsg⟩
    obtain ⟨s1, r1, rfl⟩ := own_shape hsg.hd
    obtain ⟨s2, r2, rfl⟩ := own_shape hsg.tl.hd
    have hs2 := HSX.out.graft2 hsg OI_own OI_own
    have hs3 := hs2.s3
    obtain ⟨f0, f1, f2, f3⟩ := edge_free hs3.hd HLL.out k
    obtain ⟨d0, d1, d2, d3⟩ := edge_cells hs3.hd HLL.out (i := k) (by rw [← HLL.out]; exact hlt)
    have hs4 := hs3.setX HLL.out (by rw [← HLL.out]; exact hlt) ⟨⟨yk, yv, yi, yo⟩, .slice s1 yi.length r1, .slice s2 yo.length r2⟩
    rw [HFS.out] at hs4
    have hs5 := hs4.bagTwo
    rw [← rowsE_snoc xs ⟨⟨yk, yv, yi, yo⟩, .slice s1 yi.length r1, .slice s2 yo.length r2⟩] at hs5
    have HS3 := qd hs5
    clear hsg hs2 hs3 hs4 hs5)
   go_roundw
   case rel => exact ⟨k + 1, xs ++ [⟨⟨yk, yv, yi, yo⟩, .slice s1 yi.length r1, .slice s2 yo.length r2⟩], by omega, by go_num, by rw [List.length_append, HXL.out]; rfl, HTK.out _ rfl, HS3.out⟩
   case measure => simp [intOf]; omega
  ·have hkn : k = n := by omega
   subst hkn
   have hs := HSX.out
   rw [Nat.sub_self, List.replicate_zero, List.append_nil] at hs
   have hxe := HXE.out
   rw [List.take_of_length_le (by rw [HL.out]; exact Nat.le_refl _)] at hxe
   have HF := qd hs.intoBag
   have HXF := qd hxe
   clear hs hxe hlt
   go_wp2
   go_ret
   exact ⟨_, _, xs, rfl, HXF.out, HF.out⟩
theorem OE_own {v : Value} {xs : List XE} : ∀ k, (OE v xs).sees k → (OE v xs).foot k := by
 rintro k ⟨A, hA, hk⟩
 refine ⟨A, hA, ?_⟩
 rcases List.mem_cons.1 hA with rfl | hA
 ·exact hk
 ·obtain ⟨x, _, hx⟩ := List.mem_flatMap.1 hA
  simp only [List.mem_cons, List.not_mem_nil, or_false] at hx
  rcases hx with rfl | rfl <;> exact hk
theorem OE.shape {w : World} {v : Value} {xs : List XE} (h : (OE v xs).holds w) : ∃ a c, v = .slice a xs.length c := OwnR.shape (show OwnR edgeE 0 w v xs from (show Sep w (OR edgeE v xs :: rowsE xs) from h).hd)
theorem eds_len (xs : List XE) : (eds xs).length = xs.length := by simp [eds]
set_option maxHeartbeats 1000000 in
theorem toGraph_any (ev iv ov : Value) (g : Gr) (w : World) (he : RdE argEdE w ev g.es) (hi : IntsV w iv g.i) (ho : IntsV w ov g.o) (l0 : g.es.length ≤ 2000000) (l1 : g.i.length ≤ 2000000) (l2 : g.o.length ≤ 2000000) (hle : ∀ e ∈ g.es, e.i.length ≤ 2000000 ∧ e.o.length ≤ 2000000) :
 Calls Tryz.prog 10 #[grV g.n ev iv ov] w fun e w' => ∃ u0 xs u1 u2, e = .returned (grV g.n u0 u1 u2) ∧ eds xs = g.es ∧ Sep w' [OE u0 xs, OI u1 g.i, OI u2 g.o, KeepA w] := by
 have HE := qd fun W (h : w.grownBy W none) => toEdgeS_any ev g.es W (he.carry h) l0 hle
 have HG := qd fun W (h : w.grownBy W none) => toIntS_any iv g.i W (hi.carry h) l1
 have HO := qd fun W (h : w.grownBy W none) => toIntS_any ov g.o W (ho.carry h) l2
 unfold grV
 obtain ⟨a0, c0, rfl⟩ := he.shape
 obtain ⟨a1, c1, rfl⟩ := hi.shape
 obtain ⟨a2, c2, rfl⟩ := ho.shape
 obtain ⟨k, es, is, os⟩ := g
 simp only at HE HG HO ⊢
 generalize es.length = n0 at *
 generalize is.length = n1 at *
 generalize os.length = n2 at *
 clear he hi ho hle
 have hs0 := (((Sep.start w).box #[.int .i64 k, .slice a0 n0 c0, .slice a1 n1 c1, .slice a2 n2 c2] 25).box #[.int .i64 0, .slice none 0 0, .slice none 0 0, .slice none 0 0] 38).box #[.int .i64 k, .slice none 0 0, .slice none 0 0, .slice none 0 0] 38
 have e1 : (w.alloc (.cells #[.int .i64 k, .slice a0 n0 c0, .slice a1 n1 c1, .slice a2 n2 c2] 25)).heap.size = w.heap.size + 1 := by simp
 have e2 : ((w.alloc (.cells #[.int .i64 k, .slice a0 n0 c0, .slice a1 n1 c1, .slice a2 n2 c2] 25)).alloc (.cells #[.int .i64 0, .slice none 0 0, .slice none 0 0, .slice none 0 0] 38)).heap.size = w.heap.size + 2 := by simp
 rw [e1, e2] at hs0
 have HS0 := qd hs0
 have HK0 := qd (show w.grownBy _ none from hs0.tl.tl.tl.hd)
 clear hs0 e1 e2
 go_enter Tryz.func10, Tryz.ntmps10
 go_wp2_with (first
  |(go_at_call 33
    with_reducible refine (HE.out _ HK0.out).mono ?_
    rintro e w3 ⟨g, c, xs, rfl, hxe, hsg⟩
    have HXE := qd hxe
    have hs1 := (HS0.out.graft1 hsg OE_own).s2
    obtain ⟨x0, x1, x2, x3, y0, y1, y2, y3⟩ := bq4 hs1.hd
    have hs2 := hs1.setB 1 (.slice (some ⟨g, 0, none⟩) n0 c)
    obtain ⟨z0, z1, z2, z3, _⟩ := bq4 hs2.tl.tl.tl.hd
    have HS2 := qd hs2
    have HK2 := qd (show w.grownBy _ none from hs2.tl.tl.tl.tl.hd)
    clear hsg hs1 hs2 hxe)
  |(go_at_call 34
    with_reducible refine (HG.out _ HK2.out).mono ?_
    rintro e w4 ⟨g2, c3, rfl, hsg⟩
    have hs1 := (HS2.out.graft1 hsg OI_own).s2
    obtain ⟨x0, x1, x2, x3, y0, y1, y2, y3⟩ := bq4 hs1.hd
    have hs2 := hs1.setB 2 (.slice (some ⟨g2, 0, none⟩) n1 c3)
    obtain ⟨z0, z1, z2, z3, _⟩ := bq4 hs2.tl.tl.tl.tl.hd
    have HS4 := qd hs2
    have HK4 := qd (show w.grownBy _ none from hs2.tl.tl.tl.tl.tl.hd)
    clear hsg hs1 hs2)
  |(go_at_call 34
    with_reducible refine (HO.out _ HK4.out).mono ?_
    rintro e w6 ⟨g3, c4, rfl, hsg⟩
    have hs1 := (HS4.out.graft1 hsg OI_own).s2
    obtain ⟨x0, x1, x2, x3, y0, y1, y2, y3⟩ := bq4 hs1.hd
    have hs2 := hs1.setB 3 (.slice (some ⟨g3, 0, none⟩) n2 c4)
    obtain ⟨z0, z1, z2, z3, _⟩ := bq4 hs2.hd
    have hs3 := hs2.s5
    obtain ⟨r0, r1, r2, r3, q0, q1, q2, q3⟩ := bq4 hs3.hd
    have hs4 := (((hs3.setB 0 (.int .i64 k)).setB 1 (.slice (some ⟨g, 0, none⟩) n0 c)).setB 2 (.slice (some ⟨g2, 0, none⟩) n1 c3)).setB 3 (.slice (some ⟨g3, 0, none⟩) n2 c4)
    obtain ⟨k0, k1, k2, k3, _⟩ := bq4 hs4.hd
    have HSF := qd (show Sep _ [OE (.slice (some ⟨g, 0, none⟩) n0 c) xs, OI (.slice (some ⟨g2, 0, none⟩) n1 c3) is, OI (.slice (some ⟨g3, 0, none⟩) n2 c4) os, KeepA w] from (hs4.tl.tl.s3.under (fun h => h.s2.under (fun h => h.under (fun h => h.tl) (by simp +contextual)) (by simp +contextual)) (by simp +contextual)))
    clear hsg hs1 hs2 hs3 hs4))
 refine bodyPost_ret_by (v := .agg #[.int .i64 k, .slice (some ⟨g, 0, none⟩) n0 c, .slice (some ⟨g2, 0, none⟩) n1 c3, .slice (some ⟨g3, 0, none⟩) n2 c4]) ?_ rfl ⟨_, xs, _, _, rfl, HXE.out, HSF.out⟩
 simp [results, go_sem, *]
theorem eqEdge_same (k v : Int) (i1 o1 i2 o2 : Value) (is os : List Int) (w : World) (h1 : IntsV w i1 is) (h2 : IntsV w o1 os) (h3 : IntsV w i2 is) (h4 : IntsV w o2 os) (l1 : is.length ≤ 1000000000) (l2 : os.length ≤ 1000000000) :
 Calls Tryz.prog 87 #[.agg #[.int .i64 k, .int .i64 v, i1, o1], .agg #[.int .i64 k, .int .i64 v, i2, o2]] w fun e w' => e = .returned (.bool true) ∧ w.grownBy w' none := by
 have HG := qd fun W (h : w.grownBy W none) => eqIntS_any i1 i2 is is W (h1.carry h) (h3.carry h) l1 l1
 have HO := qd fun W (h : w.grownBy W none) => eqIntS_any o1 o2 os os W (h2.carry h) (h4.carry h) l2 l2
 rw [decide_eq_true rfl] at HG HO
 obtain ⟨a1, c1, rfl⟩ := h1.shape
 obtain ⟨a2, c2, rfl⟩ := h2.shape
 obtain ⟨a3, c3, rfl⟩ := h3.shape
 obtain ⟨a4, c4, rfl⟩ := h4.shape
 generalize is.length = n1 at *
 generalize os.length = n2 at *
 clear h1 h2 h3 h4
 have hs0 := ((Sep.start w).box #[.int .i64 k, .int .i64 v, .slice a1 n1 c1, .slice a2 n2 c2] 104).box #[.int .i64 k, .int .i64 v, .slice a3 n1 c3, .slice a4 n2 c4] 104
 have e1 : (w.alloc (.cells #[.int .i64 k, .int .i64 v, .slice a1 n1 c1, .slice a2 n2 c2] 104)).heap.size = w.heap.size + 1 := by simp
 rw [e1] at hs0
 have HS0 := qd hs0
 have HK0 := qd (show w.grownBy _ none from hs0.tl.tl.hd)
 clear hs0 e1
 go_enter Tryz.func87, Tryz.ntmps87
 go_wp2_with (first
  |(go_at_call 44
    with_reducible refine (HG.out _ HK0.out).mono ?_
    rintro e w4 ⟨rfl, hg⟩
    have hs1 := HS0.out.grown hg
    obtain ⟨x0, x1, x2, x3, _⟩ := bq4 hs1.hd
    obtain ⟨y0, y1, y2, y3, _⟩ := bq4 hs1.tl.hd
    have HK1 := qd (show w.grownBy w4 none from hs1.tl.tl.hd)
    clear hg hs1)
  |(go_at_call 44
    with_reducible refine (HO.out _ HK1.out).mono ?_
    rintro e w6 ⟨rfl, hg⟩
    have HK2 := qd (grownBy_trans HK1.out hg)
    clear hg))
 go_ret
 exact ⟨rfl, HK2.out⟩
set_option maxHeartbeats 2000000 in
theorem eqEdgeS_same (v1 v2 : Value) (es : List Ed) (w : World) (h1 : RdE edgeE w v1 es) (h2 : RdE edgeE w v2 es) (l1 : es.length ≤ 2000000) (hle : ∀ e ∈ es, e.i.length ≤ 1000000000 ∧ e.o.length ≤ 1000000000) :
 Calls Tryz.prog 43 #[v1, v2] w fun e w' => e = .returned (.bool true) ∧ w.grownBy w' none := by
 have H1 := qd h1; have H2 := qd h2; have HLE := qd hle
 obtain ⟨a1, c1, rfl⟩ := h1.shape
 obtain ⟨a2, c2, rfl⟩ := h2.shape
 clear h1 h2 hle
 generalize hlx : es.length = l at *
 have HLX := qd hlx
 clear hlx
 go_enter Tryz.func43, Tryz.ntmps43
 go_wp2
 go_loopw [5] (fun i wr => ∃ k : Nat, k ≤ l ∧ i = .int .i64 k ∧ w.grownBy wr none) (fun i _ => l - (intOf i).toNat)
 case atStart => exact ⟨0, by omega, rfl, grownBy_refl _ _⟩
 case round =>
  obtain ⟨k, hk, rfl, hg⟩ := hrel
  have HG := qd hg
  clear hg
  by_cases hlt : k < l
  ·have hke : k < es.length := by rw [HLX.out]; exact hlt
   have hdr : w.grownBy wr.drew none := ⟨HG.out.os, HG.out.tape, HG.out.output, HG.out.size, HG.out.block⟩
   obtain ⟨b1, o1, i1, t1, rfl, _, p0, p1, p2, p3, hi1, ho1⟩ := (H1.out.carry HG.out).at rfl rfl hke
   obtain ⟨b2, o2, i2, t2, rfl, _, q0, q1, q2, q3, hi2, ho2⟩ := (H2.out.carry HG.out).at rfl rfl hke
   have hlm := HLE.out _ (show es.getD k e0 ∈ es by rw [List.getD_eq_getElem?_getD, List.getElem?_eq_getElem hke]; exact List.getElem_mem _)
   have hdw : wr.grownBy wr.drew none := ⟨rfl, rfl, rfl, Nat.le_refl _, fun _ _ _ => rfl⟩
   have HC := qd (eqEdge_same (es.getD k e0).k (es.getD k e0).v i1 t1 i2 t2 (es.getD k e0).i (es.getD k e0).o wr.drew (hi1.carry hdw) (ho1.carry hdw) (hi2.carry hdw) (ho2.carry hdw) hlm.1 hlm.2)
   have HDR := qd hdr
   obtain ⟨s1, r1, rfl⟩ := hi1.shape
   obtain ⟨s2, r2, rfl⟩ := ho1.shape
   obtain ⟨s3, r3, rfl⟩ := hi2.shape
   obtain ⟨s4, r4, rfl⟩ := ho2.shape
   generalize es.getD k e0 = y at *
   obtain ⟨yk, yv, yi, yo⟩ := y
   simp only at p0 p1 p2 p3 q0 q1 q2 q3 HC
   clear hke hlm hdw hdr hi1 hi2 ho1 ho2
   generalize yi.length = m1 at *
   generalize yo.length = m2 at *
   go_wp2_with fail
   refine wp_region_still_tail 8 (by kernel_rfl) (by kernel_rfl) ?_
   simp only [List.take_succ_cons, List.take_zero, List.drop_succ_cons, List.drop_zero]
   repeat still_step
   refine wpStill_nil ?_
   change wpList _ _ _ _ _ wr.drew
   go_wp2_with (
    go_at_call 87
    with_reducible refine HC.out.mono ?_
    rintro e w2 ⟨rfl, hg⟩
    have HG2 := qd (grownBy_trans HDR.out hg)
    clear hg)
   go_roundw
   case rel => exact ⟨k + 1, by omega, by go_num, HG2.out⟩
   case measure => simp [intOf]; omega
  ·have hkl : k = l := by omega
   subst hkl
   go_wp2
   go_ret
   exact ⟨rfl, HG.out⟩
theorem eqGraph_same (u0 u1 u2 v0 v1 v2 : Value) (g : Gr) (w : World) (h0 : RdE edgeE w u0 g.es) (h1 : IntsV w u1 g.i) (h2 : IntsV w u2 g.o) (k0 : RdE edgeE w v0 g.es) (k1 : IntsV w v1 g.i) (k2 : IntsV w v2 g.o) (l0 : g.es.length ≤ 2000000) (l1 : g.i.length ≤ 1000000000) (l2 : g.o.length ≤ 1000000000) (hle : ∀ e ∈ g.es, e.i.length ≤ 1000000000 ∧ e.o.length ≤ 1000000000) :
 Calls Tryz.prog 14 #[grV g.n u0 u1 u2, grV g.n v0 v1 v2] w fun e w' => e = .returned (.bool true) ∧ w.grownBy w' none := by
 have HE := qd fun W (h : w.grownBy W none) => eqEdgeS_same u0 v0 g.es W (h0.carry h) (k0.carry h) l0 hle
 have HG := qd fun W (h : w.grownBy W none) => eqIntS_any u1 v1 g.i g.i W (h1.carry h) (k1.carry h) l1 l1
 have HO := qd fun W (h : w.grownBy W none) => eqIntS_any u2 v2 g.o g.o W (h2.carry h) (k2.carry h) l2 l2
 rw [decide_eq_true rfl] at HG HO
 unfold grV
 obtain ⟨a0, c0, rfl⟩ := h0.shape
 obtain ⟨a1, c1, rfl⟩ := h1.shape
 obtain ⟨a2, c2, rfl⟩ := h2.shape
 obtain ⟨b0, d0, rfl⟩ := k0.shape
 obtain ⟨b1, d1, rfl⟩ := k1.shape
 obtain ⟨b2, d2, rfl⟩ := k2.shape
 obtain ⟨k, es, is, os⟩ := g
 simp only at HE HG HO ⊢
 clear h0 h1 h2 k0 k1 k2 hle
 generalize es.length = n0 at *
 generalize is.length = n1 at *
 generalize os.length = n2 at *
 have hs0 := ((Sep.start w).box #[.int .i64 k, .slice a0 n0 c0, .slice a1 n1 c1, .slice a2 n2 c2] 38).box #[.int .i64 k, .slice b0 n0 d0, .slice b1 n1 d1, .slice b2 n2 d2] 38
 have e1 : (w.alloc (.cells #[.int .i64 k, .slice a0 n0 c0, .slice a1 n1 c1, .slice a2 n2 c2] 38)).heap.size = w.heap.size + 1 := by simp
 rw [e1] at hs0
 have HS0 := qd hs0
 have HK0 := qd (show w.grownBy _ none from hs0.tl.tl.hd)
 clear hs0 e1
 go_enter Tryz.func14, Tryz.ntmps14
 go_wp2_with (first
  |(go_at_call 43
    with_reducible refine (HE.out _ HK0.out).mono ?_
    rintro e w4 ⟨rfl, hg⟩
    have hs1 := HS0.out.grown hg
    obtain ⟨x0, x1, x2, x3, _⟩ := bq4 hs1.hd
    obtain ⟨y0, y1, y2, y3, _⟩ := bq4 hs1.tl.hd
    have HS1 := qd hs1
    have HK1 := qd (show w.grownBy w4 none from hs1.tl.tl.hd)
    clear hg hs1)
  |(go_at_call 44
    with_reducible refine (HG.out _ HK1.out).mono ?_
    rintro e w5 ⟨rfl, hg⟩
    have hs1 := HS1.out.grown hg
    obtain ⟨x0, x1, x2, x3, _⟩ := bq4 hs1.hd
    obtain ⟨y0, y1, y2, y3, _⟩ := bq4 hs1.tl.hd
    have HK2 := qd (show w.grownBy w5 none from hs1.tl.tl.hd)
    clear hg hs1)
  |(go_at_call 44
    with_reducible refine (HO.out _ HK2.out).mono ?_
    rintro e w6 ⟨rfl, hg⟩
    have HK3 := qd (grownBy_trans HK2.out hg)
    clear hg))
 go_ret
 exact ⟨rfl, HK3.out⟩
end Go.Proofs.YtjagjhchnpmngaaGreat

/-
  Is it a graph, in the program. Conditions: lengths are small.
-/
import Derived.Test.YtjagjhchnpmngaaGreatDoorBa04
import Derived.Test.YtjagjhchnpmngaaGreatDoorBa03
namespace Go.Proofs.YtjagjhchnpmngaaGreatDoor
open Go.RowKit
set_option linter.unusedVariables false
set_option maxRecDepth 100000

theorem cnt_all (n : Nat) (P : List Int) : decide (cntS n P = n) = (List.range n).all fun w : Nat => decide ((w : Int) ∈ P) := by
  unfold cntS
  have h := List.countP_eq_length (l := List.range n) (p := fun w : Nat => decide ((w : Int) ∈ P))
  rw [List.length_range] at h
  by_cases he : List.countP (fun w : Nat => decide ((w : Int) ∈ P)) (List.range n) = n
  · rw [decide_eq_true he]
    symm
    rw [List.all_eq_true]
    exact h.1 he
  · rw [decide_eq_false he]
    symm
    rw [Bool.eq_false_iff]
    intro ha
    exact he (h.2 (List.all_eq_true.1 ha))
theorem seen_nil (m : Nat) : seenL m [] = List.replicate m false := by
  apply List.ext_getElem (by simp [seenL])
  intro i h1 h2
  simp [seenL]
theorem cnt_nil (m : Nat) : cntS m [] = 0 := by simp [cntS]
theorem rng_nil (n : Int) : rngB n [] = true := rfl
theorem all_take {es : List Ed} {k : Nat} (hk : k < es.length) : (es.take (k + 1)).all edB = ((es.take k).all edB && edB (es.getD k e0)) := by
  rw [List.take_succ_eq_append_getElem hk, List.all_append, List.getD_eq_getElem?_getD, List.getElem?_eq_getElem hk]
  simp
theorem all_bad {es : List Ed} {k : Nat} (hk : k < es.length) (h : edB (es.getD k e0) = false) : es.all edB = false := by
  rw [Bool.eq_false_iff]
  intro ha
  have := List.all_eq_true.1 ha (es.getD k e0) (by rw [List.getD_eq_getElem?_getD, List.getElem?_eq_getElem hk]; exact List.getElem_mem _)
  rw [h] at this
  cases this
set_option maxHeartbeats 8000000 in
theorem isGraph_any (ev iv ov : Value) (g : Gr) (w : World) (he : RdE edgeE w ev g.es) (hi : IntsV w iv g.i) (ho : IntsV w ov g.o) (l0 : g.es.length ≤ 2000000) (l1 : g.i.length ≤ 2000000) (l2 : g.o.length ≤ 2000000) :
    Calls Tryz.prog 50 #[grV g.n ev iv ov] w fun e w' => e = .returned (.bool (grB g)) ∧ w.grownBy w' none := by
  obtain ⟨i0, hbi, hz0, hz1, hz2⟩ := info_parts info_bool
  have HBI := Lib.hid hbi; have HZ0 := Lib.hid hz0; have HZ1 := Lib.hid hz1; have HZ2 := Lib.hid hz2
  clear hbi hz0 hz1 hz2
  have HE := Lib.hid he; have HI := Lib.hid hi; have HO := Lib.hid ho
  have HW := Lib.hid fun W => within_any g.n 0 100 W
  rw [show decide (0 ≤ g.n ∧ g.n ≤ 100) = inB g.n 0 100 from rfl] at HW
  obtain ⟨ea, ec, rfl⟩ := he.shape
  obtain ⟨ia, ic, rfl⟩ := hi.shape
  obtain ⟨oa, oc, rfl⟩ := ho.shape
  have HS0 := Lib.hid ((Sep.start w).box #[.int .i64 g.n, .slice ea g.es.length ec, .slice ia g.i.length ic, .slice oa g.o.length oc] 30)
  have HK0 := Lib.hid (show w.grownBy _ none from HS0.out.tl.hd)
  unfold grV
  clear he hi ho
  have hgr : grB g = (inB g.n 0 100 && (decide (g.es.length ≤ 60) && (decide (g.i.length ≤ 12) && (decide (g.o.length ≤ 12) && (g.es.all edB && (rngB g.n (wiresL g) && (List.range g.n.toNat).all fun w : Nat => decide ((w : Int) ∈ wiresL g))))))) := by
    unfold grB
    simp only [Bool.and_assoc, Bool.decide_and]
  rw [hgr]
  clear hgr
  cases h1 : inB g.n 0 100
  · rw [h1] at HW
    clear h1
    generalize g.es.length = m0 at *
    generalize g.i.length = m1 at *
    generalize g.o.length = m2 at *
    generalize g.n = n at *
    go_enter Tryz.func50, Tryz.ntmps50
    go_wp2_with (go_at_call 77; with_reducible refine (HW.out _).mono ?_; rintro e w3 ⟨rfl, rfl⟩)
    go_ret
    exact ⟨by rw [Bool.false_and]; rfl, HK0.out⟩
  · rw [h1] at HW
    rw [Bool.true_and]
    by_cases a0 : g.es.length ≤ 60
    · have b0 : ¬ (60 : Int) < (g.es.length : Int) := by omega
      rw [decide_eq_true a0, Bool.true_and]
      by_cases a1 : g.i.length ≤ 12
      · have b1 : ¬ (12 : Int) < (g.i.length : Int) := by omega
        rw [decide_eq_true a1, Bool.true_and]
        by_cases a2 : g.o.length ≤ 12
        · have b2 : ¬ (12 : Int) < (g.o.length : Int) := by omega
          rw [decide_eq_true a2, Bool.true_and]
          have hn := inB_iff.1 h1
          obtain ⟨m, hm⟩ := Int.eq_ofNat_of_zero_le hn.1
          have hm100 : m ≤ 100 := by omega
          rw [hm] at HW HS0 HK0 ⊢
          rw [Int.toNat_natCast, ← cnt_all]
          have HWL := Lib.hid (Eq.refl (wiresL g))
          have HLI := Lib.hid a1; have HLO := Lib.hid a2
          have HM := Lib.hid hm
          clear h1 hn hm l0 l1 l2 a1 a2
          obtain ⟨m0, hm0⟩ : ∃ m0, m0 = g.es.length := ⟨_, rfl⟩
          obtain ⟨m1, hm1⟩ : ∃ m1, m1 = g.i.length := ⟨_, rfl⟩
          obtain ⟨m2, hm2⟩ : ∃ m2, m2 = g.o.length := ⟨_, rfl⟩
          rw [← hm0, ← hm1, ← hm2] at HS0 HK0 ⊢
          rw [← hm0] at a0 b0 HE
          rw [← hm1] at b1 HI
          rw [← hm2] at b2 HO
          have HM0 := Lib.hid hm0
          clear hm0 hm1 hm2
          go_enter Tryz.func50, Tryz.ntmps50
          go_wp2_with (go_at_call 77; with_reducible refine (HW.out _).mono ?_; rintro e w3 ⟨rfl, rfl⟩)
          go_loopw [4, 33] (fun _ i wr => ∃ k : Nat, k ≤ m0 ∧ i = .int .i64 k ∧ (g.es.take k).all edB = true ∧ Sep wr [BxA w.heap.size #[.int .i64 m, .slice ea m0 ec, .slice ia m1 ic, .slice oa m2 oc] 30, KeepA w]) (fun _ i _ => m0 - (intOf i).toNat)
          case atStart => exact ⟨0, by omega, rfl, rfl, HS0.out⟩
          case round =>
            obtain ⟨k, hk, rfl, hall, hs⟩ := hrel
            have HSX := Lib.hid hs; have HAL := Lib.hid hall
            obtain ⟨x0, x1, x2, x3, _⟩ := bq4 hs.hd
            clear hs hall HS0 HK0
            by_cases hlt : k < m0
            · have hke : k < g.es.length := by rw [← HM0.out]; exact hlt
              obtain ⟨b, o, iv, ov, rfl, hat⟩ := HE.out.atK rfl rfl hke
              obtain ⟨⟨q0, q1, q2, q3⟩, hiv, hov⟩ := hat wr HSX.out.tl.hd
              have HIE := Lib.hid fun W (h : wr.grownBy W none) => isEdge_any (g.es.getD k e0).k (g.es.getD k e0).v iv ov (g.es.getD k e0).i (g.es.getD k e0).o W (hiv.carry h) (hov.carry h)
              have HTK := Lib.hid (all_take hke)
              have HBD := Lib.hid fun h => all_bad hke h
              obtain ⟨s1, r1, rfl⟩ := hiv.shape
              obtain ⟨s2, r2, rfl⟩ := hov.shape
              rw [show (⟨(g.es.getD k e0).k, (g.es.getD k e0).v, (g.es.getD k e0).i, (g.es.getD k e0).o⟩ : Ed) = g.es.getD k e0 from rfl] at HIE
              have HGR := Lib.hid (gr1 wr (.cells #[.int .i64 (g.es.getD k e0).k, .int .i64 (g.es.getD k e0).v, .slice s1 (g.es.getD k e0).i.length r1, .slice s2 (g.es.getD k e0).o.length r2] 88))
              cases hbe : edB (g.es.getD k e0)
              · rw [hbe] at HIE
                have HF := Lib.hid (HBD.out hbe)
                clear hat hke hbe HTK HBD hiv hov
                generalize (g.es.getD k e0).i.length = n1 at *
                generalize (g.es.getD k e0).o.length = n2 at *
                generalize (g.es.getD k e0).k = ek at *
                generalize (g.es.getD k e0).v = ev at *
                go_wp2_with (
                  go_at_call 78
                  with_reducible refine (HIE.out _ HGR.out).mono ?_
                  rintro e w5 ⟨rfl, hg5⟩
                  have HKF := Lib.hid (show w.grownBy w5 none from grownBy_trans HSX.out.tl.hd (grownBy_trans HGR.out hg5))
                  clear hg5)
                go_ret
                exact ⟨by rw [HF.out, Bool.false_and]; rfl, HKF.out⟩
              · rw [hbe] at HIE
                have HNX := Lib.hid (show (g.es.take (k + 1)).all edB = true by rw [HTK.out, HAL.out, hbe]; rfl)
                clear hat hke hbe HTK HBD hiv hov
                generalize (g.es.getD k e0).i.length = n1 at *
                generalize (g.es.getD k e0).o.length = n2 at *
                generalize (g.es.getD k e0).k = ek at *
                generalize (g.es.getD k e0).v = ev at *
                go_wp2_with (
                  go_at_call 78
                  with_reducible refine (HIE.out _ HGR.out).mono ?_
                  rintro e w5 ⟨rfl, hg5⟩
                  have HS5 := Lib.hid (HSX.out.grown (grownBy_trans HGR.out hg5))
                  clear hg5)
                go_roundw
                case rel => exact ⟨k + 1, by omega, by go_num, HNX.out, HS5.out⟩
                case measure => simp [intOf]; omega
            · have hkm : k = m0 := by omega
              subst hkm
              rw [List.take_of_length_le (by rw [← HM0.out]; exact Nat.le_refl _)] at HAL
              clear hlt
              have HLL := Lib.hid fun (q sa : Nat) W (hs : Sep W (Bag (SeenA m w.heap.size q sa (q + 1) (q + 2) (.slice ea k ec) (.slice ia m1 ic) (.slice oa m2 oc) []) :: KeepA w :: [])) =>
                lists_any 80 #[.pointer (some ⟨w.heap.size, 0, none⟩), .pointer (some ⟨q + 1, 0, none⟩), .pointer (some ⟨q, 0, none⟩), .pointer (some ⟨q + 2, 0, none⟩)] (enters_of Tryz.func80 (by kernel_rfl) rfl)
                  (fun P => Bag (SeenA m w.heap.size q sa (q + 1) (q + 2) (.slice ea k ec) (.slice ia m1 ic) (.slice oa m2 oc) P)) (isGraph1_fn m w.heap.size q sa (q + 1) (q + 2) (.slice ea k ec) (.slice ia m1 ic) (.slice oa m2 oc) hm100)
                  m (.slice ea k ec) (.slice ia m1 ic) (.slice oa m2 oc) g w W [] HE.out HI.out HO.out (by have := HM0.out; omega) (by have := HLI.out; omega) (by have := HLO.out; omega) (fun e he => by
                    have := List.all_eq_true.1 HAL.out e he
                    unfold edB at this
                    simp only [Bool.and_eq_true, decide_eq_true_iff] at this
                    have h2 := this.2
                    have hw : (edW e.k).1 ≤ 2 ∧ (edW e.k).2 ≤ 2 := by unfold edW; (repeat' split) <;> simp
                    rw [← h2] at hw
                    simp only at hw
                    omega) hs
              unfold grV at HLL
              have HCE := Lib.hid (show ∀ c : Nat, ((c : Int) == (m : Int)) = decide (c = m) from fun c => by
                by_cases h : c = m
                · rw [decide_eq_true h, h]; simp
                · rw [decide_eq_false h, beq_eq_false_iff_ne]; omega)
              cases hrb : rngB m (wiresL g)
              · have HRB := Lib.hid hrb
                clear hrb
                go_wp2_with (first
                  | (at_make
                     refine wpList_make_full _ rfl _ _ 109 rfl wr.heap.size 4 i0 _ 1 Tryz.underlying109 HBI.out HZ0.out HZ1.out _ _ _ _ m rfl rfl rfl rfl (by rw [HZ2.out]; omega) (by unfold maxLen; omega) (Nat.le_refl _) ?_
                     intro w1 hown' hgr'
                     have hs1 := HSX.out.newR hgr' (OwnR.made (E := boolE) falseCells hown')
                     have hs2 := ((hs1.box #[.slice (some ⟨wr.heap.size, 0, none⟩) m m] 109).box #[.bool true] 4).box #[.int .i64 0] 3
                     rw [show (w1.alloc (.cells #[.slice (some ⟨wr.heap.size, 0, none⟩) m m] 109)).heap.size = w1.heap.size + 1 by simp, show ((w1.alloc (.cells #[.slice (some ⟨wr.heap.size, 0, none⟩) m m] 109)).alloc (.cells #[.bool true] 4)).heap.size = w1.heap.size + 2 by simp] at hs2
                     have hs3 := Sep.bag (l := SeenA m w.heap.size w1.heap.size wr.heap.size (w1.heap.size + 1) (w1.heap.size + 2) (.slice ea k ec) (.slice ia m1 ic) (.slice oa m2 oc) []) (r := [KeepA w]) (by
                       have h := hs2.s2.s4.s4.s5
                       unfold SeenA
                       rw [seen_nil, cnt_nil, rng_nil]
                       exact h)
                     obtain ⟨y0, y1, y2, y3, _⟩ := bq4 hs2.tl.tl.tl.tl.hd
                     have HC := Lib.hid (HLL.out _ _ _ hs3)
                     clear hs1 hs2 hs3 hown' hgr')
                  | (go_at_call 79
                     with_reducible refine HC.out.mono ?_
                     rintro e w6 ⟨rfl, hs6⟩
                     have hs7 := Sep.unbag hs6
                     unfold SeenA at hs7
                     obtain ⟨t0, t1, t2, t3, _⟩ := bq4 hs7.hd
                     have v0 := (bx1' hs7.tl.tl.tl.hd).1
                     have v1 := show w6.cell? ⟨w1.heap.size + 1 + 1, 0, none⟩ = _ from (bx1' hs7.tl.tl.tl.tl.hd).1
                     have HKF := Lib.hid (show w.grownBy w6 none from hs7.tl.tl.tl.tl.tl.hd)
                     rw [HRB.out] at v0
                     clear hs6 hs7))
                go_ret
                exact ⟨(by rw [HAL.out, HRB.out, Bool.true_and, Bool.false_and]; rfl), HKF.out⟩
              · have HRB := Lib.hid hrb
                clear hrb
                obtain ⟨d, hd⟩ : ∃ d, d = decide (cntS m (wiresL g) = m) := ⟨_, rfl⟩
                have HD := Lib.hid hd
                have hce := HCE.out (cntS m (wiresL g))
                rw [← hd] at hce
                clear hd
                go_wp2_with (first
                  | (at_make
                     refine wpList_make_full _ rfl _ _ 109 rfl wr.heap.size 4 i0 _ 1 Tryz.underlying109 HBI.out HZ0.out HZ1.out _ _ _ _ m rfl rfl rfl rfl (by rw [HZ2.out]; omega) (by unfold maxLen; omega) (Nat.le_refl _) ?_
                     intro w1 hown' hgr'
                     have hs1 := HSX.out.newR hgr' (OwnR.made (E := boolE) falseCells hown')
                     have hs2 := ((hs1.box #[.slice (some ⟨wr.heap.size, 0, none⟩) m m] 109).box #[.bool true] 4).box #[.int .i64 0] 3
                     rw [show (w1.alloc (.cells #[.slice (some ⟨wr.heap.size, 0, none⟩) m m] 109)).heap.size = w1.heap.size + 1 by simp, show ((w1.alloc (.cells #[.slice (some ⟨wr.heap.size, 0, none⟩) m m] 109)).alloc (.cells #[.bool true] 4)).heap.size = w1.heap.size + 2 by simp] at hs2
                     have hs3 := Sep.bag (l := SeenA m w.heap.size w1.heap.size wr.heap.size (w1.heap.size + 1) (w1.heap.size + 2) (.slice ea k ec) (.slice ia m1 ic) (.slice oa m2 oc) []) (r := [KeepA w]) (by
                       have h := hs2.s2.s4.s4.s5
                       unfold SeenA
                       rw [seen_nil, cnt_nil, rng_nil]
                       exact h)
                     obtain ⟨y0, y1, y2, y3, _⟩ := bq4 hs2.tl.tl.tl.tl.hd
                     have HC := Lib.hid (HLL.out _ _ _ hs3)
                     clear hs1 hs2 hs3 hown' hgr')
                  | (go_at_call 79
                     with_reducible refine HC.out.mono ?_
                     rintro e w6 ⟨rfl, hs6⟩
                     have hs7 := Sep.unbag hs6
                     unfold SeenA at hs7
                     obtain ⟨t0, t1, t2, t3, _⟩ := bq4 hs7.hd
                     have v0 := (bx1' hs7.tl.tl.tl.hd).1
                     have v1 := show w6.cell? ⟨w1.heap.size + 1 + 1, 0, none⟩ = _ from (bx1' hs7.tl.tl.tl.tl.hd).1
                     have HKF := Lib.hid (show w.grownBy w6 none from hs7.tl.tl.tl.tl.tl.hd)
                     rw [HRB.out] at v0
                     clear hs6 hs7))
                go_ret
                exact ⟨(by rw [HAL.out, HRB.out, Bool.true_and, Bool.true_and, ← HD.out]; rfl), HKF.out⟩
        · have b2 : (12 : Int) < (g.o.length : Int) := by omega
          rw [decide_eq_false a2, Bool.false_and]
          clear h1 a0 a1 a2
          generalize g.es.length = m0 at *
          generalize g.i.length = m1 at *
          generalize g.o.length = m2 at *
          generalize g.n = n at *
          go_enter Tryz.func50, Tryz.ntmps50
          go_wp2_with (go_at_call 77; with_reducible refine (HW.out _).mono ?_; rintro e w3 ⟨rfl, rfl⟩)
          go_ret
          exact ⟨rfl, HK0.out⟩
      · have b1 : (12 : Int) < (g.i.length : Int) := by omega
        rw [decide_eq_false a1, Bool.false_and]
        clear h1 a0 a1
        generalize g.es.length = m0 at *
        generalize g.i.length = m1 at *
        generalize g.o.length = m2 at *
        generalize g.n = n at *
        go_enter Tryz.func50, Tryz.ntmps50
        go_wp2_with (go_at_call 77; with_reducible refine (HW.out _).mono ?_; rintro e w3 ⟨rfl, rfl⟩)
        go_ret
        exact ⟨rfl, HK0.out⟩
    · have b0 : (60 : Int) < (g.es.length : Int) := by omega
      rw [decide_eq_false a0, Bool.false_and]
      clear h1 a0
      generalize g.es.length = m0 at *
      generalize g.i.length = m1 at *
      generalize g.o.length = m2 at *
      generalize g.n = n at *
      go_enter Tryz.func50, Tryz.ntmps50
      go_wp2_with (go_at_call 77; with_reducible refine (HW.out _).mono ?_; rintro e w3 ⟨rfl, rfl⟩)
      go_ret
      exact ⟨rfl, HK0.out⟩
end Go.Proofs.YtjagjhchnpmngaaGreatDoor

/-
  Is it a graph, in the reference. Conditions: lengths are small.
-/
namespace Go.Proofs.YtjagjhchnpmngaaGreatDoor
open Go.RowKit
set_option linter.unusedVariables false
set_option maxRecDepth 100000

def sEdB (n : Int) (x : Ed) : Bool := edB x && (rngB n x.i && rngB n x.o)
theorem rng_app (n : Int) (A B : List Int) : rngB n (A ++ B) = (rngB n A && rngB n B) := by unfold rngB; rw [List.all_append]
theorem rng_wires (n : Int) (es : List Ed) : (es.all edB && rngB n (wiresE es)) = es.all (sEdB n) := by
  induction es with
  | nil => rfl
  | cons e es ih =>
    rw [List.all_cons, List.all_cons, ← ih, show wiresE (e :: es) = (e.i ++ e.o) ++ wiresE es from rfl, rng_app, rng_app]
    unfold sEdB
    cases edB e <;> cases rngB n e.i <;> cases rngB n e.o <;> simp
theorem grB_spec (g : Gr) : grB g = (inB g.n 0 100 && (decide (g.es.length ≤ 60) && (decide (g.i.length ≤ 12) && (decide (g.o.length ≤ 12) && (rngB g.n g.i && (rngB g.n g.o && (g.es.all (sEdB g.n) && (List.range g.n.toNat).all fun w : Nat => decide ((w : Int) ∈ wiresL g)))))))) := by
  rw [← rng_wires]
  unfold grB
  rw [show wiresL g = g.i ++ (g.o ++ wiresE g.es) from rfl, rng_app, rng_app]
  simp only [Bool.decide_and]
  generalize inB g.n 0 100 = b1
  generalize decide (g.es.length ≤ 60) = b2
  generalize decide (g.i.length ≤ 12) = b3
  generalize decide (g.o.length ≤ 12) = b4
  generalize rngB g.n g.i = b5
  generalize rngB g.n g.o = b6
  generalize g.es.all edB = b7
  generalize rngB g.n (wiresE g.es) = b8
  generalize ((List.range g.n.toNat).all fun w : Nat => decide ((w : Int) ∈ g.i ++ (g.o ++ wiresE g.es))) = b9
  cases b1 <;> cases b2 <;> cases b3 <;> cases b4 <;> cases b5 <;> cases b6 <;> cases b7 <;> cases b8 <;> cases b9 <;> rfl
theorem sall_take {n : Int} {es : List Ed} {k : Nat} (hk : k < es.length) : (es.take (k + 1)).all (sEdB n) = ((es.take k).all (sEdB n) && sEdB n (es.getD k e0)) := by
  rw [List.take_succ_eq_append_getElem hk, List.all_append, List.getD_eq_getElem?_getD, List.getElem?_eq_getElem hk]
  simp
theorem sall_bad {n : Int} {es : List Ed} {k : Nat} (hk : k < es.length) (h : sEdB n (es.getD k e0) = false) : es.all (sEdB n) = false := by
  rw [Bool.eq_false_iff]
  intro ha
  have := List.all_eq_true.1 ha (es.getD k e0) (by rw [List.getD_eq_getElem?_getD, List.getElem?_eq_getElem hk]; exact List.getElem_mem _)
  rw [h] at this
  cases this
/-- A wire is used if it is counted. -/
theorem used_cnt (g : Gr) (w : Nat) : ((w : Int) ∈ wiresL g) ↔ ¬ ((((fromL g).count (w : Int) : Nat) : Int) + (((toL g).count (w : Int) : Nat) : Int) = 0) := by
  rw [mem_wires]
  have h1 := List.count_pos_iff (a := (w : Int)) (l := fromL g)
  have h2 := List.count_pos_iff (a := (w : Int)) (l := toL g)
  constructor
  · rintro (h | h)
    · have := h1.2 h; omega
    · have := h2.2 h; omega
  · intro h
    by_cases a : 0 < (fromL g).count (w : Int)
    · exact Or.inl (h1.1 a)
    · exact Or.inr (h2.1 (by omega))
theorem two_small {q1 q2 a b : Nat} (h1 : q1 ≤ a) (h2 : q2 ≤ b) (ha : a ≤ 1000) (hb : b ≤ 1000) : wrap64 ((q1 : Int) + (q2 : Int)) = (q1 : Int) + (q2 : Int) ∧ IntKind.i64.wrap ((q1 : Int) + (q2 : Int)) = (q1 : Int) + (q2 : Int) :=
  ⟨wrap64_id (by omega) (by omega), wrap_id (by omega) (by omega)⟩
theorem range_bad (g : Gr) {m k : Nat} (hk : k < m) (h : ¬ (k : Int) ∈ wiresL g) : ((List.range m).all fun w : Nat => decide ((w : Int) ∈ wiresL g)) = false := by
  rw [Bool.eq_false_iff]
  intro ha
  exact h (of_decide_eq_true (List.all_eq_true.1 ha k (List.mem_range.2 hk)))
theorem range_good (g : Gr) {m : Nat} (h : ∀ j : Nat, j < m → (j : Int) ∈ wiresL g) : ((List.range m).all fun w : Nat => decide ((w : Int) ∈ wiresL g)) = true := by
  rw [List.all_eq_true]
  intro j hj
  exact decide_eq_true (h j (List.mem_range.1 hj))
theorem edge_small {n : Int} {es : List Ed} (h : es.all (sEdB n) = true) : ∀ e ∈ es, e.i.length ≤ 2 ∧ e.o.length ≤ 2 := by
  intro e he
  have := List.all_eq_true.1 h e he
  unfold sEdB edB at this
  simp only [Bool.and_eq_true, decide_eq_true_iff] at this
  have h2 := this.1.2
  have hw : (edW e.k).1 ≤ 2 ∧ (edW e.k).2 ≤ 2 := by unfold edW; (repeat' split) <;> simp
  rw [← h2] at hw
  exact hw
theorem flat_small (f : Ed → List Int) (es : List Ed) (h : ∀ e ∈ es, (f e).length ≤ 2) : (es.flatMap f).length ≤ 2 * es.length := by
  induction es with
  | nil => simp
  | cons e es ih =>
    have h1 := h e (by simp)
    have h2 := ih fun x hx => h x (by simp [hx])
    rw [List.flatMap_cons, List.length_append, List.length_cons]
    omega
set_option maxHeartbeats 16000000 in
theorem hgValid_any (ev iv ov : Value) (g : Gr) (w : World) (he : RdE edgeE w ev g.es) (hi : IntsV w iv g.i) (ho : IntsV w ov g.o) (l0 : g.es.length ≤ 2000000) (l1 : g.i.length ≤ 2000000) (l2 : g.o.length ≤ 2000000) :
    Calls Tryz.prog 63 #[grV g.n ev iv ov] w fun e w' => e = .returned (.bool (grB g)) ∧ w.grownBy w' none := by
  have HE := Lib.hid he; have HI := Lib.hid hi; have HO := Lib.hid ho
  have HW := Lib.hid fun W => l1In_any g.n 0 100 W
  rw [show decide (0 ≤ g.n ∧ g.n ≤ 100) = inB g.n 0 100 from rfl] at HW
  have HCT := Lib.hid fun W (h : w.grownBy W none) m hm => hgCounts_any ev iv ov g m W (he.carry h) (hi.carry h) (ho.carry h) hm
  obtain ⟨ea, ec, rfl⟩ := he.shape
  obtain ⟨ia, ic, rfl⟩ := hi.shape
  obtain ⟨oa, oc, rfl⟩ := ho.shape
  have HS0 := Lib.hid ((Sep.start w).box #[.int .i64 g.n, .slice ea g.es.length ec, .slice ia g.i.length ic, .slice oa g.o.length oc] 30)
  have HK0 := Lib.hid (show w.grownBy _ none from HS0.out.tl.hd)
  unfold grV at *
  clear he hi ho
  rw [grB_spec]
  cases h1 : inB g.n 0 100
  · rw [h1] at HW
    rw [Bool.false_and]
    clear h1
    clear HCT HE HI HO 
    generalize g.es.length = m0 at *
    generalize g.i.length = m1 at *
    generalize g.o.length = m2 at *
    generalize g.n = n at *
    go_enter Tryz.func63, Tryz.ntmps63
    go_wp2_with (first
      | (go_at_call 34; with_reducible refine (HW.out _).mono ?_; rintro e w3 ⟨rfl, rfl⟩))
    go_ret
    exact ⟨rfl, HK0.out⟩
  · rw [h1] at HW
    rw [Bool.true_and]
    have hn := inB_iff.1 h1
    have hwr : IntKind.i64.wrap (g.n - 1) = g.n - 1 := by rw [IntKind.wrap_i64]; omega
    by_cases a0 : g.es.length ≤ 60
    · have b0 : ¬ (60 : Int) < (g.es.length : Int) := by omega
      rw [decide_eq_true a0, Bool.true_and]
      by_cases a1 : g.i.length ≤ 12
      · have b1 : ¬ (12 : Int) < (g.i.length : Int) := by omega
        rw [decide_eq_true a1, Bool.true_and]
        have HAI := Lib.hid fun W (h : w.grownBy W none) => l1All_rng g.n _ g.i W (HI.out.carry h) (by omega)
        by_cases a2 : g.o.length ≤ 12
        · have b2 : ¬ (12 : Int) < (g.o.length : Int) := by omega
          rw [decide_eq_true a2, Bool.true_and]
          have HAO := Lib.hid fun W (h : w.grownBy W none) => l1All_rng g.n _ g.o W (HO.out.carry h) (by omega)
          cases h5 : rngB g.n g.i
          · rw [h5] at HAI
            rw [Bool.false_and]
            clear HCT HE HI HO h1 h5 hn a0 a1 a2
            generalize g.es.length = m0 at *
            generalize g.i.length = m1 at *
            generalize g.o.length = m2 at *
            generalize g.n = n at *
            go_enter Tryz.func63, Tryz.ntmps63
            go_wp2_with (first
              | (go_at_call 34; with_reducible refine (HW.out _).mono ?_; rintro e w3 ⟨rfl, rfl⟩)
              | (go_at_call 85; with_reducible refine (HAI.out _ HK0.out).mono ?_; rintro e w3 ⟨rfl, rfl⟩))
            go_ret
            exact ⟨rfl, HK0.out⟩
          · rw [h5] at HAI
            rw [Bool.true_and]
            cases h6 : rngB g.n g.o
            · rw [h6] at HAO
              rw [Bool.false_and]
              clear HCT HE HI HO h1 h5 h6 hn a0 a1 a2
              generalize g.es.length = m0 at *
              generalize g.i.length = m1 at *
              generalize g.o.length = m2 at *
              generalize g.n = n at *
              go_enter Tryz.func63, Tryz.ntmps63
              go_wp2_with (first
                | (go_at_call 34; with_reducible refine (HW.out _).mono ?_; rintro e w3 ⟨rfl, rfl⟩)
                | (go_at_call 85; with_reducible refine (HAI.out _ HK0.out).mono ?_; rintro e w3 ⟨rfl, rfl⟩)
                | (go_at_call 85; with_reducible refine (HAO.out _ HK0.out).mono ?_; rintro e w3 ⟨rfl, rfl⟩))
              go_ret
              exact ⟨rfl, HK0.out⟩
            · rw [h6] at HAO
              rw [Bool.true_and]
              obtain ⟨m, hm⟩ := Int.eq_ofNat_of_zero_le hn.1
              have hm100 : m ≤ 100 := by omega
              have HM := Lib.hid hm
              have HLS := Lib.hid (And.intro a0 (And.intro a1 a2))
              have HR5 := Lib.hid h5; have HR6 := Lib.hid h6
              rw [hm] at HW HS0 HK0 HAI HAO hwr ⊢
              rw [Int.toNat_natCast]
              have HEG := Lib.hid fun iv ov x W (h1 : IntsV W iv x.i) (h2 : IntsV W ov x.o) => hgEdge_any (m : Int) iv ov x W h1 h2 (by omega) (by omega)
              clear h1 h5 h6 hn hm l0 l1 l2 a0 a1 a2
              obtain ⟨m0, hm0⟩ : ∃ m0, m0 = g.es.length := ⟨_, rfl⟩
              obtain ⟨m1, hm1⟩ : ∃ m1, m1 = g.i.length := ⟨_, rfl⟩
              obtain ⟨m2, hm2⟩ : ∃ m2, m2 = g.o.length := ⟨_, rfl⟩
              rw [← hm0, ← hm1, ← hm2] at HS0 HK0 HCT ⊢
              rw [← hm0] at b0 HE
              rw [← hm1] at b1 HI HAI
              rw [← hm2] at b2 HO HAO
              rw [HM.out] at HCT
              have HM0 := Lib.hid hm0
              clear hm0 hm1 hm2
              go_enter Tryz.func63, Tryz.ntmps63
              go_wp2_with (first
                | (go_at_call 34; with_reducible refine (HW.out _).mono ?_; rintro e w3 ⟨rfl, rfl⟩)
                | (go_at_call 85; with_reducible refine (HAI.out _ HK0.out).mono ?_; rintro e w3 ⟨rfl, rfl⟩)
                | (go_at_call 85; with_reducible refine (HAO.out _ HK0.out).mono ?_; rintro e w3 ⟨rfl, rfl⟩))
              go_loopw [4, 51] (fun _ i wr => ∃ k : Nat, k ≤ m0 ∧ i = .int .i64 k ∧ (g.es.take k).all (sEdB m) = true ∧ Sep wr [BxA w.heap.size #[.int .i64 m, .slice ea m0 ec, .slice ia m1 ic, .slice oa m2 oc] 30, KeepA w]) (fun _ i _ => m0 - (intOf i).toNat)
              case atStart => exact ⟨0, by omega, rfl, rfl, HS0.out⟩
              case round =>
                obtain ⟨k, hk, rfl, hall, hs⟩ := hrel
                have HSX := Lib.hid hs; have HAL := Lib.hid hall
                obtain ⟨x0, x1, x2, x3, _⟩ := bq4 hs.hd
                clear hs hall HS0 HK0
                by_cases hlt : k < m0
                · have hke : k < g.es.length := by rw [← HM0.out]; exact hlt
                  obtain ⟨b, o, iv, ov, rfl, hat⟩ := HE.out.atK rfl rfl hke
                  obtain ⟨⟨q0, q1, q2, q3⟩, hiv, hov⟩ := hat wr HSX.out.tl.hd
                  have HIE := Lib.hid fun W (h : wr.grownBy W none) => HEG.out iv ov (g.es.getD k e0) W (hiv.carry h) (hov.carry h)
                  have HTK := Lib.hid (sall_take (n := m) hke)
                  have HBD := Lib.hid fun h => sall_bad (n := m) hke h
                  obtain ⟨s1, r1, rfl⟩ := hiv.shape
                  obtain ⟨s2, r2, rfl⟩ := hov.shape
                  have HGR := Lib.hid fun n1 n2 => gr1 wr (.cells #[.int .i64 (g.es.getD k e0).k, .int .i64 (g.es.getD k e0).v, .slice s1 n1 r1, .slice s2 n2 r2] 88)
                  have HAX := Lib.hid fun n1 n2 => (bq4 (HSX.out.al (.cells #[.int .i64 (g.es.getD k e0).k, .int .i64 (g.es.getD k e0).v, .slice s1 n1 r1, .slice s2 n2 r2] 88)).hd).1
                  have hax := fun n1 n2 => HAX.out n1 n2
                  rw [show (edB (g.es.getD k e0) && (rngB m (g.es.getD k e0).i && rngB m (g.es.getD k e0).o)) = sEdB m (g.es.getD k e0) from rfl] at HIE
                  cases hbe : sEdB m (g.es.getD k e0)
                  · rw [hbe] at HIE
                    have HF := Lib.hid (HBD.out hbe)
                    clear hat hke hbe HTK HBD hiv hov
                    generalize (g.es.getD k e0).i.length = n1 at *
                    generalize (g.es.getD k e0).o.length = n2 at *
                    generalize (g.es.getD k e0).k = ek at *
                    generalize (g.es.getD k e0).v = ev at *
                    go_wp2_with (
                      go_at_call 86
                      with_reducible refine (HIE.out _ (HGR.out _ _)).mono ?_
                      rintro e w5 ⟨rfl, hg5⟩
                      have HKF := Lib.hid (show w.grownBy w5 none from grownBy_trans HSX.out.tl.hd (grownBy_trans (HGR.out _ _) hg5))
                      clear hg5)
                    go_ret
                    exact ⟨by rw [HF.out, Bool.false_and]; rfl, HKF.out⟩
                  · rw [hbe] at HIE
                    have HNX := Lib.hid (show (g.es.take (k + 1)).all (sEdB m) = true by rw [HTK.out, HAL.out, hbe]; rfl)
                    clear hat hke hbe HTK HBD hiv hov
                    generalize (g.es.getD k e0).i.length = n1 at *
                    generalize (g.es.getD k e0).o.length = n2 at *
                    generalize (g.es.getD k e0).k = ek at *
                    generalize (g.es.getD k e0).v = ev at *
                    go_wp2_with (
                      go_at_call 86
                      with_reducible refine (HIE.out _ (HGR.out _ _)).mono ?_
                      rintro e w5 ⟨rfl, hg5⟩
                      have HS5 := Lib.hid (HSX.out.grown (grownBy_trans (HGR.out _ _) hg5))
                      clear hg5)
                    go_roundw
                    case rel => exact ⟨k + 1, by omega, by go_num, HNX.out, HS5.out⟩
                    case measure => simp [intOf]; omega
                · have hkm : m0 = k := by omega
                  subst hkm
                  have hal := HAL.out
                  rw [List.take_of_length_le (by rw [← HM0.out]; exact Nat.le_refl _)] at hal
                  have HALL := Lib.hid hal
                  have hsm := edge_small hal
                  have hls := HLS.out
                  have hro : rngB g.n (wiresL g) = true := by
                    have h := rng_wires (m : Int) g.es
                    rw [hal] at h
                    simp only [Bool.and_eq_true] at h
                    rw [show wiresL g = g.i ++ (g.o ++ wiresE g.es) from rfl, rng_app, rng_app, HR5.out, HR6.out, HM.out, h.2]
                    rfl
                  have hfo := flat_small (fun e => e.o) g.es fun e he => (hsm e he).2
                  have hfi := flat_small (fun e => e.i) g.es fun e he => (hsm e he).1
                  have HC := Lib.hid fun W (h : w.grownBy W none) => HCT.out W h m rfl (by omega) (by rw [HM.out] at hro; exact hro) (by rw [HM0.out]; omega) (by omega) (by omega) (by unfold outE; omega) (by unfold inE; omega)
                  have HLF := Lib.hid (show (fromL g).length ≤ 1000 ∧ (toL g).length ≤ 1000 from by unfold fromL toL; rw [List.length_append, List.length_append]; exact ⟨by omega, by omega⟩)
                  clear hal hsm hls hro hfo hfi HAL HAI HAO HEG HLS HR5 HR6 HE HI HO HCT hlt
                  obtain ⟨y0, y1, y2, y3, _⟩ := bq4 HSX.out.hd
                  have HKX := Lib.hid (show w.grownBy wr none from HSX.out.tl.hd)
                  go_wp2_with (
                    go_at_call 87
                    with_reducible refine (HC.out _ HKX.out).mono ?_
                    rintro e w5 ⟨u1, u2, rfl, hs5⟩
                    have HU1 := Lib.hid hs5.hd.read
                    have HU2 := Lib.hid hs5.tl.hd.read
                    have HK5 := Lib.hid (show w.grownBy w5 none from grownBy_trans HKX.out hs5.tl.tl.hd)
                    obtain ⟨a1, c1, hu1⟩ := own_shape hs5.hd
                    obtain ⟨a2, c2, hu2⟩ := own_shape hs5.tl.hd
                    rw [cntL_len] at hu1 hu2
                    subst hu1 hu2
                    clear hs5)
                  clear HC HSX
                  go_loopw [7, 68] (fun _ i wr => ∃ k : Nat, k ≤ m ∧ i = .int .i64 k ∧ (∀ j : Nat, j < k → (j : Int) ∈ wiresL g) ∧ w5.grownBy wr none) (fun _ i _ => m - (intOf i).toNat)
                  case atStart => exact ⟨0, by omega, rfl, fun j h => absurd h (by omega), grownBy_refl _ _⟩
                  case round =>
                    obtain ⟨k, hk, rfl, hall2, hg2⟩ := hrel
                    have HA2 := Lib.hid hall2; have HG := Lib.hid hg2; have HKF := Lib.hid (grownBy_trans HK5.out hg2)
                    clear hall2 hg2
                    by_cases hlt : k < m
                    · obtain ⟨b1, o1, rfl⟩ := IntsV.addr HU1.out (by rw [cntL_len]; omega)
                      obtain ⟨b2, o2, rfl⟩ := IntsV.addr HU2.out (by rw [cntL_len]; omega)
                      have hc1 := (HU1.out.carry HG.out).cellN (i := k) (by rw [cntL_len]; exact hlt)
                      have hc2 := (HU2.out.carry HG.out).cellN (i := k) (by rw [cntL_len]; exact hlt)
                      rw [cntL_at hlt] at hc1 hc2
                      have hus := used_cnt g k
                      have l1 := List.count_le_length (a := (k : Int)) (l := fromL g)
                      have l2 := List.count_le_length (a := (k : Int)) (l := toL g)
                      have hlf := HLF.out
                      generalize (fromL g).count (k : Int) = q1 at *
                      generalize (toL g).count (k : Int) = q2 at *
                      obtain ⟨hw1, hw2⟩ := two_small l1 l2 hlf.1 hlf.2
                      by_cases hz : (q1 : Int) + (q2 : Int) = 0
                      · have HF := Lib.hid (range_bad g hlt (fun h => hus.1 h hz))
                        clear hus l1 l2 hlf
                        have hzb : (((q1 : Int) + (q2 : Int)) == 0) = true := by rw [hz]; rfl
                        go_wp2
                        go_quiet (fail)
                        go_wp2
                        go_ret
                        exact ⟨by rw [HALL.out, Bool.true_and, HF.out]; rfl, ⟨HKF.out.os, HKF.out.tape, HKF.out.output, HKF.out.size, HKF.out.block⟩⟩
                      · have HN := Lib.hid (hus.2 hz)
                        clear hus l1 l2 hlf
                        have hzb : (((q1 : Int) + (q2 : Int)) == 0) = false := beq_eq_false_iff_ne.2 hz
                        go_wp2
                        go_quiet (fail)
                        go_wp2
                        go_roundw
                        case rel => exact ⟨k + 1, by omega, by go_num, fun j hj => by
                          by_cases hjk : j = k
                          · rw [hjk]; exact HN.out
                          · exact HA2.out j (by omega), ⟨HG.out.os, HG.out.tape, HG.out.output, HG.out.size, HG.out.block⟩⟩
                        case measure => simp [intOf]; omega
                    · have hkm : k = m := by omega
                      subst hkm
                      have HT := Lib.hid (show ((List.range k).all fun w : Nat => decide ((w : Int) ∈ wiresL g)) = true from by
                        rw [List.all_eq_true]
                        intro j hj
                        exact decide_eq_true (HA2.out j (List.mem_range.1 hj)))
                      go_wp2
                      go_ret
                      exact ⟨by rw [HALL.out, Bool.true_and, HT.out]; rfl, HKF.out⟩
        · have b2 : (12 : Int) < (g.o.length : Int) := by omega
          rw [decide_eq_false a2, Bool.false_and]
          clear HCT HE HI HO h1 hn a0 a1 a2
          generalize g.es.length = m0 at *
          generalize g.i.length = m1 at *
          generalize g.o.length = m2 at *
          generalize g.n = n at *
          go_enter Tryz.func63, Tryz.ntmps63
          go_wp2_with (first
            | (go_at_call 34; with_reducible refine (HW.out _).mono ?_; rintro e w3 ⟨rfl, rfl⟩))
          go_ret
          exact ⟨rfl, HK0.out⟩
      · have b1 : (12 : Int) < (g.i.length : Int) := by omega
        rw [decide_eq_false a1, Bool.false_and]
        clear HCT HE HI HO h1 hn a0 a1
        generalize g.es.length = m0 at *
        generalize g.i.length = m1 at *
        generalize g.o.length = m2 at *
        generalize g.n = n at *
        go_enter Tryz.func63, Tryz.ntmps63
        go_wp2_with (first
          | (go_at_call 34; with_reducible refine (HW.out _).mono ?_; rintro e w3 ⟨rfl, rfl⟩))
        go_ret
        exact ⟨rfl, HK0.out⟩
    · have b0 : (60 : Int) < (g.es.length : Int) := by omega
      rw [decide_eq_false a0, Bool.false_and]
      clear HCT HE HI HO h1 hn a0
      generalize g.es.length = m0 at *
      generalize g.i.length = m1 at *
      generalize g.o.length = m2 at *
      generalize g.n = n at *
      go_enter Tryz.func63, Tryz.ntmps63
      go_wp2_with (first
        | (go_at_call 34; with_reducible refine (HW.out _).mono ?_; rintro e w3 ⟨rfl, rfl⟩))
      go_ret
      exact ⟨rfl, HK0.out⟩
end Go.Proofs.YtjagjhchnpmngaaGreatDoor

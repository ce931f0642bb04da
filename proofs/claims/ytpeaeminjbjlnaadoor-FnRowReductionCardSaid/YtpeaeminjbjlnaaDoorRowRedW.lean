/-
  The law on row reduction: its walk. Conditions: both arguments read as bytes; the table of small primes holds what its text lays.
-/
import Derived.Test.YtpeaeminjbjlnaaDoorDrawM5
import Derived.Test.YtpeaeminjbjlnaaDoorSpecRR
import Derived.Test.YtpeaeminjbjlnaaDoorMatFn9
import Derived.Test.YtpeaeminjbjlnaaDoorSpecF
import Derived.Test.YtpeaeminjbjlnaaDoorRR
import Derived.Test.YtpeaeminjbjlnaaDoorBig
namespace Go.Proofs.YtpeaeminjbjlnaaDoor
open Go.RowKit
set_option linter.unusedVariables false

theorem nil_mat (w : World) : MatV w nilS [] := ⟨none, 0, rfl, fun h => absurd rfl h⟩
theorem pSame_self (c : Int) (u v : Value) (A : List (List Int)) (w : World) (hu : MatV w u A) (hv : MatV w v A) (l1 : A.length ≤ 1000000) (m1 : ∀ row ∈ A, row.length ≤ 1000000) :
    Calls Tryd.prog 28 #[mxV c u, mxV c v] w fun e w' => e = .returned (.bool true) ∧ w.grownBy w' none := by
  have h := pSame_any c c u v A A w hu hv l1 l1 m1 m1
  rw [show (c == c && A == A) = true by simp] at h
  exact h
theorem matB_of {p n : Nat} {L : List (List Int)} (hf : fldN p = true) (hn : n ≤ 24) (hl : L.length ≤ 24) (hL : RowsOk p n L) : matB p n L = true := by
  unfold matB
  rw [fldB_nat, hf, rowsB_ok.2 hL]
  simp
  omega
theorem mat_one {w : World} {r : Value} {x : List Int} (h : IntsV w r x) : MatV (w.alloc (.cells #[r] 24)) (.slice (some ⟨w.heap.size, 0, none⟩) 1 1) [x] := by
  refine ⟨some ⟨w.heap.size, 0, none⟩, 1, rfl, fun _ => ⟨⟨w.heap.size, 0, none⟩, rfl, rfl, by simp, fun i hi => ?_⟩⟩
  have hi0 : i = 0 := by simp at hi; exact hi
  subst hi0
  exact ⟨r, box_cell w #[r] 24 0, h.carry (grownBy_alloc w _ none)⟩
/-- a box stays -/
theorem box_on {w w' : World} {k : Nat} {o : Obj} (h : w.heap[k]? = some o) (hg : w.grownBy w' none) : w'.heap[k]? = some o := (hg.block k (lt_of_blk h) (by simp)).trans h
theorem box_al {w : World} {k : Nat} {o : Obj} (h : w.heap[k]? = some o) (o' : Obj) : (w.alloc o').heap[k]? = some o := (alloc_heap_old w o' k (lt_of_blk h)).trans h

set_option maxRecDepth 100000 in
set_option maxHeartbeats 4000000 in
theorem fnRowReduction_any (cv mv : Value) (w : World) (hc : CodeRaw w cv) (hm : CodeRaw w mv) (ht : Tab w) : Calls Tryd.prog 4 #[cv, mv] w (Gives (.bool true) w) := by
  have HT := Lib.hid ht
  obtain ⟨a1, l1, c1, rfl, hl1, hx1⟩ := hc
  obtain ⟨a2, l2, c2, rfl, hl2, hx2⟩ := hm
  have HX1 := Lib.hid hx1
  clear ht hx1 hx2
  cases hbig : bigB l1 l2
  case true =>
    go_enter Tryd.func4, Tryd.ntmps4
    go_wp2_with (go_at_call 13; refine (big_any _ _ _ _ _ _ _ hl1 hl2).mono ?_; rintro e w' ⟨rfl, rfl⟩)
    go_ret
    exact ⟨rfl, grownBy_refl _ _⟩
  case false =>
    obtain ⟨b1, b2⟩ := bigB_no hbig
    have HC := Lib.hid (show CodeAt w (.slice a1 l1 c1) from ⟨a1, l1, c1, rfl, by omega, HX1.out⟩)
    clear b1 b2
    go_enter Tryd.func4, Tryd.ntmps4
    go_wp2_with fail
    refine (big_any _ _ _ _ _ _ _ hl1 hl2).mono ?_
    rintro e w' ⟨rfl, rfl⟩
    go_wp2_with fail
    refine (drawRowReduce_any _ _ HC.out).mono ?_
    rintro e w1 ⟨p, cols, o, vs, L, rfl, hp, ho, hl, hll, g1⟩
    have hpb := anyP_bd hp
    have hv := ho.read
    obtain ⟨oa, oc, hoe⟩ := hv.shape
    subst hoe
    have HG1 := Lib.hid g1
    have HV := Lib.hid fun w' (h : w1.grownBy w' none) => hv.carry h
    have HTT := Lib.hid fun w' (h : w1.grownBy w' none) => HT.out.grown (g1.trans h)
    have HL := Lib.hid hl; have HLL := Lib.hid hll
    clear hp ho g1 hv hl hll
    cases hb : matB p cols L
    case false =>
      have HRR := Lib.hid fun w' (h : w1.grownBy w' none) => rowReduce_no p cols _ L w' (HTT.out w' h) (HV.out w' h) (Nat.le_trans HL.out (by decide)) (fun row hrow => Nat.le_trans (HLL.out row hrow) (by decide)) hb
      have HSR := Lib.hid fun w' (h : w1.grownBy w' none) => sRowReduce_no p cols _ L w' (HV.out w' h) (Nat.le_trans HL.out (by decide)) (fun row hrow => Nat.le_trans (HLL.out row hrow) (by decide)) (by omega) (by omega) hb
      have HPZ := Lib.hid fun w' => pSame_self 0 nilS nilS [] w' (nil_mat w') (nil_mat w') (by decide) (by simp)
      unfold mxV nilS at *
      generalize L.length = m at *
      go_wp2_with fail
      have e6 := alloc_heap_new w1 (Bx (.int .i64 cols) (.slice oa m oc))
      with_reducible refine (HRR.out _ (grownBy_alloc _ _ none)).mono ?_
      rintro e w2 ⟨rfl, g2⟩
      have E6 := Lib.hid (box_on e6 g2)
      have HG2 := Lib.hid ((grownBy_alloc w1 _ none).trans g2)
      have A6 := (box_facts (box_on e6 g2)).2.2
      clear e6 g2
      go_wp2_with fail
      with_reducible refine (HSR.out _ (HG2.out.trans ((grownBy_alloc w2 _ none).trans (grownBy_alloc _ _ none)))).mono ?_
      rintro e w3 ⟨rfl, g3⟩
      have z2 := res1 w2 (Bx (.int .i64 0) (.slice none 0 0)) (Bx (.int .i64 0) (.slice none 0 0))
      have F7 := box_on z2.1 g3
      have F8 := Lib.hid (box_on z2.2.1 g3)
      have A7 := (box_facts F7).2.2
      have HG3 := Lib.hid ((HG2.out.trans ((grownBy_alloc w2 _ none).trans (grownBy_alloc _ _ none))).trans g3)
      clear z2 F7 g3 A6
      go_wp2_with fail
      refine (HPZ.out _).mono ?_
      rintro e w4 ⟨rfl, g4⟩
      have A8 := (box_facts (box_on (box_al (box_al F8.out _) _) g4)).1
      have A11 := (box_facts (box_on (res1 w3 (Bx (.int .i64 0) (.slice none 0 0)) (Bx (.int .i64 0) (.slice none 0 0))).2.1 g4)).1
      have HG4 := Lib.hid ((HG3.out.trans ((grownBy_alloc w3 _ none).trans (grownBy_alloc _ _ none))).trans g4)
      clear g4 A7
      go_wp2_with fail
      refine (HPZ.out _).mono ?_
      rintro e w5 ⟨rfl, g5⟩
      have HG5 := Lib.hid (HG4.out.trans g5)
      clear g5 A8 A11
      go_wp2
      go_ret
      exact ⟨rfl, HG1.out.trans HG5.out⟩
    case true =>
      have hfb : fldB p = true := by
        unfold matB at hb
        rw [Bool.and_eq_true] at hb
        exact hb.1
      obtain ⟨h2, h97⟩ := fldB_bd hfb
      obtain ⟨np, rfl⟩ := Int.eq_ofNat_of_zero_le (show 0 ≤ p by omega)
      haveI : NeZero np := ⟨by omega⟩
      obtain ⟨hf, hnp, n, rfl, hn, hm24, hok⟩ := matB_parts hb
      have gE := ge hf hok rfl
      have hmade := rr_made hf hok
      have hback := rr_back hf hok
      have hsum := rr_sum hf hok
      have hzero := fun x hx => rr_zero hf hok (x := x) hx
      have hkr := kernelL_red hf hok
      have H1 := Lib.hid fun w' (h : w1.grownBy w' none) => rowReduce_any np n _ L w' (HTT.out w' h) (HV.out w' h) (Nat.le_trans HL.out (by decide)) (fun row hrow => Nat.le_trans (HLL.out row hrow) (by decide)) hb
      have H2 := Lib.hid fun w' (h : w1.grownBy w' none) => sRowReduce_yes np n _ L w' (HV.out w' h) hb
      have H3 := Lib.hid fun w' (h : w1.grownBy w' none) => rankOf_any np n _ L w' (HTT.out w' h) (HV.out w' h) (Nat.le_trans HL.out (by decide)) (fun row hrow => Nat.le_trans (HLL.out row hrow) (by decide)) hb
      have H4 := Lib.hid fun w' (h : w1.grownBy w' none) => kernelOf_any np n _ L w' (HTT.out w' h) (HV.out w' h) (Nat.le_trans HL.out (by decide)) (fun row hrow => Nat.le_trans (HLL.out row hrow) (by decide)) hb
      have HB := Lib.hid hb
      simp only [Int.toNat_natCast] at H1 H3 H4
      generalize hml : L.length = m at *
      have HML := Lib.hid hml
      generalize hR : (redTo (np : Int) L (idL m) n).R = R at *
      generalize hT : (redTo (np : Int) L (idL m) n).T = T at *
      generalize hK : kernelL (np : Int) n L = K at *
      have hrk : rankL np n L ≤ m := by omega
      generalize hrkk : rankL (np : Int) n L = rk at *
      have lR : R.length = m := by rw [← hR]; exact gE.lenR
      have lT : T.length = m := by rw [← hT]; exact gE.lenT
      have oT : RowsOk np m T := by rw [← hT]; exact gE.okT
      have oR : RowsOk np n R := by rw [← hR]; exact gE.okR
      have g2 := ge hf oT lT
      have hbT := matB_of hf hm24 (by omega) oT
      have hbB := matB_of hf hm24 (by rw [g2.lenT]; exact hm24) g2.okT
      have lB := g2.lenT
      generalize hB : (redTo (np : Int) T (idL m) m).T = B at *
      have H5 := Lib.hid fun w' u v (h : w1.grownBy w' none) (hu : MatV w' u T) (hv : MatV w' v L) => mulMatrices_yes np m n u v T L w' (HTT.out w' h) hu hv hbT HB.out (by rw [hml])
      have H6 := Lib.hid fun w' u (h : w1.grownBy w' none) (hu : MatV w' u T) => inverseOf_yes np m u T w' (HTT.out w' h) hu hbT lT hback.1
      have H7 := Lib.hid fun w' u v (h : w1.grownBy w' none) (hu : MatV w' u T) (hv : MatV w' v B) => mulMatrices_yes np m m u v T B w' (HTT.out w' h) hu hv hbT hbB (by rw [lB])
      have H8 := Lib.hid fun w' => identity_any m w' hm24
      simp only [Int.toNat_natCast] at H5 H7
      rw [hmade] at H5
      rw [hback.2] at H7
      rw [hB] at H6
      have PR := Lib.hid fun w' u v (hu : MatV w' u R) (hv : MatV w' v R) => pSame_self n u v R w' hu hv (by omega) (fun row hrow => by rw [(oR row hrow).1]; omega)
      have PT := Lib.hid fun w' u v (hu : MatV w' u T) (hv : MatV w' v T) => pSame_self m u v T w' hu hv (by omega) (fun row hrow => by rw [(oT row hrow).1]; omega)
      have PI := Lib.hid fun w' u v (hu : MatV w' u (idL m)) (hv : MatV w' v (idL m)) => pSame_self m u v (idL m) w' hu hv (by rw [idL_len]; omega) (fun row hrow => by rw [(idL_ok (p := np) (lt_p hf) row hrow).1]; omega)
      have HSUM := Lib.hid hsum; have HZERO := Lib.hid hzero; have HKR := Lib.hid hkr; have HF := Lib.hid hf; have HOK := Lib.hid hok
      have LR := Lib.hid lR; have LT := Lib.hid lT; have LB := Lib.hid lB
      have hMV := Lib.hid fun w' (h : w1.grownBy w' none) => HV.out w' h
      clear gE hmade hback hsum hzero hkr hb hok g2 hbT hbB oT oR lB lR lT hfb hB hR hT hK hrkk hml
      unfold mxV at *
      go_wp2_with fail
      refine (H1.out _ (grownBy_alloc w1 _ none)).mono ?_
      rintro e w2 ⟨v1, v2, rfl, hR, hT, g2⟩
      have s2 := ((grownBy_alloc w1 _ none)).trans g2
      have F6 := Lib.hid (box_on (alloc_heap_new w1 _) g2)
      obtain ⟨ra, rc, he⟩ := hR.shape
      rw [LR.out] at he
      subst he
      obtain ⟨ta, tc, he⟩ := hT.shape
      rw [LT.out] at he
      subst he
      have MR := Lib.hid hR
      have MT := Lib.hid hT
      have HG2 := Lib.hid (s2)
      clear g2 s2 hR hT
      have A6 := (box_facts F6.out).2.2
      go_wp2_with fail
      refine (H2.out _ (HG2.out.trans ((grownBy_alloc w2 _ none).trans (grownBy_alloc _ _ none)))).mono ?_
      rintro e w3 ⟨o1, o2, rfl, hR2, hT2, g3⟩
      have s3 := (((grownBy_alloc w2 _ none).trans (grownBy_alloc _ _ none))).trans g3
      have F6 := Lib.hid (box_on (box_al (box_al F6.out _) _) g3)
      have F7 := Lib.hid (box_on (res1 w2 _ _).1 g3)
      have F8 := Lib.hid (box_on (res1 w2 _ _).2.1 g3)
      have MR := Lib.hid (MR.out.carry s3)
      have MT := Lib.hid (MT.out.carry s3)
      obtain ⟨r2a, r2c, he⟩ := hR2.shape
      rw [LR.out] at he
      subst he
      obtain ⟨t2a, t2c, he⟩ := hT2.shape
      rw [LT.out] at he
      subst he
      have MR2 := Lib.hid hR2
      have MT2 := Lib.hid hT2
      have HG3 := Lib.hid (HG2.out.trans s3)
      clear A6
      clear g3 s3 hR2 hT2
      have A7 := (box_facts F7.out).2.2
      go_wp2_with fail
      refine (PR.out _ _ _ (MR.out.carry ((grownBy_alloc w3 _ none).trans (grownBy_alloc _ _ none))) (MR2.out.carry ((grownBy_alloc w3 _ none).trans (grownBy_alloc _ _ none)))).mono ?_
      rintro e w4 ⟨rfl, g4⟩
      have s4 := (((grownBy_alloc w3 _ none).trans (grownBy_alloc _ _ none))).trans g4
      have F6 := Lib.hid (box_on (box_al (box_al F6.out _) _) g4)
      have F7 := Lib.hid (box_on (box_al (box_al F7.out _) _) g4)
      have F8 := Lib.hid (box_on (box_al (box_al F8.out _) _) g4)
      have F10 := Lib.hid (box_on (res1 w3 _ _).1 g4)
      have F11 := Lib.hid (box_on (res1 w3 _ _).2.1 g4)
      have MR := Lib.hid (MR.out.carry s4)
      have MR2 := Lib.hid (MR2.out.carry s4)
      have MT := Lib.hid (MT.out.carry s4)
      have MT2 := Lib.hid (MT2.out.carry s4)
      have HG4 := Lib.hid (HG3.out.trans s4)
      clear A7
      clear g4 s4
      have A8 := (box_facts F8.out).1
      have A11 := (box_facts F11.out).1
      go_wp2_with fail
      refine (PT.out _ _ _ MT.out MT2.out).mono ?_
      rintro e w5 ⟨rfl, g5⟩
      have s5 := ((grownBy_refl w4 none)).trans g5
      have F6 := Lib.hid (box_on F6.out g5)
      have F7 := Lib.hid (box_on F7.out g5)
      have F8 := Lib.hid (box_on F8.out g5)
      have F10 := Lib.hid (box_on F10.out g5)
      have F11 := Lib.hid (box_on F11.out g5)
      have MR := Lib.hid (MR.out.carry s5)
      have MR2 := Lib.hid (MR2.out.carry s5)
      have MT := Lib.hid (MT.out.carry s5)
      have MT2 := Lib.hid (MT2.out.carry s5)
      have HG5 := Lib.hid (HG4.out.trans s5)
      clear A8 A11
      clear g5 s5
      have A8 := (box_facts F8.out).1
      have A6 := (box_facts F6.out).1
      go_wp2_with fail
      refine (H5.out _ _ _ HG5.out MT.out (hMV.out _ HG5.out)).mono ?_
      rintro e w6 ⟨o13, rfl, hA, g6⟩
      have s6 := ((grownBy_refl w5 none)).trans g6
      have F6 := Lib.hid (box_on F6.out g6)
      have F7 := Lib.hid (box_on F7.out g6)
      have F8 := Lib.hid (box_on F8.out g6)
      have F10 := Lib.hid (box_on F10.out g6)
      have F11 := Lib.hid (box_on F11.out g6)
      have MR := Lib.hid (MR.out.carry s6)
      have MR2 := Lib.hid (MR2.out.carry s6)
      have MT := Lib.hid (MT.out.carry s6)
      have MT2 := Lib.hid (MT2.out.carry s6)
      obtain ⟨aba, abc, he⟩ := hA.shape
      rw [LR.out] at he
      subst he
      have MA := Lib.hid hA
      have HG6 := Lib.hid (HG5.out.trans s6)
      clear A8 A6
      clear g6 s6 hA
      have A8 := (box_facts F8.out).2.1
      go_wp2_with fail
      refine (H6.out _ _ (HG6.out.trans (grownBy_alloc w6 _ none)) (MT.out.carry (grownBy_alloc w6 _ none))).mono ?_
      rintro e w7 ⟨o15, rfl, hB, g7⟩
      have s7 := ((grownBy_alloc w6 _ none)).trans g7
      have F6 := Lib.hid (box_on (box_al F6.out _) g7)
      have F7 := Lib.hid (box_on (box_al F7.out _) g7)
      have F8 := Lib.hid (box_on (box_al F8.out _) g7)
      have F10 := Lib.hid (box_on (box_al F10.out _) g7)
      have F11 := Lib.hid (box_on (box_al F11.out _) g7)
      have F13 := Lib.hid (box_on (alloc_heap_new w6 _) g7)
      have MA := Lib.hid (MA.out.carry s7)
      have MR := Lib.hid (MR.out.carry s7)
      have MR2 := Lib.hid (MR2.out.carry s7)
      have MT := Lib.hid (MT.out.carry s7)
      have MT2 := Lib.hid (MT2.out.carry s7)
      obtain ⟨bba, bbc, he⟩ := hB.shape
      rw [LB.out] at he
      subst he
      have MB := Lib.hid hB
      have HG7 := Lib.hid (HG6.out.trans s7)
      clear A8
      clear g7 s7 hB
      have A8 := (box_facts F8.out).2.1
      go_wp2_with fail
      refine (H7.out _ _ _ (HG7.out.trans (grownBy_alloc w7 _ none)) (MT.out.carry (grownBy_alloc w7 _ none)) (MB.out.carry (grownBy_alloc w7 _ none))).mono ?_
      rintro e w8 ⟨o17, rfl, hI, g8⟩
      have s8 := ((grownBy_alloc w7 _ none)).trans g8
      have F6 := Lib.hid (box_on (box_al F6.out _) g8)
      have F7 := Lib.hid (box_on (box_al F7.out _) g8)
      have F8 := Lib.hid (box_on (box_al F8.out _) g8)
      have F10 := Lib.hid (box_on (box_al F10.out _) g8)
      have F11 := Lib.hid (box_on (box_al F11.out _) g8)
      have F13 := Lib.hid (box_on (box_al F13.out _) g8)
      have F15 := Lib.hid (box_on (alloc_heap_new w7 _) g8)
      have MA := Lib.hid (MA.out.carry s8)
      have MB := Lib.hid (MB.out.carry s8)
      have MR := Lib.hid (MR.out.carry s8)
      have MR2 := Lib.hid (MR2.out.carry s8)
      have MT := Lib.hid (MT.out.carry s8)
      have MT2 := Lib.hid (MT2.out.carry s8)
      obtain ⟨iba, ibc, he⟩ := hI.shape
      rw [idL_len] at he
      subst he
      have MI := Lib.hid hI
      have HG8 := Lib.hid (HG7.out.trans s8)
      clear A8
      clear g8 s8 hI
      have A6 := (box_facts F6.out).2.1
      go_wp2_with fail
      refine (H8.out _).mono ?_
      rintro e w9 ⟨o19, rfl, hU, g9⟩
      have s9 := ((grownBy_alloc w8 _ none)).trans g9
      have F6 := Lib.hid (box_on (box_al F6.out _) g9)
      have F7 := Lib.hid (box_on (box_al F7.out _) g9)
      have F8 := Lib.hid (box_on (box_al F8.out _) g9)
      have F10 := Lib.hid (box_on (box_al F10.out _) g9)
      have F11 := Lib.hid (box_on (box_al F11.out _) g9)
      have F13 := Lib.hid (box_on (box_al F13.out _) g9)
      have F15 := Lib.hid (box_on (box_al F15.out _) g9)
      have F17 := Lib.hid (box_on (alloc_heap_new w8 _) g9)
      have MA := Lib.hid (MA.out.carry s9)
      have MB := Lib.hid (MB.out.carry s9)
      have MI := Lib.hid (MI.out.carry s9)
      have MR := Lib.hid (MR.out.carry s9)
      have MR2 := Lib.hid (MR2.out.carry s9)
      have MT := Lib.hid (MT.out.carry s9)
      have MT2 := Lib.hid (MT2.out.carry s9)
      obtain ⟨uba, ubc, he⟩ := hU.shape
      rw [idL_len] at he
      subst he
      have MU := Lib.hid hU
      have HG9 := Lib.hid (HG8.out.trans s9)
      clear A6
      clear g9 s9 hU
      have A6 := (box_facts F6.out).2.1
      go_wp2_with fail
      refine (H3.out _ (HG9.out.trans (grownBy_alloc w9 _ none))).mono ?_
      rintro e w10 ⟨rfl, g10⟩
      have s10 := ((grownBy_alloc w9 _ none)).trans g10
      have F6 := Lib.hid (box_on (box_al F6.out _) g10)
      have F7 := Lib.hid (box_on (box_al F7.out _) g10)
      have F8 := Lib.hid (box_on (box_al F8.out _) g10)
      have F10 := Lib.hid (box_on (box_al F10.out _) g10)
      have F11 := Lib.hid (box_on (box_al F11.out _) g10)
      have F13 := Lib.hid (box_on (box_al F13.out _) g10)
      have F15 := Lib.hid (box_on (box_al F15.out _) g10)
      have F17 := Lib.hid (box_on (box_al F17.out _) g10)
      have F19 := Lib.hid (box_on (alloc_heap_new w9 _) g10)
      have MA := Lib.hid (MA.out.carry s10)
      have MB := Lib.hid (MB.out.carry s10)
      have MI := Lib.hid (MI.out.carry s10)
      have MR := Lib.hid (MR.out.carry s10)
      have MR2 := Lib.hid (MR2.out.carry s10)
      have MT := Lib.hid (MT.out.carry s10)
      have MT2 := Lib.hid (MT2.out.carry s10)
      have MU := Lib.hid (MU.out.carry s10)
      have HG10 := Lib.hid (HG9.out.trans s10)
      clear A6
      clear g10 s10
      have A6 := (box_facts F6.out).1
      go_wp2_with fail
      refine (H4.out _ HG10.out).mono ?_
      rintro e w11 ⟨ka, kc, rfl, hK, g11⟩
      have s11 := ((grownBy_refl w10 none)).trans g11
      have F6 := Lib.hid (box_on F6.out g11)
      have F7 := Lib.hid (box_on F7.out g11)
      have F8 := Lib.hid (box_on F8.out g11)
      have F10 := Lib.hid (box_on F10.out g11)
      have F11 := Lib.hid (box_on F11.out g11)
      have F13 := Lib.hid (box_on F13.out g11)
      have F15 := Lib.hid (box_on F15.out g11)
      have F17 := Lib.hid (box_on F17.out g11)
      have F19 := Lib.hid (box_on F19.out g11)
      have MA := Lib.hid (MA.out.carry s11)
      have MB := Lib.hid (MB.out.carry s11)
      have MI := Lib.hid (MI.out.carry s11)
      have MR := Lib.hid (MR.out.carry s11)
      have MR2 := Lib.hid (MR2.out.carry s11)
      have MT := Lib.hid (MT.out.carry s11)
      have MT2 := Lib.hid (MT2.out.carry s11)
      have MU := Lib.hid (MU.out.carry s11)
      have MK := Lib.hid hK
      have HG11 := Lib.hid (HG10.out.trans s11)
      clear A6
      clear g11 s11 hK
      have A7 := (box_facts F7.out).1
      have A13 := (box_facts F13.out).1
      go_wp2_with fail
      refine (PR.out _ _ _ MR.out MA.out).mono ?_
      rintro e w12 ⟨rfl, g12⟩
      have s12 := ((grownBy_refl w11 none)).trans g12
      have F6 := Lib.hid (box_on F6.out g12)
      have F7 := Lib.hid (box_on F7.out g12)
      have F8 := Lib.hid (box_on F8.out g12)
      have F10 := Lib.hid (box_on F10.out g12)
      have F11 := Lib.hid (box_on F11.out g12)
      have F13 := Lib.hid (box_on F13.out g12)
      have F15 := Lib.hid (box_on F15.out g12)
      have F17 := Lib.hid (box_on F17.out g12)
      have F19 := Lib.hid (box_on F19.out g12)
      have MA := Lib.hid (MA.out.carry s12)
      have MB := Lib.hid (MB.out.carry s12)
      have MI := Lib.hid (MI.out.carry s12)
      have MK := Lib.hid (MK.out.carry s12)
      have MR := Lib.hid (MR.out.carry s12)
      have MR2 := Lib.hid (MR2.out.carry s12)
      have MT := Lib.hid (MT.out.carry s12)
      have MT2 := Lib.hid (MT2.out.carry s12)
      have MU := Lib.hid (MU.out.carry s12)
      have HG12 := Lib.hid (HG11.out.trans s12)
      clear A7 A13
      clear g12 s12
      have A17 := (box_facts F17.out).1
      have A19 := (box_facts F19.out).1
      have A6 := (box_facts F6.out).1
      go_wp2_with fail
      refine (PI.out _ _ _ MI.out MU.out).mono ?_
      rintro e w13 ⟨rfl, g13⟩
      have s13 := ((grownBy_refl w12 none)).trans g13
      have F6 := Lib.hid (box_on F6.out g13)
      have F7 := Lib.hid (box_on F7.out g13)
      have F8 := Lib.hid (box_on F8.out g13)
      have F10 := Lib.hid (box_on F10.out g13)
      have F11 := Lib.hid (box_on F11.out g13)
      have F13 := Lib.hid (box_on F13.out g13)
      have F15 := Lib.hid (box_on F15.out g13)
      have F17 := Lib.hid (box_on F17.out g13)
      have F19 := Lib.hid (box_on F19.out g13)
      have MA := Lib.hid (MA.out.carry s13)
      have MB := Lib.hid (MB.out.carry s13)
      have MI := Lib.hid (MI.out.carry s13)
      have MK := Lib.hid (MK.out.carry s13)
      have MR := Lib.hid (MR.out.carry s13)
      have MR2 := Lib.hid (MR2.out.carry s13)
      have MT := Lib.hid (MT.out.carry s13)
      have MT2 := Lib.hid (MT2.out.carry s13)
      have MU := Lib.hid (MU.out.carry s13)
      have HG13 := Lib.hid (HG12.out.trans s13)
      clear A17 A19
      clear g13 s13
      clear A6
      have A6 := (box_facts F6.out).1
      have hkl0 := HSUM.out
      have hrows := HKR.out.1
      generalize hkl : K.length = kl at *
      have HKL := Lib.hid hkl
      have hbn : (((rk : Int) + (kl : Int)) != (m : Int)) = false := by rw [bne_eq_false_iff_eq]; omega
      have HROW := Lib.hid hrows
      have bk1 : rk ≤ 24 := by omega
      have bk2 : kl ≤ 24 := by omega
      clear hkl hkl0 hrows
      go_wp2_with fail
      clear A6
      go_loopw [155] (fun i wr => ∃ t : Nat, t ≤ kl ∧ i = .int .i64 t ∧ w13.grownBy wr none) (fun i _ => kl - (intOf i).toNat)
      case atStart => exact ⟨0, by omega, rfl, grownBy_refl _ _⟩
      case round =>
        obtain ⟨t, ht, rfl, hg⟩ := hrel
        have HGR := Lib.hid hg
        by_cases hlt : t < kl
        · have htK : t < K.length := by rw [HKL.out]; exact hlt
          obtain ⟨d, r, c, hae, hs, hd, hcell, hrow⟩ := (MK.out.carry hg).row htK
          subst hae
          obtain ⟨db, dof, _⟩ := d
          simp only at hs hcell
          subst hs
          have hx := HROW.out _ (List.getElem_mem htK)
          have hxz := HZERO.out _ (List.getElem_mem htK)
          rw [hx.1] at hcell hrow
          generalize K[t] = x at *
          have hone : RowsOk np m [x] := fun row hr => by rw [List.mem_singleton.1 hr]; exact hx
          have hmo := mat_one hrow
          have A6 := (box_facts (box_on F6.out hg)).2.1
          have HM := Lib.hid (mulMatrices_yes np m n _ _ [x] L (wr.alloc (.cells #[.slice r m c] 24)) (HTT.out _ ((HG13.out.trans hg).trans (grownBy_alloc _ _ none))) hmo (hMV.out _ ((HG13.out.trans hg).trans (grownBy_alloc _ _ none))) (matB_of HF.out (by omega) (by simp) hone) HB.out (by rw [HML.out]))
          have hco := combTo_ok (x := x) (lt_p HF.out) HOK.out L.length (Nat.le_refl _)
          rw [HML.out] at hco
          have HCO := Lib.hid hco; have HXZ := Lib.hid hxz
          clear hg hrow hx hxz hone hmo hd hco
          unfold mxV at HM
          simp only [Int.toNat_natCast] at HM
          go_wp2_with fail
          refine HM.out.mono ?_
          rintro e wz ⟨oz, rfl, hz, gz⟩
          obtain ⟨za, zc, he⟩ := hz.shape
          subst he
          have hz2 := hz.carry (grownBy_alloc wz (Bx (.int .i64 n) (.slice za (timesL np [x] L n).length zc)) none)
          have hl1 : (timesL np [x] L n).length = 1 := by rw [timesL_len]; rfl
          have h0 : 0 < (timesL np [x] L n).length := by omega
          obtain ⟨d2, r2, c2, hae2, hs2, hd2, hcell2, hrow2⟩ := hz2.row h0
          subst hae2
          obtain ⟨db2, dof2, _⟩ := d2
          simp only at hs2 hcell2
          subst hs2
          have hel : (timesL np [x] L n)[0] = combTo np x L n m := by simp [timesL, HML.out]
          rw [hel, HCO.out.1] at hcell2 hrow2
          rw [hl1] at hcell2 hrow2
          have HROW2 := Lib.hid hrow2
          have HGZ := Lib.hid (((HGR.out.trans (grownBy_alloc wr _ none)).trans gz).trans (grownBy_alloc wz (Bx (.int .i64 n) (.slice (some ⟨db2, dof2, none⟩) 1 zc)) none))
          rw [hl1]
          clear hz hz2 gz hrow2 hel h0 hd2 A6 hcell
          simp only [Nat.add_zero] at hcell2
          generalize combTo (np : Int) x L n m = Z at *
          go_wp2_with fail
          clear hcell2
          go_loop [183] (fun i => ∃ j : Nat, j ≤ n ∧ i = .int .i64 j) (fun i => n - (intOf i).toNat)
          case atStart => exact ⟨0, by omega, rfl⟩
          case round =>
            obtain ⟨j, hj, rfl⟩ := hrel
            by_cases hjn : j < n
            · have hjl : j < Z.length := by rw [HCO.out.1]; exact hjn
              have hrow3 := HROW2.out
              rw [show n = Z.length from HCO.out.1.symm] at hrow3
              obtain ⟨d3, hd3, hs3, _, hc3⟩ := hrow3.at hjl
              subst hd3
              obtain ⟨db3, dof3, _⟩ := d3
              simp only at hs3 hc3
              subst hs3
              rw [HXZ.out _ (List.getElem_mem hjl)] at hc3
              rw [HCO.out.1] at hc3
              clear hrow3 hjl
              go_wp2
              go_round
              case rel => exact ⟨j + 1, by omega, by go_num⟩
              case measure => simp [intOf]; omega
            · go_wp2
              go_roundw
              case rel => exact ⟨t + 1, by omega, by go_num, HGZ.out⟩
              case measure => simp [intOf]; omega
        · go_wp2
          go_ret
          exact ⟨rfl, HG1.out.trans (HG13.out.trans HGR.out)⟩


end Go.Proofs.YtpeaeminjbjlnaaDoor

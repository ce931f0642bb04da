/-
  The entry that draws a fraction and a length. Conditions: the code is well laid.
-/
import Derived.Test.YtpeaeminjbjlnaaDoorMu05
import Derived.Test.YtpeaeminjbjlnaaDoorMj04
import Derived.Test.YtpeaeminjbjlnaaDoorMu03
namespace Go.Proofs.YtpeaeminjbjlnaaDoor
open Go.RowKit
set_option linter.unusedVariables false

/-- a drawn prime, a fraction, a length -/
def DSer (w : World) (e : Ending) (w' : World) : Prop :=
  ∃ (p : Int) (o1 o2 : Value) (f g : List Int) (k : Int), e = .returned (.tuple #[.int .i64 p, frV o1 o2, .int .i64 k]) ∧ -1 ≤ p ∧ p ≤ 101 ∧ f.length ≤ 60 ∧ g.length ≤ 60 ∧ IntsV w' o1 f ∧ IntsV w' o2 g ∧ w.grownBy w' none
set_option maxRecDepth 100000 in
set_option maxHeartbeats 2000000 in
theorem drawSeriesOf_any (cv : Value) (w : World) (hc : CodeAt w cv) : Calls Tryd.prog 34 #[cv] w (DSer w) := by
  have HS := Lib.hid (Sep.startDB hc #[.slice none 0 0, .slice none 0 0] 53)
  obtain ⟨a0, len, cap, rfl, _, _⟩ := hc
  unfold DSer
  go_enter Tryd.func34, Tryd.ntmps34
  go_wp2_with fail
  refine (Bd.anyPrime_any _ _ _ HS.out.hd (by omega)).mono ?_
  rintro e w1 ⟨p, rfl, hp, c1, g1⟩
  obtain ⟨hp0, hp1⟩ := anyP_bd hp
  have hfr := anyFraction_any p _ _ _ (HS.out.draw c1 g1) (by omega) (by omega) (by omega) (by omega)
  unfold DFr frV at hfr
  have HFR := Lib.hid hfr
  clear hp c1 g1 hfr HS
  go_wp2_with (
    go_at_call 129
    with_reducible refine HFR.out.mono ?_
    rintro e w2 ⟨o1, o2, f, g, rfl, ⟨hl1, hl2⟩, hs⟩
    obtain ⟨a1, c1, rfl, _⟩ := own_cap' (show OwnInts 0 w2 o1 f from hs.hd)
    obtain ⟨a2, c2, rfl, _⟩ := own_cap' (show OwnInts 0 w2 o2 g from hs.tl.hd)
    have HS2 := Lib.hid hs.s3
    clear hs)
  refine (Bd.pick_any 30 _ _ _ HS2.out.hd (by omega) (by omega)).mono ?_
  rintro e w3 ⟨x, rfl, ⟨x0, x1⟩, c3, g3⟩
  have HS3 := Lib.hid (HS2.out.draw c3 g3)
  clear c3 g3 HS2 HFR
  go_wp2_with fail
  refine (Bd.among_new [0, 1, 5, 10, 60, 61, -1, x] 3 _ _ w3 HS3.out.hd (by simp) (by simp) (by omega)).mono ?_
  rintro e w4 ⟨k, rfl, hk, c4, g4⟩
  have h4 := (HS3.out.draw c4 g4).s4
  obtain ⟨y0, y1, y2, y3⟩ := bx h4.hd
  have h5 := (h4.setB 0 (.slice a1 f.length c1)).setB 1 (.slice a2 g.length c2)
  obtain ⟨k0, k1, _, _⟩ := bx h5.hd
  have HF := Lib.hid (And.intro h5.tl.tl.hd.read (And.intro h5.tl.tl.tl.hd.read (show w.grownBy _ none from h5.tl.tl.tl.tl.hd)))
  clear c4 g4 h4 h5 hk
  go_wp2_with fail
  refine bodyPost_ret_by (v := .tuple #[.int .i64 p, .agg #[.slice a1 f.length c1, .slice a2 g.length c2], .int .i64 k]) ?_ rfl ⟨p, _, _, f, g, k, rfl, hp0, hp1, hl1, hl2, HF.out.1, HF.out.2.1, HF.out.2.2⟩
  simp [results, go_sem, *]
end Go.Proofs.YtpeaeminjbjlnaaDoor

/-
  The entry that draws two fractions. Conditions: the code is well laid.
-/
namespace Go.Proofs.YtpeaeminjbjlnaaDoor
open Go.RowKit
set_option linter.unusedVariables false

theorem Sep.s8 {w : World} {A C D E F G H I : Asrt} {l : List Asrt} (h : Sep w (A :: C :: D :: E :: F :: G :: H :: I :: l)) : Sep w (I :: A :: C :: D :: E :: F :: G :: H :: l) := (h.under Sep.s7 (by simp +contextual)).s2
/-- a fraction in lowest terms, of whatever size -/
structure FrW (q : Nat) [NeZero q] (n d : List Int) : Prop where
  on : PolyOk q n
  od : PolyOk q d
  dne : d ≠ []
  ln : n.length ≤ 41
  ld : d.length ≤ 41
  last : lastC d = 1
  cop : Cop (vec q n) (vec q d)
theorem FrIs.wide {q : Nat} [NeZero q] {n d : List Int} (I : FrIs q n d) : FrW q n d := ⟨I.on, I.od, I.dne, by have := I.ln; omega, by have := I.ld; omega, I.last, I.cop⟩
theorem FrW.small {q : Nat} [NeZero q] {n d : List Int} (I : FrW q n d) (hf : fldN q = true) (h2 : 2 ≤ q) (h97 : q ≤ 97) (hn : n.length ≤ 21) (hd : d.length ≤ 21) : FrIs q n d := ⟨hf, h2, h97, I.on, I.od, I.dne, hn, hd, I.last, I.cop⟩
theorem mul_wide {q : Nat} [NeZero q] {n d n' d' : List Int} (I : FrIs q n d) (J : FrIs q n' d') : FrW q (mulK q n d n' d').1 (mulK q n d n' d').2 := by
  have hm1 := poMul_len (p := q) n n'
  have hm2 := poMul_len (p := q) d d'
  have i1 := I.ln; have i2 := I.ld; have j1 := J.ln; have j2 := J.ld
  have hne := poMul_ne I.hf I.od J.od I.dne J.dne
  have L := low_of I.hf (poMul_ok n n') (poMul_ok d d') hne (by omega) (by omega)
  have la := L.la
  have lb := L.lb
  exact ⟨L.oka, L.okb, L.bne, by show (lowL (q : Int) (poMulL q n n') (poMulL q d d')).1.length ≤ 41; omega, by show (lowL (q : Int) (poMulL q n n') (poMulL q d d')).2.length ≤ 41; omega, L.last, L.cop⟩
/-- a drawn prime and two fractions -/
def DFM (w : World) (e : Ending) (w' : World) : Prop :=
  ∃ (p : Int) (o1 o2 o3 o4 : Value) (f g f' g' : List Int), e = .returned (.tuple #[.int .i64 p, frV o1 o2, frV o3 o4]) ∧ -1 ≤ p ∧ p ≤ 101 ∧ (f.length ≤ 60 ∧ g.length ≤ 60 ∧ f'.length ≤ 60 ∧ g'.length ≤ 60) ∧ IntsV w' o1 f ∧ IntsV w' o2 g ∧ IntsV w' o3 f' ∧ IntsV w' o4 g' ∧ w.grownBy w' none
set_option maxRecDepth 100000 in
set_option maxHeartbeats 4000000 in
theorem drawFractionAdd_any (cv : Value) (w : World) (hc : CodeAt w cv) : Calls Tryd.prog 146 #[cv] w (DFM w) := by
  have HS := Lib.hid (Sep.startD2 hc #[.slice none 0 0, .slice none 0 0] #[.slice none 0 0, .slice none 0 0] 53 53)
  obtain ⟨a0, len, cap, rfl, _, _⟩ := hc
  unfold DFM
  go_enter Tryd.func146, Tryd.ntmps146
  go_wp2_with fail
  refine (Bd.anyPrime_any _ _ _ HS.out.hd (by omega)).mono ?_
  rintro e w1 ⟨p, rfl, hp, c1, g1⟩
  obtain ⟨hp0, hp1⟩ := anyP_bd hp
  have hfr := anyFraction_any p _ _ _ (HS.out.draw c1 g1) (by omega) (by omega) (by omega) (by omega)
  unfold DFr frV at hfr
  have HFR := Lib.hid hfr
  clear hp c1 g1 hfr HS
  go_upto_region 4 with (first
    | (go_at_call 129
       with_reducible refine HFR.out.mono ?_
       rintro e w2 ⟨o1, o2, f, g, rfl, ⟨hl1, hl2⟩, hs⟩
       obtain ⟨a1, c1, rfl, _⟩ := own_cap' (show OwnInts 0 w2 o1 f from hs.hd)
       obtain ⟨a2, c2, rfl, _⟩ := own_cap' (show OwnInts 0 w2 o2 g from hs.tl.hd)
       have hfr2 := anyFraction_any p _ _ _ hs.s3 (by omega) (by omega) (by omega) (by omega)
       unfold DFr frV at hfr2
       have HFR2 := Lib.hid hfr2
       clear hs hfr2)
    | (go_at_call 129
       with_reducible refine HFR2.out.mono ?_
       rintro e w3 ⟨o1, o2, f', g', rfl, ⟨hl3, hl4⟩, hs⟩
       obtain ⟨b1, d1, rfl, _⟩ := own_cap' (show OwnInts 0 w3 o1 f' from hs.hd)
       obtain ⟨b2, d2, rfl, _⟩ := own_cap' (show OwnInts 0 w3 o2 g' from hs.tl.hd)
       have h3 := ((hs.box #[.slice a1 f.length c1, .slice a2 g.length c2] 53).box #[.slice b1 f'.length d1, .slice b2 g'.length d2] 53)
       simp only [asz] at h3
       have HS3 := Lib.hid (show Sep _ [CA w.heap.size (w.heap.size + 1 + 1) (0 + 4 + 10000 + 10000), BxA w3.heap.size #[.slice a1 f.length c1, .slice a2 g.length c2] 53, OI (.slice a1 f.length c1) f, OI (.slice a2 g.length c2) g, BxA (w3.heap.size + 1) #[.slice b1 f'.length d1, .slice b2 g'.length d2] 53, OI (.slice b1 f'.length d1) f', OI (.slice b2 g'.length d2) g', BxA (w.heap.size + 1) #[.slice none 0 0, .slice none 0 0] 53, BxA w.heap.size #[.slice none 0 0, .slice none 0 0] 53, KeepA w] from h3.s4.s4.s3.s7.s7.s6.s7)
       clear hs h3))
  go_cut [31] from 21 to 31 (fun bv wx => ∃ bb : Bool, bv = .bool bb ∧ (bb = true → fldB p = true ∧ frB p f g = true) ∧ Sep wx [CA w.heap.size (w.heap.size + 1 + 1) (20030), BxA w3.heap.size #[.slice a1 f.length c1, .slice a2 g.length c2] 53, OI (.slice a1 f.length c1) f, OI (.slice a2 g.length c2) g, BxA (w3.heap.size + 1) #[.slice b1 f'.length d1, .slice b2 g'.length d2] 53, OI (.slice b1 f'.length d1) f', OI (.slice b2 g'.length d2) g', BxA (w.heap.size + 1) #[.slice none 0 0, .slice none 0 0] 53, BxA w.heap.size #[.slice none 0 0, .slice none 0 0] 53, KeepA w])
  case first =>
    go_wp2_with fail
    refine (Bd.one_any 8 _ _ _ HS3.out.hd (by omega) (by omega)).mono ?_
    rintro e w4 ⟨bv, rfl, c4, g4⟩
    have HS4 := Lib.hid ((HS3.out.draw c4 g4).more (m := 20030) (by omega))
    clear c4 g4 HS3 HFR HFR2
    cases bv
    · go_wp2_with fail
      go_meet
      exact ⟨false, rfl, fun h => absurd h (by simp), HS4.out⟩
    · have hfd := fun W => fdGood_any p W (by omega) (by omega)
      cases hf : fldB p
      · rw [hf] at hfd
        have HFD := Lib.hid hfd
        clear hfd
        go_wp2_with (go_at_call 206; with_reducible refine (HFD.out _).mono ?_; rintro e w' ⟨rfl, rfl⟩)
        go_meet
        exact ⟨false, rfl, fun h => absurd h (by simp), HS4.out⟩
      · rw [hf] at hfd
        have HFD := Lib.hid hfd
        have hgd := frGood_any p (.slice a1 f.length c1) (.slice a2 g.length c2) f g w4 (by omega) (by omega) HS4.out.tl.tl.hd.read HS4.out.tl.tl.tl.hd.read (by omega) (by omega)
        unfold frV at hgd
        obtain ⟨t0, t1, _, _⟩ := bx HS4.out.tl.hd
        have HFRB := Lib.hid (show frB p f g = true → frB p f g = true from id)
        generalize hfb : frB p f g = fb at *
        have HGD := Lib.hid hgd
        have HFP := Lib.hid hf
        clear hfd hgd hf
        go_wp2_with (first
          | (go_at_call 206; with_reducible refine (HFD.out _).mono ?_; rintro e w' ⟨rfl, rfl⟩)
          | (go_at_call 135
             with_reducible refine HGD.out.mono ?_
             rintro e w5 ⟨rfl, hg⟩
             have HS5 := Lib.hid (HS4.out.grown hg)
             clear hg))
        go_meet
        exact ⟨fb, rfl, fun h => ⟨HFP.out, h⟩, HS5.out⟩
  case rest =>
    obtain ⟨bb, rfl, hbb, hs⟩ := hcut
    have HBB := Lib.hid hbb; have HS6 := Lib.hid hs
    clear hbb hs HS3 HFR HFR2
    go_upto_if 31 with fail
    go_cut [] from 31 to 53 (fun wx => ∃ (n d : List Int) (e1 : Option Addr) (k1 : Nat) (e2 : Option Addr) (k2 : Nat), n.length ≤ 60 ∧ d.length ≤ 60 ∧ Sep wx [BxA w3.heap.size #[.slice e1 n.length k1, .slice e2 d.length k2] 53, OI (.slice e1 n.length k1) n, OI (.slice e2 d.length k2) d, BxA (w3.heap.size + 1) #[.slice b1 f'.length d1, .slice b2 g'.length d2] 53, OI (.slice b1 f'.length d1) f', OI (.slice b2 g'.length d2) g', BxA (w.heap.size + 1) #[.slice none 0 0, .slice none 0 0] 53, BxA w.heap.size #[.slice none 0 0, .slice none 0 0] 53, KeepA w])
    case first =>
      cases bb
      · go_wp2_with fail
        go_meet
        exact ⟨f, g, a1, c1, a2, c2, hl1, hl2, HS6.out.tl⟩
      · obtain ⟨hfl, hfr⟩ := HBB.out rfl
        obtain ⟨q, iq, rfl, I⟩ := frIs_of hfr
        have hq2 := I.q2; have hq97 := I.q97
        have HIW := Lib.hid I.wide
        rw [fldB_nat] at hfl
        have HFL := Lib.hid hfl
        clear hfr I hfl HBB
        go_wp2_with fail
        refine (Bd.pick_any 5 _ _ _ HS6.out.hd (by omega) (by omega)).mono ?_
        rintro e w7 ⟨x, rfl, ⟨z0, z1⟩, c7, g7⟩
        obtain ⟨x, rfl⟩ := Int.eq_ofNat_of_zero_le z0
        have hx4 : x ≤ 4 := by omega
        have HS7 := Lib.hid ((HS6.out.draw c7 g7).more (m := 90000 - 8000 * (x : Int)) (by omega))
        clear c7 g7 HS6
        go_wp2_with fail
        go_loopw [9] (fun kv wr => ∃ (j : Nat) (n d : List Int) (e1 : Option Addr) (k1 : Nat) (e2 : Option Addr) (k2 : Nat), j ≤ 4 ∧ kv = .int .i64 j ∧ FrW q n d ∧ Sep wr [CA w.heap.size (w.heap.size + 1 + 1) (90000 - 8000 * (j : Int)), BxA w3.heap.size #[.slice e1 n.length k1, .slice e2 d.length k2] 53, OI (.slice e1 n.length k1) n, OI (.slice e2 d.length k2) d, BxA (w3.heap.size + 1) #[.slice b1 f'.length d1, .slice b2 g'.length d2] 53, OI (.slice b1 f'.length d1) f', OI (.slice b2 g'.length d2) g', BxA (w.heap.size + 1) #[.slice none 0 0, .slice none 0 0] 53, BxA w.heap.size #[.slice none 0 0, .slice none 0 0] 53, KeepA w]) (fun kv _ => (intOf kv).toNat)
        case atStart => exact ⟨x, f, g, a1, c1, a2, c2, hx4, rfl, HIW.out, HS7.out⟩
        case round =>
          obtain ⟨j, n, d, e1, k1, e2, k2, hj, rfl, hw, hs⟩ := hrel
          have HW := Lib.hid hw; have HS8 := Lib.hid hs
          have ln := hw.ln; have ld := hw.ld
          clear hw hs HS7 HIW
          obtain ⟨t0, t1, _, _⟩ := bx HS8.out.tl.hd
          have hz1 := frSize_any (.slice e1 n.length k1) n wr HS8.out.tl.tl.hd.read (by omega)
          have hz2 := frSize_any (.slice e2 d.length k2) d wr HS8.out.tl.tl.tl.hd.read (by omega)
          by_cases hj0 : j = 0
          · subst hj0
            clear hz1 hz2
            have hp3 : ¬ (0 : Int) < ((0 : Nat) : Int) := by omega
            go_wp2
            go_meet
            exact ⟨n, d, e1, k1, e2, k2, by omega, by omega, HS8.out.tl⟩
          · have hp3 : (0 : Int) < (j : Int) := by omega
            by_cases hd : d.length ≤ 21
            · rw [decide_eq_true hd] at hz2
              have HZ2 := Lib.hid hz2
              clear hz2
              by_cases hn : n.length ≤ 21
              · rw [decide_eq_true hn] at hz1
                have HZ1 := Lib.hid hz1
                have HI := Lib.hid (HW.out.small HFL.out hq2 hq97 hn hd)
                clear hz1
                go_wp2_with (first
                  | (go_at_call 264; with_reducible refine HZ2.out.mono ?_; rintro e w' ⟨rfl, rfl⟩)
                  | (go_at_call 264; with_reducible refine HZ1.out.mono ?_; rintro e w' ⟨rfl, rfl⟩))
                have hf8 := fraction_any q _ _ _ HS8.out.dr HFL.out hq97 (by omega) (by omega)
                unfold DFr frV at hf8
                have HF8 := Lib.hid hf8
                clear hf8
                go_region_law (first
                  | (try go_simp
                     go_at_call 260
                     refine HF8.out.mono ?_
                     rintro e w9 ⟨o1, o2, n2, d2, rfl, ⟨hJ, hm1, hm2⟩, hs⟩
                     obtain ⟨h1, i1, rfl, _⟩ := own_cap' (show OwnInts 0 w9 o1 n2 from hs.hd)
                     obtain ⟨h2, i2, rfl, _⟩ := own_cap' (show OwnInts 0 w9 o2 d2 from hs.tl.hd)
                     obtain ⟨y0, y1, _, _⟩ := bx hs.tl.tl.tl.hd
                     have hfm := frMul_any q _ _ _ _ n d n2 d2 w9 HI.out hJ hs.tl.tl.tl.tl.hd.read hs.tl.tl.tl.tl.tl.hd.read hs.hd.read hs.tl.hd.read
                     unfold frV at hfm
                     have HFM := Lib.hid hfm
                     have HS9 := Lib.hid hs
                     have HWJ := Lib.hid (mul_wide HI.out hJ)
                     clear hs hJ hfm)
                  | (try go_simp
                     go_at_call 150
                     refine HFM.out.mono ?_
                     rintro e w10 ⟨o1, o2, rfl, hk⟩
                     obtain ⟨r1, s1, rfl, _⟩ := own_cap' hk.hd
                     obtain ⟨r2, s2, rfl, _⟩ := own_cap' hk.tl.hd
                     have h10 := (HS9.out.graft2 hk (fun _ h => h) (fun _ h => h)).s6
                     generalize (mulK (q : Int) n d n2 d2).1 = K1 at *
                     generalize (mulK (q : Int) n d n2 d2).2 = K2 at *
                     obtain ⟨p0, p1, p2, p3⟩ := bx h10.hd
                     have h11 := (((h10.setB 0 (.slice r1 K1.length s1)).setB 1 (.slice r2 K2.length s2)).s6.more (m := 90000 - 8000 * ((j - 1 : Nat) : Int)) (by omega))
                     have HS11 := Lib.hid (h11.under (fun h => h.under (fun h => h.under (fun h => h.under (fun h => h.tl.tl.tl.tl) (by simp +contextual)) (by simp +contextual)) (by simp +contextual)) (by simp +contextual))
                     clear hk h10 h11))
                all_goals
                  have w11 : IntKind.i64.wrap ((j : Int) - 1) = ((j - 1 : Nat) : Int) := by rw [IntKind.wrap_i64]; omega
                  go_wp2
                  go_roundw
                  case rel => exact ⟨j - 1, K1, K2, r1, s1, r2, s2, by omega, by go_num, HWJ.out, HS11.out⟩
                  case measure => simp [intOf]; omega
              · rw [decide_eq_false hn] at hz1
                have HZ1 := Lib.hid hz1
                clear hz1
                go_wp2_with (first
                  | (go_at_call 264; with_reducible refine HZ2.out.mono ?_; rintro e w' ⟨rfl, rfl⟩)
                  | (go_at_call 264; with_reducible refine HZ1.out.mono ?_; rintro e w' ⟨rfl, rfl⟩))
                go_meet
                exact ⟨n, d, e1, k1, e2, k2, by omega, by omega, HS8.out.tl⟩
            · rw [decide_eq_false hd] at hz2
              have HZ2 := Lib.hid hz2
              clear hz2 hz1
              go_wp2_with (go_at_call 264; with_reducible refine HZ2.out.mono ?_; rintro e w' ⟨rfl, rfl⟩)
              go_meet
              exact ⟨n, d, e1, k1, e2, k2, by omega, by omega, HS8.out.tl⟩
    case rest =>
      obtain ⟨n, d, e1, k1, e2, k2, m1, m2, hs⟩ := hcut
      have HX := Lib.hid hs
      clear hs HS6 HBB
      obtain ⟨b0, b3, _, _⟩ := bx HX.out.hd
      obtain ⟨b4, b5, _, _⟩ := bx HX.out.tl.tl.tl.hd
      obtain ⟨b6, b7, b8, b9⟩ := bx HX.out.s8.hd
      obtain ⟨u6, u7, u8, u9⟩ := bx HX.out.s7.hd
      have HX1 := Lib.hid ((HX.out.s8.setB 0 (.slice e1 n.length k1)).setB 1 (.slice e2 d.length k2))
      obtain ⟨i0, i1, _, _⟩ := bx HX1.out.tl.hd
      obtain ⟨i2, i3, _, _⟩ := bx HX1.out.tl.tl.tl.tl.hd
      obtain ⟨i6, i7, i8, i9⟩ := bx HX1.out.s8.hd
      have HX2 := Lib.hid ((HX1.out.s8.setB 0 (.slice b1 f'.length d1)).setB 1 (.slice b2 g'.length d2))
      obtain ⟨j0, j1, _, _⟩ := bx HX2.out.tl.tl.hd
      obtain ⟨j2, j3, _, _⟩ := bx HX2.out.tl.tl.tl.tl.tl.hd
      have h12 := HX2.out.dr
      obtain ⟨v0, v1, _, _⟩ := bx h12.hd
      obtain ⟨v2, v3, _, _⟩ := bx h12.tl.hd
      have HF := Lib.hid (And.intro h12.tl.tl.tl.hd.read (And.intro h12.tl.tl.tl.tl.hd.read (And.intro h12.tl.tl.tl.tl.tl.tl.hd.read (And.intro h12.tl.tl.tl.tl.tl.tl.tl.hd.read (show w.grownBy _ none from h12.tl.tl.tl.tl.tl.tl.tl.tl.hd)))))
      clear h12
      go_wp2_with fail
      go_region
      generalize ((((wc.setCell ⟨w.heap.size, 0, none⟩ (.slice e1 n.length k1)).setCell ⟨w.heap.size, 1, none⟩ (.slice e2 d.length k2)).setCell ⟨w.heap.size + 1, 0, none⟩ (.slice b1 f'.length d1)).setCell ⟨w.heap.size + 1, 1, none⟩ (.slice b2 g'.length d2)).drew = w13 at *
      go_wp2_with fail
      refine bodyPost_ret_by (v := .tuple #[.int .i64 p, .agg #[.slice e1 n.length k1, .slice e2 d.length k2], .agg #[.slice b1 f'.length d1, .slice b2 g'.length d2]]) ?_ rfl ⟨p, _, _, _, _, n, d, f', g', rfl, hp0, hp1, ⟨m1, m2, hl3, hl4⟩, HF.out.1, HF.out.2.1, HF.out.2.2.1, HF.out.2.2.2.1, HF.out.2.2.2.2⟩
      simp [results, go_sem, *]
end Go.Proofs.YtpeaeminjbjlnaaDoor

/-
  The entry that draws two fractions to be multiplied. Conditions: the code is well laid.
-/
namespace Go.Proofs.YtpeaeminjbjlnaaDoor
open Go.RowKit
set_option linter.unusedVariables false

set_option maxRecDepth 100000 in
set_option maxHeartbeats 1000000 in
theorem drawFractionMul_any (cv : Value) (w : World) (hc : CodeAt w cv) : Calls Tryd.prog 40 #[cv] w (DFM w) := by
  have hs := (((Sep.start w).box #[.slice none 0 0, .slice none 0 0] 53).box #[.slice none 0 0, .slice none 0 0] 53)
  simp only [asz] at hs
  have hg0 : w.grownBy _ none := hs.tl.tl.hd
  have hd := drawFractionAdd_any cv _ (hc.carry hg0)
  unfold DFM frV at hd
  have HD := Lib.hid hd; have HS := Lib.hid hs
  obtain ⟨a0, len, cap, rfl, _, _⟩ := hc
  unfold DFM frV
  clear hd hs hg0
  go_enter Tryd.func40, Tryd.ntmps40
  go_wp2_with (
    go_at_call 146
    with_reducible refine HD.out.mono ?_
    rintro e w1 ⟨p, o1, o2, o3, o4, f, g, f', g', rfl, hp0, hp1, hl, i1, i2, i3, i4, hg⟩
    obtain ⟨a1, c1, rfl, _⟩ := id i1
    obtain ⟨a2, c2, rfl, _⟩ := id i2
    obtain ⟨a3, c3, rfl, _⟩ := id i3
    obtain ⟨a4, c4, rfl, _⟩ := id i4
    have h1 := HS.out.grown hg
    obtain ⟨x0, x1, x2, x3⟩ := bx h1.hd
    obtain ⟨y0, y1, y2, y3⟩ := bx h1.tl.hd
    have h2 := h1.s2.setB 0 (.slice a1 f.length c1)
    have h3 := h2.setB 1 (.slice a2 g.length c2)
    obtain ⟨z0, z1, z2, z3⟩ := bx h3.tl.hd
    have h4 := h3.s2.setB 0 (.slice a3 f'.length c3)
    have h5 := h4.setB 1 (.slice a4 g'.length c4)
    obtain ⟨k0, k1, _, _⟩ := bx h5.hd
    obtain ⟨k2, k3, _, _⟩ := bx h5.tl.hd
    have KP := fun {v : Value} {zs : List Int} (hi : IntsV w1 v zs) => ints_box (i := 1) (ints_box (i := 0) (ints_box (i := 1) (ints_box (i := 0) hi h1.s2.hd (.slice a1 f.length c1)) h2.hd (.slice a2 g.length c2)) h3.s2.hd (.slice a3 f'.length c3)) h4.hd (.slice a4 g'.length c4)
    have HF := Lib.hid (And.intro (KP i1) (And.intro (KP i2) (And.intro (KP i3) (And.intro (KP i4) (show w.grownBy _ none from h5.tl.tl.hd)))))
    have HP := Lib.hid (And.intro hp0 (And.intro hp1 hl))
    clear i1 i2 i3 i4 hg h1 h2 h3 h4 h5 KP hp0 hp1 hl)
  refine bodyPost_ret_by (v := .tuple #[.int .i64 p, .agg #[.slice a1 f.length c1, .slice a2 g.length c2], .agg #[.slice a3 f'.length c3, .slice a4 g'.length c4]]) ?_ rfl ⟨p, _, _, _, _, f, g, f', g', rfl, HP.out.1, HP.out.2.1, HP.out.2.2, HF.out.1, HF.out.2.1, HF.out.2.2.1, HF.out.2.2.2.1, HF.out.2.2.2.2⟩
  simp [results, go_sem, *]
end Go.Proofs.YtpeaeminjbjlnaaDoor

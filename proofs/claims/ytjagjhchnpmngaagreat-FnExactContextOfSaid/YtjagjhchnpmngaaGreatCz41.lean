/-
 The walk of FnExactContextOf. Conditions: the slices' lengths are those of slices.
-/
import Derived.Test.YtjagjhchnpmngaaGreatCz06
import Derived.Test.YtjagjhchnpmngaaGreatCz05
import Derived.Test.YtjagjhchnpmngaaGreatCz04
import Derived.Test.YtjagjhchnpmngaaGreatCz03
import Derived.Test.YtjagjhchnpmngaaGreatCz02
import Derived.Test.YtjagjhchnpmngaaGreatCz01
import Derived.Test.YtjagjhchnpmngaaGreatCz00
import Derived.Test.YtjagjhchnpmngaaGreatCz40
set_option linter.unusedVariables false
set_option linter.unusedSimpArgs false
set_option maxRecDepth 100000
namespace Go.Proofs.YtjagjhchnpmngaaGreat
open Go.RowKit
noncomputable def ctxO (g : Gr) (s : ByteArray) (x y : List Nd) (W E : List Int) : Gr := if ctxB g s x y W E = true then ctxK g (grT x) W E else gr0
theorem ctx_small (g : Gr) (s : ByteArray) (x y : List Nd) (W E : List Int) : totG (ctxO g s x y W E) ≤ 1048576 := by
 unfold ctxO
 by_cases h : ctxB g s x y W E = true
 ·rw [if_pos h]
  unfold ctxB at h
  rw [Bool.and_eq_true] at h
  exact grB_small h.2
 ·rw [if_neg h]
  decide
theorem MadeR.sh3 {b : Bool} {K : Gr} {w w' : World} {e : Ending} (h : MadeR b K w e w') : Gives3 (if b = true then K else gr0) w (fun v => .tuple #[v, .bool b]) e w' := by
 obtain ⟨v0, xs, v1, v2, rfl, hx, hs⟩ := h
 exact gives3_of rfl hx hs
set_option maxHeartbeats 32000000 in
theorem fnContextOf_any (g : Gr) (s : ByteArray) (x y : List Nd) (W E : List Int) (ev iv ov u v mu mv : Value) (w : World) (he : RdE argEdE w ev g.es) (hi : IntsV w iv g.i) (ho : IntsV w ov g.o) (hok : okG g) (hx : RdR argNodeE w u x) (hy : RdR argNodeE w v y) (hs : s.size ≤ 9223372036854775807) (hl : x.length ≤ 9223372036854775807 ∧ y.length ≤ 9223372036854775807) (hox : ∀ e ∈ x, okNd e) (hoy : ∀ e ∈ y, okNd e) (hw : IntsV w mu W) (hE : IntsV w mv E) (hlw : W.length ≤ 9223372036854775807) (hle : E.length ≤ 9223372036854775807) :
 Calls Tryz.prog 3 #[grV g.n ev iv ov, .agg #[.string s, u, v], .agg #[mu, mv]] w fun e w' => e = .returned (.bool true) ∧ w.grownBy w' none := by
 have HZG := qd fun W1 (h : w.grownBy W1 none) => szGraph_any g.n ev iv ov g 1048576 W1 (he.carry h) (hi.carry h) (ho.carry h) (by decide) (by decide) hok
 have HTG := qd fun (ht : totG g ≤ 1048576) W1 (h : w.grownBy W1 none) => toGraph_sh g ev iv ov W1 (he.carry h) (hi.carry h) (ho.carry h) ht
 have HTR := qd fun (lx : x.length ≤ 2000000) (ly : y.length ≤ 2000000) W1 (h : w.grownBy W1 none) => toRule_any s u v x y W1 (hx.carry h) (hy.carry h) lx ly
 have HTM := qd fun (lx : W.length ≤ 2000000) (ly : E.length ≤ 2000000) W1 (h : w.grownBy W1 none) => toMatch_any mu mv W E W1 (hw.carry h) (hE.carry h) lx ly
 unfold grV at HZG HTG ⊢
 obtain ⟨aG, cG, rfl⟩ := he.shape
 obtain ⟨pG, qG, rfl⟩ := hi.shape
 obtain ⟨rG, sG, rfl⟩ := ho.shape
 obtain ⟨tG, uG, rfl⟩ := hx.shape
 obtain ⟨vG, zG, rfl⟩ := hy.shape
 obtain ⟨dG, eG, rfl⟩ := hw.shape
 obtain ⟨fG, hG, rfl⟩ := hE.shape
 have HZR := qd fun (l : Int) (h0 : 0 ≤ l) (h1 : l ≤ 1048576) W1 (h : w.grownBy W1 none) => szRule_any s tG vG x.length uG y.length zG x y l W1 (hx.carry h) (hy.carry h) rfl rfl h0 h1 hl.1 hl.2 hox hoy hs
 have HZM := qd fun (l : Int) (h0 : 0 ≤ l) (h1 : l ≤ 1048576) W1 => szMatch_any dG fG W.length eG E.length hG l W1 h0 h1 hlw hle
 clear he hi ho hok hx hy hs hl hox hoy hw hE hlw hle
 have HS0 := qd ((((Sep.start w).boxAt w.heap.size rfl #[.int .i64 g.n, .slice aG g.es.length cG, .slice pG g.i.length qG, .slice rG g.o.length sG] 25).boxAt (w.heap.size + 1) (by simp) #[.string s, .slice tG x.length uG, .slice vG y.length zG] 30).boxAt (w.heap.size + 2) (by simp) #[.slice dG W.length eG, .slice fG E.length hG] 32)
 have HK0 := qd (show w.grownBy _ none from HS0.out.tl.tl.tl.hd)
 obtain ⟨g0, g1, g2, g3, _⟩ := gq4 HS0.out.tl.tl.hd
 by_cases hsz : lft 1048576 (totG g) < 0
 ·generalize lft 1048576 (totG g) = rr at *
  clear HTG HTR HTM HZR HZM
  go_enter Tryz.func3, Tryz.ntmps3
  go_wp2_with (first
   |(go_at_call 6
     with_reducible refine (HZG.out _ HK0.out).mono ?_
     rintro e w2 ⟨rfl, hgr⟩
     have HS2 := qd (HS0.out.grown hgr)
     have HK2 := qd (show w.grownBy w2 none from HS2.out.tl.tl.tl.hd)
     clear g0 g1 g2 g3
     obtain ⟨y0, y1, y2⟩ := bw3 HS2.out.tl.hd
     clear hgr))
  go_ret
  exact ⟨rfl, HK2.out⟩
 ·have htg : totG g ≤ 1048576 := by unfold lft at hsz; by_cases h : (1048576 : Int) - totG g < 0 <;> simp [h] at hsz <;> omega
  obtain ⟨r1, hr1⟩ : ∃ r, lft 1048576 (totG g) = r := ⟨_, rfl⟩
  rw [hr1] at HZG hsz
  have hr0 : r1 ≤ 1048576 := by rw [← hr1]; unfold lft; split <;> omega
  have HR1 := qd (HZR.out r1 (by omega) hr0)
  by_cases hsz2 : lft r1 (totRl s x y) < 0
  ·generalize lft r1 (totRl s x y) = rr at *
   clear HTG HTR HTM HZR HZM hr1 hr0 htg
   go_enter Tryz.func3, Tryz.ntmps3
   go_wp2_with (first
    |(go_at_call 6
      with_reducible refine (HZG.out _ HK0.out).mono ?_
      rintro e w2 ⟨rfl, hgr⟩
      have HS2 := qd (HS0.out.grown hgr)
      have HK2 := qd (show w.grownBy w2 none from HS2.out.tl.tl.tl.hd)
      clear g0 g1 g2 g3
      obtain ⟨y0, y1, y2⟩ := bw3 HS2.out.tl.hd
      clear hgr)
    |(go_at_call 7
      with_reducible refine (HR1.out _ HK2.out).mono ?_
      rintro e w3 ⟨rfl, hgr⟩
      have HS3 := qd (HS2.out.grown hgr)
      have HK3 := qd (show w.grownBy w3 none from HS3.out.tl.tl.tl.hd)
      clear y0 y1 y2
      obtain ⟨m0, m1, _⟩ := bw2 HS3.out.hd
      clear hgr))
   go_ret
   exact ⟨rfl, HK3.out⟩
  ·have htr : totRl s x y ≤ 1048576 := by unfold lft at hsz2; by_cases h : r1 - totRl s x y < 0 <;> simp [h] at hsz2 <;> omega
   obtain ⟨r2, hr2⟩ : ∃ r, lft r1 (totRl s x y) = r := ⟨_, rfl⟩
   rw [hr2] at HR1 hsz2
   have hr3 : r2 ≤ 1048576 := by rw [← hr2]; unfold lft; split <;> omega
   have HM1 := qd (HZM.out r2 (by omega) hr3)
   by_cases hsz3 : lft r2 (W.length + E.length) < 0
   ·generalize lft r2 (W.length + E.length) = rr at *
    clear HTG HTR HTM HZR HZM hr1 hr0 htg hr2 hr3 htr
    go_enter Tryz.func3, Tryz.ntmps3
    go_wp2_with (first
     |(go_at_call 6
       with_reducible refine (HZG.out _ HK0.out).mono ?_
       rintro e w2 ⟨rfl, hgr⟩
       have HS2 := qd (HS0.out.grown hgr)
       have HK2 := qd (show w.grownBy w2 none from HS2.out.tl.tl.tl.hd)
       clear g0 g1 g2 g3
       obtain ⟨y0, y1, y2⟩ := bw3 HS2.out.tl.hd
       clear hgr)
     |(go_at_call 7
       with_reducible refine (HR1.out _ HK2.out).mono ?_
       rintro e w3 ⟨rfl, hgr⟩
       have HS3 := qd (HS2.out.grown hgr)
       have HK3 := qd (show w.grownBy w3 none from HS3.out.tl.tl.tl.hd)
       clear y0 y1 y2
       obtain ⟨m0, m1, _⟩ := bw2 HS3.out.hd
       clear hgr)
     |(go_at_call 8
       with_reducible refine (HM1.out _).mono ?_
       rintro e w4 ⟨rfl, hgr⟩
       have HS4 := qd (HS3.out.grown hgr)
       have HK4 := qd (show w.grownBy w4 none from HS4.out.tl.tl.tl.hd)
       clear m0 m1
       clear hgr))
    go_ret
    exact ⟨rfl, HK4.out⟩
   ·have htm : W.length + E.length ≤ 1048576 := by unfold lft at hsz3; by_cases h : r2 - ((W.length + E.length : Nat) : Int) < 0 <;> simp [h] at hsz3 <;> omega
    have hsm := Sm.of htg
    have hlx : x.length ≤ 1048576 ∧ y.length ≤ 1048576 ∧ s.size ≤ 1048576 := by unfold totRl at htr; omega
    obtain ⟨hl1, hl2, hl3⟩ := hlx
    have HTG2 := qd (HTG.out htg); have HTR2 := qd (HTR.out (by omega) (by omega)); have HTM2 := qd (HTM.out (by omega) (by omega))
    clear HTG HTR HTM
    obtain ⟨K, hK⟩ : ∃ K, ctxO g s x y W E = K := ⟨_, rfl⟩
    obtain ⟨b, hb⟩ : ∃ b, ctxB g s x y W E = b := ⟨_, rfl⟩
    have hks : totG K ≤ 1048576 := by rw [← hK]; exact ctx_small g s x y W E
    have HSP := qd fun W1 u0 u1 u2 a c b_ d a2 c2 b2 d2 (h : RdX W1 g u0 u1 u2) (hr : RdRl W1 x y a b_ c d) (hm : RdMt W1 W E a2 b2 c2 d2) => show Calls Tryz.prog 9 #[.agg #[.int .i64 g.n, u0, u1, u2], .agg #[.string s, .slice a x.length c, .slice b_ y.length d], .agg #[.slice a2 W.length c2, .slice b2 E.length d2]] W1 fun e w' => ∃ a c p q r s xs, e = .returned (.tuple #[.agg #[.int .i64 K.n, .slice a K.es.length c, .slice p K.i.length q, .slice r K.o.length s], .bool b]) ∧ eds xs = K.es ∧ Sep w' [OX3 (.slice a K.es.length c) xs (.slice p K.i.length q) K.i (.slice r K.o.length s) K.o, KeepA W1] from
     (sContextOf_any g s x y W E u0 u1 u2 a b_ a2 b2 c d c2 d2 W1 h.1 h.2.1 h.2.2 (by have := hsm.es; omega) (by have := hsm.i; omega) (by have := hsm.o; omega) hr.rx hr.rxc hr.ry hr.ryc (by omega) (by omega) (by omega) hm.rx hm.rxc hm.ry hm.ryc (by omega) (by omega)).mono fun e w' h => by have := MadeR.sh3 h; rw [show (if ctxB g s x y W E = true then ctxK g (grT x) W E else gr0) = K from hK, hb] at this; exact this
    have HIM := qd fun W1 u0 u1 u2 a c b_ d a2 c2 b2 d2 (h : RdX W1 g u0 u1 u2) (hr : RdRl W1 x y a b_ c d) (hm : RdMt W1 W E a2 b2 c2 d2) => show Calls Tryz.prog 13 #[.agg #[.int .i64 g.n, u0, u1, u2], .agg #[.string s, .slice a x.length c, .slice b_ y.length d], .agg #[.slice a2 W.length c2, .slice b2 E.length d2]] W1 fun e w' => ∃ a c p q r s xs, e = .returned (.tuple #[.agg #[.int .i64 K.n, .slice a K.es.length c, .slice p K.i.length q, .slice r K.o.length s], .bool b]) ∧ eds xs = K.es ∧ Sep w' [OX3 (.slice a K.es.length c) xs (.slice p K.i.length q) K.i (.slice r K.o.length s) K.o, KeepA W1] from
     (iContextOf_any g s x y W E u0 u1 u2 (.slice a x.length c) (.slice b_ y.length d) a2 b2 c2 d2 W1 h.1 h.2.1 h.2.2 (by have := hsm.es; omega) (by have := hsm.i; omega) (by have := hsm.o; omega) hr.rx hr.ry (by omega) (by omega) (by omega) hm.rx hm.ry (by omega) (by omega)).mono fun e w' h => by have := MadeR.sh3 h; rw [show (if ctxB g s x y W E = true then ctxK g (grT x) W E else gr0) = K from hK, hb] at this; exact this
    have HEG := qd fun W1 u0 u1 u2 v0 v1 v2 (h : RdX W1 g u0 u1 u2) (h' : RdX W1 g v0 v1 v2) => eqGraph_sh g W1 u0 u1 u2 v0 v1 v2 h h' htg
    have HER := qd fun W1 a b_ a2 b2 c d c2 d2 (h : RdRl W1 x y a b_ c d) (h' : RdRl W1 x y a2 b2 c2 d2) => eqRule_same s x y a b_ a2 b2 c d c2 d2 W1 h h' (by omega) (by omega)
    have HEM := qd fun W1 a b_ a2 b2 c d c2 d2 (h : RdMt W1 W E a b_ c d) (h' : RdMt W1 W E a2 b2 c2 d2) => eqMatch_sameC W E a b_ a2 b2 c d c2 d2 W1 h h' (by omega) (by omega)
    have HMG := qd fun W1 u0 u1 u2 xs l (h : Sep W1 (OX3 u0 xs u1 g.i u2 g.o :: l)) (hx : eds xs = g.es) => (markGraph_sh u0 u1 u2 xs g 1 W1 l h hx htg (by decide) (by decide)).mono fun e w' (h : _ ∧ _) => show ∃ r : Int, e = .returned (.int .i64 r) ∧ (0 ≤ r ∧ r ≤ 4000000) ∧ Sep w' l from ⟨_, h.1, by have := wEs_tot g.es; unfold totG at htg; unfold wX; omega, h.2.1.tl⟩
    have HMR := qd fun (k : Int) (h0 : 0 ≤ k) (h1 : k ≤ 4000000) W1 a b_ c d l (h : Sep W1 (ORl (.slice a x.length c) x (.slice b_ y.length d) y :: l)) => markRule_any s a b_ c d x y k W1 l h (by omega) (by omega) h0 h1
    have HMM := qd fun (k : Int) (h0 : 0 ≤ k) (h1 : k ≤ 20000000) W1 a b_ c d l (h : Sep W1 (OMt (.slice a W.length c) W (.slice b_ E.length d) E :: l)) => markMatch_anyC a b_ c d W E k W1 l h (by omega) (by omega) h0 h1
    have HEK := qd fun W1 u0 u1 u2 v0 v1 v2 (h : RdX W1 K u0 u1 u2) (h' : RdX W1 K v0 v1 v2) => eqGraph_sh K W1 u0 u1 u2 v0 v1 v2 h h' hks
    have HMK := qd fun W1 u0 u1 u2 xs l (h : Sep W1 (OX3 u0 xs u1 K.i u2 K.o :: l)) (hx : eds xs = K.es) => markGraph_sh u0 u1 u2 xs K 1 W1 l h hx hks (by decide) (by decide)
    have HHK := qd fun W1 u0 u1 u2 (h : RdX W1 (mkX3 1 K) u0 u1 u2) => heldGraph_sh u0 u1 u2 K 1 W1 h hks (by decide) (by decide)
    obtain ⟨m, hm⟩ : ∃ m : Int, m = 1 + (wX K : Int) := ⟨_, rfl⟩
    rw [← hm] at HMK HHK
    have hm0 : ¬ m < 0 := by omega
    have hmm : (m != m) = false := by simp
    have hnb : (b != b) = false := by simp
    generalize lft r2 (W.length + E.length) = rr at *
    unfold Gives3 id at HTG2
    unfold grV at HEG HMG HEK HMK HHK
    clear htg hsm hK hb hks hm htr htm hr1 hr0 hr2 hr3 hl1 hl2 hl3 HZR HZM
    go_enter Tryz.func3, Tryz.ntmps3
    go_upto_region 11 with (first
     |(go_at_call 6
       with_reducible refine (HZG.out _ HK0.out).mono ?_
       rintro e w2 ⟨rfl, hgr⟩
       have HS2 := qd (HS0.out.grown hgr)
       have HK2 := qd (show w.grownBy w2 none from HS2.out.tl.tl.tl.hd)
       clear g0 g1 g2 g3
       obtain ⟨y0, y1, y2⟩ := bw3 HS2.out.tl.hd
       clear hgr)
     |(go_at_call 7
       with_reducible refine (HR1.out _ HK2.out).mono ?_
       rintro e w3 ⟨rfl, hgr⟩
       have HS3 := qd (HS2.out.grown hgr)
       have HK3 := qd (show w.grownBy w3 none from HS3.out.tl.tl.tl.hd)
       clear y0 y1 y2
       obtain ⟨m0, m1, _⟩ := bw2 HS3.out.hd
       clear hgr)
     |(go_at_call 8
       with_reducible refine (HM1.out _).mono ?_
       rintro e w4 ⟨rfl, hgr⟩
       have HS4 := qd (HS3.out.grown hgr)
       have HK4 := qd (show w.grownBy w4 none from HS4.out.tl.tl.tl.hd)
       clear m0 m1
       clear hgr))
    have HBM := qd fun (W1 : World) (L : List Asrt) (h : Sep W1 L) (h1 : BxA w.heap.size #[.int .i64 g.n, .slice aG g.es.length cG, .slice pG g.i.length qG, .slice rG g.o.length sG] 25 ∈ L) (h2 : BxA (w.heap.size + 1) #[.string s, .slice tG x.length uG, .slice vG y.length zG] 30 ∈ L) (h3 : BxA (w.heap.size + 2) #[.slice dG W.length eG, .slice fG E.length hG] 32 ∈ L) => show (W1.cell? ⟨w.heap.size, 0, none⟩ = some (.int .i64 g.n) ∧ W1.cell? ⟨w.heap.size, 1, none⟩ = some (.slice aG g.es.length cG) ∧ W1.cell? ⟨w.heap.size, 2, none⟩ = some (.slice pG g.i.length qG) ∧ W1.cell? ⟨w.heap.size, 3, none⟩ = some (.slice rG g.o.length sG)) ∧ (W1.cell? ⟨w.heap.size + 1, 0, none⟩ = some (.string s) ∧ W1.cell? ⟨w.heap.size + 1, 1, none⟩ = some (.slice tG x.length uG) ∧ W1.cell? ⟨w.heap.size + 1, 2, none⟩ = some (.slice vG y.length zG)) ∧ (W1.cell? ⟨w.heap.size + 2, 0, none⟩ = some (.slice dG W.length eG) ∧ W1.cell? ⟨w.heap.size + 2, 1, none⟩ = some (.slice fG E.length hG)) from by
     obtain ⟨p0, p1, p2, p3, _⟩ := gq4 (show W1.heap[w.heap.size]? = some (.cells #[.int .i64 g.n, .slice aG g.es.length cG, .slice pG g.i.length qG, .slice rG g.o.length sG] 25 (0, 0)) from Sep.all h _ h1)
     have q := bw3 (show W1.heap[(w.heap.size + 1)]? = some (.cells #[.string s, .slice tG x.length uG, .slice vG y.length zG] 30 (0, 0)) from Sep.all h _ h2)
     obtain ⟨q4, q5, _⟩ := bw2 (show W1.heap[(w.heap.size + 2)]? = some (.cells #[.slice dG W.length eG, .slice fG E.length hG] 32 (0, 0)) from Sep.all h _ h3)
     exact ⟨⟨p0, p1, p2, p3⟩, q, q4, q5⟩
    have HSA := qd HS4.out.dr
    have HKA := qd (show w.grownBy _ none from HSA.out.tl.tl.tl.hd)
    go_cut [8, 9] from 35 to 45 (fun v6 v7 wx => ∃ (nb : Nat) (a0 : Option Addr) (c0 : Nat) (p0 : Option Addr) (q0 : Nat) (r0 : Option Addr) (s0 : Nat) (xs0 : List XE), v6 = .pointer (some ⟨nb, 0, none⟩) ∧ v7 = .bool b ∧ eds xs0 = K.es ∧ Sep wx [BxA nb #[.int .i64 K.n, .slice a0 K.es.length c0, .slice p0 K.i.length q0, .slice r0 K.o.length s0] 38, OX3 (.slice a0 K.es.length c0) xs0 (.slice p0 K.i.length q0) K.i (.slice r0 K.o.length s0) K.o, BxA (w.heap.size + 2) #[.slice dG W.length eG, .slice fG E.length hG] 32, BxA (w.heap.size + 1) #[.string s, .slice tG x.length uG, .slice vG y.length zG] 30, BxA w.heap.size #[.int .i64 g.n, .slice aG g.es.length cG, .slice pG g.i.length qG, .slice rG g.o.length sG] 25, KeepA w])
    case first =>
     have XA0 := qd (HBM.out _ _ HSA.out (by simp) (by simp) (by simp))
     refine AnyL.start (fun W1 => (W1.cell? ⟨w.heap.size, 0, none⟩ = some (.int .i64 g.n) ∧ W1.cell? ⟨w.heap.size, 1, none⟩ = some (.slice aG g.es.length cG) ∧ W1.cell? ⟨w.heap.size, 2, none⟩ = some (.slice pG g.i.length qG) ∧ W1.cell? ⟨w.heap.size, 3, none⟩ = some (.slice rG g.o.length sG)) ∧ (W1.cell? ⟨w.heap.size + 1, 0, none⟩ = some (.string s) ∧ W1.cell? ⟨w.heap.size + 1, 1, none⟩ = some (.slice tG x.length uG) ∧ W1.cell? ⟨w.heap.size + 1, 2, none⟩ = some (.slice vG y.length zG)) ∧ (W1.cell? ⟨w.heap.size + 2, 0, none⟩ = some (.slice dG W.length eG) ∧ W1.cell? ⟨w.heap.size + 2, 1, none⟩ = some (.slice fG E.length hG))) (fun _ => True) 99 (by kernel_rfl) ?_
     refine AnyL.tT 0 (by exact XA0.out) ?_
     refine AnyL.tT 2 (by exact XA0.out) ?_
     refine AnyL.tT 4 (by exact XA0.out) ?_
     refine AnyL.twoM (i := 1) (j := 10) (by kernel_rfl) (by rfl) (by rfl) (fun KK hKK => ?_) (fun KK hKK => ?_)
     ·go_simp
      go_at_call 10
      with_reducible refine (HTG2.out _ HKA.out).mono ?_
      rintro e wac ⟨aA, cA, pA, qA, rA, sA, xsA, rfl, hxs, hsg⟩
      have HXA := qd hxs
      have hs := HSA.out.graft1 hsg OX3_own
      clear hxs
      have HSac := qd hs
      have HKac := qd (show w.grownBy _ none from hs.tl.tl.tl.tl.hd)
      clear hsg hs
      refine shutNx hKK _ (by exact HBM.out _ _ HSac.out (by simp) (by simp) (by simp)) (by exact fun _ => trivial) ?_
      clear hKK KK
      refine AnyL.twoM (i := 3) (j := 10) (by kernel_rfl) (by rfl) (by rfl) (fun KK hKK => ?_) (fun KK hKK => ?_)
      ·go_simp
       go_at_call 11
       with_reducible refine (HTR2.out _ HKac.out).mono ?_
       rintro e wacc ⟨tB, uB, vB, zB, rfl, hsg⟩
       have hs := HSac.out.graft1 hsg ORl_own
       have HSacc := qd hs
       have HKacc := qd (show w.grownBy _ none from hs.tl.tl.tl.tl.tl.hd)
       clear hsg hs
       refine shutNx hKK _ (by exact HBM.out _ _ HSacc.out (by simp) (by simp) (by simp)) (by exact fun _ => trivial) ?_
       clear hKK KK
       refine AnyL.twoM (i := 5) (j := 10) (by kernel_rfl) (by rfl) (by rfl) (fun KK hKK => ?_) (fun KK hKK => ?_)
       ·go_simp
        go_at_call 12
        with_reducible refine (HTM2.out _ HKacc.out).mono ?_
        rintro e waccc ⟨dC, eC, fC, hC, rfl, hsg⟩
        have hs := HSacc.out.graft1 hsg OMt_own
        have HSaccc := qd hs
        have HKaccc := qd (show w.grownBy _ none from hs.tl.tl.tl.tl.tl.tl.hd)
        clear hsg hs
        refine shutNx hKK _ (by exact HBM.out _ _ HSaccc.out (by simp) (by simp) (by simp)) (by exact fun _ => trivial) ?_
        clear hKK KK
        refine AnyL.twoM (i := 6) (j := 10) (by kernel_rfl) (by rfl) (by rfl) (fun KK hKK => ?_) (fun KK hKK => ?_)
        ·go_simp
         have HCC := qd (HSP.out _ _ _ _ _ _ _ _ _ _ _ _ (OX3.read HSaccc.out.tl.tl.hd HXA.out) (ORl.read HSaccc.out.tl.hd) (OMt.read HSaccc.out.hd))
         go_at_call 9
         with_reducible refine HCC.out.mono ?_
         rintro e wacccc ⟨a0, c0, p0, q0, r0, s0, xs0, rfl, hxs, hsg⟩
         have HX0 := qd hxs
         have hs0 := HSaccc.out.graft1 hsg OX3_own
         have hs := Sep.cutA (X := [_]) (A := [_, _, _]) hs0
         try simp only [List.nil_append, List.cons_append, List.append_eq] at hs
         have HSacccc := qd hs
         have HKacccc := qd (show w.grownBy _ none from hs.tl.tl.tl.tl.hd)
         clear hsg hs hs0 hxs HCC
         refine shutNx hKK _ (by exact HBM.out _ _ HSacccc.out (by simp) (by simp) (by simp)) (by exact fun _ => trivial) ?_
         clear hKK KK
         refine AnyL.tT 7 (by exact HBM.out _ _ HSacccc.out (by simp) (by simp) (by simp)) ?_
         refine AnyL.tT 8 (by exact HBM.out _ _ HSacccc.out (by simp) (by simp) (by simp)) ?_
         refine AnyL.tT 9 (by exact HBM.out _ _ HSacccc.out (by simp) (by simp) (by simp)) ?_
         refine AnyL.step (i := 10) (by kernel_rfl) (by rfl) (fun KK hKK => ?_)
         go_simp
         have HSaccccz := qd (HSacccc.out.boxAt (wacccc.heap.size) (by rfl) #[.int .i64 0, .slice none 0 0, .slice none 0 0, .slice none 0 0] 38)
         refine shutNx hKK (wacccc.alloc (.cells #[.int .i64 0, .slice none 0 0, .slice none 0 0, .slice none 0 0] 38)) (by exact HBM.out _ _ HSaccccz.out (by simp) (by simp) (by simp)) (by exact fun _ => trivial) ?_
         clear hKK KK
         generalize wacccc.alloc (.cells #[.int .i64 0, .slice none 0 0, .slice none 0 0, .slice none 0 0] 38) = waccccz at *
         generalize wacccc.heap.size = nb at *
         have HKaccccz := qd (show w.grownBy _ none from HSaccccz.out.tl.tl.tl.tl.tl.hd)
         have h8 := HSaccccz.out
         obtain ⟨k0, k1, k2, k3, j0, j1, j2, j3⟩ := gq4 h8.hd
         have HZ9 := qd ((((h8.setB 0 (.int .i64 K.n)).setB 1 (.slice a0 K.es.length c0)).setB 2 (.slice p0 K.i.length q0)).setB 3 (.slice r0 K.o.length s0))
         clear h8
         refine AnyL.step (i := 11) (by kernel_rfl) (by rfl) (fun KK hKK => ?_)
         go_simp
         refine shutNx hKK ((((waccccz.setCell ⟨nb, 0, none⟩ (.int .i64 K.n)).setCell ⟨nb, 1, none⟩ (.slice a0 K.es.length c0)).setCell ⟨nb, 2, none⟩ (.slice p0 K.i.length q0)).setCell ⟨nb, 3, none⟩ (.slice r0 K.o.length s0)) (by exact HBM.out _ _ HZ9.out (by simp) (by simp) (by simp)) (by exact fun _ => trivial) ?_
         clear hKK KK
         refine AnyL.tT 12 (by exact HBM.out _ _ HZ9.out (by simp) (by simp) (by simp)) ?_
         refine AnyL.done (by kernel_rfl) ?_ _
         clear k0 k1 k2 k3 j0 j1 j2 j3
         go_wp2_with fail
         go_meet
         exact ⟨nb, a0, c0, p0, q0, r0, s0, xs0, rfl, rfl, HX0.out, HZ9.out⟩
        ·go_simp
         have HSacccz := qd (HSaccc.out.boxAt (waccc.heap.size) (by rfl) #[.int .i64 0, .slice none 0 0, .slice none 0 0, .slice none 0 0] 38)
         refine shutNx hKK (waccc.alloc (.cells #[.int .i64 0, .slice none 0 0, .slice none 0 0, .slice none 0 0] 38)) (by exact HBM.out _ _ HSacccz.out (by simp) (by simp) (by simp)) (by exact fun _ => trivial) ?_
         clear hKK KK
         generalize waccc.alloc (.cells #[.int .i64 0, .slice none 0 0, .slice none 0 0, .slice none 0 0] 38) = wacccz at *
         generalize waccc.heap.size = nb at *
         have HKacccz := qd (show w.grownBy _ none from HSacccz.out.tl.tl.tl.tl.tl.tl.tl.hd)
         refine AnyL.step (i := 6) (by kernel_rfl) (by rfl) (fun KK hKK => ?_)
         go_simp
         have HCC := qd (HSP.out _ _ _ _ _ _ _ _ _ _ _ _ (OX3.read HSacccz.out.tl.tl.tl.hd HXA.out) (ORl.read HSacccz.out.tl.tl.hd) (OMt.read HSacccz.out.tl.hd))
         go_at_call 9
         with_reducible refine HCC.out.mono ?_
         rintro e waccczc ⟨a0, c0, p0, q0, r0, s0, xs0, rfl, hxs, hsg⟩
         have HX0 := qd hxs
         have hs0 := HSacccz.out.graft1 hsg OX3_own
         have hs := Sep.cutA (X := [_, _]) (A := [_, _, _]) hs0
         try simp only [List.nil_append, List.cons_append, List.append_eq] at hs
         have HSaccczc := qd hs
         have HKaccczc := qd (show w.grownBy _ none from hs.tl.tl.tl.tl.tl.hd)
         clear hsg hs hs0 hxs HCC
         refine shutNx hKK _ (by exact HBM.out _ _ HSaccczc.out (by simp) (by simp) (by simp)) (by exact fun _ => trivial) ?_
         clear hKK KK
         refine AnyL.tT 7 (by exact HBM.out _ _ HSaccczc.out (by simp) (by simp) (by simp)) ?_
         refine AnyL.tT 8 (by exact HBM.out _ _ HSaccczc.out (by simp) (by simp) (by simp)) ?_
         refine AnyL.tT 9 (by exact HBM.out _ _ HSaccczc.out (by simp) (by simp) (by simp)) ?_
         have h8 := Sep.blk3 (X := []) (A := [_]) (B := [_]) HSaccczc.out
         try simp only [List.nil_append, List.cons_append, List.append_eq] at h8
         obtain ⟨k0, k1, k2, k3, j0, j1, j2, j3⟩ := gq4 h8.hd
         have HZ9 := qd ((((h8.setB 0 (.int .i64 K.n)).setB 1 (.slice a0 K.es.length c0)).setB 2 (.slice p0 K.i.length q0)).setB 3 (.slice r0 K.o.length s0))
         clear h8
         refine AnyL.step (i := 11) (by kernel_rfl) (by rfl) (fun KK hKK => ?_)
         go_simp
         refine shutNx hKK ((((waccczc.setCell ⟨nb, 0, none⟩ (.int .i64 K.n)).setCell ⟨nb, 1, none⟩ (.slice a0 K.es.length c0)).setCell ⟨nb, 2, none⟩ (.slice p0 K.i.length q0)).setCell ⟨nb, 3, none⟩ (.slice r0 K.o.length s0)) (by exact HBM.out _ _ HZ9.out (by simp) (by simp) (by simp)) (by exact fun _ => trivial) ?_
         clear hKK KK
         refine AnyL.tT 12 (by exact HBM.out _ _ HZ9.out (by simp) (by simp) (by simp)) ?_
         refine AnyL.done (by kernel_rfl) ?_ _
         clear k0 k1 k2 k3 j0 j1 j2 j3
         go_wp2_with fail
         go_meet
         exact ⟨nb, a0, c0, p0, q0, r0, s0, xs0, rfl, rfl, HX0.out, HZ9.out⟩
       ·go_simp
        have HSaccz := qd (HSacc.out.boxAt (wacc.heap.size) (by rfl) #[.int .i64 0, .slice none 0 0, .slice none 0 0, .slice none 0 0] 38)
        refine shutNx hKK (wacc.alloc (.cells #[.int .i64 0, .slice none 0 0, .slice none 0 0, .slice none 0 0] 38)) (by exact HBM.out _ _ HSaccz.out (by simp) (by simp) (by simp)) (by exact fun _ => trivial) ?_
        clear hKK KK
        generalize wacc.alloc (.cells #[.int .i64 0, .slice none 0 0, .slice none 0 0, .slice none 0 0] 38) = waccz at *
        generalize wacc.heap.size = nb at *
        have HKaccz := qd (show w.grownBy _ none from HSaccz.out.tl.tl.tl.tl.tl.tl.hd)
        refine AnyL.step (i := 5) (by kernel_rfl) (by rfl) (fun KK hKK => ?_)
        go_simp
        go_at_call 12
        with_reducible refine (HTM2.out _ HKaccz.out).mono ?_
        rintro e wacczc ⟨dC, eC, fC, hC, rfl, hsg⟩
        have hs := HSaccz.out.graft1 hsg OMt_own
        have HSacczc := qd hs
        have HKacczc := qd (show w.grownBy _ none from hs.tl.tl.tl.tl.tl.tl.tl.hd)
        clear hsg hs
        refine shutNx hKK _ (by exact HBM.out _ _ HSacczc.out (by simp) (by simp) (by simp)) (by exact fun _ => trivial) ?_
        clear hKK KK
        refine AnyL.step (i := 6) (by kernel_rfl) (by rfl) (fun KK hKK => ?_)
        go_simp
        have HCC := qd (HSP.out _ _ _ _ _ _ _ _ _ _ _ _ (OX3.read HSacczc.out.tl.tl.tl.hd HXA.out) (ORl.read HSacczc.out.tl.tl.hd) (OMt.read HSacczc.out.hd))
        go_at_call 9
        with_reducible refine HCC.out.mono ?_
        rintro e wacczcc ⟨a0, c0, p0, q0, r0, s0, xs0, rfl, hxs, hsg⟩
        have HX0 := qd hxs
        have hs0 := HSacczc.out.graft1 hsg OX3_own
        have hq1 := Sep.cutA (X := [_]) (A := [_]) hs0
        have hs := Sep.cutA (X := [_, _]) (A := [_, _]) hq1
        try simp only [List.nil_append, List.cons_append, List.append_eq] at hs
        clear hq1
        have HSacczcc := qd hs
        have HKacczcc := qd (show w.grownBy _ none from hs.tl.tl.tl.tl.tl.hd)
        clear hsg hs hs0 hxs HCC
        refine shutNx hKK _ (by exact HBM.out _ _ HSacczcc.out (by simp) (by simp) (by simp)) (by exact fun _ => trivial) ?_
        clear hKK KK
        refine AnyL.tT 7 (by exact HBM.out _ _ HSacczcc.out (by simp) (by simp) (by simp)) ?_
        refine AnyL.tT 8 (by exact HBM.out _ _ HSacczcc.out (by simp) (by simp) (by simp)) ?_
        refine AnyL.tT 9 (by exact HBM.out _ _ HSacczcc.out (by simp) (by simp) (by simp)) ?_
        have h8 := Sep.blk3 (X := []) (A := [_]) (B := [_]) HSacczcc.out
        try simp only [List.nil_append, List.cons_append, List.append_eq] at h8
        obtain ⟨k0, k1, k2, k3, j0, j1, j2, j3⟩ := gq4 h8.hd
        have HZ9 := qd ((((h8.setB 0 (.int .i64 K.n)).setB 1 (.slice a0 K.es.length c0)).setB 2 (.slice p0 K.i.length q0)).setB 3 (.slice r0 K.o.length s0))
        clear h8
        refine AnyL.step (i := 11) (by kernel_rfl) (by rfl) (fun KK hKK => ?_)
        go_simp
        refine shutNx hKK ((((wacczcc.setCell ⟨nb, 0, none⟩ (.int .i64 K.n)).setCell ⟨nb, 1, none⟩ (.slice a0 K.es.length c0)).setCell ⟨nb, 2, none⟩ (.slice p0 K.i.length q0)).setCell ⟨nb, 3, none⟩ (.slice r0 K.o.length s0)) (by exact HBM.out _ _ HZ9.out (by simp) (by simp) (by simp)) (by exact fun _ => trivial) ?_
        clear hKK KK
        refine AnyL.tT 12 (by exact HBM.out _ _ HZ9.out (by simp) (by simp) (by simp)) ?_
        refine AnyL.done (by kernel_rfl) ?_ _
        clear k0 k1 k2 k3 j0 j1 j2 j3
        go_wp2_with fail
        go_meet
        exact ⟨nb, a0, c0, p0, q0, r0, s0, xs0, rfl, rfl, HX0.out, HZ9.out⟩
      ·go_simp
       have HSacz := qd (HSac.out.boxAt (wac.heap.size) (by rfl) #[.int .i64 0, .slice none 0 0, .slice none 0 0, .slice none 0 0] 38)
       refine shutNx hKK (wac.alloc (.cells #[.int .i64 0, .slice none 0 0, .slice none 0 0, .slice none 0 0] 38)) (by exact HBM.out _ _ HSacz.out (by simp) (by simp) (by simp)) (by exact fun _ => trivial) ?_
       clear hKK KK
       generalize wac.alloc (.cells #[.int .i64 0, .slice none 0 0, .slice none 0 0, .slice none 0 0] 38) = wacz at *
       generalize wac.heap.size = nb at *
       have HKacz := qd (show w.grownBy _ none from HSacz.out.tl.tl.tl.tl.tl.hd)
       refine AnyL.step (i := 3) (by kernel_rfl) (by rfl) (fun KK hKK => ?_)
       go_simp
       go_at_call 11
       with_reducible refine (HTR2.out _ HKacz.out).mono ?_
       rintro e waczc ⟨tB, uB, vB, zB, rfl, hsg⟩
       have hs := HSacz.out.graft1 hsg ORl_own
       have HSaczc := qd hs
       have HKaczc := qd (show w.grownBy _ none from hs.tl.tl.tl.tl.tl.tl.hd)
       clear hsg hs
       refine shutNx hKK _ (by exact HBM.out _ _ HSaczc.out (by simp) (by simp) (by simp)) (by exact fun _ => trivial) ?_
       clear hKK KK
       refine AnyL.step (i := 5) (by kernel_rfl) (by rfl) (fun KK hKK => ?_)
       go_simp
       go_at_call 12
       with_reducible refine (HTM2.out _ HKaczc.out).mono ?_
       rintro e waczcc ⟨dC, eC, fC, hC, rfl, hsg⟩
       have hs := HSaczc.out.graft1 hsg OMt_own
       have HSaczcc := qd hs
       have HKaczcc := qd (show w.grownBy _ none from hs.tl.tl.tl.tl.tl.tl.tl.hd)
       clear hsg hs
       refine shutNx hKK _ (by exact HBM.out _ _ HSaczcc.out (by simp) (by simp) (by simp)) (by exact fun _ => trivial) ?_
       clear hKK KK
       refine AnyL.step (i := 6) (by kernel_rfl) (by rfl) (fun KK hKK => ?_)
       go_simp
       have HCC := qd (HSP.out _ _ _ _ _ _ _ _ _ _ _ _ (OX3.read HSaczcc.out.tl.tl.tl.hd HXA.out) (ORl.read HSaczcc.out.tl.hd) (OMt.read HSaczcc.out.hd))
       go_at_call 9
       with_reducible refine HCC.out.mono ?_
       rintro e waczccc ⟨a0, c0, p0, q0, r0, s0, xs0, rfl, hxs, hsg⟩
       have HX0 := qd hxs
       have hs0 := HSaczcc.out.graft1 hsg OX3_own
       have hq1 := Sep.cutA (X := [_]) (A := [_, _]) hs0
       have hs := Sep.cutA (X := [_, _]) (A := [_]) hq1
       try simp only [List.nil_append, List.cons_append, List.append_eq] at hs
       clear hq1
       have HSaczccc := qd hs
       have HKaczccc := qd (show w.grownBy _ none from hs.tl.tl.tl.tl.tl.hd)
       clear hsg hs hs0 hxs HCC
       refine shutNx hKK _ (by exact HBM.out _ _ HSaczccc.out (by simp) (by simp) (by simp)) (by exact fun _ => trivial) ?_
       clear hKK KK
       refine AnyL.tT 7 (by exact HBM.out _ _ HSaczccc.out (by simp) (by simp) (by simp)) ?_
       refine AnyL.tT 8 (by exact HBM.out _ _ HSaczccc.out (by simp) (by simp) (by simp)) ?_
       refine AnyL.tT 9 (by exact HBM.out _ _ HSaczccc.out (by simp) (by simp) (by simp)) ?_
       have h8 := Sep.blk3 (X := []) (A := [_]) (B := [_]) HSaczccc.out
       try simp only [List.nil_append, List.cons_append, List.append_eq] at h8
       obtain ⟨k0, k1, k2, k3, j0, j1, j2, j3⟩ := gq4 h8.hd
       have HZ9 := qd ((((h8.setB 0 (.int .i64 K.n)).setB 1 (.slice a0 K.es.length c0)).setB 2 (.slice p0 K.i.length q0)).setB 3 (.slice r0 K.o.length s0))
       clear h8
       refine AnyL.step (i := 11) (by kernel_rfl) (by rfl) (fun KK hKK => ?_)
       go_simp
       refine shutNx hKK ((((waczccc.setCell ⟨nb, 0, none⟩ (.int .i64 K.n)).setCell ⟨nb, 1, none⟩ (.slice a0 K.es.length c0)).setCell ⟨nb, 2, none⟩ (.slice p0 K.i.length q0)).setCell ⟨nb, 3, none⟩ (.slice r0 K.o.length s0)) (by exact HBM.out _ _ HZ9.out (by simp) (by simp) (by simp)) (by exact fun _ => trivial) ?_
       clear hKK KK
       refine AnyL.tT 12 (by exact HBM.out _ _ HZ9.out (by simp) (by simp) (by simp)) ?_
       refine AnyL.done (by kernel_rfl) ?_ _
       clear k0 k1 k2 k3 j0 j1 j2 j3
       go_wp2_with fail
       go_meet
       exact ⟨nb, a0, c0, p0, q0, r0, s0, xs0, rfl, rfl, HX0.out, HZ9.out⟩
     ·go_simp
      have HSaz := qd (HSA.out.boxAt (w4.heap.size) (by rfl) #[.int .i64 0, .slice none 0 0, .slice none 0 0, .slice none 0 0] 38)
      refine shutNx hKK (w4.drew.alloc (.cells #[.int .i64 0, .slice none 0 0, .slice none 0 0, .slice none 0 0] 38)) (by exact HBM.out _ _ HSaz.out (by simp) (by simp) (by simp)) (by exact fun _ => trivial) ?_
      clear hKK KK
      generalize w4.drew.alloc (.cells #[.int .i64 0, .slice none 0 0, .slice none 0 0, .slice none 0 0] 38) = waz at *
      generalize w4.heap.size = nb at *
      have HKaz := qd (show w.grownBy _ none from HSaz.out.tl.tl.tl.tl.hd)
      refine AnyL.step (i := 1) (by kernel_rfl) (by rfl) (fun KK hKK => ?_)
      go_simp
      go_at_call 10
      with_reducible refine (HTG2.out _ HKaz.out).mono ?_
      rintro e wazc ⟨aA, cA, pA, qA, rA, sA, xsA, rfl, hxs, hsg⟩
      have HXA := qd hxs
      have hs := HSaz.out.graft1 hsg OX3_own
      clear hxs
      have HSazc := qd hs
      have HKazc := qd (show w.grownBy _ none from hs.tl.tl.tl.tl.tl.hd)
      clear hsg hs
      refine shutNx hKK _ (by exact HBM.out _ _ HSazc.out (by simp) (by simp) (by simp)) (by exact fun _ => trivial) ?_
      clear hKK KK
      refine AnyL.step (i := 3) (by kernel_rfl) (by rfl) (fun KK hKK => ?_)
      go_simp
      go_at_call 11
      with_reducible refine (HTR2.out _ HKazc.out).mono ?_
      rintro e wazcc ⟨tB, uB, vB, zB, rfl, hsg⟩
      have hs := HSazc.out.graft1 hsg ORl_own
      have HSazcc := qd hs
      have HKazcc := qd (show w.grownBy _ none from hs.tl.tl.tl.tl.tl.tl.hd)
      clear hsg hs
      refine shutNx hKK _ (by exact HBM.out _ _ HSazcc.out (by simp) (by simp) (by simp)) (by exact fun _ => trivial) ?_
      clear hKK KK
      refine AnyL.step (i := 5) (by kernel_rfl) (by rfl) (fun KK hKK => ?_)
      go_simp
      go_at_call 12
      with_reducible refine (HTM2.out _ HKazcc.out).mono ?_
      rintro e wazccc ⟨dC, eC, fC, hC, rfl, hsg⟩
      have hs := HSazcc.out.graft1 hsg OMt_own
      have HSazccc := qd hs
      have HKazccc := qd (show w.grownBy _ none from hs.tl.tl.tl.tl.tl.tl.tl.hd)
      clear hsg hs
      refine shutNx hKK _ (by exact HBM.out _ _ HSazccc.out (by simp) (by simp) (by simp)) (by exact fun _ => trivial) ?_
      clear hKK KK
      refine AnyL.step (i := 6) (by kernel_rfl) (by rfl) (fun KK hKK => ?_)
      go_simp
      have HCC := qd (HSP.out _ _ _ _ _ _ _ _ _ _ _ _ (OX3.read HSazccc.out.tl.tl.hd HXA.out) (ORl.read HSazccc.out.tl.hd) (OMt.read HSazccc.out.hd))
      go_at_call 9
      with_reducible refine HCC.out.mono ?_
      rintro e wazcccc ⟨a0, c0, p0, q0, r0, s0, xs0, rfl, hxs, hsg⟩
      have HX0 := qd hxs
      have hs0 := HSazccc.out.graft1 hsg OX3_own
      have hs := Sep.cutA (X := [_]) (A := [_, _, _]) hs0
      try simp only [List.nil_append, List.cons_append, List.append_eq] at hs
      have HSazcccc := qd hs
      have HKazcccc := qd (show w.grownBy _ none from hs.tl.tl.tl.tl.tl.hd)
      clear hsg hs hs0 hxs HCC
      refine shutNx hKK _ (by exact HBM.out _ _ HSazcccc.out (by simp) (by simp) (by simp)) (by exact fun _ => trivial) ?_
      clear hKK KK
      refine AnyL.tT 7 (by exact HBM.out _ _ HSazcccc.out (by simp) (by simp) (by simp)) ?_
      refine AnyL.tT 8 (by exact HBM.out _ _ HSazcccc.out (by simp) (by simp) (by simp)) ?_
      refine AnyL.tT 9 (by exact HBM.out _ _ HSazcccc.out (by simp) (by simp) (by simp)) ?_
      have h8 := Sep.blk3 (X := []) (A := [_]) (B := [_]) HSazcccc.out
      try simp only [List.nil_append, List.cons_append, List.append_eq] at h8
      obtain ⟨k0, k1, k2, k3, j0, j1, j2, j3⟩ := gq4 h8.hd
      have HZ9 := qd ((((h8.setB 0 (.int .i64 K.n)).setB 1 (.slice a0 K.es.length c0)).setB 2 (.slice p0 K.i.length q0)).setB 3 (.slice r0 K.o.length s0))
      clear h8
      refine AnyL.step (i := 11) (by kernel_rfl) (by rfl) (fun KK hKK => ?_)
      go_simp
      refine shutNx hKK ((((wazcccc.setCell ⟨nb, 0, none⟩ (.int .i64 K.n)).setCell ⟨nb, 1, none⟩ (.slice a0 K.es.length c0)).setCell ⟨nb, 2, none⟩ (.slice p0 K.i.length q0)).setCell ⟨nb, 3, none⟩ (.slice r0 K.o.length s0)) (by exact HBM.out _ _ HZ9.out (by simp) (by simp) (by simp)) (by exact fun _ => trivial) ?_
      clear hKK KK
      refine AnyL.tT 12 (by exact HBM.out _ _ HZ9.out (by simp) (by simp) (by simp)) ?_
      refine AnyL.done (by kernel_rfl) ?_ _
      clear k0 k1 k2 k3 j0 j1 j2 j3
      go_wp2_with fail
      go_meet
      exact ⟨nb, a0, c0, p0, q0, r0, s0, xs0, rfl, rfl, HX0.out, HZ9.out⟩
    case rest =>
     obtain ⟨nb0, a0, c0, p0, q0, r0, s0, xs0, rfl, rfl, hx0, hs6⟩ := hcut
     have HX0 := qd hx0
     have HS6 := qd hs6
     have HK6 := qd (show w.grownBy _ none from hs6.tl.tl.tl.tl.tl.hd)
     clear HS2 HS3 HS4 HS0 HK0 HK2 HK3 HK4 HSA HKA HZG HR1 HM1 HSP hs6 hx0
     obtain ⟨g0, g1, g2, g3, _⟩ := gq4 HS6.out.tl.tl.tl.tl.hd
     go_upto_region 16 with (first
      |(go_at_call 10
        with_reducible refine (HTG2.out _ HK6.out).mono ?_
        rintro e w7 ⟨aD, cD, pD, qD, rD, sD, xsD, rfl, hxs, hsg⟩
        have HXD := qd hxs
        have hs := HS6.out.graft1 hsg OX3_own
        clear hxs
        have HS7 := qd (hs.boxAt w7.heap.size rfl #[.int .i64 g.n, .slice aD g.es.length cD, .slice pD g.i.length qD, .slice rD g.o.length sD] 38)
        have HK7 := qd (show w.grownBy _ none from HS7.out.tl.tl.tl.tl.tl.tl.tl.hd)
        clear g0 g1 g2 g3
        obtain ⟨y0, y1, y2⟩ := bw3 HS7.out.tl.tl.tl.tl.tl.hd
        clear hsg hs)
      |(go_at_call 11
        with_reducible refine (HTR2.out _ HK7.out).mono ?_
        rintro e w8 ⟨tE, uE, vE, zE, rfl, hsg⟩
        have hs := HS7.out.graft1 hsg ORl_own
        have HS8 := qd (hs.boxAt w8.heap.size rfl #[.string s, .slice tE x.length uE, .slice vE y.length zE] 46)
        have HK8 := qd (show w.grownBy _ none from HS8.out.tl.tl.tl.tl.tl.tl.tl.tl.tl.hd)
        clear y0 y1 y2
        obtain ⟨m0, m1, _⟩ := bw2 HS8.out.tl.tl.tl.tl.tl.tl.hd
        clear hsg hs)
      |(go_at_call 12
        with_reducible refine (HTM2.out _ HK8.out).mono ?_
        rintro e w9 ⟨dF, eF, fF, hF, rfl, hsg⟩
        have hs := HS8.out.graft1 hsg OMt_own
        have HS9 := qd (hs.boxAt w9.heap.size rfl #[.slice dF W.length eF, .slice fF E.length hF] 48)
        clear m0 m1
        obtain ⟨g0, g1, g2, g3, _⟩ := gq4 HS9.out.tl.tl.tl.tl.hd
        obtain ⟨y0, y1, y2⟩ := bw3 HS9.out.tl.tl.hd
        obtain ⟨m0, m1, _⟩ := bw2 HS9.out.hd
        have HIM9 := qd (HIM.out _ _ _ _ _ _ _ _ _ _ _ _ (OX3.read HS9.out.tl.tl.tl.tl.tl.hd HXD.out) (ORl.read HS9.out.tl.tl.tl.hd) (OMt.read HS9.out.tl.hd))
        clear hsg hs)
      |(go_at_call 13
        with_reducible refine HIM9.out.mono ?_
        rintro e wa ⟨a1, c1, p1, q1, r1, s1, xs1, rfl, hxs, hsg⟩
        have HX1 := qd hxs
        have HSB := qd ((HS9.out.graft1 hsg OX3_own).boxAt wa.heap.size rfl #[.int .i64 K.n, .slice a1 K.es.length c1, .slice p1 K.i.length q1, .slice r1 K.o.length s1] 38)
        clear g0 g1 g2 g3
        clear y0 y1 y2
        clear m0 m1
        clear hsg hxs))
     generalize wa.alloc (.cells #[.int .i64 K.n, .slice a1 K.es.length c1, .slice p1 K.i.length q1, .slice r1 K.o.length s1] 38) = wb at *
     generalize wa.heap.size = nb1 at *
     generalize w9.heap.size = nb9 at *
     generalize w8.heap.size = nb8 at *
     generalize w7.heap.size = nb7 at *
     clear HS7 HS8 HS9 HK7 HK8 HIM9
     obtain ⟨g0, g1, g2, g3, _⟩ := gq4 HSB.out.hd
     obtain ⟨k0, k1, k2, k3, _⟩ := gq4 HSB.out.tl.tl.tl.tl.tl.tl.tl.tl.hd
     have HEQ := qd (HEK.out _ _ _ _ _ _ _ (OX3.read HSB.out.tl.hd HX1.out) (OX3.read HSB.out.tl.tl.tl.tl.tl.tl.tl.tl.tl.hd HX0.out))
     go_upto_region 18 with (
      go_at_call 14
      with_reducible refine HEQ.out.mono ?_
      rintro e wc1 ⟨rfl, hgr⟩
      have HSC := qd (HSB.out.grown hgr)
      clear hgr g0 g1 g2 g3 k0 k1 k2 k3)
     clear HSB HEQ
     have HSE := qd HSC.out.dr
     have HKE := qd (show w.grownBy _ none from HSE.out.tl.tl.tl.tl.tl.tl.tl.tl.tl.tl.tl.tl.tl.hd)
     have HBE := qd fun (W1 : World) (L : List Asrt) (h : Sep W1 L) (h1 : BxA nb7 #[.int .i64 g.n, .slice aD g.es.length cD, .slice pD g.i.length qD, .slice rD g.o.length sD] 38 ∈ L) (h2 : BxA w.heap.size #[.int .i64 g.n, .slice aG g.es.length cG, .slice pG g.i.length qG, .slice rG g.o.length sG] 25 ∈ L) => show (W1.cell? ⟨nb7, 0, none⟩ = some (.int .i64 g.n) ∧ W1.cell? ⟨nb7, 1, none⟩ = some (.slice aD g.es.length cD) ∧ W1.cell? ⟨nb7, 2, none⟩ = some (.slice pD g.i.length qD) ∧ W1.cell? ⟨nb7, 3, none⟩ = some (.slice rD g.o.length sD)) ∧ (W1.cell? ⟨w.heap.size, 0, none⟩ = some (.int .i64 g.n) ∧ W1.cell? ⟨w.heap.size, 1, none⟩ = some (.slice aG g.es.length cG) ∧ W1.cell? ⟨w.heap.size, 2, none⟩ = some (.slice pG g.i.length qG) ∧ W1.cell? ⟨w.heap.size, 3, none⟩ = some (.slice rG g.o.length sG)) from by
      obtain ⟨p0, p1, p2, p3, _⟩ := gq4 (show W1.heap[nb7]? = some (.cells #[.int .i64 g.n, .slice aD g.es.length cD, .slice pD g.i.length qD, .slice rD g.o.length sD] 38 (0, 0)) from Sep.all h _ h1)
      obtain ⟨q0, q1, q2, q3, _⟩ := gq4 (show W1.heap[w.heap.size]? = some (.cells #[.int .i64 g.n, .slice aG g.es.length cG, .slice pG g.i.length qG, .slice rG g.o.length sG] 25 (0, 0)) from Sep.all h _ h2)
      exact ⟨⟨p0, p1, p2, p3⟩, ⟨q0, q1, q2, q3⟩⟩
     have XE := qd (HBE.out _ _ HSE.out (by simp) (by simp))
     refine AnyL.start (fun W1 => (W1.cell? ⟨nb7, 0, none⟩ = some (.int .i64 g.n) ∧ W1.cell? ⟨nb7, 1, none⟩ = some (.slice aD g.es.length cD) ∧ W1.cell? ⟨nb7, 2, none⟩ = some (.slice pD g.i.length qD) ∧ W1.cell? ⟨nb7, 3, none⟩ = some (.slice rD g.o.length sD)) ∧ (W1.cell? ⟨w.heap.size, 0, none⟩ = some (.int .i64 g.n) ∧ W1.cell? ⟨w.heap.size, 1, none⟩ = some (.slice aG g.es.length cG) ∧ W1.cell? ⟨w.heap.size, 2, none⟩ = some (.slice pG g.i.length qG) ∧ W1.cell? ⟨w.heap.size, 3, none⟩ = some (.slice rG g.o.length sG))) (fun _ => True) 99 (by kernel_rfl) ?_
     refine AnyL.tT 0 (by exact XE.out) ?_
     refine AnyL.tT 1 (by exact XE.out) ?_
     refine AnyL.step (i := 2) (by kernel_rfl) (by rfl) (fun K hK => ?_)
     go_simp
     go_at_call 10
     with_reducible refine (HTG2.out _ HKE.out).mono ?_
     rintro e wea ⟨aH, cH, pH, qH, rH, sH, xsH, rfl, hxs, hsg⟩
     have HXH := qd hxs
     have hs := HSE.out.graft1 hsg OX3_own
     clear hxs
     have HQE := qd (HEG.out _ _ _ _ _ _ _ (OX3.read hs.tl.tl.tl.tl.tl.tl.tl.tl.hd HXD.out) (OX3.read hs.hd HXH.out))
     have HSF := qd hs
     clear hsg hs
     refine shutNx hK _ (by exact HBE.out _ _ HSF.out (by simp) (by simp)) (by exact fun _ => trivial) ?_
     clear hK K
     refine AnyL.step (i := 3) (by kernel_rfl) (by rfl) (fun K hK => ?_)
     go_simp
     go_at_call 14
     with_reducible refine HQE.out.mono ?_
     rintro e wfa ⟨rfl, hgr⟩
     have HSD1 := qd (HSF.out.grown hgr).tl
     clear hgr
     refine shutNx hK _ (by exact HBE.out _ _ HSD1.out (by simp) (by simp)) (by exact fun _ => trivial) ?_
     clear hK K
     refine AnyL.tT 4 (by exact HBE.out _ _ HSD1.out (by simp) (by simp)) ?_
     refine AnyL.done (by kernel_rfl) ?_ _
     clear HSE HSF XE HBE HQE HKE
     clear HSC
     go_upto_region 20 with fail
     have HSE := qd HSD1.out.dr
     have HKE := qd (show w.grownBy _ none from HSE.out.tl.tl.tl.tl.tl.tl.tl.tl.tl.tl.tl.tl.tl.hd)
     have HBE := qd fun (W1 : World) (L : List Asrt) (h : Sep W1 L) (h1 : BxA nb8 #[.string s, .slice tE x.length uE, .slice vE y.length zE] 46 ∈ L) (h2 : BxA (w.heap.size + 1) #[.string s, .slice tG x.length uG, .slice vG y.length zG] 30 ∈ L) => show (W1.cell? ⟨nb8, 0, none⟩ = some (.string s) ∧ W1.cell? ⟨nb8, 1, none⟩ = some (.slice tE x.length uE) ∧ W1.cell? ⟨nb8, 2, none⟩ = some (.slice vE y.length zE)) ∧ (W1.cell? ⟨w.heap.size + 1, 0, none⟩ = some (.string s) ∧ W1.cell? ⟨w.heap.size + 1, 1, none⟩ = some (.slice tG x.length uG) ∧ W1.cell? ⟨w.heap.size + 1, 2, none⟩ = some (.slice vG y.length zG)) from by
      obtain ⟨p0, p1, p2⟩ := bw3 (show W1.heap[nb8]? = some (.cells #[.string s, .slice tE x.length uE, .slice vE y.length zE] 46 (0, 0)) from Sep.all h _ h1)
      obtain ⟨q0, q1, q2⟩ := bw3 (show W1.heap[(w.heap.size + 1)]? = some (.cells #[.string s, .slice tG x.length uG, .slice vG y.length zG] 30 (0, 0)) from Sep.all h _ h2)
      exact ⟨⟨p0, p1, p2⟩, ⟨q0, q1, q2⟩⟩
     have XE := qd (HBE.out _ _ HSE.out (by simp) (by simp))
     refine AnyL.start (fun W1 => (W1.cell? ⟨nb8, 0, none⟩ = some (.string s) ∧ W1.cell? ⟨nb8, 1, none⟩ = some (.slice tE x.length uE) ∧ W1.cell? ⟨nb8, 2, none⟩ = some (.slice vE y.length zE)) ∧ (W1.cell? ⟨w.heap.size + 1, 0, none⟩ = some (.string s) ∧ W1.cell? ⟨w.heap.size + 1, 1, none⟩ = some (.slice tG x.length uG) ∧ W1.cell? ⟨w.heap.size + 1, 2, none⟩ = some (.slice vG y.length zG))) (fun _ => True) 99 (by kernel_rfl) ?_
     refine AnyL.tT 0 (by exact XE.out) ?_
     refine AnyL.tT 1 (by exact XE.out) ?_
     refine AnyL.step (i := 2) (by kernel_rfl) (by rfl) (fun K hK => ?_)
     go_simp
     go_at_call 11
     with_reducible refine (HTR2.out _ HKE.out).mono ?_
     rintro e web ⟨tI, uI, vI, zI, rfl, hsg⟩
     have hs := HSE.out.graft1 hsg ORl_own
     have HQE := qd (HER.out _ _ _ _ _ _ _ _ _ (ORl.read hs.tl.tl.tl.tl.tl.tl.hd) (ORl.read hs.hd))
     have HSF := qd hs
     clear hsg hs
     refine shutNx hK _ (by exact HBE.out _ _ HSF.out (by simp) (by simp)) (by exact fun _ => trivial) ?_
     clear hK K
     refine AnyL.step (i := 3) (by kernel_rfl) (by rfl) (fun K hK => ?_)
     go_simp
     go_at_call 15
     with_reducible refine HQE.out.mono ?_
     rintro e wfb ⟨rfl, hgr⟩
     have HSD2 := qd (HSF.out.grown hgr).tl
     clear hgr
     refine shutNx hK _ (by exact HBE.out _ _ HSD2.out (by simp) (by simp)) (by exact fun _ => trivial) ?_
     clear hK K
     refine AnyL.tT 4 (by exact HBE.out _ _ HSD2.out (by simp) (by simp)) ?_
     refine AnyL.done (by kernel_rfl) ?_ _
     clear HSE HSF XE HBE HQE HKE
     clear HSD1
     go_upto_region 22 with fail
     have HSE := qd HSD2.out.dr
     have HKE := qd (show w.grownBy _ none from HSE.out.tl.tl.tl.tl.tl.tl.tl.tl.tl.tl.tl.tl.tl.hd)
     have HBE := qd fun (W1 : World) (L : List Asrt) (h : Sep W1 L) (h1 : BxA nb9 #[.slice dF W.length eF, .slice fF E.length hF] 48 ∈ L) (h2 : BxA (w.heap.size + 2) #[.slice dG W.length eG, .slice fG E.length hG] 32 ∈ L) => show (W1.cell? ⟨nb9, 0, none⟩ = some (.slice dF W.length eF) ∧ W1.cell? ⟨nb9, 1, none⟩ = some (.slice fF E.length hF)) ∧ (W1.cell? ⟨w.heap.size + 2, 0, none⟩ = some (.slice dG W.length eG) ∧ W1.cell? ⟨w.heap.size + 2, 1, none⟩ = some (.slice fG E.length hG)) from by
      obtain ⟨p0, p1, _⟩ := bw2 (show W1.heap[nb9]? = some (.cells #[.slice dF W.length eF, .slice fF E.length hF] 48 (0, 0)) from Sep.all h _ h1)
      obtain ⟨q0, q1, _⟩ := bw2 (show W1.heap[(w.heap.size + 2)]? = some (.cells #[.slice dG W.length eG, .slice fG E.length hG] 32 (0, 0)) from Sep.all h _ h2)
      exact ⟨⟨p0, p1⟩, ⟨q0, q1⟩⟩
     have XE := qd (HBE.out _ _ HSE.out (by simp) (by simp))
     refine AnyL.start (fun W1 => (W1.cell? ⟨nb9, 0, none⟩ = some (.slice dF W.length eF) ∧ W1.cell? ⟨nb9, 1, none⟩ = some (.slice fF E.length hF)) ∧ (W1.cell? ⟨w.heap.size + 2, 0, none⟩ = some (.slice dG W.length eG) ∧ W1.cell? ⟨w.heap.size + 2, 1, none⟩ = some (.slice fG E.length hG))) (fun _ => True) 99 (by kernel_rfl) ?_
     refine AnyL.tT 0 (by exact XE.out) ?_
     refine AnyL.tT 1 (by exact XE.out) ?_
     refine AnyL.step (i := 2) (by kernel_rfl) (by rfl) (fun K hK => ?_)
     go_simp
     go_at_call 12
     with_reducible refine (HTM2.out _ HKE.out).mono ?_
     rintro e wec ⟨dJ, eJ, fJ, hJ, rfl, hsg⟩
     have hs := HSE.out.graft1 hsg OMt_own
     have HQE := qd (HEM.out _ _ _ _ _ _ _ _ _ (OMt.read hs.tl.tl.tl.tl.hd) (OMt.read hs.hd))
     have HSF := qd hs
     clear hsg hs
     refine shutNx hK _ (by exact HBE.out _ _ HSF.out (by simp) (by simp)) (by exact fun _ => trivial) ?_
     clear hK K
     refine AnyL.step (i := 3) (by kernel_rfl) (by rfl) (fun K hK => ?_)
     go_simp
     go_at_call 16
     with_reducible refine HQE.out.mono ?_
     rintro e wfc ⟨rfl, hgr⟩
     have HSD3 := qd (HSF.out.grown hgr).tl
     clear hgr
     refine shutNx hK _ (by exact HBE.out _ _ HSD3.out (by simp) (by simp)) (by exact fun _ => trivial) ?_
     clear hK K
     refine AnyL.tT 4 (by exact HBE.out _ _ HSD3.out (by simp) (by simp)) ?_
     refine AnyL.done (by kernel_rfl) ?_ _
     clear HSE HSF XE HBE HQE HKE
     clear HSD2
     have hp1 := Sep.blk3 (X := []) (A := [_, _, _, _, _, _, _]) (B := [_]) HSD3.out
     have hp2 := Sep.blk3 (X := [_]) (A := [_, _, _, _, _, _]) (B := [_]) hp1
     have hp3 := Sep.blk3 (X := [_, _]) (A := [_, _, _, _]) (B := [_]) hp2
     have hp4 := Sep.blk3 (X := [_, _, _]) (A := [_, _]) (B := [_]) hp3
     have hp5 := Sep.blk3 (X := [_, _, _, _]) (A := [_, _, _]) (B := [_]) hp4
     have hm0_ := Sep.blk3 (X := [_, _, _, _, _]) (A := [_, _]) (B := [_]) hp5
     try simp only [List.nil_append, List.cons_append, List.append_eq] at hm0_
     clear hp1 hp2 hp3 hp4 hp5
     have HMA := qd hm0_
     clear hm0_ HSD3
     obtain ⟨g0, g1, g2, g3, _⟩ := gq4 HMA.out.tl.hd
     obtain ⟨y0, y1, y2⟩ := bw3 HMA.out.tl.tl.hd
     obtain ⟨m0, m1, _⟩ := bw2 HMA.out.tl.tl.tl.hd
     have HM1_ := qd (HMG.out _ _ _ _ _ _ HMA.out HXD.out)
     go_upto_region 38 with (first
      |(go_at_call 17
        with_reducible refine HM1_.out.mono ?_
        rintro e wg ⟨k1, rfl, ⟨hk0, hk1⟩, hs1⟩
        have hp1 := Sep.cutA (X := []) (A := [_]) hs1
        have hs2 := Sep.blk3 (X := []) (A := [_, _]) (B := [_]) hp1
        try simp only [List.nil_append, List.cons_append, List.append_eq] at hs2
        clear hp1
        clear g0 g1 g2 g3
        clear y0 y1 y2
        clear m0 m1
        obtain ⟨y0, y1, y2⟩ := bw3 hs2.tl.hd
        obtain ⟨m0, m1, _⟩ := bw2 hs2.tl.tl.hd
        have HM2_ := qd (HMR.out k1 hk0 hk1 _ _ _ _ _ _ hs2)
        clear hs1 hs2 hk0 hk1)
      |(go_at_call 18
        with_reducible refine HM2_.out.mono ?_
        rintro e wh ⟨k2, rfl, ⟨hk0, hk1⟩, hs1⟩
        have hp1 := Sep.cutA (X := []) (A := [_]) hs1
        have hs2 := Sep.blk3 (X := []) (A := [_]) (B := [_]) hp1
        try simp only [List.nil_append, List.cons_append, List.append_eq] at hs2
        clear hp1
        clear y0 y1 y2
        clear m0 m1
        obtain ⟨m0, m1, _⟩ := bw2 hs2.tl.hd
        have HM3_ := qd (HMM.out k2 hk0 hk1 _ _ _ _ _ _ hs2)
        clear hs1 hs2 hk0 hk1)
      |(go_at_call 19
        with_reducible refine HM3_.out.mono ?_
        rintro e wi ⟨k3, rfl, ⟨hk0, hk1⟩, hs1⟩
        have hk3 : ¬ k3 < 0 := by omega
        have hp1 := Sep.cutA (X := []) (A := [_]) hs1
        have hs2 := Sep.blk3 (X := []) (A := [_]) (B := [_]) hp1
        try simp only [List.nil_append, List.cons_append, List.append_eq] at hs2
        clear hp1
        clear m0 m1
        have HSG := qd hs2
        obtain ⟨g0, g1, g2, g3, _⟩ := gq4 hs2.tl.hd
        obtain ⟨k0, k1, k2, k3, _⟩ := gq4 hs2.tl.tl.hd
        have HEQ2 := qd (HEK.out _ _ _ _ _ _ _ (OX3.read hs2.hd HX1.out) (OX3.read hs2.tl.tl.tl.hd HX0.out))
        clear hs1 hs2 hk0 hk1)
      |(go_at_call 14
        with_reducible refine HEQ2.out.mono ?_
        rintro e wj ⟨rfl, hgr⟩
        have hs := HSG.out.grown hgr
        clear g0 g1 g2 g3
        clear k0 k1 k2 k3
        obtain ⟨g0, g1, g2, g3, _⟩ := gq4 hs.tl.hd
        have HMK1 := qd (HMK.out _ _ _ _ _ _ hs HX1.out)
        clear hgr hs)
      |(go_at_call 17
        with_reducible refine HMK1.out.mono ?_
        rintro e wk ⟨rfl, hs, hxs⟩
        have HYM := qd hxs
        have HSK := qd hs
        clear g0 g1 g2 g3
        obtain ⟨g0, g1, g2, g3, _⟩ := gq4 hs.tl.hd
        have HHG := qd (HHK.out _ _ _ _ (OX3.read hs.hd hxs))
        clear hs hxs)
      |(go_at_call 20
        with_reducible refine HHG.out.mono ?_
        rintro e wl ⟨rfl, hgr⟩
        have HSL := qd (HSK.out.grown hgr)
        clear hgr g0 g1 g2 g3))
     clear HMA HM1_ HM2_ HM3_ HSG HEQ2 HMK1 HSK HHG HMG HMR HMM HEG HER HEM HS6 HK6
     have HSM := qd HSL.out.dr
     have HKM := qd (show w.grownBy _ none from HSM.out.tl.tl.tl.tl.tl.tl.tl.hd)
     go_cut [18, 19] from 115 to 125 (fun v6 v7 wx => ∃ (nb : Nat) (a2 : Option Addr) (c2 : Nat) (p2 : Option Addr) (q2 : Nat) (r2 : Option Addr) (s2 : Nat) (xs2 : List XE), v6 = .pointer (some ⟨nb, 0, none⟩) ∧ v7 = .bool b ∧ eds xs2 = K.es ∧ Sep wx [BxA nb #[.int .i64 K.n, .slice a2 K.es.length c2, .slice p2 K.i.length q2, .slice r2 K.o.length s2] 38, OX3 (.slice a2 K.es.length c2) xs2 (.slice p2 K.i.length q2) K.i (.slice r2 K.o.length s2) K.o, OX3 (.slice a1 K.es.length c1) (mkXs 1 xs1) (.slice p1 K.i.length q1) (mkX3 1 K).i (.slice r1 K.o.length s1) (mkX3 1 K).o, BxA nb1 #[.int .i64 K.n, .slice a1 K.es.length c1, .slice p1 K.i.length q1, .slice r1 K.o.length s1] 38, BxA nb0 #[.int .i64 K.n, .slice a0 K.es.length c0, .slice p0 K.i.length q0, .slice r0 K.o.length s0] 38, OX3 (.slice a0 K.es.length c0) xs0 (.slice p0 K.i.length q0) K.i (.slice r0 K.o.length s0) K.o, BxA (w.heap.size + 2) #[.slice dG W.length eG, .slice fG E.length hG] 32, BxA (w.heap.size + 1) #[.string s, .slice tG x.length uG, .slice vG y.length zG] 30, BxA w.heap.size #[.int .i64 g.n, .slice aG g.es.length cG, .slice pG g.i.length qG, .slice rG g.o.length sG] 25, KeepA w])
     case first =>
      have XA0 := qd (HBM.out _ _ HSM.out (by simp) (by simp) (by simp))
      refine AnyL.start (fun W1 => (W1.cell? ⟨w.heap.size, 0, none⟩ = some (.int .i64 g.n) ∧ W1.cell? ⟨w.heap.size, 1, none⟩ = some (.slice aG g.es.length cG) ∧ W1.cell? ⟨w.heap.size, 2, none⟩ = some (.slice pG g.i.length qG) ∧ W1.cell? ⟨w.heap.size, 3, none⟩ = some (.slice rG g.o.length sG)) ∧ (W1.cell? ⟨w.heap.size + 1, 0, none⟩ = some (.string s) ∧ W1.cell? ⟨w.heap.size + 1, 1, none⟩ = some (.slice tG x.length uG) ∧ W1.cell? ⟨w.heap.size + 1, 2, none⟩ = some (.slice vG y.length zG)) ∧ (W1.cell? ⟨w.heap.size + 2, 0, none⟩ = some (.slice dG W.length eG) ∧ W1.cell? ⟨w.heap.size + 2, 1, none⟩ = some (.slice fG E.length hG))) (fun _ => True) 99 (by kernel_rfl) ?_
      refine AnyL.tT 0 (by exact XA0.out) ?_
      refine AnyL.tT 2 (by exact XA0.out) ?_
      refine AnyL.tT 4 (by exact XA0.out) ?_
      refine AnyL.twoM (i := 1) (j := 10) (by kernel_rfl) (by rfl) (by rfl) (fun KK hKK => ?_) (fun KK hKK => ?_)
      ·go_simp
       go_at_call 10
       with_reducible refine (HTG2.out _ HKM.out).mono ?_
       rintro e wbc ⟨aL, cL, pL, qL, rL, sL, xsL, rfl, hxs, hsg⟩
       have HXL := qd hxs
       have hs := HSM.out.graft1 hsg OX3_own
       clear hxs
       have HSbc := qd hs
       have HKbc := qd (show w.grownBy _ none from hs.tl.tl.tl.tl.tl.tl.tl.tl.hd)
       clear hsg hs
       refine shutNx hKK _ (by exact HBM.out _ _ HSbc.out (by simp) (by simp) (by simp)) (by exact fun _ => trivial) ?_
       clear hKK KK
       refine AnyL.twoM (i := 3) (j := 10) (by kernel_rfl) (by rfl) (by rfl) (fun KK hKK => ?_) (fun KK hKK => ?_)
       ·go_simp
        go_at_call 11
        with_reducible refine (HTR2.out _ HKbc.out).mono ?_
        rintro e wbcc ⟨tM, uM, vM, zM, rfl, hsg⟩
        have hs := HSbc.out.graft1 hsg ORl_own
        have HSbcc := qd hs
        have HKbcc := qd (show w.grownBy _ none from hs.tl.tl.tl.tl.tl.tl.tl.tl.tl.hd)
        clear hsg hs
        refine shutNx hKK _ (by exact HBM.out _ _ HSbcc.out (by simp) (by simp) (by simp)) (by exact fun _ => trivial) ?_
        clear hKK KK
        refine AnyL.twoM (i := 5) (j := 10) (by kernel_rfl) (by rfl) (by rfl) (fun KK hKK => ?_) (fun KK hKK => ?_)
        ·go_simp
         go_at_call 12
         with_reducible refine (HTM2.out _ HKbcc.out).mono ?_
         rintro e wbccc ⟨dN, eN, fN, hN, rfl, hsg⟩
         have hs := HSbcc.out.graft1 hsg OMt_own
         have HSbccc := qd hs
         have HKbccc := qd (show w.grownBy _ none from hs.tl.tl.tl.tl.tl.tl.tl.tl.tl.tl.hd)
         clear hsg hs
         refine shutNx hKK _ (by exact HBM.out _ _ HSbccc.out (by simp) (by simp) (by simp)) (by exact fun _ => trivial) ?_
         clear hKK KK
         refine AnyL.twoM (i := 6) (j := 10) (by kernel_rfl) (by rfl) (by rfl) (fun KK hKK => ?_) (fun KK hKK => ?_)
         ·go_simp
          have HCC := qd (HIM.out _ _ _ _ _ _ _ _ _ _ _ _ (OX3.read HSbccc.out.tl.tl.hd HXL.out) (ORl.read HSbccc.out.tl.hd) (OMt.read HSbccc.out.hd))
          go_at_call 13
          with_reducible refine HCC.out.mono ?_
          rintro e wbcccc ⟨a2, c2, p2, q2, r2, s2, xs2, rfl, hxs, hsg⟩
          have HX2 := qd hxs
          have hs0 := HSbccc.out.graft1 hsg OX3_own
          have hs := Sep.cutA (X := [_]) (A := [_, _, _]) hs0
          try simp only [List.nil_append, List.cons_append, List.append_eq] at hs
          have HSbcccc := qd hs
          have HKbcccc := qd (show w.grownBy _ none from hs.tl.tl.tl.tl.tl.tl.tl.tl.hd)
          clear hsg hs hs0 hxs HCC
          refine shutNx hKK _ (by exact HBM.out _ _ HSbcccc.out (by simp) (by simp) (by simp)) (by exact fun _ => trivial) ?_
          clear hKK KK
          refine AnyL.tT 7 (by exact HBM.out _ _ HSbcccc.out (by simp) (by simp) (by simp)) ?_
          refine AnyL.tT 8 (by exact HBM.out _ _ HSbcccc.out (by simp) (by simp) (by simp)) ?_
          refine AnyL.tT 9 (by exact HBM.out _ _ HSbcccc.out (by simp) (by simp) (by simp)) ?_
          refine AnyL.step (i := 10) (by kernel_rfl) (by rfl) (fun KK hKK => ?_)
          go_simp
          have HSbccccz := qd (HSbcccc.out.boxAt (wbcccc.heap.size) (by rfl) #[.int .i64 0, .slice none 0 0, .slice none 0 0, .slice none 0 0] 38)
          refine shutNx hKK (wbcccc.alloc (.cells #[.int .i64 0, .slice none 0 0, .slice none 0 0, .slice none 0 0] 38)) (by exact HBM.out _ _ HSbccccz.out (by simp) (by simp) (by simp)) (by exact fun _ => trivial) ?_
          clear hKK KK
          generalize wbcccc.alloc (.cells #[.int .i64 0, .slice none 0 0, .slice none 0 0, .slice none 0 0] 38) = wbccccz at *
          generalize wbcccc.heap.size = nb at *
          have HKbccccz := qd (show w.grownBy _ none from HSbccccz.out.tl.tl.tl.tl.tl.tl.tl.tl.tl.hd)
          have h8 := HSbccccz.out
          obtain ⟨k0, k1, k2, k3, j0, j1, j2, j3⟩ := gq4 h8.hd
          have HZ9 := qd ((((h8.setB 0 (.int .i64 K.n)).setB 1 (.slice a2 K.es.length c2)).setB 2 (.slice p2 K.i.length q2)).setB 3 (.slice r2 K.o.length s2))
          clear h8
          refine AnyL.step (i := 11) (by kernel_rfl) (by rfl) (fun KK hKK => ?_)
          go_simp
          refine shutNx hKK ((((wbccccz.setCell ⟨nb, 0, none⟩ (.int .i64 K.n)).setCell ⟨nb, 1, none⟩ (.slice a2 K.es.length c2)).setCell ⟨nb, 2, none⟩ (.slice p2 K.i.length q2)).setCell ⟨nb, 3, none⟩ (.slice r2 K.o.length s2)) (by exact HBM.out _ _ HZ9.out (by simp) (by simp) (by simp)) (by exact fun _ => trivial) ?_
          clear hKK KK
          refine AnyL.tT 12 (by exact HBM.out _ _ HZ9.out (by simp) (by simp) (by simp)) ?_
          refine AnyL.done (by kernel_rfl) ?_ _
          clear k0 k1 k2 k3 j0 j1 j2 j3
          go_wp2_with fail
          go_meet
          exact ⟨nb, a2, c2, p2, q2, r2, s2, xs2, rfl, rfl, HX2.out, HZ9.out⟩
         ·go_simp
          have HSbcccz := qd (HSbccc.out.boxAt (wbccc.heap.size) (by rfl) #[.int .i64 0, .slice none 0 0, .slice none 0 0, .slice none 0 0] 38)
          refine shutNx hKK (wbccc.alloc (.cells #[.int .i64 0, .slice none 0 0, .slice none 0 0, .slice none 0 0] 38)) (by exact HBM.out _ _ HSbcccz.out (by simp) (by simp) (by simp)) (by exact fun _ => trivial) ?_
          clear hKK KK
          generalize wbccc.alloc (.cells #[.int .i64 0, .slice none 0 0, .slice none 0 0, .slice none 0 0] 38) = wbcccz at *
          generalize wbccc.heap.size = nb at *
          have HKbcccz := qd (show w.grownBy _ none from HSbcccz.out.tl.tl.tl.tl.tl.tl.tl.tl.tl.tl.tl.hd)
          refine AnyL.step (i := 6) (by kernel_rfl) (by rfl) (fun KK hKK => ?_)
          go_simp
          have HCC := qd (HIM.out _ _ _ _ _ _ _ _ _ _ _ _ (OX3.read HSbcccz.out.tl.tl.tl.hd HXL.out) (ORl.read HSbcccz.out.tl.tl.hd) (OMt.read HSbcccz.out.tl.hd))
          go_at_call 13
          with_reducible refine HCC.out.mono ?_
          rintro e wbccczc ⟨a2, c2, p2, q2, r2, s2, xs2, rfl, hxs, hsg⟩
          have HX2 := qd hxs
          have hs0 := HSbcccz.out.graft1 hsg OX3_own
          have hs := Sep.cutA (X := [_, _]) (A := [_, _, _]) hs0
          try simp only [List.nil_append, List.cons_append, List.append_eq] at hs
          have HSbccczc := qd hs
          have HKbccczc := qd (show w.grownBy _ none from hs.tl.tl.tl.tl.tl.tl.tl.tl.tl.hd)
          clear hsg hs hs0 hxs HCC
          refine shutNx hKK _ (by exact HBM.out _ _ HSbccczc.out (by simp) (by simp) (by simp)) (by exact fun _ => trivial) ?_
          clear hKK KK
          refine AnyL.tT 7 (by exact HBM.out _ _ HSbccczc.out (by simp) (by simp) (by simp)) ?_
          refine AnyL.tT 8 (by exact HBM.out _ _ HSbccczc.out (by simp) (by simp) (by simp)) ?_
          refine AnyL.tT 9 (by exact HBM.out _ _ HSbccczc.out (by simp) (by simp) (by simp)) ?_
          have h8 := Sep.blk3 (X := []) (A := [_]) (B := [_]) HSbccczc.out
          try simp only [List.nil_append, List.cons_append, List.append_eq] at h8
          obtain ⟨k0, k1, k2, k3, j0, j1, j2, j3⟩ := gq4 h8.hd
          have HZ9 := qd ((((h8.setB 0 (.int .i64 K.n)).setB 1 (.slice a2 K.es.length c2)).setB 2 (.slice p2 K.i.length q2)).setB 3 (.slice r2 K.o.length s2))
          clear h8
          refine AnyL.step (i := 11) (by kernel_rfl) (by rfl) (fun KK hKK => ?_)
          go_simp
          refine shutNx hKK ((((wbccczc.setCell ⟨nb, 0, none⟩ (.int .i64 K.n)).setCell ⟨nb, 1, none⟩ (.slice a2 K.es.length c2)).setCell ⟨nb, 2, none⟩ (.slice p2 K.i.length q2)).setCell ⟨nb, 3, none⟩ (.slice r2 K.o.length s2)) (by exact HBM.out _ _ HZ9.out (by simp) (by simp) (by simp)) (by exact fun _ => trivial) ?_
          clear hKK KK
          refine AnyL.tT 12 (by exact HBM.out _ _ HZ9.out (by simp) (by simp) (by simp)) ?_
          refine AnyL.done (by kernel_rfl) ?_ _
          clear k0 k1 k2 k3 j0 j1 j2 j3
          go_wp2_with fail
          go_meet
          exact ⟨nb, a2, c2, p2, q2, r2, s2, xs2, rfl, rfl, HX2.out, HZ9.out⟩
        ·go_simp
         have HSbccz := qd (HSbcc.out.boxAt (wbcc.heap.size) (by rfl) #[.int .i64 0, .slice none 0 0, .slice none 0 0, .slice none 0 0] 38)
         refine shutNx hKK (wbcc.alloc (.cells #[.int .i64 0, .slice none 0 0, .slice none 0 0, .slice none 0 0] 38)) (by exact HBM.out _ _ HSbccz.out (by simp) (by simp) (by simp)) (by exact fun _ => trivial) ?_
         clear hKK KK
         generalize wbcc.alloc (.cells #[.int .i64 0, .slice none 0 0, .slice none 0 0, .slice none 0 0] 38) = wbccz at *
         generalize wbcc.heap.size = nb at *
         have HKbccz := qd (show w.grownBy _ none from HSbccz.out.tl.tl.tl.tl.tl.tl.tl.tl.tl.tl.hd)
         refine AnyL.step (i := 5) (by kernel_rfl) (by rfl) (fun KK hKK => ?_)
         go_simp
         go_at_call 12
         with_reducible refine (HTM2.out _ HKbccz.out).mono ?_
         rintro e wbcczc ⟨dN, eN, fN, hN, rfl, hsg⟩
         have hs := HSbccz.out.graft1 hsg OMt_own
         have HSbcczc := qd hs
         have HKbcczc := qd (show w.grownBy _ none from hs.tl.tl.tl.tl.tl.tl.tl.tl.tl.tl.tl.hd)
         clear hsg hs
         refine shutNx hKK _ (by exact HBM.out _ _ HSbcczc.out (by simp) (by simp) (by simp)) (by exact fun _ => trivial) ?_
         clear hKK KK
         refine AnyL.step (i := 6) (by kernel_rfl) (by rfl) (fun KK hKK => ?_)
         go_simp
         have HCC := qd (HIM.out _ _ _ _ _ _ _ _ _ _ _ _ (OX3.read HSbcczc.out.tl.tl.tl.hd HXL.out) (ORl.read HSbcczc.out.tl.tl.hd) (OMt.read HSbcczc.out.hd))
         go_at_call 13
         with_reducible refine HCC.out.mono ?_
         rintro e wbcczcc ⟨a2, c2, p2, q2, r2, s2, xs2, rfl, hxs, hsg⟩
         have HX2 := qd hxs
         have hs0 := HSbcczc.out.graft1 hsg OX3_own
         have hq1 := Sep.cutA (X := [_]) (A := [_]) hs0
         have hs := Sep.cutA (X := [_, _]) (A := [_, _]) hq1
         try simp only [List.nil_append, List.cons_append, List.append_eq] at hs
         clear hq1
         have HSbcczcc := qd hs
         have HKbcczcc := qd (show w.grownBy _ none from hs.tl.tl.tl.tl.tl.tl.tl.tl.tl.hd)
         clear hsg hs hs0 hxs HCC
         refine shutNx hKK _ (by exact HBM.out _ _ HSbcczcc.out (by simp) (by simp) (by simp)) (by exact fun _ => trivial) ?_
         clear hKK KK
         refine AnyL.tT 7 (by exact HBM.out _ _ HSbcczcc.out (by simp) (by simp) (by simp)) ?_
         refine AnyL.tT 8 (by exact HBM.out _ _ HSbcczcc.out (by simp) (by simp) (by simp)) ?_
         refine AnyL.tT 9 (by exact HBM.out _ _ HSbcczcc.out (by simp) (by simp) (by simp)) ?_
         have h8 := Sep.blk3 (X := []) (A := [_]) (B := [_]) HSbcczcc.out
         try simp only [List.nil_append, List.cons_append, List.append_eq] at h8
         obtain ⟨k0, k1, k2, k3, j0, j1, j2, j3⟩ := gq4 h8.hd
         have HZ9 := qd ((((h8.setB 0 (.int .i64 K.n)).setB 1 (.slice a2 K.es.length c2)).setB 2 (.slice p2 K.i.length q2)).setB 3 (.slice r2 K.o.length s2))
         clear h8
         refine AnyL.step (i := 11) (by kernel_rfl) (by rfl) (fun KK hKK => ?_)
         go_simp
         refine shutNx hKK ((((wbcczcc.setCell ⟨nb, 0, none⟩ (.int .i64 K.n)).setCell ⟨nb, 1, none⟩ (.slice a2 K.es.length c2)).setCell ⟨nb, 2, none⟩ (.slice p2 K.i.length q2)).setCell ⟨nb, 3, none⟩ (.slice r2 K.o.length s2)) (by exact HBM.out _ _ HZ9.out (by simp) (by simp) (by simp)) (by exact fun _ => trivial) ?_
         clear hKK KK
         refine AnyL.tT 12 (by exact HBM.out _ _ HZ9.out (by simp) (by simp) (by simp)) ?_
         refine AnyL.done (by kernel_rfl) ?_ _
         clear k0 k1 k2 k3 j0 j1 j2 j3
         go_wp2_with fail
         go_meet
         exact ⟨nb, a2, c2, p2, q2, r2, s2, xs2, rfl, rfl, HX2.out, HZ9.out⟩
       ·go_simp
        have HSbcz := qd (HSbc.out.boxAt (wbc.heap.size) (by rfl) #[.int .i64 0, .slice none 0 0, .slice none 0 0, .slice none 0 0] 38)
        refine shutNx hKK (wbc.alloc (.cells #[.int .i64 0, .slice none 0 0, .slice none 0 0, .slice none 0 0] 38)) (by exact HBM.out _ _ HSbcz.out (by simp) (by simp) (by simp)) (by exact fun _ => trivial) ?_
        clear hKK KK
        generalize wbc.alloc (.cells #[.int .i64 0, .slice none 0 0, .slice none 0 0, .slice none 0 0] 38) = wbcz at *
        generalize wbc.heap.size = nb at *
        have HKbcz := qd (show w.grownBy _ none from HSbcz.out.tl.tl.tl.tl.tl.tl.tl.tl.tl.hd)
        refine AnyL.step (i := 3) (by kernel_rfl) (by rfl) (fun KK hKK => ?_)
        go_simp
        go_at_call 11
        with_reducible refine (HTR2.out _ HKbcz.out).mono ?_
        rintro e wbczc ⟨tM, uM, vM, zM, rfl, hsg⟩
        have hs := HSbcz.out.graft1 hsg ORl_own
        have HSbczc := qd hs
        have HKbczc := qd (show w.grownBy _ none from hs.tl.tl.tl.tl.tl.tl.tl.tl.tl.tl.hd)
        clear hsg hs
        refine shutNx hKK _ (by exact HBM.out _ _ HSbczc.out (by simp) (by simp) (by simp)) (by exact fun _ => trivial) ?_
        clear hKK KK
        refine AnyL.step (i := 5) (by kernel_rfl) (by rfl) (fun KK hKK => ?_)
        go_simp
        go_at_call 12
        with_reducible refine (HTM2.out _ HKbczc.out).mono ?_
        rintro e wbczcc ⟨dN, eN, fN, hN, rfl, hsg⟩
        have hs := HSbczc.out.graft1 hsg OMt_own
        have HSbczcc := qd hs
        have HKbczcc := qd (show w.grownBy _ none from hs.tl.tl.tl.tl.tl.tl.tl.tl.tl.tl.tl.hd)
        clear hsg hs
        refine shutNx hKK _ (by exact HBM.out _ _ HSbczcc.out (by simp) (by simp) (by simp)) (by exact fun _ => trivial) ?_
        clear hKK KK
        refine AnyL.step (i := 6) (by kernel_rfl) (by rfl) (fun KK hKK => ?_)
        go_simp
        have HCC := qd (HIM.out _ _ _ _ _ _ _ _ _ _ _ _ (OX3.read HSbczcc.out.tl.tl.tl.hd HXL.out) (ORl.read HSbczcc.out.tl.hd) (OMt.read HSbczcc.out.hd))
        go_at_call 13
        with_reducible refine HCC.out.mono ?_
        rintro e wbczccc ⟨a2, c2, p2, q2, r2, s2, xs2, rfl, hxs, hsg⟩
        have HX2 := qd hxs
        have hs0 := HSbczcc.out.graft1 hsg OX3_own
        have hq1 := Sep.cutA (X := [_]) (A := [_, _]) hs0
        have hs := Sep.cutA (X := [_, _]) (A := [_]) hq1
        try simp only [List.nil_append, List.cons_append, List.append_eq] at hs
        clear hq1
        have HSbczccc := qd hs
        have HKbczccc := qd (show w.grownBy _ none from hs.tl.tl.tl.tl.tl.tl.tl.tl.tl.hd)
        clear hsg hs hs0 hxs HCC
        refine shutNx hKK _ (by exact HBM.out _ _ HSbczccc.out (by simp) (by simp) (by simp)) (by exact fun _ => trivial) ?_
        clear hKK KK
        refine AnyL.tT 7 (by exact HBM.out _ _ HSbczccc.out (by simp) (by simp) (by simp)) ?_
        refine AnyL.tT 8 (by exact HBM.out _ _ HSbczccc.out (by simp) (by simp) (by simp)) ?_
        refine AnyL.tT 9 (by exact HBM.out _ _ HSbczccc.out (by simp) (by simp) (by simp)) ?_
        have h8 := Sep.blk3 (X := []) (A := [_]) (B := [_]) HSbczccc.out
        try simp only [List.nil_append, List.cons_append, List.append_eq] at h8
        obtain ⟨k0, k1, k2, k3, j0, j1, j2, j3⟩ := gq4 h8.hd
        have HZ9 := qd ((((h8.setB 0 (.int .i64 K.n)).setB 1 (.slice a2 K.es.length c2)).setB 2 (.slice p2 K.i.length q2)).setB 3 (.slice r2 K.o.length s2))
        clear h8
        refine AnyL.step (i := 11) (by kernel_rfl) (by rfl) (fun KK hKK => ?_)
        go_simp
        refine shutNx hKK ((((wbczccc.setCell ⟨nb, 0, none⟩ (.int .i64 K.n)).setCell ⟨nb, 1, none⟩ (.slice a2 K.es.length c2)).setCell ⟨nb, 2, none⟩ (.slice p2 K.i.length q2)).setCell ⟨nb, 3, none⟩ (.slice r2 K.o.length s2)) (by exact HBM.out _ _ HZ9.out (by simp) (by simp) (by simp)) (by exact fun _ => trivial) ?_
        clear hKK KK
        refine AnyL.tT 12 (by exact HBM.out _ _ HZ9.out (by simp) (by simp) (by simp)) ?_
        refine AnyL.done (by kernel_rfl) ?_ _
        clear k0 k1 k2 k3 j0 j1 j2 j3
        go_wp2_with fail
        go_meet
        exact ⟨nb, a2, c2, p2, q2, r2, s2, xs2, rfl, rfl, HX2.out, HZ9.out⟩
      ·go_simp
       have HSbz := qd (HSM.out.boxAt (wl.heap.size) (by rfl) #[.int .i64 0, .slice none 0 0, .slice none 0 0, .slice none 0 0] 38)
       refine shutNx hKK (wl.drew.alloc (.cells #[.int .i64 0, .slice none 0 0, .slice none 0 0, .slice none 0 0] 38)) (by exact HBM.out _ _ HSbz.out (by simp) (by simp) (by simp)) (by exact fun _ => trivial) ?_
       clear hKK KK
       generalize wl.drew.alloc (.cells #[.int .i64 0, .slice none 0 0, .slice none 0 0, .slice none 0 0] 38) = wbz at *
       generalize wl.heap.size = nb at *
       have HKbz := qd (show w.grownBy _ none from HSbz.out.tl.tl.tl.tl.tl.tl.tl.tl.hd)
       refine AnyL.step (i := 1) (by kernel_rfl) (by rfl) (fun KK hKK => ?_)
       go_simp
       go_at_call 10
       with_reducible refine (HTG2.out _ HKbz.out).mono ?_
       rintro e wbzc ⟨aL, cL, pL, qL, rL, sL, xsL, rfl, hxs, hsg⟩
       have HXL := qd hxs
       have hs := HSbz.out.graft1 hsg OX3_own
       clear hxs
       have HSbzc := qd hs
       have HKbzc := qd (show w.grownBy _ none from hs.tl.tl.tl.tl.tl.tl.tl.tl.tl.hd)
       clear hsg hs
       refine shutNx hKK _ (by exact HBM.out _ _ HSbzc.out (by simp) (by simp) (by simp)) (by exact fun _ => trivial) ?_
       clear hKK KK
       refine AnyL.step (i := 3) (by kernel_rfl) (by rfl) (fun KK hKK => ?_)
       go_simp
       go_at_call 11
       with_reducible refine (HTR2.out _ HKbzc.out).mono ?_
       rintro e wbzcc ⟨tM, uM, vM, zM, rfl, hsg⟩
       have hs := HSbzc.out.graft1 hsg ORl_own
       have HSbzcc := qd hs
       have HKbzcc := qd (show w.grownBy _ none from hs.tl.tl.tl.tl.tl.tl.tl.tl.tl.tl.hd)
       clear hsg hs
       refine shutNx hKK _ (by exact HBM.out _ _ HSbzcc.out (by simp) (by simp) (by simp)) (by exact fun _ => trivial) ?_
       clear hKK KK
       refine AnyL.step (i := 5) (by kernel_rfl) (by rfl) (fun KK hKK => ?_)
       go_simp
       go_at_call 12
       with_reducible refine (HTM2.out _ HKbzcc.out).mono ?_
       rintro e wbzccc ⟨dN, eN, fN, hN, rfl, hsg⟩
       have hs := HSbzcc.out.graft1 hsg OMt_own
       have HSbzccc := qd hs
       have HKbzccc := qd (show w.grownBy _ none from hs.tl.tl.tl.tl.tl.tl.tl.tl.tl.tl.tl.hd)
       clear hsg hs
       refine shutNx hKK _ (by exact HBM.out _ _ HSbzccc.out (by simp) (by simp) (by simp)) (by exact fun _ => trivial) ?_
       clear hKK KK
       refine AnyL.step (i := 6) (by kernel_rfl) (by rfl) (fun KK hKK => ?_)
       go_simp
       have HCC := qd (HIM.out _ _ _ _ _ _ _ _ _ _ _ _ (OX3.read HSbzccc.out.tl.tl.hd HXL.out) (ORl.read HSbzccc.out.tl.hd) (OMt.read HSbzccc.out.hd))
       go_at_call 13
       with_reducible refine HCC.out.mono ?_
       rintro e wbzcccc ⟨a2, c2, p2, q2, r2, s2, xs2, rfl, hxs, hsg⟩
       have HX2 := qd hxs
       have hs0 := HSbzccc.out.graft1 hsg OX3_own
       have hs := Sep.cutA (X := [_]) (A := [_, _, _]) hs0
       try simp only [List.nil_append, List.cons_append, List.append_eq] at hs
       have HSbzcccc := qd hs
       have HKbzcccc := qd (show w.grownBy _ none from hs.tl.tl.tl.tl.tl.tl.tl.tl.tl.hd)
       clear hsg hs hs0 hxs HCC
       refine shutNx hKK _ (by exact HBM.out _ _ HSbzcccc.out (by simp) (by simp) (by simp)) (by exact fun _ => trivial) ?_
       clear hKK KK
       refine AnyL.tT 7 (by exact HBM.out _ _ HSbzcccc.out (by simp) (by simp) (by simp)) ?_
       refine AnyL.tT 8 (by exact HBM.out _ _ HSbzcccc.out (by simp) (by simp) (by simp)) ?_
       refine AnyL.tT 9 (by exact HBM.out _ _ HSbzcccc.out (by simp) (by simp) (by simp)) ?_
       have h8 := Sep.blk3 (X := []) (A := [_]) (B := [_]) HSbzcccc.out
       try simp only [List.nil_append, List.cons_append, List.append_eq] at h8
       obtain ⟨k0, k1, k2, k3, j0, j1, j2, j3⟩ := gq4 h8.hd
       have HZ9 := qd ((((h8.setB 0 (.int .i64 K.n)).setB 1 (.slice a2 K.es.length c2)).setB 2 (.slice p2 K.i.length q2)).setB 3 (.slice r2 K.o.length s2))
       clear h8
       refine AnyL.step (i := 11) (by kernel_rfl) (by rfl) (fun KK hKK => ?_)
       go_simp
       refine shutNx hKK ((((wbzcccc.setCell ⟨nb, 0, none⟩ (.int .i64 K.n)).setCell ⟨nb, 1, none⟩ (.slice a2 K.es.length c2)).setCell ⟨nb, 2, none⟩ (.slice p2 K.i.length q2)).setCell ⟨nb, 3, none⟩ (.slice r2 K.o.length s2)) (by exact HBM.out _ _ HZ9.out (by simp) (by simp) (by simp)) (by exact fun _ => trivial) ?_
       clear hKK KK
       refine AnyL.tT 12 (by exact HBM.out _ _ HZ9.out (by simp) (by simp) (by simp)) ?_
       refine AnyL.done (by kernel_rfl) ?_ _
       clear k0 k1 k2 k3 j0 j1 j2 j3
       go_wp2_with fail
       go_meet
       exact ⟨nb, a2, c2, p2, q2, r2, s2, xs2, rfl, rfl, HX2.out, HZ9.out⟩
     case rest =>
      obtain ⟨nb2, a2, c2, p2, q2, r2, s2, xs2, rfl, rfl, hx2, hs7⟩ := hcut
      have HX2 := qd hx2
      have HSP1 := qd hs7
      clear hs7 hx2
      obtain ⟨g0, g1, g2, g3, _⟩ := gq4 HSP1.out.hd
      obtain ⟨k0, k1, k2, k3, _⟩ := gq4 HSP1.out.tl.tl.tl.tl.hd
      have HEQ3 := qd (HEK.out _ _ _ _ _ _ _ (OX3.read HSP1.out.tl.hd HX2.out) (OX3.read HSP1.out.tl.tl.tl.tl.tl.hd HX0.out))
      go_wp2_with (first
       |(go_at_call 14
         with_reducible refine HEQ3.out.mono ?_
         rintro e wm ⟨rfl, hgr⟩
         have hs := HSP1.out.grown hgr
         clear g0 g1 g2 g3
         clear k0 k1 k2 k3
         obtain ⟨g0, g1, g2, g3, _⟩ := gq4 hs.tl.tl.tl.hd
         have HHG2 := qd (HHK.out _ _ _ _ (OX3.read hs.tl.tl.hd HYM.out))
         have HKN := qd (show w.grownBy wm none from hs.tl.tl.tl.tl.tl.tl.tl.tl.tl.hd)
         clear hgr hs)
       |(go_at_call 20
         with_reducible refine HHG2.out.mono ?_
         rintro e wn ⟨rfl, hgr⟩
         have HKO := qd (grownBy_trans HKN.out hgr)
         clear hgr))
      go_ret
      exact ⟨rfl, HKO.out⟩
end Go.Proofs.YtjagjhchnpmngaaGreat

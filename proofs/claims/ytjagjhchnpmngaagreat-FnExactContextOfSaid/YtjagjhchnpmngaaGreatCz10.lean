/-
 A graph with other wires, in the reference and in the program. Conditions: wires are in range; lengths are small.
-/
import Derived.Test.YtjagjhchnpmngaaGreatCz06
import Derived.Test.YtjagjhchnpmngaaGreatCz03
import Derived.Test.YtjagjhchnpmngaaGreatCz01
import Derived.Test.YtjagjhchnpmngaaGreatCz04
import Derived.Test.YtjagjhchnpmngaaGreatCz02
import Derived.Test.YtjagjhchnpmngaaGreatCz05
import Derived.Test.YtjagjhchnpmngaaGreatCz00
set_option linter.unusedVariables false
set_option linter.unusedSimpArgs false
set_option maxRecDepth 100000
namespace Go.Proofs.YtjagjhchnpmngaaGreat
open Go.RowKit
def mapE (ts : List Int) (x : Ed) : Ed := ⟨x.k, x.v, x.i.map (ofL ts), x.o.map (ofL ts)⟩
def mapG (ts : List Int) (n : Int) (g : Gr) : Gr := ⟨n, g.es.map (mapE ts), g.i.map (ofL ts), g.o.map (ofL ts)⟩
theorem eds_snoc (xs : List XE) (x : XE) : eds (xs ++ [x]) = eds xs ++ [x.ed] := by simp [eds]
theorem map_take (ts : List Int) {es : List Ed} {k : Nat} (hk : k < es.length) : (es.take (k + 1)).map (mapE ts) = (es.take k).map (mapE ts) ++ [mapE ts (es.getD k e0)] := by
 rw [List.take_succ_eq_append_getElem hk, List.map_append, List.getD_eq_getElem?_getD, List.getElem?_eq_getElem hk]
 rfl
theorem wires_edge {gn : Int} {es : List Ed} {is os : List Int} {y : Ed} (hy : y ∈ es) {x : Int} : (x ∈ y.i → x ∈ wiresL ⟨gn, es, is, os⟩) ∧ (x ∈ y.o → x ∈ wiresL ⟨gn, es, is, os⟩) := by
 unfold wiresL wiresE
 simp only [List.mem_append, List.mem_flatMap]
 exact ⟨fun h => Or.inr (Or.inr ⟨y, hy, Or.inl h⟩), fun h => Or.inr (Or.inr ⟨y, hy, Or.inr h⟩)⟩
theorem Sep.edgeIn {w : World} {X A B Q O : Asrt} {L r : List Asrt} (h : Sep w (X :: A :: B :: Q :: O :: Bag L :: r)) : Sep w (O :: X :: Bag (L ++ [B, A]) :: r) := by
 have h1 : Sep w (X :: B :: A :: Bag L :: O :: r) := by
  refine h.under (fun k => ?_) (by simp +contextual)
  have k1 : Sep w (B :: A :: O :: Bag L :: r) := k.s3.tl.s2
  exact k1.under (fun k2 => k2.under (fun k3 => k3.s2) (by simp +contextual)) (by simp +contextual)
 exact h1.bagTwo.s3
theorem edge_one (e : Ed) (a1 : Option Addr) (n1 c1 : Nat) (a2 : Option Addr) (n2 c2 : Nat) : ∀ u ∈ edgeE.cs ⟨e, .slice a1 n1 c1, .slice a2 n2 c2⟩, u.oneCell' = true := by
 intro u hu
 simp only [edgeE, edgeC, List.mem_cons, List.not_mem_nil, or_false] at hu
 rcases hu with rfl | rfl | rfl | rfl <;> rfl
set_option maxHeartbeats 4000000 in
theorem hgMap_any (ev iv ov tv : Value) (g : Gr) (n : Int) (ts : List Int) (w : World) (he : RdE edgeE w ev g.es) (hi : IntsV w iv g.i) (ho : IntsV w ov g.o) (ht : IntsV w tv ts) (l0 : g.es.length ≤ 1000) (l1 : g.i.length ≤ 1000000) (l2 : g.o.length ≤ 1000000) (hle : ∀ e ∈ g.es, e.i.length ≤ 1000000 ∧ e.o.length ≤ 1000000) (hr : ∀ x ∈ wiresL g, 0 ≤ x ∧ x < (ts.length : Int)) :
 Calls Tryz.prog 90 #[grV g.n ev iv ov, tv, .int .i64 n] w fun e w' => ∃ u0 xs u1 u2, e = .returned (grV n u0 u1 u2) ∧ eds xs = g.es.map (mapE ts) ∧ Sep w' [OE u0 xs, OI u1 (g.i.map (ofL ts)), OI u2 (g.o.map (ofL ts)), KeepA w] := by
 have HMI := qd fun W (h : w.grownBy W none) => hgList_any iv tv g.i ts W (hi.carry h) (ht.carry h) l1 (fun x hx => hr x (by unfold wiresL; simp [hx]))
 have HMO := qd fun W (h : w.grownBy W none) => hgList_any ov tv g.o ts W (ho.carry h) (ht.carry h) l2 (fun x hx => hr x (by unfold wiresL; simp [hx]))
 have HE := qd he; have HT := qd ht; have HR := qd hr; have HLE := qd hle
 unfold grV
 obtain ⟨a0, c0, rfl⟩ := he.shape
 obtain ⟨a1, c1, rfl⟩ := hi.shape
 obtain ⟨a2, c2, rfl⟩ := ho.shape
 obtain ⟨ta, tc, rfl⟩ := ht.shape
 clear he hi ho ht hr hle
 obtain ⟨gn, es, is, os⟩ := g
 simp only at HMI HMO HE HR HLE l0 l1 l2 ⊢
 generalize hm : es.length = m at *
 generalize is.length = m1 at *
 generalize os.length = m2 at *
 generalize hm3 : ts.length = m3 at *
 have HM := qd hm; have HM3 := qd hm3
 clear hm hm3 l1 l2
 have hs0 := ((Sep.start w).box #[.int .i64 gn, .slice a0 m c0, .slice a1 m1 c1, .slice a2 m2 c2] 38).box #[.int .i64 0, .slice none 0 0, .slice none 0 0, .slice none 0 0] 38
 have e1 : (w.alloc (.cells #[.int .i64 gn, .slice a0 m c0, .slice a1 m1 c1, .slice a2 m2 c2] 38)).heap.size = w.heap.size + 1 := by simp
 rw [e1] at hs0
 have HS0 := qd hs0
 clear hs0 e1
 go_enter Tryz.func90, Tryz.ntmps90
 go_upto_region 1 with fail
 go_cut [7] from 10 to 20 (fun t7 wx => ∃ (ob : Nat) (b1 : Option Addr) (d1 : Nat) (b2 : Option Addr) (d2 : Nat), t7 = .pointer (some ⟨ob, 0, none⟩) ∧ Sep wx [BxA ob #[.int .i64 n, .slice none 0 0, .slice b1 m1 d1, .slice b2 m2 d2] 38, OI (.slice b1 m1 d1) (is.map (ofL ts)), OI (.slice b2 m2 d2) (os.map (ofL ts)), BxA (w.heap.size + 1) #[.int .i64 0, .slice none 0 0, .slice none 0 0, .slice none 0 0] 38, BxA w.heap.size #[.int .i64 gn, .slice a0 m c0, .slice a1 m1 c1, .slice a2 m2 c2] 38, KeepA w])
 case first =>
  have hs1 := HS0.out.dr
  have HS1 := qd hs1
  have hs1a := (HS0.out.box #[.int .i64 0, .slice none 0 0, .slice none 0 0, .slice none 0 0] 38).dr
  rw [show ((w.alloc (.cells #[.int .i64 gn, .slice a0 m c0, .slice a1 m1 c1, .slice a2 m2 c2] 38)).alloc (.cells #[.int .i64 0, .slice none 0 0, .slice none 0 0, .slice none 0 0] 38)).heap.size = w.heap.size + 1 + 1 by simp] at hs1a
  have HS1a := qd hs1a
  have HK1 := qd (show w.grownBy _ none from hs1.tl.tl.hd)
  have HK1a := qd (show w.grownBy _ none from hs1a.tl.tl.tl.hd)
  obtain ⟨x0, x1, x2, x3, _⟩ := bq4 hs1.tl.hd
  obtain ⟨y0, y1, y2, y3, _⟩ := bq4 hs1a.tl.tl.hd
  clear hs1 hs1a
  go_region_law (first
   |(try go_simp
     go_at_call 61
     with_reducible refine (HMI.out _ HK1.out).mono ?_
     rintro e w2 ⟨b1, d1, rfl, hsg⟩
     have HS2 := qd (HS1.out.graft1 hsg OI_own)
     have HK2 := qd (show w.grownBy _ none from HS2.out.tl.tl.tl.hd)
     obtain ⟨p0, p1, p2, p3, _⟩ := bq4 HS2.out.tl.tl.hd
     have hs2b := HS2.out.box #[.int .i64 0, .slice none 0 0, .slice none 0 0, .slice none 0 0] 38
     have HS2b := qd hs2b
     have HK2b := qd (show w.grownBy _ none from hs2b.tl.tl.tl.tl.hd)
     obtain ⟨r0, r1, r2, r3, _⟩ := bq4 hs2b.tl.tl.tl.hd
     clear hsg hs2b)
   |(try go_simp
     go_at_call 61
     with_reducible refine (HMI.out _ HK1a.out).mono ?_
     rintro e w2 ⟨b1, d1, rfl, hsg⟩
     have HS2a := qd (HS1a.out.graft1 hsg OI_own)
     have HK2a := qd (show w.grownBy _ none from HS2a.out.tl.tl.tl.tl.hd)
     obtain ⟨p0, p1, p2, p3, _⟩ := bq4 HS2a.out.tl.tl.tl.hd
     clear hsg)
   |(try go_simp
     go_at_call 61
     with_reducible refine (HMO.out _ HK2.out).mono ?_
     rintro e w3 ⟨b2, d2, rfl, hsg⟩
     have HS3 := qd (HS2.out.graft1 hsg OI_own)
     have hs3 := (HS3.out).box #[.int .i64 n, .slice none 0 0, .slice b1 m1 d1, .slice b2 m2 d2] 38
     have HSF := qd (hs3.under (fun h => h.s2) (by simp +contextual [or_assoc, or_comm, or_left_comm]))
     clear hsg hs3)
   |(try go_simp
     go_at_call 61
     with_reducible refine (HMO.out _ HK2a.out).mono ?_
     rintro e w3 ⟨b2, d2, rfl, hsg⟩
     have hs3 := (HS2a.out.graft1 hsg OI_own).s3
     obtain ⟨q0, q1, q2, q3, q4, q5⟩ := bq4 hs3.hd
     have hs4 := (((hs3.setB 0 (.int .i64 n)).setB 1 (.slice none 0 0)).setB 2 (.slice b1 m1 d1)).setB 3 (.slice b2 m2 d2)
     have HSF := qd (hs4.under (fun h => h.s2) (by simp +contextual [or_assoc, or_comm, or_left_comm]))
     clear hsg hs3 hs4)
   |(try go_simp
     go_at_call 61
     with_reducible refine (HMO.out _ HK2b.out).mono ?_
     rintro e w3 ⟨b2, d2, rfl, hsg⟩
     have hs3 := (HS2b.out.graft1 hsg OI_own).s2
     obtain ⟨q0, q1, q2, q3, q4, q5⟩ := bq4 hs3.hd
     have hs4 := (((hs3.setB 0 (.int .i64 n)).setB 1 (.slice none 0 0)).setB 2 (.slice b1 m1 d1)).setB 3 (.slice b2 m2 d2)
     have HSF := qd (hs4.under (fun h => h.s2) (by simp +contextual [or_assoc, or_comm, or_left_comm]))
     clear hsg hs3 hs4))
  all_goals
   go_wp2_with fail
   go_meet
   exact ⟨_, b1, d1, b2, d2, rfl, HSF.out⟩
 case rest =>
  obtain ⟨ob, b1, d1, b2, d2, rfl, hs⟩ := hcut
  have HS := qd hs
  obtain ⟨x0, x1, x2, x3, _⟩ := bq4 hs.hd
  obtain ⟨y0, y1, y2, y3, _⟩ := bq4 hs.tl.tl.tl.tl.hd
  clear hs HS0 HMI HMO
  go_wp2_with fail
  go_loopw [9, 23] (fun _ i wr => ∃ (k : Nat) (e1 : Option Addr) (f1 : Nat) (xs : List XE), k ≤ m ∧ i = .int .i64 k ∧ xs.length = k ∧ eds xs = (es.take k).map (mapE ts) ∧ Sep wr [BxA ob #[.int .i64 n, .slice e1 k f1, .slice b1 m1 d1, .slice b2 m2 d2] 38, OR edgeE (.slice e1 k f1) xs, Bag (rowsE xs), OI (.slice b1 m1 d1) (is.map (ofL ts)), OI (.slice b2 m2 d2) (os.map (ofL ts)), BxA (w.heap.size + 1) #[.int .i64 0, .slice none 0 0, .slice none 0 0, .slice none 0 0] 38, KeepA w]) (fun _ i _ => m - (intOf i).toNat)
  case atStart => exact ⟨0, none, 0, [], by omega, rfl, rfl, rfl, ((HS.out.under (fun h => h.under (fun h => h.under (fun h => h.drop2) (by simp +contextual)) (by simp +contextual)) (by simp +contextual)).noBag.nilR edgeE).s3⟩
  case round =>
   obtain ⟨k, e1, f1, xs, hk, rfl, hxl, hxe, hs⟩ := hrel
   have HSX := qd hs; have HXL := qd hxl; have HXE := qd hxe
   have HKX := qd (show w.grownBy wr none from hs.tl.tl.tl.tl.tl.tl.hd)
   obtain ⟨x0, x1, x2, x3, _⟩ := bq4 hs.hd
   clear hs hxl hxe HS
   by_cases hlt : k < m
   ·have hke : k < es.length := by rw [HM.out]; exact hlt
    have hye : es.getD k e0 ∈ es := by rw [List.getD_eq_getElem?_getD, List.getElem?_eq_getElem hke]; exact List.getElem_mem _
    obtain ⟨eb, eo, iv, ov, rfl, _, q0, q1, q2, q3, hiv, hov⟩ := (HE.out.carry HKX.out).at rfl rfl hke
    have hlm := HLE.out _ hye
    have HMI := qd fun W (h : wr.grownBy W none) => hgList_any iv _ (es.getD k e0).i ts W (hiv.carry h) (HT.out.carry (grownBy_trans HKX.out h)) hlm.1 (fun x hx => by rw [HM3.out]; exact HR.out x ((wires_edge hye).1 hx))
    have HMO := qd fun W (h : wr.grownBy W none) => hgList_any ov _ (es.getD k e0).o ts W (hov.carry h) (HT.out.carry (grownBy_trans HKX.out h)) hlm.2 (fun x hx => by rw [HM3.out]; exact HR.out x ((wires_edge hye).2 hx))
    have HTK := qd (map_take ts hke)
    have HXN := qd (show ∀ x : XE, x.ed = mapE ts (es.getD k e0) → eds (xs ++ [x]) = (es.take (k + 1)).map (mapE ts) from fun x hx => by rw [eds_snoc, hx, HTK.out, HXE.out])
    generalize es.getD k e0 = y at *
    obtain ⟨yk, yv, yi, yo⟩ := y
    simp only at q0 q1 HMI HMO
    obtain ⟨s1, r1, rfl⟩ := hiv.shape
    obtain ⟨s2, r2, rfl⟩ := hov.shape
    simp only at q2 q3
    clear hke hye hiv hov hlm
    generalize yi.length = n1 at *
    generalize yo.length = n2 at *
    have hsb := (HSX.out.box #[.int .i64 yk, .int .i64 yv, .slice s1 n1 r1, .slice s2 n2 r2] 104)
    have HSD := qd hsb.dr
    have HKD := qd (show wr.grownBy (wr.alloc (.cells #[.int .i64 yk, .int .i64 yv, .slice s1 n1 r1, .slice s2 n2 r2] 104)).drew none from grownBy_trans (gr1 wr _) ⟨rfl, rfl, rfl, Nat.le_refl _, fun _ _ _ => rfl⟩)
    have t1 := (bq4 hsb.tl.hd).2.1
    have t1d := (bq4 hsb.dr.tl.hd).2.1
    clear hsb
    go_upto_region 5 with fail
    have hxb : ∃ xb, xb = wr.heap.size := ⟨_, rfl⟩
    obtain ⟨xb, hxb⟩ := hxb
    have SX := qd fun (W : World) (l : List Asrt) (h : Sep W (BxA wr.heap.size #[.int .i64 yk, .int .i64 yv, .slice s1 n1 r1, .slice s2 n2 r2] 104 :: l)) => And.intro (bq4 h.hd).1 (And.intro (bq4 h.hd).2.1 (And.intro (bq4 h.hd).2.2.1 (bq4 h.hd).2.2.2.1))
    have X0 := qd (SX.out _ _ HSD.out)
    rw [← hxb] at SX X0 HSD
    clear q0 q1 q2 q3 x0 x1 x2 x3
    simp only [← hxb]
    clear hxb
    generalize wr.alloc (.cells #[.int .i64 yk, .int .i64 yv, .slice s1 n1 r1, .slice s2 n2 r2] 104) = wx at *
    refine AnyL.start (fun w' => w'.cell? ⟨xb, 0, none⟩ = some (.int .i64 yk) ∧ w'.cell? ⟨xb, 1, none⟩ = some (.int .i64 yv) ∧ w'.cell? ⟨xb, 2, none⟩ = some (.slice s1 n1 r1) ∧ w'.cell? ⟨xb, 3, none⟩ = some (.slice s2 n2 r2)) (fun w' => w'.cell? ⟨ob, 1, none⟩ = some (.slice e1 k f1)) 16 (by kernel_rfl) ?_
    refine AnyL.tk 0 (by exact ⟨X0.out, fun _ => t1d⟩) ?_
    refine AnyL.tkA 1 (by exact ⟨X0.out, fun _ => t1d⟩) ?_
    refine AnyL.tk 2 (by exact ⟨X0.out, fun _ => t1d⟩) ?_
    refine AnyL.tk 3 (by exact ⟨X0.out, fun _ => t1d⟩) ?_
    refine AnyL.tk 4 (by exact ⟨X0.out, fun _ => t1d⟩) ?_
    refine AnyL.tk 5 (by exact ⟨X0.out, fun _ => t1d⟩) ?_
    refine AnyL.tk 6 (by exact ⟨X0.out, fun _ => t1d⟩) ?_
    refine AnyL.tk 7 (by exact ⟨X0.out, fun _ => t1d⟩) ?_
    refine AnyL.tk 8 (by exact ⟨X0.out, fun _ => t1d⟩) ?_
    refine AnyL.tk 10 (by exact ⟨X0.out, fun _ => t1d⟩) ?_
    refine AnyL.tk 11 (by exact ⟨X0.out, fun _ => t1d⟩) ?_
    refine AnyL.tk 12 (by exact ⟨X0.out, fun _ => t1d⟩) ?_
    refine AnyL.step (i := 9) (by kernel_rfl) (by rfl) (fun K hK => ?_)
    go_simp
    go_at_call 61
    with_reducible refine (HMI.out _ HKD.out).mono ?_
    rintro e w2 ⟨b3, d3, rfl, hsg⟩
    have HS2 := qd (HSD.out.graft1 hsg OI_own)
    have X2 := qd (SX.out _ _ HS2.out.tl)
    have HK2 := qd (show wr.grownBy w2 none from grownBy_trans HKD.out hsg.tl.hd)
    have t1a := (bq4 HS2.out.tl.tl.hd).2.1
    clear hsg
    refine shutNx hK _ (by exact X2.out) (by exact fun _ => t1a) ?_
    clear hK K
    refine AnyL.step (i := 13) (by kernel_rfl) (by rfl) (fun K hK => ?_)
    go_simp
    go_at_call 61
    with_reducible refine (HMO.out _ HK2.out).mono ?_
    rintro e w3 ⟨b4, d4, rfl, hsg⟩
    have HS3 := qd (HS2.out.graft1 hsg OI_own)
    have X3 := qd (SX.out _ _ HS3.out.tl.tl)
    have Y3 := qd fun ob' => SX.out _ _ (HS3.out.al ob').tl.tl
    have t1b := (bq4 HS3.out.tl.tl.tl.hd).2.1
    have t1c := fun ob' => (bq4 (HS3.out.al ob').tl.tl.tl.hd).2.1
    clear hsg
    refine shutNx hK _ (by exact X3.out) (by exact fun _ => t1b) ?_
    clear hK K
    refine AnyL.tk 14 (by exact ⟨X3.out, fun _ => t1b⟩) ?_
    refine AnyL.step (i := 15) (by kernel_rfl) (by rfl) (fun K hK => ?_)
    go_simp
    refine shutNx hK _ (by exact Y3.out _) (by exact fun _ => t1c _) ?_
    clear hK K
    refine AnyL.step (i := 16) (by kernel_rfl) (by rfl) (fun K hK => ?_)
    refine step_app_RG (E := edgeE) (y := ⟨⟨yk, yv, yi.map (ofL ts), yo.map (ofL ts)⟩, .slice b3 n1 d3, .slice b4 n2 d4⟩) info_edge rfl (by decide) Tryz.underlying36 (edge_one _ _ _ _ _ _ _) rfl (.tmp 28) (.tmp 42) rfl rfl rfl (by simp) rfl (HS3.out.s5) (by rw [HXL.out]; omega) ?_
    intro g c w4 h4
    rw [HXL.out] at h4 ⊢
    have X4 := qd (SX.out _ _ h4.tl.tl.tl)
    have X5 := qd (SX.out _ _ (h4.s5.setB 1 (.slice (some ⟨g, 0, none⟩) (k + 1) c)).tl.tl.tl.tl)
    have h5 := h4.edgeIn
    rw [← rowsE_snoc xs ⟨⟨yk, yv, yi.map (ofL ts), yo.map (ofL ts)⟩, .slice b3 n1 d3, .slice b4 n2 d4⟩] at h5
    obtain ⟨u0, u1, u2, u3, u4, u5, _⟩ := bq4 h5.hd
    have HS5 := qd (h5.setB 1 (.slice (some ⟨g, 0, none⟩) (k + 1) c))
    clear h4 h5
    refine shutNx hK _ (by exact X4.out) (by exact fun h => noTF (by kernel_rfl) h) ?_
    clear hK K
    refine AnyL.tk 17 (by exact ⟨X4.out, fun h => noTF (by kernel_rfl) h⟩) ?_
    refine AnyL.step (i := 18) (by kernel_rfl) (by rfl) (fun K hK => ?_)
    go_simp
    refine shutNx hK _ (by exact X5.out) (by exact fun h => noTF (by kernel_rfl) h) ?_
    clear hK K
    refine AnyL.done (by kernel_rfl) ?_ _
    all_goals
     go_wp2_with fail
     go_roundw
     case rel => exact ⟨k + 1, some ⟨g, 0, none⟩, c, xs ++ [(⟨⟨yk, yv, yi.map (ofL ts), yo.map (ofL ts)⟩, .slice b3 n1 d3, .slice b4 n2 d4⟩ : XE)], by omega, by go_num, by rw [List.length_append, HXL.out]; rfl, HXN.out ⟨⟨yk, yv, yi.map (ofL ts), yo.map (ofL ts)⟩, .slice b3 n1 d3, .slice b4 n2 d4⟩ rfl, HS5.out⟩
     case measure => simp [intOf]; omega
   ·have hkm : k = m := by omega
    subst hkm
    have hxe := HXE.out
    rw [List.take_of_length_le (by rw [HM.out]; exact Nat.le_refl _)] at hxe
    have HXF := qd hxe
    have hs1 := HSX.out.tl.s5
    obtain ⟨r0, r1, r2, r3, r4, r5⟩ := bq4 hs1.hd
    have hs2 := (((hs1.setB 0 (.int .i64 n)).setB 1 (.slice e1 k f1)).setB 2 (.slice b1 m1 d1)).setB 3 (.slice b2 m2 d2)
    obtain ⟨k0, k1, k2, k3, _⟩ := bq4 hs2.hd
    have HF := qd hs2.tl.intoBag
    clear hs1 hs2 hxe hlt
    go_wp2_with fail
    refine bodyPost_ret_by (v := .agg #[.int .i64 n, .slice e1 k f1, .slice b1 m1 d1, .slice b2 m2 d2]) ?_ rfl ⟨_, xs, _, _, rfl, HXF.out, HF.out⟩
    simp [results, go_sem, *]
theorem ofL_nat (l : List Int) (k : Nat) : ofL l (k : Int) = l.getD k 0 := by unfold ofL; rw [Int.toNat_natCast]
theorem ofL_mapF {l : List Int} {f : Int → Int} {w : Int} (h0 : 0 ≤ w) (h1 : w < l.length) : ofL (l.map f) w = f (ofL l w) := by
 obtain ⟨k, rfl⟩ := Int.eq_ofNat_of_zero_le h0
 rw [ofL_nat, ofL_nat, List.getD_eq_getElem?_getD, List.getElem?_map, List.getD_eq_getElem?_getD, List.getElem?_eq_getElem (by omega)]
 rfl
theorem ofL_set {l : List Int} {j w m : Int} (h0 : 0 ≤ w) (h1 : w < l.length) (hj : 0 ≤ j) : ofL (l.set j.toNat m) w = if w = j then m else ofL l w := by
 obtain ⟨k, rfl⟩ := Int.eq_ofNat_of_zero_le h0
 obtain ⟨i, rfl⟩ := Int.eq_ofNat_of_zero_le hj
 rw [ofL_nat, ofL_nat, Int.toNat_natCast, List.getD_eq_getElem?_getD, List.getElem?_set, List.getD_eq_getElem?_getD]
 by_cases h : i = k
 ·subst h
  rw [if_pos rfl, if_pos (by omega), if_pos rfl]
  rfl
 ·rw [if_neg h, if_neg (by omega)]
theorem ofL_up' {n : Nat} {x : Int} (h0 : 0 ≤ x) (h1 : x < n) : ofL (upL n) x = x := by
 obtain ⟨k, rfl⟩ := Int.eq_ofNat_of_zero_le h0
 unfold ofL upL
 rw [Int.toNat_natCast, List.getD_eq_getElem?_getD, List.getElem?_map, List.getElem?_range (by omega)]
 rfl
def joinC (C : List Int) (a b : Int) : List Int := C.map fun c => if c = max (ofL C a) (ofL C b) then min (ofL C a) (ofL C b) else c
structure Rep (n : Nat) (F C : List Int) : Prop where
 fl : F.length = n
 cl : C.length = n
 f0 : ∀ w : Int, 0 ≤ w → w < n → 0 ≤ ofL F w ∧ ofL F w ≤ w
 c0 : ∀ w : Int, 0 ≤ w → w < n → 0 ≤ ofL C w ∧ ofL C w ≤ w
 cf : ∀ w : Int, 0 ≤ w → w < n → ofL C (ofL F w) = ofL C w
 fx : ∀ w : Int, 0 ≤ w → w < n → ofL F w = w → ofL C w = w
 cc : ∀ w : Int, 0 ≤ w → w < n → ofL C (ofL C w) = ofL C w
 fc : ∀ w : Int, 0 ≤ w → w < n → ofL F (ofL C w) = ofL C w
theorem Rep.start (n : Nat) : Rep n (upL n) (upL n) := by
 refine ⟨upL_len n, upL_len n, ?_, ?_, ?_, ?_, ?_, ?_⟩ <;> intro w h0 h1
 ·rw [ofL_up' h0 h1]; omega
 ·rw [ofL_up' h0 h1]; omega
 ·rw [ofL_up' h0 h1]; exact ofL_up' h0 h1
 ·intro _; exact ofL_up' h0 h1
 ·rw [ofL_up' h0 h1]; exact ofL_up' h0 h1
 ·rw [ofL_up' h0 h1]; exact ofL_up' h0 h1
theorem Rep.join {n : Nat} {F C : List Int} (h : Rep n F C) {a b : Int} (ha0 : 0 ≤ a) (ha1 : a < n) (hb0 : 0 ≤ b) (hb1 : b < n) :
 Rep n (F.set (max (ofL C a) (ofL C b)).toNat (min (ofL C a) (ofL C b))) (joinC C a b) := by
 have xa := h.c0 a ha0 ha1
 have xb := h.c0 b hb0 hb1
 have ca := h.cc a ha0 ha1
 have cb := h.cc b hb0 hb1
 have fa := h.fc a ha0 ha1
 have fb := h.fc b hb0 hb1
 have hM : 0 ≤ max (ofL C a) (ofL C b) ∧ max (ofL C a) (ofL C b) < n := by omega
 have hm : 0 ≤ min (ofL C a) (ofL C b) ∧ min (ofL C a) (ofL C b) ≤ max (ofL C a) (ofL C b) := by omega
 have cM : ofL C (max (ofL C a) (ofL C b)) = max (ofL C a) (ofL C b) := by
  rcases Int.le_total (ofL C a) (ofL C b) with g | g
  ·rw [Int.max_eq_right g]; exact cb
  ·rw [Int.max_eq_left g]; exact ca
 have cm : ofL C (min (ofL C a) (ofL C b)) = min (ofL C a) (ofL C b) := by
  rcases Int.le_total (ofL C a) (ofL C b) with g | g
  ·rw [Int.min_eq_left g]; exact ca
  ·rw [Int.min_eq_right g]; exact cb
 have fm : ofL F (min (ofL C a) (ofL C b)) = min (ofL C a) (ofL C b) := by
  rcases Int.le_total (ofL C a) (ofL C b) with g | g
  ·rw [Int.min_eq_left g]; exact fa
  ·rw [Int.min_eq_right g]; exact fb
 have fM : ofL F (max (ofL C a) (ofL C b)) = max (ofL C a) (ofL C b) := by
  rcases Int.le_total (ofL C a) (ofL C b) with g | g
  ·rw [Int.max_eq_right g]; exact fb
  ·rw [Int.max_eq_left g]; exact fa
 unfold joinC
 generalize max (ofL C a) (ofL C b) = M at *
 generalize min (ofL C a) (ofL C b) = m at *
 clear xa xb ca cb fa fb ha0 ha1 hb0 hb1
 have hC : ∀ w : Int, 0 ≤ w → w < n → ofL (C.map fun c => if c = M then m else c) w = if ofL C w = M then m else ofL C w := fun w h0 h1 => ofL_mapF h0 (by rw [h.cl]; exact h1)
 have hF : ∀ w : Int, 0 ≤ w → w < n → ofL (F.set M.toNat m) w = if w = M then m else ofL F w := fun w h0 h1 => ofL_set h0 (by rw [h.fl]; exact h1) hM.1
 have cm' : (if ofL C m = M then m else ofL C m) = m := by rw [cm]; split <;> rfl
 have fm' : (if m = M then m else ofL F m) = m := by rw [fm]; split <;> rfl
 refine ⟨by rw [List.length_set]; exact h.fl, by rw [List.length_map]; exact h.cl, ?_, ?_, ?_, ?_, ?_, ?_⟩ <;> intro w h0 h1
 ·rw [hF w h0 h1]
  have := h.f0 w h0 h1
  split <;> omega
 ·rw [hC w h0 h1]
  have := h.c0 w h0 h1
  split <;> omega
 ·have hf := h.f0 w h0 h1
  rw [hF w h0 h1]
  by_cases hw : w = M
  ·subst hw
   rw [if_pos rfl, hC m hm.1 (by omega), cm', hC w h0 h1, if_pos cM]
  ·rw [if_neg hw, hC _ hf.1 (by omega), hC w h0 h1, h.cf w h0 h1]
 ·intro hx
  rw [hF w h0 h1] at hx
  rw [hC w h0 h1]
  by_cases hw : w = M
  ·subst hw
   rw [if_pos rfl] at hx
   rw [cM, if_pos rfl, hx]
  ·rw [if_neg hw] at hx
   rw [h.fx w h0 h1 hx, if_neg hw]
 ·have hc := h.c0 w h0 h1
  rw [hC w h0 h1]
  by_cases hw : ofL C w = M
  ·rw [if_pos hw, hC m hm.1 (by omega)]
   exact cm'
  ·rw [if_neg hw, hC _ hc.1 (by omega), h.cc w h0 h1, if_neg hw]
 ·have hc := h.c0 w h0 h1
  rw [hC w h0 h1]
  by_cases hw : ofL C w = M
  ·rw [if_pos hw, hF m hm.1 (by omega)]
   exact fm'
  ·rw [if_neg hw, hF _ hc.1 (by omega), if_neg hw, h.fc w h0 h1]
def classOf (n : Nat) (ps : List (Int × Int)) : List Int := ps.foldl (fun C p => joinC C p.1 p.2) (upL n)
theorem classOf_snoc (n : Nat) (ps : List (Int × Int)) (p : Int × Int) : classOf n (ps ++ [p]) = joinC (classOf n ps) p.1 p.2 := by unfold classOf; rw [List.foldl_append]; rfl
structure Cls (n : Nat) (C : List Int) : Prop where
 cl : C.length = n
 c0 : ∀ w : Int, 0 ≤ w → w < n → 0 ≤ ofL C w ∧ ofL C w ≤ w
 cc : ∀ w : Int, 0 ≤ w → w < n → ofL C (ofL C w) = ofL C w
theorem Rep.cls {n : Nat} {F C : List Int} (h : Rep n F C) : Cls n C := ⟨h.cl, h.c0, h.cc⟩
def usedB (C ws : List Int) (r : Int) : Bool := ws.any fun w => decide (ofL C w = r)
def cntR (C ws : List Int) (k : Nat) : Nat := (List.range k).countP fun w : Nat => decide (ofL C (w : Int) = w) && usedB C ws w
def numX (C ws : List Int) (x : Int) : Int := if usedB C ws (ofL C x) = true then (cntR C ws (ofL C x).toNat : Int) else -1
def numL (C ws : List Int) (n : Nat) : List Int := (List.range n).map fun w : Nat => numX C ws w
theorem numL_len (C ws : List Int) (n : Nat) : (numL C ws n).length = n := by simp [numL]
theorem num_at {C ws : List Int} {n : Nat} {x : Int} (h0 : 0 ≤ x) (h1 : x < n) : ofL (numL C ws n) x = numX C ws x := by
 obtain ⟨k, rfl⟩ := Int.eq_ofNat_of_zero_le h0
 rw [ofL_nat]
 unfold numL
 rw [List.getD_eq_getElem?_getD, List.getElem?_map, List.getElem?_range (by omega)]
 rfl
theorem cntR_succ (C ws : List Int) (k : Nat) : cntR C ws (k + 1) = cntR C ws k + if (decide (ofL C (k : Int) = k) && usedB C ws k) = true then 1 else 0 := by
 unfold cntR
 rw [List.range_succ, List.countP_append, List.countP_singleton]
theorem cntR_mono (C ws : List Int) {a b : Nat} (h : a ≤ b) : cntR C ws a ≤ cntR C ws b := by
 induction h with
 | refl => exact Nat.le_refl _
 | step _ ih => rw [cntR_succ]; omega
theorem cntR_le (C ws : List Int) (k : Nat) : cntR C ws k ≤ k := by
 unfold cntR
 have := List.countP_le_length (l := List.range k) (p := fun w : Nat => decide (ofL C (w : Int) = w) && usedB C ws w)
 simpa using this
theorem used_of {C ws : List Int} {x : Int} (h : x ∈ ws) : usedB C ws (ofL C x) = true := List.any_eq_true.2 ⟨x, h, by simp⟩
theorem num_used {C ws : List Int} {n : Nat} (hc : Cls n C) {x : Int} (h : x ∈ ws) (h0 : 0 ≤ x) (h1 : x < n) : numX C ws x = (cntR C ws (ofL C x).toNat : Int) ∧ 0 ≤ numX C ws x ∧ numX C ws x < cntR C ws n := by
 have hu := used_of (C := C) h
 have hx := hc.c0 x h0 h1
 have hcc := hc.cc x h0 h1
 unfold numX
 rw [if_pos hu]
 obtain ⟨r, hr⟩ := Int.eq_ofNat_of_zero_le hx.1
 rw [hr] at hu hcc ⊢
 rw [Int.toNat_natCast]
 have h2 := cntR_succ C ws r
 rw [decide_eq_true hcc, hu] at h2
 have h3 := cntR_mono C ws (show r + 1 ≤ n by omega)
 simp at h2
 omega
def glueG (C : List Int) (g : Gr) : Gr := mapG (numL C (wiresL g) g.n.toNat) (cntR C (wiresL g) g.n.toNat) g
theorem cell_of_ints {w : World} {b o n c : Nat} {zs : List Int} (h : IntsV w (.slice (some ⟨b, o, none⟩) n c) zs) {k : Nat} (hk : k < zs.length) : w.cell? ⟨b, o + k, none⟩ = some (.int .i64 (ofL zs (k : Int))) := by
 rw [ofL_nat]
 exact h.cellN hk
set_option maxHeartbeats 1000000 in
theorem root_any (v : Value) (F C : List Int) (n k : Nat) (w : World) (hv : IntsV w v F) (hr : Rep n F C) (hk : k < n) (hn : n ≤ 1000) :
 Calls Tryz.prog 81 #[v, .int .i64 k] w fun e w' => e = .returned (.int .i64 (ofL C (k : Int))) ∧ w' = w := by
 have HV := qd hv; have HR := qd hr
 obtain ⟨a, c, rfl⟩ := hv.shape
 obtain ⟨b, o, rfl⟩ := IntsV.addr hv (by rw [hr.fl]; omega)
 rw [hr.fl] at *
 clear hv hr
 go_enter Tryz.func81, Tryz.ntmps81
 go_wp2_with fail
 go_loopw [1] (fun wv wr => ∃ u : Nat, wv = .int .i64 u ∧ u < n ∧ ofL C (u : Int) = ofL C (k : Int) ∧ wr = w) (fun wv _ => (intOf wv).toNat)
 case atStart => exact ⟨k, rfl, hk, rfl, rfl⟩
 case round =>
  obtain ⟨u, rfl, hu, hc, hw⟩ := hrel
  subst hw
  have hcell := cell_of_ints HV.out (show u < F.length by rw [HR.out.fl]; exact hu)
  have hf := HR.out.f0 (u : Int) (by omega) (by omega)
  have hcf := HR.out.cf (u : Int) (by omega) (by omega)
  have hfx := HR.out.fx (u : Int) (by omega) (by omega)
  obtain ⟨f, hf'⟩ := Int.eq_ofNat_of_zero_le hf.1
  rw [hf'] at hcell hf hcf hfx
  have HC := qd hc
  by_cases h : f = u
  ·subst h
   have hne : ((f : Int) != (f : Int)) = false := by simp
   have HE := qd (show (f : Int) = ofL C (k : Int) by rw [← HC.out, hfx rfl])
   clear hf hcf hfx hf' hc
   go_wp2
   go_ret
   exact ⟨by rw [← HE.out]; rfl, rfl⟩
  ·have hne : ((f : Int) != (u : Int)) = true := by simp; omega
   have hfu : f < u := by omega
   have HC2 := qd (show ofL C (f : Int) = ofL C (k : Int) by rw [hcf]; exact HC.out)
   clear hf hcf hfx hf' hc h
   go_wp2
   go_roundw
   case rel => exact ⟨f, rfl, by omega, HC2.out, by trivial⟩
   case measure => simp [intOf]; omega
set_option maxHeartbeats 1000000 in
theorem join_any (g n c : Nat) (F C : List Int) (a b : Nat) (w : World) (l : List Asrt) (hs : Sep w (OI (.slice (some ⟨g, 0, none⟩) n c) F :: l)) (hr : Rep n F C) (ha : a < n) (hb : b < n) (hn : n ≤ 1000) :
 Calls Tryz.prog 78 #[.slice (some ⟨g, 0, none⟩) n c, .int .i64 a, .int .i64 b] w fun e w' => e = .returned (.tuple #[]) ∧ Sep w' (OI (.slice (some ⟨g, 0, none⟩) n c) (F.set (max (ofL C (a : Int)) (ofL C (b : Int))).toNat (min (ofL C (a : Int)) (ofL C (b : Int)))) :: l) := by
 have HA := qd (root_any _ F C n a w (OwnInts.read (show OwnInts 0 w _ F from hs.hd)) hr ha hn)
 have HB := qd (root_any _ F C n b w (OwnInts.read (show OwnInts 0 w _ F from hs.hd)) hr hb hn)
 have xa := hr.c0 (a : Int) (by omega) (by omega)
 have xb := hr.c0 (b : Int) (by omega) (by omega)
 obtain ⟨x, hx⟩ := Int.eq_ofNat_of_zero_le xa.1
 obtain ⟨y, hy⟩ := Int.eq_ofNat_of_zero_le xb.1
 have hxn : x < n := by omega
 have hyn : y < n := by omega
 rw [hx] at HA
 rw [hy] at HB
 rw [hx, hy]
 have HS := qd hs
 have HL := qd hr.fl
 clear hx hy xa xb hr hs
 rcases Nat.lt_trichotomy x y with hxy | hxy | hxy
 ·have e1 : max (x : Int) (y : Int) = (y : Int) := Int.max_eq_right (by omega)
  have e2 : min (x : Int) (y : Int) = (x : Int) := Int.min_eq_left (by omega)
  rw [e1, e2, Int.toNat_natCast]
  have hset := HS.out.setI HL.out.symm y (x : Int)
  obtain ⟨q, hc0⟩ := HS.out.hd.cellQ HL.out.symm (j := y) (by omega)
  have hf := HS.out.hd.free HL.out.symm y
  have HF := qd hset
  have g1 : (x : Int) < (y : Int) := by omega
  have g2 : ¬ (y : Int) < (x : Int) := by omega
  have g3 : (x : Int) ≤ (y : Int) := by omega
  have g4 : ¬ (y : Int) ≤ (x : Int) := by omega
  clear hset e1 e2
  go_enter Tryz.func78, Tryz.ntmps78
  go_wp2_with (first
   |(go_at_call 81; with_reducible refine HA.out.mono ?_; rintro e w3 ⟨rfl, rfl⟩)
   |(go_at_call 81; with_reducible refine HB.out.mono ?_; rintro e w4 ⟨rfl, rfl⟩))
  refine bodyPost_end (results_none rfl _ _ _) rfl ?_
  exact ⟨rfl, HF.out⟩
 ·subst hxy
  have e1 : max (x : Int) (x : Int) = (x : Int) := Int.max_eq_right (by omega)
  have e2 : min (x : Int) (x : Int) = (x : Int) := Int.min_eq_left (by omega)
  rw [e1, e2, Int.toNat_natCast]
  have hset := HS.out.setI HL.out.symm x (x : Int)
  obtain ⟨q, hc0⟩ := HS.out.hd.cellQ HL.out.symm (j := x) (by omega)
  have hf := HS.out.hd.free HL.out.symm x
  have HF := qd hset
  have g1 : ¬ (x : Int) < (x : Int) := by omega
  have g3 : (x : Int) ≤ (x : Int) := by omega
  clear hset e1 e2
  go_enter Tryz.func78, Tryz.ntmps78
  go_wp2_with (first
   |(go_at_call 81; with_reducible refine HA.out.mono ?_; rintro e w3 ⟨rfl, rfl⟩)
   |(go_at_call 81; with_reducible refine HB.out.mono ?_; rintro e w4 ⟨rfl, rfl⟩))
  refine bodyPost_end (results_none rfl _ _ _) rfl ?_
  exact ⟨rfl, HF.out⟩
 ·have e1 : max (x : Int) (y : Int) = (x : Int) := Int.max_eq_left (by omega)
  have e2 : min (x : Int) (y : Int) = (y : Int) := Int.min_eq_right (by omega)
  rw [e1, e2, Int.toNat_natCast]
  have hset := HS.out.setI HL.out.symm x (y : Int)
  obtain ⟨q, hc0⟩ := HS.out.hd.cellQ HL.out.symm (j := x) (by omega)
  have hf := HS.out.hd.free HL.out.symm x
  have HF := qd hset
  have g1 : ¬ (x : Int) < (y : Int) := by omega
  have g2 : (y : Int) < (x : Int) := by omega
  have g3 : ¬ (x : Int) ≤ (y : Int) := by omega
  have g4 : (y : Int) ≤ (x : Int) := by omega
  clear hset e1 e2
  go_enter Tryz.func78, Tryz.ntmps78
  go_wp2_with (first
   |(go_at_call 81; with_reducible refine HA.out.mono ?_; rintro e w3 ⟨rfl, rfl⟩)
   |(go_at_call 81; with_reducible refine HB.out.mono ?_; rintro e w4 ⟨rfl, rfl⟩))
  refine bodyPost_end (results_none rfl _ _ _) rfl ?_
  exact ⟨rfl, HF.out⟩
end Go.Proofs.YtjagjhchnpmngaaGreat

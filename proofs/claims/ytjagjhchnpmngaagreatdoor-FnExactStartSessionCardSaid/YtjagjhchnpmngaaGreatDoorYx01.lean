/-
  A graph with other wires, in the reference and in the program. Conditions: wires are in range; lengths are small.
-/
import Derived.Test.YtjagjhchnpmngaaGreatDoorBa05
import Derived.Test.YtjagjhchnpmngaaGreatDoorBa02
import Derived.Test.YtjagjhchnpmngaaGreatDoorBa06
import Derived.Test.YtjagjhchnpmngaaGreatDoorYx00
namespace Go.Proofs.YtjagjhchnpmngaaGreatDoor
open Go.RowKit
set_option linter.unusedVariables false
set_option maxRecDepth 100000

/-- A graph with other wires. -/
def mapE (ts : List Int) (x : Ed) : Ed := ⟨x.k, x.v, x.i.map (ofL ts), x.o.map (ofL ts)⟩
def mapG (ts : List Int) (n : Int) (g : Gr) : Gr := ⟨n, g.es.map (mapE ts), g.i.map (ofL ts), g.o.map (ofL ts)⟩
theorem eds_snoc (xs : List XE) (x : XE) : eds (xs ++ [x]) = eds xs ++ [x.ed] := by simp [eds]
theorem map_take (ts : List Int) {es : List Ed} {k : Nat} (hk : k < es.length) : (es.take (k + 1)).map (mapE ts) = (es.take k).map (mapE ts) ++ [mapE ts (es.getD k e0)] := by
  rw [List.take_succ_eq_append_getElem hk, List.map_append, List.getD_eq_getElem?_getD, List.getElem?_eq_getElem hk]
  rfl
theorem wires_edge {gn : Int} {es : List Ed} {is os : List Int} {y : Ed} (hy : y ∈ es) {x : Int} : (x ∈ y.i → x ∈ wiresL ⟨gn, es, is, os⟩) ∧ (x ∈ y.o → x ∈ wiresL ⟨gn, es, is, os⟩) := by
  unfold wiresL wiresE
  simp only [List.mem_append, List.mem_flatMap]
  exact ⟨fun h => Or.inr (Or.inr ⟨y, hy, Or.inl h⟩), fun h => Or.inr (Or.inr ⟨y, hy, Or.inr h⟩)⟩
theorem Sep.edgeIn {w : World} {X A B Q O : Asrt} {L r : List Asrt} (h : Sep w (X :: A :: B :: Q :: O :: Bag L :: r)) : Sep w (O :: X :: Bag (L ++ [B, A]) :: r) := by
  have h1 : Sep w (X :: B :: A :: Bag L :: O :: r) := by
    refine h.under (fun k => ?_) (by simp +contextual)
    have k1 : Sep w (B :: A :: O :: Bag L :: r) := k.s3.tl.s2
    exact k1.under (fun k2 => k2.under (fun k3 => k3.s2) (by simp +contextual)) (by simp +contextual)
  exact h1.bagTwo.s3
theorem edge_one (e : Ed) (a1 : Option Addr) (n1 c1 : Nat) (a2 : Option Addr) (n2 c2 : Nat) : ∀ u ∈ edgeE.cs ⟨e, .slice a1 n1 c1, .slice a2 n2 c2⟩, u.oneCell' = true := by
  intro u hu
  simp only [edgeE, edgeC, List.mem_cons, List.not_mem_nil, or_false] at hu
  rcases hu with rfl | rfl | rfl | rfl <;> rfl
set_option maxHeartbeats 4000000 in
theorem hgMap_any (ev iv ov tv : Value) (g : Gr) (n : Int) (ts : List Int) (w : World) (he : RdE edgeE w ev g.es) (hi : IntsV w iv g.i) (ho : IntsV w ov g.o) (ht : IntsV w tv ts) (l0 : g.es.length ≤ 1000) (l1 : g.i.length ≤ 1000000) (l2 : g.o.length ≤ 1000000) (hle : ∀ e ∈ g.es, e.i.length ≤ 1000000 ∧ e.o.length ≤ 1000000) (hr : ∀ x ∈ wiresL g, 0 ≤ x ∧ x < (ts.length : Int)) :
    Calls Tryz.prog 89 #[grV g.n ev iv ov, tv, .int .i64 n] w fun e w' => ∃ u0 xs u1 u2, e = .returned (grV n u0 u1 u2) ∧ eds xs = g.es.map (mapE ts) ∧ Sep w' [OE u0 xs, OI u1 (g.i.map (ofL ts)), OI u2 (g.o.map (ofL ts)), KeepA w] := by
  have HMI := Lib.hid fun W (h : w.grownBy W none) => hgList_any iv tv g.i ts W (hi.carry h) (ht.carry h) l1 (fun x hx => hr x (by unfold wiresL; simp [hx]))
  have HMO := Lib.hid fun W (h : w.grownBy W none) => hgList_any ov tv g.o ts W (ho.carry h) (ht.carry h) l2 (fun x hx => hr x (by unfold wiresL; simp [hx]))
  have HE := Lib.hid he; have HT := Lib.hid ht; have HR := Lib.hid hr; have HLE := Lib.hid hle
  unfold grV
  obtain ⟨a0, c0, rfl⟩ := he.shape
  obtain ⟨a1, c1, rfl⟩ := hi.shape
  obtain ⟨a2, c2, rfl⟩ := ho.shape
  obtain ⟨ta, tc, rfl⟩ := ht.shape
  clear he hi ho ht hr hle
  obtain ⟨gn, es, is, os⟩ := g
  simp only at HMI HMO HE HR HLE l0 l1 l2 ⊢
  generalize hm : es.length = m at *
  generalize is.length = m1 at *
  generalize os.length = m2 at *
  generalize hm3 : ts.length = m3 at *
  have HM := Lib.hid hm; have HM3 := Lib.hid hm3
  clear hm hm3 l1 l2
  have hs0 := ((Sep.start w).box #[.int .i64 gn, .slice a0 m c0, .slice a1 m1 c1, .slice a2 m2 c2] 30).box #[.int .i64 0, .slice none 0 0, .slice none 0 0, .slice none 0 0] 30
  have e1 : (w.alloc (.cells #[.int .i64 gn, .slice a0 m c0, .slice a1 m1 c1, .slice a2 m2 c2] 30)).heap.size = w.heap.size + 1 := by simp
  rw [e1] at hs0
  have HS0 := Lib.hid hs0
  clear hs0 e1
  go_enter Tryz.func89, Tryz.ntmps89
  go_upto_region 1 with fail
  go_cut [7] from 10 to 20 (fun t7 wx => ∃ (ob : Nat) (b1 : Option Addr) (d1 : Nat) (b2 : Option Addr) (d2 : Nat), t7 = .pointer (some ⟨ob, 0, none⟩) ∧ Sep wx [BxA ob #[.int .i64 n, .slice none 0 0, .slice b1 m1 d1, .slice b2 m2 d2] 30, OI (.slice b1 m1 d1) (is.map (ofL ts)), OI (.slice b2 m2 d2) (os.map (ofL ts)), BxA (w.heap.size + 1) #[.int .i64 0, .slice none 0 0, .slice none 0 0, .slice none 0 0] 30, BxA w.heap.size #[.int .i64 gn, .slice a0 m c0, .slice a1 m1 c1, .slice a2 m2 c2] 30, KeepA w])
  case first =>
    have hs1 := HS0.out.dr
    have HS1 := Lib.hid hs1
    have hs1a := (HS0.out.box #[.int .i64 0, .slice none 0 0, .slice none 0 0, .slice none 0 0] 30).dr
    rw [show ((w.alloc (.cells #[.int .i64 gn, .slice a0 m c0, .slice a1 m1 c1, .slice a2 m2 c2] 30)).alloc (.cells #[.int .i64 0, .slice none 0 0, .slice none 0 0, .slice none 0 0] 30)).heap.size = w.heap.size + 1 + 1 by simp] at hs1a
    have HS1a := Lib.hid hs1a
    have HK1 := Lib.hid (show w.grownBy _ none from hs1.tl.tl.hd)
    have HK1a := Lib.hid (show w.grownBy _ none from hs1a.tl.tl.tl.hd)
    obtain ⟨x0, x1, x2, x3, _⟩ := bq4 hs1.tl.hd
    obtain ⟨y0, y1, y2, y3, _⟩ := bq4 hs1a.tl.tl.hd
    clear hs1 hs1a
    go_region_law (first
      | (try go_simp
         go_at_call 101
         with_reducible refine (HMI.out _ HK1.out).mono ?_
         rintro e w2 ⟨b1, d1, rfl, hsg⟩
         have HS2 := Lib.hid (HS1.out.graft1 hsg OI_own)
         have HK2 := Lib.hid (show w.grownBy _ none from HS2.out.tl.tl.tl.hd)
         obtain ⟨p0, p1, p2, p3, _⟩ := bq4 HS2.out.tl.tl.hd
         have hs2b := HS2.out.box #[.int .i64 0, .slice none 0 0, .slice none 0 0, .slice none 0 0] 30
         have HS2b := Lib.hid hs2b
         have HK2b := Lib.hid (show w.grownBy _ none from hs2b.tl.tl.tl.tl.hd)
         obtain ⟨r0, r1, r2, r3, _⟩ := bq4 hs2b.tl.tl.tl.hd
         clear hsg hs2b)
      | (try go_simp
         go_at_call 101
         with_reducible refine (HMI.out _ HK1a.out).mono ?_
         rintro e w2 ⟨b1, d1, rfl, hsg⟩
         have HS2a := Lib.hid (HS1a.out.graft1 hsg OI_own)
         have HK2a := Lib.hid (show w.grownBy _ none from HS2a.out.tl.tl.tl.tl.hd)
         obtain ⟨p0, p1, p2, p3, _⟩ := bq4 HS2a.out.tl.tl.tl.hd
         clear hsg)
      | (try go_simp
         go_at_call 101
         with_reducible refine (HMO.out _ HK2.out).mono ?_
         rintro e w3 ⟨b2, d2, rfl, hsg⟩
         have HS3 := Lib.hid (HS2.out.graft1 hsg OI_own)
         have hs3 := (HS3.out).box #[.int .i64 n, .slice none 0 0, .slice b1 m1 d1, .slice b2 m2 d2] 30
         have HSF := Lib.hid (hs3.under (fun h => h.s2) (by simp +contextual [or_assoc, or_comm, or_left_comm]))
         clear hsg hs3)
      | (try go_simp
         go_at_call 101
         with_reducible refine (HMO.out _ HK2a.out).mono ?_
         rintro e w3 ⟨b2, d2, rfl, hsg⟩
         have hs3 := (HS2a.out.graft1 hsg OI_own).s3
         obtain ⟨q0, q1, q2, q3, q4, q5⟩ := bq4 hs3.hd
         have hs4 := (((hs3.setB 0 (.int .i64 n)).setB 1 (.slice none 0 0)).setB 2 (.slice b1 m1 d1)).setB 3 (.slice b2 m2 d2)
         have HSF := Lib.hid (hs4.under (fun h => h.s2) (by simp +contextual [or_assoc, or_comm, or_left_comm]))
         clear hsg hs3 hs4)
      | (try go_simp
         go_at_call 101
         with_reducible refine (HMO.out _ HK2b.out).mono ?_
         rintro e w3 ⟨b2, d2, rfl, hsg⟩
         have hs3 := (HS2b.out.graft1 hsg OI_own).s2
         obtain ⟨q0, q1, q2, q3, q4, q5⟩ := bq4 hs3.hd
         have hs4 := (((hs3.setB 0 (.int .i64 n)).setB 1 (.slice none 0 0)).setB 2 (.slice b1 m1 d1)).setB 3 (.slice b2 m2 d2)
         have HSF := Lib.hid (hs4.under (fun h => h.s2) (by simp +contextual [or_assoc, or_comm, or_left_comm]))
         clear hsg hs3 hs4))
    all_goals
      go_wp2_with fail
      go_meet
      exact ⟨_, b1, d1, b2, d2, rfl, HSF.out⟩
  case rest =>
    obtain ⟨ob, b1, d1, b2, d2, rfl, hs⟩ := hcut
    have HS := Lib.hid hs
    obtain ⟨x0, x1, x2, x3, _⟩ := bq4 hs.hd
    obtain ⟨y0, y1, y2, y3, _⟩ := bq4 hs.tl.tl.tl.tl.hd
    clear hs HS0 HMI HMO
    go_wp2_with fail
    go_loopw [9, 23] (fun _ i wr => ∃ (k : Nat) (e1 : Option Addr) (f1 : Nat) (xs : List XE), k ≤ m ∧ i = .int .i64 k ∧ xs.length = k ∧ eds xs = (es.take k).map (mapE ts) ∧ Sep wr [BxA ob #[.int .i64 n, .slice e1 k f1, .slice b1 m1 d1, .slice b2 m2 d2] 30, OR edgeE (.slice e1 k f1) xs, Bag (rowsE xs), OI (.slice b1 m1 d1) (is.map (ofL ts)), OI (.slice b2 m2 d2) (os.map (ofL ts)), BxA (w.heap.size + 1) #[.int .i64 0, .slice none 0 0, .slice none 0 0, .slice none 0 0] 30, KeepA w]) (fun _ i _ => m - (intOf i).toNat)
    case atStart => exact ⟨0, none, 0, [], by omega, rfl, rfl, rfl, ((HS.out.under (fun h => h.under (fun h => h.under (fun h => h.drop2) (by simp +contextual)) (by simp +contextual)) (by simp +contextual)).noBag.nilR edgeE).s3⟩
    case round =>
      obtain ⟨k, e1, f1, xs, hk, rfl, hxl, hxe, hs⟩ := hrel
      have HSX := Lib.hid hs; have HXL := Lib.hid hxl; have HXE := Lib.hid hxe
      have HKX := Lib.hid (show w.grownBy wr none from hs.tl.tl.tl.tl.tl.tl.hd)
      obtain ⟨x0, x1, x2, x3, _⟩ := bq4 hs.hd
      clear hs hxl hxe HS
      by_cases hlt : k < m
      · have hke : k < es.length := by rw [HM.out]; exact hlt
        have hye : es.getD k e0 ∈ es := by rw [List.getD_eq_getElem?_getD, List.getElem?_eq_getElem hke]; exact List.getElem_mem _
        obtain ⟨eb, eo, iv, ov, rfl, _, q0, q1, q2, q3, hiv, hov⟩ := (HE.out.carry HKX.out).at rfl rfl hke
        have hlm := HLE.out _ hye
        have HMI := Lib.hid fun W (h : wr.grownBy W none) => hgList_any iv _ (es.getD k e0).i ts W (hiv.carry h) (HT.out.carry (grownBy_trans HKX.out h)) hlm.1 (fun x hx => by rw [HM3.out]; exact HR.out x ((wires_edge hye).1 hx))
        have HMO := Lib.hid fun W (h : wr.grownBy W none) => hgList_any ov _ (es.getD k e0).o ts W (hov.carry h) (HT.out.carry (grownBy_trans HKX.out h)) hlm.2 (fun x hx => by rw [HM3.out]; exact HR.out x ((wires_edge hye).2 hx))
        have HTK := Lib.hid (map_take ts hke)
        have HXN := Lib.hid (show ∀ x : XE, x.ed = mapE ts (es.getD k e0) → eds (xs ++ [x]) = (es.take (k + 1)).map (mapE ts) from fun x hx => by rw [eds_snoc, hx, HTK.out, HXE.out])
        generalize es.getD k e0 = y at *
        obtain ⟨yk, yv, yi, yo⟩ := y
        simp only at q0 q1 HMI HMO
        obtain ⟨s1, r1, rfl⟩ := hiv.shape
        obtain ⟨s2, r2, rfl⟩ := hov.shape
        simp only at q2 q3
        clear hke hye hiv hov hlm
        generalize yi.length = n1 at *
        generalize yo.length = n2 at *
        have hsb := (HSX.out.box #[.int .i64 yk, .int .i64 yv, .slice s1 n1 r1, .slice s2 n2 r2] 88)
        have HSD := Lib.hid hsb.dr
        have HKD := Lib.hid (show wr.grownBy (wr.alloc (.cells #[.int .i64 yk, .int .i64 yv, .slice s1 n1 r1, .slice s2 n2 r2] 88)).drew none from grownBy_trans (gr1 wr _) ⟨rfl, rfl, rfl, Nat.le_refl _, fun _ _ _ => rfl⟩)
        have t1 := (bq4 hsb.tl.hd).2.1
        have t1d := (bq4 hsb.dr.tl.hd).2.1
        clear hsb
        go_upto_region 5 with fail
        have hxb : ∃ xb, xb = wr.heap.size := ⟨_, rfl⟩
        obtain ⟨xb, hxb⟩ := hxb
        have SX := Lib.hid fun (W : World) (l : List Asrt) (h : Sep W (BxA wr.heap.size #[.int .i64 yk, .int .i64 yv, .slice s1 n1 r1, .slice s2 n2 r2] 88 :: l)) => And.intro (bq4 h.hd).1 (And.intro (bq4 h.hd).2.1 (And.intro (bq4 h.hd).2.2.1 (bq4 h.hd).2.2.2.1))
        have X0 := Lib.hid (SX.out _ _ HSD.out)
        rw [← hxb] at SX X0 HSD
        clear q0 q1 q2 q3 x0 x1 x2 x3
        simp only [← hxb]
        clear hxb
        generalize wr.alloc (.cells #[.int .i64 yk, .int .i64 yv, .slice s1 n1 r1, .slice s2 n2 r2] 88) = wx at *
        refine AnyL.start (fun w' => w'.cell? ⟨xb, 0, none⟩ = some (.int .i64 yk) ∧ w'.cell? ⟨xb, 1, none⟩ = some (.int .i64 yv) ∧ w'.cell? ⟨xb, 2, none⟩ = some (.slice s1 n1 r1) ∧ w'.cell? ⟨xb, 3, none⟩ = some (.slice s2 n2 r2)) (fun w' => w'.cell? ⟨ob, 1, none⟩ = some (.slice e1 k f1)) 16 (by kernel_rfl) ?_
        refine AnyL.take (i := 0) (v := ?vx1) (by rfl) (by kernel_rfl) (by kernel_rfl) (by kernel_rfl) rfl (by exact fun _ _ _ h => h) (by rfl) ?hyx1 (by exact ⟨X0.out, fun _ => t1d⟩) ?restx1
        case hyx1 => intro W hSW; (try dsimp only at hSW); first | (go_simp; done) | (go_simp; with_reducible rfl)
        try simp only [Act.put, List.setIfInBounds_toArray, List.set_cons_zero, List.set_cons_succ]
        refine AnyL.takeA (i := 1) (v := ?vx2) (by rfl) (by kernel_rfl) (by kernel_rfl) (by kernel_rfl) rfl (by rfl) (by kernel_rfl) (by kernel_rfl) (by exact fun _ _ _ h => h) (by rfl) ?hyx2 (by exact ⟨X0.out, fun _ => t1d⟩) ?restx2
        case hyx2 => intro W hSW; (try dsimp only at hSW); first | (go_simp; done) | (go_simp; with_reducible rfl)
        try simp only [Act.put, List.setIfInBounds_toArray, List.set_cons_zero, List.set_cons_succ]
        refine AnyL.take (i := 2) (v := ?vx3) (by rfl) (by kernel_rfl) (by kernel_rfl) (by kernel_rfl) rfl (by exact fun _ _ _ h => h) (by rfl) ?hyx3 (by exact ⟨X0.out, fun _ => t1d⟩) ?restx3
        case hyx3 => intro W hSW; (try dsimp only at hSW); first | (go_simp; done) | (go_simp; with_reducible rfl)
        try simp only [Act.put, List.setIfInBounds_toArray, List.set_cons_zero, List.set_cons_succ]
        refine AnyL.take (i := 3) (v := ?vx4) (by rfl) (by kernel_rfl) (by kernel_rfl) (by kernel_rfl) rfl (by exact fun _ _ _ h => h) (by rfl) ?hyx4 (by exact ⟨X0.out, fun _ => t1d⟩) ?restx4
        case hyx4 => intro W hSW; (try dsimp only at hSW); first | (go_simp; done) | (go_simp; with_reducible rfl)
        try simp only [Act.put, List.setIfInBounds_toArray, List.set_cons_zero, List.set_cons_succ]
        refine AnyL.take (i := 4) (v := ?vx5) (by rfl) (by kernel_rfl) (by kernel_rfl) (by kernel_rfl) rfl (by exact fun _ _ _ h => h) (by rfl) ?hyx5 (by exact ⟨X0.out, fun _ => t1d⟩) ?restx5
        case hyx5 => intro W hSW; (try dsimp only at hSW); first | (go_simp; done) | (go_simp; with_reducible rfl)
        try simp only [Act.put, List.setIfInBounds_toArray, List.set_cons_zero, List.set_cons_succ]
        refine AnyL.take (i := 5) (v := ?vx6) (by rfl) (by kernel_rfl) (by kernel_rfl) (by kernel_rfl) rfl (by exact fun _ _ _ h => h) (by rfl) ?hyx6 (by exact ⟨X0.out, fun _ => t1d⟩) ?restx6
        case hyx6 => intro W hSW; (try dsimp only at hSW); first | (go_simp; done) | (go_simp; with_reducible rfl)
        try simp only [Act.put, List.setIfInBounds_toArray, List.set_cons_zero, List.set_cons_succ]
        refine AnyL.take (i := 6) (v := ?vx7) (by rfl) (by kernel_rfl) (by kernel_rfl) (by kernel_rfl) rfl (by exact fun _ _ _ h => h) (by rfl) ?hyx7 (by exact ⟨X0.out, fun _ => t1d⟩) ?restx7
        case hyx7 => intro W hSW; (try dsimp only at hSW); first | (go_simp; done) | (go_simp; with_reducible rfl)
        try simp only [Act.put, List.setIfInBounds_toArray, List.set_cons_zero, List.set_cons_succ]
        refine AnyL.take (i := 7) (v := ?vx8) (by rfl) (by kernel_rfl) (by kernel_rfl) (by kernel_rfl) rfl (by exact fun _ _ _ h => h) (by rfl) ?hyx8 (by exact ⟨X0.out, fun _ => t1d⟩) ?restx8
        case hyx8 => intro W hSW; (try dsimp only at hSW); first | (go_simp; done) | (go_simp; with_reducible rfl)
        try simp only [Act.put, List.setIfInBounds_toArray, List.set_cons_zero, List.set_cons_succ]
        refine AnyL.take (i := 8) (v := ?vx9) (by rfl) (by kernel_rfl) (by kernel_rfl) (by kernel_rfl) rfl (by exact fun _ _ _ h => h) (by rfl) ?hyx9 (by exact ⟨X0.out, fun _ => t1d⟩) ?restx9
        case hyx9 => intro W hSW; (try dsimp only at hSW); first | (go_simp; done) | (go_simp; with_reducible rfl)
        try simp only [Act.put, List.setIfInBounds_toArray, List.set_cons_zero, List.set_cons_succ]
        refine AnyL.take (i := 10) (v := ?vx10) (by rfl) (by kernel_rfl) (by kernel_rfl) (by kernel_rfl) rfl (by exact fun _ _ _ h => h) (by rfl) ?hyx10 (by exact ⟨X0.out, fun _ => t1d⟩) ?restx10
        case hyx10 => intro W hSW; (try dsimp only at hSW); first | (go_simp; done) | (go_simp; with_reducible rfl)
        try simp only [Act.put, List.setIfInBounds_toArray, List.set_cons_zero, List.set_cons_succ]
        refine AnyL.take (i := 11) (v := ?vx11) (by rfl) (by kernel_rfl) (by kernel_rfl) (by kernel_rfl) rfl (by exact fun _ _ _ h => h) (by rfl) ?hyx11 (by exact ⟨X0.out, fun _ => t1d⟩) ?restx11
        case hyx11 => intro W hSW; (try dsimp only at hSW); first | (go_simp; done) | (go_simp; with_reducible rfl)
        try simp only [Act.put, List.setIfInBounds_toArray, List.set_cons_zero, List.set_cons_succ]
        refine AnyL.take (i := 12) (v := ?vx12) (by rfl) (by kernel_rfl) (by kernel_rfl) (by kernel_rfl) rfl (by exact fun _ _ _ h => h) (by rfl) ?hyx12 (by exact ⟨X0.out, fun _ => t1d⟩) ?restx12
        case hyx12 => intro W hSW; (try dsimp only at hSW); first | (go_simp; done) | (go_simp; with_reducible rfl)
        try simp only [Act.put, List.setIfInBounds_toArray, List.set_cons_zero, List.set_cons_succ]
        refine AnyL.step (i := 9) (by kernel_rfl) (by rfl) (fun K hK => ?_)
        go_simp
        go_at_call 101
        with_reducible refine (HMI.out _ HKD.out).mono ?_
        rintro e w2 ⟨b3, d3, rfl, hsg⟩
        have HS2 := Lib.hid (HSD.out.graft1 hsg OI_own)
        have X2 := Lib.hid (SX.out _ _ HS2.out.tl)
        have HK2 := Lib.hid (show wr.grownBy w2 none from grownBy_trans HKD.out hsg.tl.hd)
        have t1a := (bq4 HS2.out.tl.tl.hd).2.1
        clear hsg
        refine hK.out _ _ (by exact X2.out) (by exact fun _ => t1a) ?_
        clear hK K
        try simp only [Act.put, List.setIfInBounds_toArray, List.set_cons_zero, List.set_cons_succ]
        refine AnyL.step (i := 13) (by kernel_rfl) (by rfl) (fun K hK => ?_)
        go_simp
        go_at_call 101
        with_reducible refine (HMO.out _ HK2.out).mono ?_
        rintro e w3 ⟨b4, d4, rfl, hsg⟩
        have HS3 := Lib.hid (HS2.out.graft1 hsg OI_own)
        have X3 := Lib.hid (SX.out _ _ HS3.out.tl.tl)
        have Y3 := Lib.hid fun ob' => SX.out _ _ (HS3.out.al ob').tl.tl
        have t1b := (bq4 HS3.out.tl.tl.tl.hd).2.1
        have t1c := fun ob' => (bq4 (HS3.out.al ob').tl.tl.tl.hd).2.1
        clear hsg
        refine hK.out _ _ (by exact X3.out) (by exact fun _ => t1b) ?_
        clear hK K
        try simp only [Act.put, List.setIfInBounds_toArray, List.set_cons_zero, List.set_cons_succ]
        refine AnyL.take (i := 14) (v := ?vx13) (by rfl) (by kernel_rfl) (by kernel_rfl) (by kernel_rfl) rfl (by exact fun _ _ _ h => h) (by rfl) ?hyx13 (by exact ⟨X3.out, fun _ => t1b⟩) ?restx13
        case hyx13 => intro W hSW; (try dsimp only at hSW); first | (go_simp; done) | (go_simp; with_reducible rfl)
        try simp only [Act.put, List.setIfInBounds_toArray, List.set_cons_zero, List.set_cons_succ]
        refine AnyL.step (i := 15) (by kernel_rfl) (by rfl) (fun K hK => ?_)
        go_simp
        refine hK.out _ _ (by exact Y3.out _) (by exact fun _ => t1c _) ?_
        clear hK K
        try simp only [Act.put, List.setIfInBounds_toArray, List.set_cons_zero, List.set_cons_succ]
        refine AnyL.step (i := 16) (by kernel_rfl) (by rfl) (fun K hK => ?_)
        refine step_app_RG (E := edgeE) (y := ⟨⟨yk, yv, yi.map (ofL ts), yo.map (ofL ts)⟩, .slice b3 n1 d3, .slice b4 n2 d4⟩) info_edge rfl (by decide) Tryz.underlying27 (edge_one _ _ _ _ _ _ _) rfl (.tmp 28) (.tmp 42) rfl rfl rfl (by simp) rfl (HS3.out.s5) (by rw [HXL.out]; omega) ?_
        intro g c w4 h4
        rw [HXL.out] at h4 ⊢
        have X4 := Lib.hid (SX.out _ _ h4.tl.tl.tl)
        have X5 := Lib.hid (SX.out _ _ (h4.s5.setB 1 (.slice (some ⟨g, 0, none⟩) (k + 1) c)).tl.tl.tl.tl)
        have h5 := h4.edgeIn
        rw [← rowsE_snoc xs ⟨⟨yk, yv, yi.map (ofL ts), yo.map (ofL ts)⟩, .slice b3 n1 d3, .slice b4 n2 d4⟩] at h5
        obtain ⟨u0, u1, u2, u3, u4, u5, _⟩ := bq4 h5.hd
        have HS5 := Lib.hid (h5.setB 1 (.slice (some ⟨g, 0, none⟩) (k + 1) c))
        clear h4 h5
        refine hK.out _ _ (by exact X4.out) (by exact fun h => noTF (by kernel_rfl) h) ?_
        clear hK K
        try simp only [Act.put, List.setIfInBounds_toArray, List.set_cons_zero, List.set_cons_succ]
        refine AnyL.take (i := 17) (v := ?vx14) (by rfl) (by kernel_rfl) (by kernel_rfl) (by kernel_rfl) rfl (by exact fun _ _ _ h => h) (by rfl) ?hyx14 (by exact ⟨X4.out, fun h => noTF (by kernel_rfl) h⟩) ?restx14
        case hyx14 => intro W hSW; (try dsimp only at hSW); first | (go_simp; done) | (go_simp; with_reducible rfl)
        try simp only [Act.put, List.setIfInBounds_toArray, List.set_cons_zero, List.set_cons_succ]
        refine AnyL.step (i := 18) (by kernel_rfl) (by rfl) (fun K hK => ?_)
        go_simp
        refine hK.out _ _ (by exact X5.out) (by exact fun h => noTF (by kernel_rfl) h) ?_
        clear hK K
        try simp only [Act.put, List.setIfInBounds_toArray, List.set_cons_zero, List.set_cons_succ]
        refine AnyL.done (by kernel_rfl) ?_ _
        all_goals
          go_wp2_with fail
          go_roundw
          case rel => exact ⟨k + 1, some ⟨g, 0, none⟩, c, xs ++ [(⟨⟨yk, yv, yi.map (ofL ts), yo.map (ofL ts)⟩, .slice b3 n1 d3, .slice b4 n2 d4⟩ : XE)], by omega, by go_num, by rw [List.length_append, HXL.out]; rfl, HXN.out ⟨⟨yk, yv, yi.map (ofL ts), yo.map (ofL ts)⟩, .slice b3 n1 d3, .slice b4 n2 d4⟩ rfl, HS5.out⟩
          case measure => simp [intOf]; omega
      · have hkm : k = m := by omega
        subst hkm
        have hxe := HXE.out
        rw [List.take_of_length_le (by rw [HM.out]; exact Nat.le_refl _)] at hxe
        have HXF := Lib.hid hxe
        have hs1 := HSX.out.tl.s5
        obtain ⟨r0, r1, r2, r3, r4, r5⟩ := bq4 hs1.hd
        have hs2 := (((hs1.setB 0 (.int .i64 n)).setB 1 (.slice e1 k f1)).setB 2 (.slice b1 m1 d1)).setB 3 (.slice b2 m2 d2)
        obtain ⟨k0, k1, k2, k3, _⟩ := bq4 hs2.hd
        have HF := Lib.hid hs2.tl.intoBag
        clear hs1 hs2 hxe hlt
        go_wp2_with fail
        refine bodyPost_ret_by (v := .agg #[.int .i64 n, .slice e1 k f1, .slice b1 m1 d1, .slice b2 m2 d2]) ?_ rfl ⟨_, xs, _, _, rfl, HXF.out, HF.out⟩
        simp [results, go_sem, *]
end Go.Proofs.YtjagjhchnpmngaaGreatDoor

/-
  Wires made one, in plain Lean: classes, their least wires, the new numbers. Conditions: as each says.
-/
namespace Go.Proofs.YtjagjhchnpmngaaGreatDoor
open Go.RowKit
set_option linter.unusedVariables false
set_option maxRecDepth 100000

theorem ofL_nat (l : List Int) (k : Nat) : ofL l (k : Int) = l.getD k 0 := by unfold ofL; rw [Int.toNat_natCast]
theorem ofL_mapF {l : List Int} {f : Int → Int} {w : Int} (h0 : 0 ≤ w) (h1 : w < l.length) : ofL (l.map f) w = f (ofL l w) := by
  obtain ⟨k, rfl⟩ := Int.eq_ofNat_of_zero_le h0
  rw [ofL_nat, ofL_nat, List.getD_eq_getElem?_getD, List.getElem?_map, List.getD_eq_getElem?_getD, List.getElem?_eq_getElem (by omega)]
  rfl
theorem ofL_set {l : List Int} {j w m : Int} (h0 : 0 ≤ w) (h1 : w < l.length) (hj : 0 ≤ j) : ofL (l.set j.toNat m) w = if w = j then m else ofL l w := by
  obtain ⟨k, rfl⟩ := Int.eq_ofNat_of_zero_le h0
  obtain ⟨i, rfl⟩ := Int.eq_ofNat_of_zero_le hj
  rw [ofL_nat, ofL_nat, Int.toNat_natCast, List.getD_eq_getElem?_getD, List.getElem?_set, List.getD_eq_getElem?_getD]
  by_cases h : i = k
  · subst h
    rw [if_pos rfl, if_pos (by omega), if_pos rfl]
    rfl
  · rw [if_neg h, if_neg (by omega)]
theorem ofL_up' {n : Nat} {x : Int} (h0 : 0 ≤ x) (h1 : x < n) : ofL (upL n) x = x := by
  obtain ⟨k, rfl⟩ := Int.eq_ofNat_of_zero_le h0
  unfold ofL upL
  rw [Int.toNat_natCast, List.getD_eq_getElem?_getD, List.getElem?_map, List.getElem?_range (by omega)]
  rfl
/-- Two wires made one: each class by its least wire. -/
def joinC (C : List Int) (a b : Int) : List Int := C.map fun c => if c = max (ofL C a) (ofL C b) then min (ofL C a) (ofL C b) else c
/-- F leads from each wire to one of its class that is not greater; C is the least wire. -/
structure Rep (n : Nat) (F C : List Int) : Prop where
  fl : F.length = n
  cl : C.length = n
  f0 : ∀ w : Int, 0 ≤ w → w < n → 0 ≤ ofL F w ∧ ofL F w ≤ w
  c0 : ∀ w : Int, 0 ≤ w → w < n → 0 ≤ ofL C w ∧ ofL C w ≤ w
  cf : ∀ w : Int, 0 ≤ w → w < n → ofL C (ofL F w) = ofL C w
  fx : ∀ w : Int, 0 ≤ w → w < n → ofL F w = w → ofL C w = w
  cc : ∀ w : Int, 0 ≤ w → w < n → ofL C (ofL C w) = ofL C w
  fc : ∀ w : Int, 0 ≤ w → w < n → ofL F (ofL C w) = ofL C w
theorem Rep.start (n : Nat) : Rep n (upL n) (upL n) := by
  refine ⟨upL_len n, upL_len n, ?_, ?_, ?_, ?_, ?_, ?_⟩ <;> intro w h0 h1
  · rw [ofL_up' h0 h1]; omega
  · rw [ofL_up' h0 h1]; omega
  · rw [ofL_up' h0 h1]; exact ofL_up' h0 h1
  · intro _; exact ofL_up' h0 h1
  · rw [ofL_up' h0 h1]; exact ofL_up' h0 h1
  · rw [ofL_up' h0 h1]; exact ofL_up' h0 h1
theorem Rep.join {n : Nat} {F C : List Int} (h : Rep n F C) {a b : Int} (ha0 : 0 ≤ a) (ha1 : a < n) (hb0 : 0 ≤ b) (hb1 : b < n) :
    Rep n (F.set (max (ofL C a) (ofL C b)).toNat (min (ofL C a) (ofL C b))) (joinC C a b) := by
  have xa := h.c0 a ha0 ha1
  have xb := h.c0 b hb0 hb1
  have ca := h.cc a ha0 ha1
  have cb := h.cc b hb0 hb1
  have fa := h.fc a ha0 ha1
  have fb := h.fc b hb0 hb1
  have hM : 0 ≤ max (ofL C a) (ofL C b) ∧ max (ofL C a) (ofL C b) < n := by omega
  have hm : 0 ≤ min (ofL C a) (ofL C b) ∧ min (ofL C a) (ofL C b) ≤ max (ofL C a) (ofL C b) := by omega
  have cM : ofL C (max (ofL C a) (ofL C b)) = max (ofL C a) (ofL C b) := by
    rcases Int.le_total (ofL C a) (ofL C b) with g | g
    · rw [Int.max_eq_right g]; exact cb
    · rw [Int.max_eq_left g]; exact ca
  have cm : ofL C (min (ofL C a) (ofL C b)) = min (ofL C a) (ofL C b) := by
    rcases Int.le_total (ofL C a) (ofL C b) with g | g
    · rw [Int.min_eq_left g]; exact ca
    · rw [Int.min_eq_right g]; exact cb
  have fm : ofL F (min (ofL C a) (ofL C b)) = min (ofL C a) (ofL C b) := by
    rcases Int.le_total (ofL C a) (ofL C b) with g | g
    · rw [Int.min_eq_left g]; exact fa
    · rw [Int.min_eq_right g]; exact fb
  have fM : ofL F (max (ofL C a) (ofL C b)) = max (ofL C a) (ofL C b) := by
    rcases Int.le_total (ofL C a) (ofL C b) with g | g
    · rw [Int.max_eq_right g]; exact fb
    · rw [Int.max_eq_left g]; exact fa
  unfold joinC
  generalize max (ofL C a) (ofL C b) = M at *
  generalize min (ofL C a) (ofL C b) = m at *
  clear xa xb ca cb fa fb ha0 ha1 hb0 hb1
  have hC : ∀ w : Int, 0 ≤ w → w < n → ofL (C.map fun c => if c = M then m else c) w = if ofL C w = M then m else ofL C w := fun w h0 h1 => ofL_mapF h0 (by rw [h.cl]; exact h1)
  have hF : ∀ w : Int, 0 ≤ w → w < n → ofL (F.set M.toNat m) w = if w = M then m else ofL F w := fun w h0 h1 => ofL_set h0 (by rw [h.fl]; exact h1) hM.1
  have cm' : (if ofL C m = M then m else ofL C m) = m := by rw [cm]; split <;> rfl
  have fm' : (if m = M then m else ofL F m) = m := by rw [fm]; split <;> rfl
  refine ⟨by rw [List.length_set]; exact h.fl, by rw [List.length_map]; exact h.cl, ?_, ?_, ?_, ?_, ?_, ?_⟩ <;> intro w h0 h1
  · rw [hF w h0 h1]
    have := h.f0 w h0 h1
    split <;> omega
  · rw [hC w h0 h1]
    have := h.c0 w h0 h1
    split <;> omega
  · have hf := h.f0 w h0 h1
    rw [hF w h0 h1]
    by_cases hw : w = M
    · subst hw
      rw [if_pos rfl, hC m hm.1 (by omega), cm', hC w h0 h1, if_pos cM]
    · rw [if_neg hw, hC _ hf.1 (by omega), hC w h0 h1, h.cf w h0 h1]
  · intro hx
    rw [hF w h0 h1] at hx
    rw [hC w h0 h1]
    by_cases hw : w = M
    · subst hw
      rw [if_pos rfl] at hx
      rw [cM, if_pos rfl, hx]
    · rw [if_neg hw] at hx
      rw [h.fx w h0 h1 hx, if_neg hw]
  · have hc := h.c0 w h0 h1
    rw [hC w h0 h1]
    by_cases hw : ofL C w = M
    · rw [if_pos hw, hC m hm.1 (by omega)]
      exact cm'
    · rw [if_neg hw, hC _ hc.1 (by omega), h.cc w h0 h1, if_neg hw]
  · have hc := h.c0 w h0 h1
    rw [hC w h0 h1]
    by_cases hw : ofL C w = M
    · rw [if_pos hw, hF m hm.1 (by omega)]
      exact fm'
    · rw [if_neg hw, hF _ hc.1 (by omega), if_neg hw, h.fc w h0 h1]
/-- All pairs made one. -/
def classOf (n : Nat) (ps : List (Int × Int)) : List Int := ps.foldl (fun C p => joinC C p.1 p.2) (upL n)
theorem classOf_snoc (n : Nat) (ps : List (Int × Int)) (p : Int × Int) : classOf n (ps ++ [p]) = joinC (classOf n ps) p.1 p.2 := by unfold classOf; rw [List.foldl_append]; rfl
/-- The classes alone: least wires. -/
structure Cls (n : Nat) (C : List Int) : Prop where
  cl : C.length = n
  c0 : ∀ w : Int, 0 ≤ w → w < n → 0 ≤ ofL C w ∧ ofL C w ≤ w
  cc : ∀ w : Int, 0 ≤ w → w < n → ofL C (ofL C w) = ofL C w
theorem Rep.cls {n : Nat} {F C : List Int} (h : Rep n F C) : Cls n C := ⟨h.cl, h.c0, h.cc⟩
/-! ### which classes are used, and their new numbers -/
def usedB (C ws : List Int) (r : Int) : Bool := ws.any fun w => decide (ofL C w = r)
def cntR (C ws : List Int) (k : Nat) : Nat := (List.range k).countP fun w : Nat => decide (ofL C (w : Int) = w) && usedB C ws w
def numX (C ws : List Int) (x : Int) : Int := if usedB C ws (ofL C x) = true then (cntR C ws (ofL C x).toNat : Int) else -1
def numL (C ws : List Int) (n : Nat) : List Int := (List.range n).map fun w : Nat => numX C ws w
theorem numL_len (C ws : List Int) (n : Nat) : (numL C ws n).length = n := by simp [numL]
theorem num_at {C ws : List Int} {n : Nat} {x : Int} (h0 : 0 ≤ x) (h1 : x < n) : ofL (numL C ws n) x = numX C ws x := by
  obtain ⟨k, rfl⟩ := Int.eq_ofNat_of_zero_le h0
  rw [ofL_nat]
  unfold numL
  rw [List.getD_eq_getElem?_getD, List.getElem?_map, List.getElem?_range (by omega)]
  rfl
theorem cntR_succ (C ws : List Int) (k : Nat) : cntR C ws (k + 1) = cntR C ws k + if (decide (ofL C (k : Int) = k) && usedB C ws k) = true then 1 else 0 := by
  unfold cntR
  rw [List.range_succ, List.countP_append, List.countP_singleton]
theorem cntR_mono (C ws : List Int) {a b : Nat} (h : a ≤ b) : cntR C ws a ≤ cntR C ws b := by
  induction h with
  | refl => exact Nat.le_refl _
  | step _ ih => rw [cntR_succ]; omega
theorem cntR_le (C ws : List Int) (k : Nat) : cntR C ws k ≤ k := by
  unfold cntR
  have := List.countP_le_length (l := List.range k) (p := fun w : Nat => decide (ofL C (w : Int) = w) && usedB C ws w)
  simpa using this
theorem used_of {C ws : List Int} {x : Int} (h : x ∈ ws) : usedB C ws (ofL C x) = true := List.any_eq_true.2 ⟨x, h, by simp⟩
theorem num_used {C ws : List Int} {n : Nat} (hc : Cls n C) {x : Int} (h : x ∈ ws) (h0 : 0 ≤ x) (h1 : x < n) : numX C ws x = (cntR C ws (ofL C x).toNat : Int) ∧ 0 ≤ numX C ws x ∧ numX C ws x < cntR C ws n := by
  have hu := used_of (C := C) h
  have hx := hc.c0 x h0 h1
  have hcc := hc.cc x h0 h1
  unfold numX
  rw [if_pos hu]
  obtain ⟨r, hr⟩ := Int.eq_ofNat_of_zero_le hx.1
  rw [hr] at hu hcc ⊢
  rw [Int.toNat_natCast]
  have h2 := cntR_succ C ws r
  rw [decide_eq_true hcc, hu] at h2
  have h3 := cntR_mono C ws (show r + 1 ≤ n by omega)
  simp at h2
  omega
theorem num_sur {C ws : List Int} : ∀ (n k : Nat), k < cntR C ws n → ∃ r : Nat, r < n ∧ ofL C (r : Int) = r ∧ usedB C ws r = true ∧ cntR C ws r = k
  | 0, k, h => by simp [cntR] at h
  | n + 1, k, h => by
    rw [cntR_succ] at h
    by_cases hk : k < cntR C ws n
    · obtain ⟨r, h1, h2⟩ := num_sur n k hk
      exact ⟨r, by omega, h2⟩
    · split at h
      · rename_i hb
        simp only [Bool.and_eq_true, decide_eq_true_iff] at hb
        exact ⟨n, by omega, hb.1, hb.2, by omega⟩
      · omega
/-- A graph whose wires are made one. -/
def glueG (C : List Int) (g : Gr) : Gr := mapG (numL C (wiresL g) g.n.toNat) (cntR C (wiresL g) g.n.toNat) g
theorem wires_map (ts : List Int) (n : Int) (g : Gr) : wiresL (mapG ts n g) = (wiresL g).map (ofL ts) := by
  unfold wiresL mapG wiresE mapE
  simp only [List.map_append, List.flatMap_map, List.map_flatMap]
theorem glue_valid {C : List Int} {g : Gr} {n : Nat} (hn : g.n = n) (hn1 : n ≤ 100) (hc : Cls n C) (hw : ∀ x ∈ wiresL g, 0 ≤ x ∧ x < (n : Int)) (h1 : g.es.length ≤ 60) (h2 : g.i.length ≤ 12) (h3 : g.o.length ≤ 12) (h4 : g.es.all edB = true) : grB (glueG C g) = true := by
  have hle := cntR_le C (wiresL g) n
  unfold grB
  simp only [Bool.and_eq_true]
  refine ⟨⟨⟨⟨?_, ?_⟩, ?_⟩, ?_⟩, ?_⟩
  · rw [inB_iff]
    unfold glueG mapG
    rw [hn]
    simp only [Int.toNat_natCast]
    omega
  · unfold glueG mapG
    simp [h1, h2, h3]
  · unfold glueG mapG
    simp only [List.all_map]
    refine List.all_eq_true.2 fun e he => ?_
    have := List.all_eq_true.1 h4 e he
    unfold edB at this ⊢
    simpa [mapE] using this
  · rw [rngB_iff]
    intro x hx
    unfold glueG at hx ⊢
    rw [wires_map] at hx
    obtain ⟨y, hy, rfl⟩ := List.mem_map.1 hx
    have hyr := hw y hy
    rw [hn, Int.toNat_natCast, num_at hyr.1 hyr.2]
    have := num_used hc hy hyr.1 hyr.2
    show _ ∧ _ < ((cntR C (wiresL g) n : Nat) : Int)
    omega
  · refine List.all_eq_true.2 fun k hk => decide_eq_true ?_
    have hk' : k < cntR C (wiresL g) n := by
      have := List.mem_range.1 hk
      unfold glueG mapG at this
      rw [hn] at this
      simpa using this
    obtain ⟨r, h5, h6, h7, h8⟩ := num_sur n k hk'
    obtain ⟨x, hx, hxr⟩ := List.any_eq_true.1 h7
    have hxr' : ofL C x = (r : Int) := by simpa using hxr
    have hxx := hw x hx
    unfold glueG
    rw [wires_map]
    refine List.mem_map.2 ⟨x, hx, ?_⟩
    rw [hn, Int.toNat_natCast, num_at hxx.1 hxx.2, (num_used hc hx hxx.1 hxx.2).1, hxr', Int.toNat_natCast, h8]
end Go.Proofs.YtjagjhchnpmngaaGreatDoor

/-
  Classes of wires: the least wire of a class, two classes made one. Conditions: wires are in range; lengths are small.
-/
namespace Go.Proofs.YtjagjhchnpmngaaGreatDoor
open Go.RowKit
set_option linter.unusedVariables false
set_option maxRecDepth 100000

theorem cell_of_ints {w : World} {b o n c : Nat} {zs : List Int} (h : IntsV w (.slice (some ⟨b, o, none⟩) n c) zs) {k : Nat} (hk : k < zs.length) : w.cell? ⟨b, o + k, none⟩ = some (.int .i64 (ofL zs (k : Int))) := by
  rw [ofL_nat]
  exact h.cellN hk
set_option maxHeartbeats 1000000 in
theorem root_any (v : Value) (F C : List Int) (n k : Nat) (w : World) (hv : IntsV w v F) (hr : Rep n F C) (hk : k < n) (hn : n ≤ 1000) :
    Calls Tryz.prog 97 #[v, .int .i64 k] w fun e w' => e = .returned (.int .i64 (ofL C (k : Int))) ∧ w' = w := by
  have HV := Lib.hid hv; have HR := Lib.hid hr
  obtain ⟨a, c, rfl⟩ := hv.shape
  obtain ⟨b, o, rfl⟩ := IntsV.addr hv (by rw [hr.fl]; omega)
  rw [hr.fl] at *
  clear hv hr
  go_enter Tryz.func97, Tryz.ntmps97
  go_wp2_with fail
  go_loopw [1] (fun wv wr => ∃ u : Nat, wv = .int .i64 u ∧ u < n ∧ ofL C (u : Int) = ofL C (k : Int) ∧ wr = w) (fun wv _ => (intOf wv).toNat)
  case atStart => exact ⟨k, rfl, hk, rfl, rfl⟩
  case round =>
    obtain ⟨u, rfl, hu, hc, hw⟩ := hrel
    subst hw
    have hcell := cell_of_ints HV.out (show u < F.length by rw [HR.out.fl]; exact hu)
    have hf := HR.out.f0 (u : Int) (by omega) (by omega)
    have hcf := HR.out.cf (u : Int) (by omega) (by omega)
    have hfx := HR.out.fx (u : Int) (by omega) (by omega)
    obtain ⟨f, hf'⟩ := Int.eq_ofNat_of_zero_le hf.1
    rw [hf'] at hcell hf hcf hfx
    have HC := Lib.hid hc
    by_cases h : f = u
    · subst h
      have hne : ((f : Int) != (f : Int)) = false := by simp
      have HE := Lib.hid (show (f : Int) = ofL C (k : Int) by rw [← HC.out, hfx rfl])
      clear hf hcf hfx hf' hc
      go_wp2
      go_ret
      exact ⟨by rw [← HE.out]; rfl, rfl⟩
    · have hne : ((f : Int) != (u : Int)) = true := by simp; omega
      have hfu : f < u := by omega
      have HC2 := Lib.hid (show ofL C (f : Int) = ofL C (k : Int) by rw [hcf]; exact HC.out)
      clear hf hcf hfx hf' hc h
      go_wp2
      go_roundw
      case rel => exact ⟨f, rfl, by omega, HC2.out, by trivial⟩
      case measure => simp [intOf]; omega
set_option maxHeartbeats 1000000 in
theorem join_any (g n c : Nat) (F C : List Int) (a b : Nat) (w : World) (l : List Asrt) (hs : Sep w (OI (.slice (some ⟨g, 0, none⟩) n c) F :: l)) (hr : Rep n F C) (ha : a < n) (hb : b < n) (hn : n ≤ 1000) :
    Calls Tryz.prog 95 #[.slice (some ⟨g, 0, none⟩) n c, .int .i64 a, .int .i64 b] w fun e w' => e = .returned (.tuple #[]) ∧ Sep w' (OI (.slice (some ⟨g, 0, none⟩) n c) (F.set (max (ofL C (a : Int)) (ofL C (b : Int))).toNat (min (ofL C (a : Int)) (ofL C (b : Int)))) :: l) := by
  have HA := Lib.hid (root_any _ F C n a w (OwnInts.read (show OwnInts 0 w _ F from hs.hd)) hr ha hn)
  have HB := Lib.hid (root_any _ F C n b w (OwnInts.read (show OwnInts 0 w _ F from hs.hd)) hr hb hn)
  have xa := hr.c0 (a : Int) (by omega) (by omega)
  have xb := hr.c0 (b : Int) (by omega) (by omega)
  obtain ⟨x, hx⟩ := Int.eq_ofNat_of_zero_le xa.1
  obtain ⟨y, hy⟩ := Int.eq_ofNat_of_zero_le xb.1
  have hxn : x < n := by omega
  have hyn : y < n := by omega
  rw [hx] at HA
  rw [hy] at HB
  rw [hx, hy]
  have HS := Lib.hid hs
  have HL := Lib.hid hr.fl
  clear hx hy xa xb hr hs
  rcases Nat.lt_trichotomy x y with hxy | hxy | hxy
  · have e1 : max (x : Int) (y : Int) = (y : Int) := Int.max_eq_right (by omega)
    have e2 : min (x : Int) (y : Int) = (x : Int) := Int.min_eq_left (by omega)
    rw [e1, e2, Int.toNat_natCast]
    have hset := HS.out.setI HL.out.symm y (x : Int)
    obtain ⟨q, hc0⟩ := HS.out.hd.cellQ HL.out.symm (j := y) (by omega)
    have hf := HS.out.hd.free HL.out.symm y
    have HF := Lib.hid hset
    have g1 : (x : Int) < (y : Int) := by omega
    have g2 : ¬ (y : Int) < (x : Int) := by omega
    have g3 : (x : Int) ≤ (y : Int) := by omega
    have g4 : ¬ (y : Int) ≤ (x : Int) := by omega
    clear hset e1 e2
    go_enter Tryz.func95, Tryz.ntmps95
    go_wp2_with (first
      | (go_at_call 97; with_reducible refine HA.out.mono ?_; rintro e w3 ⟨rfl, rfl⟩)
      | (go_at_call 97; with_reducible refine HB.out.mono ?_; rintro e w4 ⟨rfl, rfl⟩))
    refine bodyPost_end (results_none rfl _ _ _) rfl ?_
    exact ⟨rfl, HF.out⟩
  · subst hxy
    have e1 : max (x : Int) (x : Int) = (x : Int) := Int.max_eq_right (by omega)
    have e2 : min (x : Int) (x : Int) = (x : Int) := Int.min_eq_left (by omega)
    rw [e1, e2, Int.toNat_natCast]
    have hset := HS.out.setI HL.out.symm x (x : Int)
    obtain ⟨q, hc0⟩ := HS.out.hd.cellQ HL.out.symm (j := x) (by omega)
    have hf := HS.out.hd.free HL.out.symm x
    have HF := Lib.hid hset
    have g1 : ¬ (x : Int) < (x : Int) := by omega
    have g3 : (x : Int) ≤ (x : Int) := by omega
    clear hset e1 e2
    go_enter Tryz.func95, Tryz.ntmps95
    go_wp2_with (first
      | (go_at_call 97; with_reducible refine HA.out.mono ?_; rintro e w3 ⟨rfl, rfl⟩)
      | (go_at_call 97; with_reducible refine HB.out.mono ?_; rintro e w4 ⟨rfl, rfl⟩))
    refine bodyPost_end (results_none rfl _ _ _) rfl ?_
    exact ⟨rfl, HF.out⟩
  · have e1 : max (x : Int) (y : Int) = (x : Int) := Int.max_eq_left (by omega)
    have e2 : min (x : Int) (y : Int) = (y : Int) := Int.min_eq_right (by omega)
    rw [e1, e2, Int.toNat_natCast]
    have hset := HS.out.setI HL.out.symm x (y : Int)
    obtain ⟨q, hc0⟩ := HS.out.hd.cellQ HL.out.symm (j := x) (by omega)
    have hf := HS.out.hd.free HL.out.symm x
    have HF := Lib.hid hset
    have g1 : ¬ (x : Int) < (y : Int) := by omega
    have g2 : (y : Int) < (x : Int) := by omega
    have g3 : ¬ (x : Int) ≤ (y : Int) := by omega
    have g4 : (y : Int) ≤ (x : Int) := by omega
    clear hset e1 e2
    go_enter Tryz.func95, Tryz.ntmps95
    go_wp2_with (first
      | (go_at_call 97; with_reducible refine HA.out.mono ?_; rintro e w3 ⟨rfl, rfl⟩)
      | (go_at_call 97; with_reducible refine HB.out.mono ?_; rintro e w4 ⟨rfl, rfl⟩))
    refine bodyPost_end (results_none rfl _ _ _) rfl ?_
    exact ⟨rfl, HF.out⟩
end Go.Proofs.YtjagjhchnpmngaaGreatDoor

/-
  All lists of wires of a graph visited by a function that wants them in range; which classes are used. Conditions: wires are in range; lengths are small.
-/
namespace Go.Proofs.YtjagjhchnpmngaaGreatDoor
open Go.RowKit
set_option linter.unusedVariables false
set_option maxRecDepth 100000

/-- A function value that takes list after list of wires of a kind. -/
def VisFnR (R : Int → Prop) (g : FuncId) (lb : Array Value) (A : List Int → Asrt) : Prop :=
  ∀ (P x : List Int) (v : Value) (w0 W : World) (l : List Asrt), Sep W (A P :: KeepA w0 :: l) → IntsV w0 v x → x.length ≤ 1000000 → (∀ y ∈ x, R y) → Calls Tryz.prog g (#[v] ++ lb) W fun e w' => e = .returned (.tuple #[]) ∧ Sep w' (A (P ++ x) :: KeepA w0 :: l)
set_option maxHeartbeats 2000000 in
theorem lists_anyR (g : FuncId) (lb : Array Value) (eg : ∀ args w, (callFunc g args).run Tryz.prog w = .ok (.enter g args) w) (A : List Int → Asrt) (R : Int → Prop) (hV : VisFnR R g lb A) (n : Int) (ev iv ov : Value) (G : Gr) (w0 w : World) (l : List Asrt)
    (he : RdE edgeE w0 ev G.es) (hi : IntsV w0 iv G.i) (ho : IntsV w0 ov G.o) (hl : G.es.length ≤ 1000000) (hli : G.i.length ≤ 1000000) (hlo : G.o.length ≤ 1000000) (hle : ∀ e ∈ G.es, e.i.length ≤ 1000000 ∧ e.o.length ≤ 1000000) (hR : ∀ y ∈ wiresL G, R y) (hs : Sep w (A [] :: KeepA w0 :: l)) :
    Calls Tryz.prog 79 #[grV n ev iv ov, .func (.func g) #[] lb] w fun e w' => e = .returned (.tuple #[]) ∧ Sep w' (A (wiresL G) :: KeepA w0 :: l) := by
  have HE := Lib.hid he; have HI := Lib.hid hi; have HO := Lib.hid ho; have HV := Lib.hid hV
  obtain ⟨ea, ec, rfl⟩ := he.shape
  obtain ⟨ia, ic, rfl⟩ := hi.shape
  obtain ⟨oa, oc, rfl⟩ := ho.shape
  unfold wiresL wiresE at hR
  unfold grV wiresL
  obtain ⟨_, es, is, os⟩ := G
  simp only at HE HI HO hl hli hlo hle hR ⊢
  have hRI : ∀ y ∈ is, R y := fun y hy => hR y (by simp [hy])
  have HRO := Lib.hid (show ∀ y ∈ os, R y from fun y hy => hR y (by simp [hy]))
  have HRE := Lib.hid (show ∀ e ∈ es, (∀ y ∈ e.i, R y) ∧ ∀ y ∈ e.o, R y from fun e he => ⟨fun y hy => hR y (by simp only [List.mem_append, List.mem_flatMap]; exact Or.inr (Or.inr ⟨e, he, Or.inl hy⟩)), fun y hy => hR y (by simp only [List.mem_append, List.mem_flatMap]; exact Or.inr (Or.inr ⟨e, he, Or.inr hy⟩))⟩)
  have HLE := Lib.hid hle; have HLO := Lib.hid (show ∀ y : List Int, y = os → y.length ≤ 1000000 from fun y e => by rw [e]; exact hlo)
  clear he hi ho hV
  have hs0 := (hs.box #[.int .i64 n, .slice ea es.length ec, .slice ia is.length ic, .slice oa os.length oc] 30).s2.under Sep.s2 (by simp +contextual)
  have HS0 := Lib.hid hs0
  have HA := Lib.hid (HV.out [] is _ w0 _ _ hs0 HI.out hli hRI)
  clear hs hs0 hli hlo hle hR hRI
  generalize hm : es.length = m at *
  have HM := Lib.hid hm
  clear hm
  generalize is.length = n1 at *
  generalize os.length = n2 at *
  have HIV := Lib.hid HI.out; have HOV := Lib.hid HO.out
  go_enter Tryz.func79, Tryz.ntmps79
  go_wp2_with (first
    | (go_at_fn g
       with_reducible refine HA.out.mono ?_
       rintro e w2 ⟨rfl, hs2⟩
       obtain ⟨x0, x1, x2, x3, _⟩ := bq4 hs2.tl.tl.hd
       have HS2 := Lib.hid hs2
       have HB := Lib.hid (HV.out _ os _ w0 _ _ hs2 HO.out (HLO.out _ rfl) HRO.out)
       clear hs2)
    | (go_at_fn g
       with_reducible refine HB.out.mono ?_
       rintro e w3 ⟨rfl, hs3⟩
       obtain ⟨y0, y1, y2, y3, _⟩ := bq4 hs3.tl.tl.hd
       have HS3 := Lib.hid hs3
       clear hs3))
  rw [List.nil_append] at HS3
  have HS3' := Lib.hid (show Sep w3 (A (is ++ (os ++ wiresE (es.take 0))) :: _) from by have := HS3.out; simpa [wiresE] using this)
  clear HS2 HS3 HA HB y0 y1 y2 y3 x0 x1 x2 x3
  go_loopw [5, 17] (fun _ i wr => ∃ k : Nat, k ≤ m ∧ i = .int .i64 k ∧ Sep wr (A (is ++ (os ++ wiresE (es.take k))) :: KeepA w0 :: BxA w.heap.size #[.int .i64 n, .slice ea m ec, .slice ia n1 ic, .slice oa n2 oc] 30 :: l)) (fun _ i _ => m - (intOf i).toNat)
  case atStart => exact ⟨0, by omega, rfl, HS3'.out⟩
  case round =>
    obtain ⟨k, hk, rfl, hs⟩ := hrel
    have HSX := Lib.hid hs
    clear hs HS3'
    by_cases hlt : k < m
    · have hke : k < es.length := by rw [HM.out]; exact hlt
      obtain ⟨b, o, u1, u2, rfl, hat⟩ := HE.out.atK rfl rfl hke
      have HT := Lib.hid (wiresE_take es k hke)
      have hlm := HLE.out _ (show es.getD k e0 ∈ es by rw [List.getD_eq_getElem?_getD, List.getElem?_eq_getElem hke]; exact List.getElem_mem _)
      have hre := HRE.out _ (show es.getD k e0 ∈ es by rw [List.getD_eq_getElem?_getD, List.getElem?_eq_getElem hke]; exact List.getElem_mem _)
      generalize es.getD k e0 = e at *
      obtain ⟨ek, ev, ei, eo⟩ := e
      simp only at hat HT hlm hre
      have HRX := Lib.hid hre.2
      have HLM := Lib.hid (show ∀ y : List Int, y = eo → y.length ≤ 1000000 from fun y e => by rw [e]; exact hlm.2)
      obtain ⟨⟨q0, q1, q2, q3⟩, hi, ho⟩ := hat wr HSX.out.tl.hd
      obtain ⟨a1, c1, rfl⟩ := hi.shape
      obtain ⟨a2, c2, rfl⟩ := ho.shape
      have HAT := Lib.hid hat
      obtain ⟨⟨_, _, _, _⟩, hi0, ho0⟩ := hat w0 (grownBy_refl _ _)
      have hb := (HSX.out.box #[.int .i64 ek, .int .i64 ev, .slice a1 ei.length c1, .slice a2 eo.length c2] 88).s2.under Sep.s2 (by simp +contextual)
      have HA := Lib.hid (HV.out _ ei _ w0 _ _ hb hi0 hlm.1 hre.1)
      have HO0 := Lib.hid ho0
      clear hb hke hi ho hat hlm hi0 ho0 HAT hre
      generalize ei.length = m1 at *
      generalize eo.length = m2 at *
      go_wp2_with (first
        | (go_at_fn g
           with_reducible refine HA.out.mono ?_
           rintro e w5 ⟨rfl, hs5⟩
           obtain ⟨y0, y1, y2, y3, _⟩ := bq4 hs5.tl.tl.hd
           have HB := Lib.hid (HV.out _ eo _ w0 _ _ hs5 HO0.out (HLM.out _ rfl) HRX.out)
           clear hs5)
        | (go_at_fn g
           with_reducible refine HB.out.mono ?_
           rintro e w6 ⟨rfl, hs6⟩
           have hs7 := hs6.under Sep.drop2 (by simp +contextual)
           rw [show is ++ (os ++ wiresE (es.take k)) ++ ei ++ eo = is ++ (os ++ wiresE (es.take (k + 1))) by rw [HT.out]; simp] at hs7
           have HS7 := Lib.hid hs7
           clear hs6 hs7))
      go_roundw
      case rel => exact ⟨k + 1, by omega, by go_num, HS7.out⟩
      case measure => simp [intOf]; omega
    · have hkm : k = m := by omega
      subst hkm
      have hs := HSX.out
      rw [List.take_of_length_le (by rw [HM.out]; exact Nat.le_refl _)] at hs
      have HF := Lib.hid (hs.under Sep.drop2 (by simp +contextual))
      clear hs hlt HSX
      go_wp2
      refine bodyPost_end (results_none rfl _ _ _) rfl ?_
      exact ⟨rfl, HF.out⟩
/-- Which classes are used behind the wires P. -/
def usedL (n : Nat) (C P : List Int) : List Bool := (List.range n).map fun r : Nat => usedB C P r
theorem usedL_len (n : Nat) (C P : List Int) : (usedL n C P).length = n := by simp [usedL]
theorem usedL_nil (n : Nat) (C : List Int) : usedL n C [] = List.replicate n false := by
  unfold usedL
  rw [show (fun r : Nat => usedB C [] r) = fun _ => false from rfl, List.map_const', List.length_range]
theorem usedL_at {n : Nat} {C P : List Int} {r : Nat} (h : r < n) : (usedL n C P).getD r false = usedB C P r := by
  unfold usedL
  rw [List.getD_eq_getElem?_getD, List.getElem?_map, List.getElem?_range h]
  rfl
theorem usedB_snoc {C P : List Int} {x r : Int} : usedB C (P ++ [x]) r = (usedB C P r || decide (ofL C x = r)) := by unfold usedB; simp
theorem usedL_snoc {n : Nat} {C P : List Int} {x : Int} {r : Nat} (hr : ofL C x = r) (h : r < n) : usedL n C (P ++ [x]) = (usedL n C P).set r true := by
  apply List.ext_getElem (by simp [usedL])
  intro i h1 h2
  rw [List.getElem_set]
  have e1 : (usedL n C (P ++ [x]))[i] = usedB C (P ++ [x]) i := by simp [usedL]
  rw [e1, usedB_snoc, hr]
  by_cases e : r = i
  · subst e
    rw [if_pos rfl]
    simp
  · rw [if_neg e]
    have e2 : (usedL n C P)[i]'(by simpa [usedL] using h2) = usedB C P i := by simp [usedL]
    have : ¬ (r : Int) = i := by omega
    rw [e2, decide_eq_false this, Bool.or_false]
/-- What the marking of used classes holds. -/
def UseA (m ub us cb tb tc : Nat) (F C P : List Int) : List Asrt :=
  [BxA ub #[.slice (some ⟨us, 0, none⟩) m m] 109, OR boolE (.slice (some ⟨us, 0, none⟩) m m) (usedL m C P), BxA cb #[.slice (some ⟨tb, 0, none⟩) m tc] 130, OI (.slice (some ⟨tb, 0, none⟩) m tc) F]
set_option maxHeartbeats 4000000 in
theorem glue1_fn (m ub us cb tb tc : Nat) (F C : List Int) (hr : Rep m F C) (hm : m ≤ 1000) :
    VisFnR (fun y => 0 ≤ y ∧ y < (m : Int)) 96 #[.pointer (some ⟨ub, 0, none⟩), .pointer (some ⟨cb, 0, none⟩)] (fun P => Bag (UseA m ub us cb tb tc F C P)) := by
  intro P xs v w0 W l hs hv hl hR
  have hs0 := Sep.unbag hs
  have HS0 := Lib.hid hs0
  have HV := Lib.hid hv; have HR := Lib.hid hR; have HREP := Lib.hid hr
  obtain ⟨a, c, rfl⟩ := hv.shape
  clear hs hs0 hv hR hr
  generalize hlen : xs.length = n at *
  have HN := Lib.hid hlen
  clear hlen
  go_enter Tryz.func96, Tryz.ntmps96
  go_wp2_with fail
  go_loopw [5, 8] (fun _ i wr => ∃ k : Nat, k ≤ n ∧ i = .int .i64 k ∧ Sep wr (UseA m ub us cb tb tc F C (P ++ xs.take k) ++ KeepA w0 :: l)) (fun _ i _ => n - (intOf i).toNat)
  case atStart => exact ⟨0, by omega, rfl, by simpa using HS0.out⟩
  case round =>
    obtain ⟨k, hk, rfl, hs⟩ := hrel
    have HSX := Lib.hid hs
    clear hs HS0
    by_cases hlt : k < n
    · have hkx : k < xs.length := by rw [HN.out]; exact hlt
      obtain ⟨b, o, rfl⟩ := IntsV.addr HV.out (by omega)
      have hkeep : w0.grownBy wr none := HSX.out.tl.tl.tl.tl.hd
      have hc0 := (HV.out.carry hkeep).cellN hkx
      have hrx := HR.out (xs.getD k 0) (by rw [List.getD_eq_getElem?_getD, List.getElem?_eq_getElem hkx]; exact List.getElem_mem _)
      have htk : xs.take (k + 1) = xs.take k ++ [xs.getD k 0] := by rw [List.take_succ_eq_append_getElem hkx, List.getD_eq_getElem?_getD, List.getElem?_eq_getElem hkx]; rfl
      have HTK := Lib.hid (show P ++ xs.take (k + 1) = (P ++ xs.take k) ++ [xs.getD k 0] by rw [htk, List.append_assoc])
      generalize xs.getD k 0 = x at *
      obtain ⟨j, rfl⟩ := Int.eq_ofNat_of_zero_le hrx.1
      have hjm : j < m := by omega
      have hS : Sep wr (BxA ub #[.slice (some ⟨us, 0, none⟩) m m] 109 :: OR boolE (.slice (some ⟨us, 0, none⟩) m m) (usedL m C (P ++ xs.take k)) :: BxA cb #[.slice (some ⟨tb, 0, none⟩) m tc] 130 :: OI (.slice (some ⟨tb, 0, none⟩) m tc) F :: KeepA w0 :: l) := HSX.out
      have HSD := Lib.hid hS.dr
      have hc := HREP.out.c0 (j : Int) (by omega) (by omega)
      obtain ⟨r, hr⟩ := Int.eq_ofNat_of_zero_le hc.1
      have hrm : r < m := by omega
      have HRT := Lib.hid fun W (h : IntsV W (.slice (some ⟨tb, 0, none⟩) m tc) F) => root_any _ F C m j W h HREP.out hjm hm
      rw [hr] at HRT
      have hset := (hS.dr.s2.setBo (usedL_len m C _).symm hrm true).s2
      rw [← usedL_snoc hr hrm, ← HTK.out] at hset
      have HF := Lib.hid (show Sep _ (UseA m ub us cb tb tc F C (P ++ xs.take (k + 1)) ++ KeepA w0 :: l) from hset)
      have hsc := bool_cell hS.dr.tl.hd (usedL_len m C _).symm hrm
      have hsf := bool_free hS.dr.tl.hd (usedL_len m C _).symm r
      have X0 := Lib.hid (And.intro (bx1' HSD.out.hd).1 (bx1' HSD.out.tl.tl.hd).1)
      have X1 := Lib.hid (And.intro (bx1' hset.hd).1 (bx1' hset.tl.tl.hd).1)
      have HRQ := Lib.hid (HRT.out _ (OwnInts.read (show OwnInts 0 wr.drew (.slice (some ⟨tb, 0, none⟩) m tc) F from HSD.out.tl.tl.tl.hd)))
      clear hkx hkeep htk hrx hS hset hc hr
      go_upto_region 3 with fail
      refine AnyL.start (fun w' => w'.cell? ⟨ub, 0, none⟩ = some (.slice (some ⟨us, 0, none⟩) m m) ∧ w'.cell? ⟨cb, 0, none⟩ = some (.slice (some ⟨tb, 0, none⟩) m tc)) (fun _ => True) 99 (by kernel_rfl) ?_
      refine AnyL.take (i := 0) (v := ?vx1) (by rfl) (by kernel_rfl) (by kernel_rfl) (by kernel_rfl) rfl (by exact fun _ _ _ h => h) (by rfl) ?hyx1 (by exact ⟨X0.out, fun _ => trivial⟩) ?restx1
      case hyx1 => intro W hSW; (try dsimp only at hSW); first | (go_simp; done) | (go_simp; with_reducible rfl)
      try simp only [Act.put, List.setIfInBounds_toArray, List.set_cons_zero, List.set_cons_succ]
      refine AnyL.take (i := 1) (v := ?vx2) (by rfl) (by kernel_rfl) (by kernel_rfl) (by kernel_rfl) rfl (by exact fun _ _ _ h => h) (by rfl) ?hyx2 (by exact ⟨X0.out, fun _ => trivial⟩) ?restx2
      case hyx2 => intro W hSW; (try dsimp only at hSW); first | (go_simp; done) | (go_simp; with_reducible rfl)
      try simp only [Act.put, List.setIfInBounds_toArray, List.set_cons_zero, List.set_cons_succ]
      refine AnyL.take (i := 2) (v := ?vx3) (by rfl) (by kernel_rfl) (by kernel_rfl) (by kernel_rfl) rfl (by exact fun _ _ _ h => h) (by rfl) ?hyx3 (by exact ⟨X0.out, fun _ => trivial⟩) ?restx3
      case hyx3 => intro W hSW; (try dsimp only at hSW); first | (go_simp; done) | (go_simp; with_reducible rfl)
      try simp only [Act.put, List.setIfInBounds_toArray, List.set_cons_zero, List.set_cons_succ]
      refine AnyL.step (i := 3) (by kernel_rfl) (by rfl) (fun K hK => ?_)
      go_simp
      go_at_call 97
      with_reducible refine HRQ.out.mono ?_
      rintro e w3 ⟨rfl, rfl⟩
      refine hK.out _ _ (by exact X0.out) (by exact fun _ => trivial) ?_
      clear hK K
      try simp only [Act.put, List.setIfInBounds_toArray, List.set_cons_zero, List.set_cons_succ]
      refine AnyL.take (i := 4) (v := ?vx4) (by rfl) (by kernel_rfl) (by kernel_rfl) (by kernel_rfl) rfl (by exact fun _ _ _ h => h) (by rfl) ?hyx4 (by exact ⟨X0.out, fun _ => trivial⟩) ?restx4
      case hyx4 => intro W hSW; (try dsimp only at hSW); first | (go_simp; done) | (go_simp; with_reducible rfl)
      try simp only [Act.put, List.setIfInBounds_toArray, List.set_cons_zero, List.set_cons_succ]
      refine AnyL.step (i := 5) (by kernel_rfl) (by rfl) (fun K hK => ?_)
      go_simp
      refine hK.out _ _ (by exact X1.out) (by exact fun _ => trivial) ?_
      clear hK K
      try simp only [Act.put, List.setIfInBounds_toArray, List.set_cons_zero, List.set_cons_succ]
      refine AnyL.done (by kernel_rfl) ?_ _
      go_wp2_with fail
      go_roundw
      case rel => exact ⟨k + 1, by omega, by go_num, HF.out⟩
      case measure => simp [intOf]; omega
    · have hkn : k = n := by omega
      subst hkn
      have hs := HSX.out
      rw [List.take_of_length_le (by rw [HN.out]; exact Nat.le_refl _)] at hs
      have HF := Lib.hid (Sep.bag hs)
      clear hs hlt HSX
      go_wp2
      refine bodyPost_end (results_none rfl _ _ _) rfl ?_
      exact ⟨rfl, HF.out⟩
end Go.Proofs.YtjagjhchnpmngaaGreatDoor

/-
  A graph with other wires, in the program. Conditions: wires are in range; lengths are small.
-/
namespace Go.Proofs.YtjagjhchnpmngaaGreatDoor
open Go.RowKit
set_option linter.unusedVariables false
set_option maxRecDepth 100000

set_option maxHeartbeats 4000000 in
theorem moved_any (ev iv ov tv : Value) (g : Gr) (n : Int) (ts : List Int) (w : World) (he : RdE edgeE w ev g.es) (hi : IntsV w iv g.i) (ho : IntsV w ov g.o) (ht : IntsV w tv ts) (l0 : g.es.length ≤ 1000) (l1 : g.i.length ≤ 1000000) (l2 : g.o.length ≤ 1000000) (hle : ∀ e ∈ g.es, e.i.length ≤ 1000000 ∧ e.o.length ≤ 1000000) (hr : ∀ x ∈ wiresL g, 0 ≤ x ∧ x < (ts.length : Int)) :
    Calls Tryz.prog 93 #[grV g.n ev iv ov, .int .i64 n, tv] w fun e w' => ∃ u0 xs u1 u2, e = .returned (grV n u0 u1 u2) ∧ eds xs = g.es.map (mapE ts) ∧ Sep w' [OE u0 xs, OI u1 (g.i.map (ofL ts)), OI u2 (g.o.map (ofL ts)), KeepA w] := by
  have HMI := Lib.hid fun W (h : w.grownBy W none) => mapped_any tv iv ts g.i W (ht.carry h) (hi.carry h) l1 (fun x hx => hr x (by unfold wiresL; simp [hx]))
  have HMO := Lib.hid fun W (h : w.grownBy W none) => mapped_any tv ov ts g.o W (ht.carry h) (ho.carry h) l2 (fun x hx => hr x (by unfold wiresL; simp [hx]))
  have HE := Lib.hid he; have HT := Lib.hid ht; have HR := Lib.hid hr; have HLE := Lib.hid hle
  unfold grV
  obtain ⟨a0, c0, rfl⟩ := he.shape
  obtain ⟨a1, c1, rfl⟩ := hi.shape
  obtain ⟨a2, c2, rfl⟩ := ho.shape
  obtain ⟨ta, tc, rfl⟩ := ht.shape
  clear he hi ho ht hr hle
  obtain ⟨gn, es, is, os⟩ := g
  simp only at HMI HMO HE HR HLE l0 l1 l2 ⊢
  generalize hm : es.length = m at *
  generalize is.length = m1 at *
  generalize os.length = m2 at *
  generalize hm3 : ts.length = m3 at *
  have HM := Lib.hid hm; have HM3 := Lib.hid hm3
  clear hm hm3 l1 l2
  have hs0 := ((Sep.start w).box #[.int .i64 gn, .slice a0 m c0, .slice a1 m1 c1, .slice a2 m2 c2] 30).box #[.int .i64 0, .slice none 0 0, .slice none 0 0, .slice none 0 0] 30
  have e1 : (w.alloc (.cells #[.int .i64 gn, .slice a0 m c0, .slice a1 m1 c1, .slice a2 m2 c2] 30)).heap.size = w.heap.size + 1 := by simp
  rw [e1] at hs0
  have HS0 := Lib.hid hs0
  clear hs0 e1
  go_enter Tryz.func93, Tryz.ntmps93
  go_upto_region 1 with fail
  go_cut [7] from 10 to 20 (fun t7 wx => ∃ (ob : Nat) (b1 : Option Addr) (d1 : Nat) (b2 : Option Addr) (d2 : Nat), t7 = .pointer (some ⟨ob, 0, none⟩) ∧ Sep wx [BxA ob #[.int .i64 n, .slice none 0 0, .slice b1 m1 d1, .slice b2 m2 d2] 30, OI (.slice b1 m1 d1) (is.map (ofL ts)), OI (.slice b2 m2 d2) (os.map (ofL ts)), BxA (w.heap.size + 1) #[.int .i64 0, .slice none 0 0, .slice none 0 0, .slice none 0 0] 30, BxA w.heap.size #[.int .i64 gn, .slice a0 m c0, .slice a1 m1 c1, .slice a2 m2 c2] 30, KeepA w])
  case first =>
    have hs1 := HS0.out.dr
    have HS1 := Lib.hid hs1
    have hs1a := (HS0.out.box #[.int .i64 0, .slice none 0 0, .slice none 0 0, .slice none 0 0] 30).dr
    rw [show ((w.alloc (.cells #[.int .i64 gn, .slice a0 m c0, .slice a1 m1 c1, .slice a2 m2 c2] 30)).alloc (.cells #[.int .i64 0, .slice none 0 0, .slice none 0 0, .slice none 0 0] 30)).heap.size = w.heap.size + 1 + 1 by simp] at hs1a
    have HS1a := Lib.hid hs1a
    have HK1 := Lib.hid (show w.grownBy _ none from hs1.tl.tl.hd)
    have HK1a := Lib.hid (show w.grownBy _ none from hs1a.tl.tl.tl.hd)
    obtain ⟨x0, x1, x2, x3, _⟩ := bq4 hs1.tl.hd
    obtain ⟨y0, y1, y2, y3, _⟩ := bq4 hs1a.tl.tl.hd
    clear hs1 hs1a
    go_region_law (first
      | (try go_simp
         go_at_call 70
         with_reducible refine (HMI.out _ HK1.out).mono ?_
         rintro e w2 ⟨b1, d1, rfl, hsg⟩
         have HS2 := Lib.hid (HS1.out.graft1 hsg OI_own)
         have HK2 := Lib.hid (show w.grownBy _ none from HS2.out.tl.tl.tl.hd)
         obtain ⟨p0, p1, p2, p3, _⟩ := bq4 HS2.out.tl.tl.hd
         have hs2b := HS2.out.box #[.int .i64 0, .slice none 0 0, .slice none 0 0, .slice none 0 0] 30
         have HS2b := Lib.hid hs2b
         have HK2b := Lib.hid (show w.grownBy _ none from hs2b.tl.tl.tl.tl.hd)
         obtain ⟨r0, r1, r2, r3, _⟩ := bq4 hs2b.tl.tl.tl.hd
         clear hsg hs2b)
      | (try go_simp
         go_at_call 70
         with_reducible refine (HMI.out _ HK1a.out).mono ?_
         rintro e w2 ⟨b1, d1, rfl, hsg⟩
         have HS2a := Lib.hid (HS1a.out.graft1 hsg OI_own)
         have HK2a := Lib.hid (show w.grownBy _ none from HS2a.out.tl.tl.tl.tl.hd)
         obtain ⟨p0, p1, p2, p3, _⟩ := bq4 HS2a.out.tl.tl.tl.hd
         clear hsg)
      | (try go_simp
         go_at_call 70
         with_reducible refine (HMO.out _ HK2.out).mono ?_
         rintro e w3 ⟨b2, d2, rfl, hsg⟩
         have HS3 := Lib.hid (HS2.out.graft1 hsg OI_own)
         have hs3 := (HS3.out).box #[.int .i64 n, .slice none 0 0, .slice b1 m1 d1, .slice b2 m2 d2] 30
         have HSF := Lib.hid (hs3.under (fun h => h.s2) (by simp +contextual [or_assoc, or_comm, or_left_comm]))
         clear hsg hs3)
      | (try go_simp
         go_at_call 70
         with_reducible refine (HMO.out _ HK2a.out).mono ?_
         rintro e w3 ⟨b2, d2, rfl, hsg⟩
         have hs3 := (HS2a.out.graft1 hsg OI_own).s3
         obtain ⟨q0, q1, q2, q3, q4, q5⟩ := bq4 hs3.hd
         have hs4 := (((hs3.setB 0 (.int .i64 n)).setB 1 (.slice none 0 0)).setB 2 (.slice b1 m1 d1)).setB 3 (.slice b2 m2 d2)
         have HSF := Lib.hid (hs4.under (fun h => h.s2) (by simp +contextual [or_assoc, or_comm, or_left_comm]))
         clear hsg hs3 hs4)
      | (try go_simp
         go_at_call 70
         with_reducible refine (HMO.out _ HK2b.out).mono ?_
         rintro e w3 ⟨b2, d2, rfl, hsg⟩
         have hs3 := (HS2b.out.graft1 hsg OI_own).s2
         obtain ⟨q0, q1, q2, q3, q4, q5⟩ := bq4 hs3.hd
         have hs4 := (((hs3.setB 0 (.int .i64 n)).setB 1 (.slice none 0 0)).setB 2 (.slice b1 m1 d1)).setB 3 (.slice b2 m2 d2)
         have HSF := Lib.hid (hs4.under (fun h => h.s2) (by simp +contextual [or_assoc, or_comm, or_left_comm]))
         clear hsg hs3 hs4))
    all_goals
      go_wp2_with fail
      go_meet
      exact ⟨_, b1, d1, b2, d2, rfl, HSF.out⟩
  case rest =>
    obtain ⟨ob, b1, d1, b2, d2, rfl, hs⟩ := hcut
    have HS := Lib.hid hs
    obtain ⟨x0, x1, x2, x3, _⟩ := bq4 hs.hd
    obtain ⟨y0, y1, y2, y3, _⟩ := bq4 hs.tl.tl.tl.tl.hd
    clear hs HS0 HMI HMO
    go_wp2_with fail
    go_loopw [9, 23] (fun _ i wr => ∃ (k : Nat) (e1 : Option Addr) (f1 : Nat) (xs : List XE), k ≤ m ∧ i = .int .i64 k ∧ xs.length = k ∧ eds xs = (es.take k).map (mapE ts) ∧ Sep wr [BxA ob #[.int .i64 n, .slice e1 k f1, .slice b1 m1 d1, .slice b2 m2 d2] 30, OR edgeE (.slice e1 k f1) xs, Bag (rowsE xs), OI (.slice b1 m1 d1) (is.map (ofL ts)), OI (.slice b2 m2 d2) (os.map (ofL ts)), BxA (w.heap.size + 1) #[.int .i64 0, .slice none 0 0, .slice none 0 0, .slice none 0 0] 30, KeepA w]) (fun _ i _ => m - (intOf i).toNat)
    case atStart => exact ⟨0, none, 0, [], by omega, rfl, rfl, rfl, ((HS.out.under (fun h => h.under (fun h => h.under (fun h => h.drop2) (by simp +contextual)) (by simp +contextual)) (by simp +contextual)).noBag.nilR edgeE).s3⟩
    case round =>
      obtain ⟨k, e1, f1, xs, hk, rfl, hxl, hxe, hs⟩ := hrel
      have HSX := Lib.hid hs; have HXL := Lib.hid hxl; have HXE := Lib.hid hxe
      have HKX := Lib.hid (show w.grownBy wr none from hs.tl.tl.tl.tl.tl.tl.hd)
      obtain ⟨x0, x1, x2, x3, _⟩ := bq4 hs.hd
      clear hs hxl hxe HS
      by_cases hlt : k < m
      · have hke : k < es.length := by rw [HM.out]; exact hlt
        have hye : es.getD k e0 ∈ es := by rw [List.getD_eq_getElem?_getD, List.getElem?_eq_getElem hke]; exact List.getElem_mem _
        obtain ⟨eb, eo, iv, ov, rfl, _, q0, q1, q2, q3, hiv, hov⟩ := (HE.out.carry HKX.out).at rfl rfl hke
        have hlm := HLE.out _ hye
        have HMI := Lib.hid fun W (h : wr.grownBy W none) => mapped_any _ iv ts (es.getD k e0).i W (HT.out.carry (grownBy_trans HKX.out h)) (hiv.carry h) hlm.1 (fun x hx => by rw [HM3.out]; exact HR.out x ((wires_edge hye).1 hx))
        have HMO := Lib.hid fun W (h : wr.grownBy W none) => mapped_any _ ov ts (es.getD k e0).o W (HT.out.carry (grownBy_trans HKX.out h)) (hov.carry h) hlm.2 (fun x hx => by rw [HM3.out]; exact HR.out x ((wires_edge hye).2 hx))
        have HTK := Lib.hid (map_take ts hke)
        have HXN := Lib.hid (show ∀ x : XE, x.ed = mapE ts (es.getD k e0) → eds (xs ++ [x]) = (es.take (k + 1)).map (mapE ts) from fun x hx => by rw [eds_snoc, hx, HTK.out, HXE.out])
        generalize es.getD k e0 = y at *
        obtain ⟨yk, yv, yi, yo⟩ := y
        simp only at q0 q1 HMI HMO
        obtain ⟨s1, r1, rfl⟩ := hiv.shape
        obtain ⟨s2, r2, rfl⟩ := hov.shape
        simp only at q2 q3
        clear hke hye hiv hov hlm
        generalize yi.length = n1 at *
        generalize yo.length = n2 at *
        have hsb := (HSX.out.box #[.int .i64 yk, .int .i64 yv, .slice s1 n1 r1, .slice s2 n2 r2] 88)
        have HSD := Lib.hid hsb.dr
        have HKD := Lib.hid (show wr.grownBy (wr.alloc (.cells #[.int .i64 yk, .int .i64 yv, .slice s1 n1 r1, .slice s2 n2 r2] 88)).drew none from grownBy_trans (gr1 wr _) ⟨rfl, rfl, rfl, Nat.le_refl _, fun _ _ _ => rfl⟩)
        have t1 := (bq4 hsb.tl.hd).2.1
        have t1d := (bq4 hsb.dr.tl.hd).2.1
        clear hsb
        go_upto_region 5 with fail
        have hxb : ∃ xb, xb = wr.heap.size := ⟨_, rfl⟩
        obtain ⟨xb, hxb⟩ := hxb
        have SX := Lib.hid fun (W : World) (l : List Asrt) (h : Sep W (BxA wr.heap.size #[.int .i64 yk, .int .i64 yv, .slice s1 n1 r1, .slice s2 n2 r2] 88 :: l)) => And.intro (bq4 h.hd).1 (And.intro (bq4 h.hd).2.1 (And.intro (bq4 h.hd).2.2.1 (bq4 h.hd).2.2.2.1))
        have X0 := Lib.hid (SX.out _ _ HSD.out)
        rw [← hxb] at SX X0 HSD
        clear q0 q1 q2 q3 x0 x1 x2 x3
        simp only [← hxb]
        clear hxb
        generalize wr.alloc (.cells #[.int .i64 yk, .int .i64 yv, .slice s1 n1 r1, .slice s2 n2 r2] 88) = wx at *
        refine AnyL.start (fun w' => w'.cell? ⟨xb, 0, none⟩ = some (.int .i64 yk) ∧ w'.cell? ⟨xb, 1, none⟩ = some (.int .i64 yv) ∧ w'.cell? ⟨xb, 2, none⟩ = some (.slice s1 n1 r1) ∧ w'.cell? ⟨xb, 3, none⟩ = some (.slice s2 n2 r2)) (fun w' => w'.cell? ⟨ob, 1, none⟩ = some (.slice e1 k f1)) 16 (by kernel_rfl) ?_
        refine AnyL.take (i := 0) (v := ?vx1) (by rfl) (by kernel_rfl) (by kernel_rfl) (by kernel_rfl) rfl (by exact fun _ _ _ h => h) (by rfl) ?hyx1 (by exact ⟨X0.out, fun _ => t1d⟩) ?restx1
        case hyx1 => intro W hSW; (try dsimp only at hSW); first | (go_simp; done) | (go_simp; with_reducible rfl)
        try simp only [Act.put, List.setIfInBounds_toArray, List.set_cons_zero, List.set_cons_succ]
        refine AnyL.takeA (i := 1) (v := ?vx2) (by rfl) (by kernel_rfl) (by kernel_rfl) (by kernel_rfl) rfl (by rfl) (by kernel_rfl) (by kernel_rfl) (by exact fun _ _ _ h => h) (by rfl) ?hyx2 (by exact ⟨X0.out, fun _ => t1d⟩) ?restx2
        case hyx2 => intro W hSW; (try dsimp only at hSW); first | (go_simp; done) | (go_simp; with_reducible rfl)
        try simp only [Act.put, List.setIfInBounds_toArray, List.set_cons_zero, List.set_cons_succ]
        refine AnyL.take (i := 2) (v := ?vx3) (by rfl) (by kernel_rfl) (by kernel_rfl) (by kernel_rfl) rfl (by exact fun _ _ _ h => h) (by rfl) ?hyx3 (by exact ⟨X0.out, fun _ => t1d⟩) ?restx3
        case hyx3 => intro W hSW; (try dsimp only at hSW); first | (go_simp; done) | (go_simp; with_reducible rfl)
        try simp only [Act.put, List.setIfInBounds_toArray, List.set_cons_zero, List.set_cons_succ]
        refine AnyL.take (i := 3) (v := ?vx4) (by rfl) (by kernel_rfl) (by kernel_rfl) (by kernel_rfl) rfl (by exact fun _ _ _ h => h) (by rfl) ?hyx4 (by exact ⟨X0.out, fun _ => t1d⟩) ?restx4
        case hyx4 => intro W hSW; (try dsimp only at hSW); first | (go_simp; done) | (go_simp; with_reducible rfl)
        try simp only [Act.put, List.setIfInBounds_toArray, List.set_cons_zero, List.set_cons_succ]
        refine AnyL.take (i := 4) (v := ?vx5) (by rfl) (by kernel_rfl) (by kernel_rfl) (by kernel_rfl) rfl (by exact fun _ _ _ h => h) (by rfl) ?hyx5 (by exact ⟨X0.out, fun _ => t1d⟩) ?restx5
        case hyx5 => intro W hSW; (try dsimp only at hSW); first | (go_simp; done) | (go_simp; with_reducible rfl)
        try simp only [Act.put, List.setIfInBounds_toArray, List.set_cons_zero, List.set_cons_succ]
        refine AnyL.take (i := 5) (v := ?vx6) (by rfl) (by kernel_rfl) (by kernel_rfl) (by kernel_rfl) rfl (by exact fun _ _ _ h => h) (by rfl) ?hyx6 (by exact ⟨X0.out, fun _ => t1d⟩) ?restx6
        case hyx6 => intro W hSW; (try dsimp only at hSW); first | (go_simp; done) | (go_simp; with_reducible rfl)
        try simp only [Act.put, List.setIfInBounds_toArray, List.set_cons_zero, List.set_cons_succ]
        refine AnyL.take (i := 6) (v := ?vx7) (by rfl) (by kernel_rfl) (by kernel_rfl) (by kernel_rfl) rfl (by exact fun _ _ _ h => h) (by rfl) ?hyx7 (by exact ⟨X0.out, fun _ => t1d⟩) ?restx7
        case hyx7 => intro W hSW; (try dsimp only at hSW); first | (go_simp; done) | (go_simp; with_reducible rfl)
        try simp only [Act.put, List.setIfInBounds_toArray, List.set_cons_zero, List.set_cons_succ]
        refine AnyL.take (i := 7) (v := ?vx8) (by rfl) (by kernel_rfl) (by kernel_rfl) (by kernel_rfl) rfl (by exact fun _ _ _ h => h) (by rfl) ?hyx8 (by exact ⟨X0.out, fun _ => t1d⟩) ?restx8
        case hyx8 => intro W hSW; (try dsimp only at hSW); first | (go_simp; done) | (go_simp; with_reducible rfl)
        try simp only [Act.put, List.setIfInBounds_toArray, List.set_cons_zero, List.set_cons_succ]
        refine AnyL.take (i := 8) (v := ?vx9) (by rfl) (by kernel_rfl) (by kernel_rfl) (by kernel_rfl) rfl (by exact fun _ _ _ h => h) (by rfl) ?hyx9 (by exact ⟨X0.out, fun _ => t1d⟩) ?restx9
        case hyx9 => intro W hSW; (try dsimp only at hSW); first | (go_simp; done) | (go_simp; with_reducible rfl)
        try simp only [Act.put, List.setIfInBounds_toArray, List.set_cons_zero, List.set_cons_succ]
        refine AnyL.take (i := 10) (v := ?vx10) (by rfl) (by kernel_rfl) (by kernel_rfl) (by kernel_rfl) rfl (by exact fun _ _ _ h => h) (by rfl) ?hyx10 (by exact ⟨X0.out, fun _ => t1d⟩) ?restx10
        case hyx10 => intro W hSW; (try dsimp only at hSW); first | (go_simp; done) | (go_simp; with_reducible rfl)
        try simp only [Act.put, List.setIfInBounds_toArray, List.set_cons_zero, List.set_cons_succ]
        refine AnyL.take (i := 11) (v := ?vx11) (by rfl) (by kernel_rfl) (by kernel_rfl) (by kernel_rfl) rfl (by exact fun _ _ _ h => h) (by rfl) ?hyx11 (by exact ⟨X0.out, fun _ => t1d⟩) ?restx11
        case hyx11 => intro W hSW; (try dsimp only at hSW); first | (go_simp; done) | (go_simp; with_reducible rfl)
        try simp only [Act.put, List.setIfInBounds_toArray, List.set_cons_zero, List.set_cons_succ]
        refine AnyL.take (i := 12) (v := ?vx12) (by rfl) (by kernel_rfl) (by kernel_rfl) (by kernel_rfl) rfl (by exact fun _ _ _ h => h) (by rfl) ?hyx12 (by exact ⟨X0.out, fun _ => t1d⟩) ?restx12
        case hyx12 => intro W hSW; (try dsimp only at hSW); first | (go_simp; done) | (go_simp; with_reducible rfl)
        try simp only [Act.put, List.setIfInBounds_toArray, List.set_cons_zero, List.set_cons_succ]
        refine AnyL.step (i := 9) (by kernel_rfl) (by rfl) (fun K hK => ?_)
        go_simp
        go_at_call 70
        with_reducible refine (HMI.out _ HKD.out).mono ?_
        rintro e w2 ⟨b3, d3, rfl, hsg⟩
        have HS2 := Lib.hid (HSD.out.graft1 hsg OI_own)
        have X2 := Lib.hid (SX.out _ _ HS2.out.tl)
        have HK2 := Lib.hid (show wr.grownBy w2 none from grownBy_trans HKD.out hsg.tl.hd)
        have t1a := (bq4 HS2.out.tl.tl.hd).2.1
        clear hsg
        refine hK.out _ _ (by exact X2.out) (by exact fun _ => t1a) ?_
        clear hK K
        try simp only [Act.put, List.setIfInBounds_toArray, List.set_cons_zero, List.set_cons_succ]
        refine AnyL.step (i := 13) (by kernel_rfl) (by rfl) (fun K hK => ?_)
        go_simp
        go_at_call 70
        with_reducible refine (HMO.out _ HK2.out).mono ?_
        rintro e w3 ⟨b4, d4, rfl, hsg⟩
        have HS3 := Lib.hid (HS2.out.graft1 hsg OI_own)
        have X3 := Lib.hid (SX.out _ _ HS3.out.tl.tl)
        have Y3 := Lib.hid fun ob' => SX.out _ _ (HS3.out.al ob').tl.tl
        have t1b := (bq4 HS3.out.tl.tl.tl.hd).2.1
        have t1c := fun ob' => (bq4 (HS3.out.al ob').tl.tl.tl.hd).2.1
        clear hsg
        refine hK.out _ _ (by exact X3.out) (by exact fun _ => t1b) ?_
        clear hK K
        try simp only [Act.put, List.setIfInBounds_toArray, List.set_cons_zero, List.set_cons_succ]
        refine AnyL.take (i := 14) (v := ?vx13) (by rfl) (by kernel_rfl) (by kernel_rfl) (by kernel_rfl) rfl (by exact fun _ _ _ h => h) (by rfl) ?hyx13 (by exact ⟨X3.out, fun _ => t1b⟩) ?restx13
        case hyx13 => intro W hSW; (try dsimp only at hSW); first | (go_simp; done) | (go_simp; with_reducible rfl)
        try simp only [Act.put, List.setIfInBounds_toArray, List.set_cons_zero, List.set_cons_succ]
        refine AnyL.step (i := 15) (by kernel_rfl) (by rfl) (fun K hK => ?_)
        go_simp
        refine hK.out _ _ (by exact Y3.out _) (by exact fun _ => t1c _) ?_
        clear hK K
        try simp only [Act.put, List.setIfInBounds_toArray, List.set_cons_zero, List.set_cons_succ]
        refine AnyL.step (i := 16) (by kernel_rfl) (by rfl) (fun K hK => ?_)
        refine step_app_RG (E := edgeE) (y := ⟨⟨yk, yv, yi.map (ofL ts), yo.map (ofL ts)⟩, .slice b3 n1 d3, .slice b4 n2 d4⟩) info_edge rfl (by decide) Tryz.underlying27 (edge_one _ _ _ _ _ _ _) rfl (.tmp 28) (.tmp 42) rfl rfl rfl (by simp) rfl (HS3.out.s5) (by rw [HXL.out]; omega) ?_
        intro g c w4 h4
        rw [HXL.out] at h4 ⊢
        have X4 := Lib.hid (SX.out _ _ h4.tl.tl.tl)
        have X5 := Lib.hid (SX.out _ _ (h4.s5.setB 1 (.slice (some ⟨g, 0, none⟩) (k + 1) c)).tl.tl.tl.tl)
        have h5 := h4.edgeIn
        rw [← rowsE_snoc xs ⟨⟨yk, yv, yi.map (ofL ts), yo.map (ofL ts)⟩, .slice b3 n1 d3, .slice b4 n2 d4⟩] at h5
        obtain ⟨u0, u1, u2, u3, u4, u5, _⟩ := bq4 h5.hd
        have HS5 := Lib.hid (h5.setB 1 (.slice (some ⟨g, 0, none⟩) (k + 1) c))
        clear h4 h5
        refine hK.out _ _ (by exact X4.out) (by exact fun h => noTF (by kernel_rfl) h) ?_
        clear hK K
        try simp only [Act.put, List.setIfInBounds_toArray, List.set_cons_zero, List.set_cons_succ]
        refine AnyL.take (i := 17) (v := ?vx14) (by rfl) (by kernel_rfl) (by kernel_rfl) (by kernel_rfl) rfl (by exact fun _ _ _ h => h) (by rfl) ?hyx14 (by exact ⟨X4.out, fun h => noTF (by kernel_rfl) h⟩) ?restx14
        case hyx14 => intro W hSW; (try dsimp only at hSW); first | (go_simp; done) | (go_simp; with_reducible rfl)
        try simp only [Act.put, List.setIfInBounds_toArray, List.set_cons_zero, List.set_cons_succ]
        refine AnyL.step (i := 18) (by kernel_rfl) (by rfl) (fun K hK => ?_)
        go_simp
        refine hK.out _ _ (by exact X5.out) (by exact fun h => noTF (by kernel_rfl) h) ?_
        clear hK K
        try simp only [Act.put, List.setIfInBounds_toArray, List.set_cons_zero, List.set_cons_succ]
        refine AnyL.done (by kernel_rfl) ?_ _
        all_goals
          go_wp2_with fail
          go_roundw
          case rel => exact ⟨k + 1, some ⟨g, 0, none⟩, c, xs ++ [(⟨⟨yk, yv, yi.map (ofL ts), yo.map (ofL ts)⟩, .slice b3 n1 d3, .slice b4 n2 d4⟩ : XE)], by omega, by go_num, by rw [List.length_append, HXL.out]; rfl, HXN.out ⟨⟨yk, yv, yi.map (ofL ts), yo.map (ofL ts)⟩, .slice b3 n1 d3, .slice b4 n2 d4⟩ rfl, HS5.out⟩
          case measure => simp [intOf]; omega
      · have hkm : k = m := by omega
        subst hkm
        have hxe := HXE.out
        rw [List.take_of_length_le (by rw [HM.out]; exact Nat.le_refl _)] at hxe
        have HXF := Lib.hid hxe
        have hs1 := HSX.out.tl.s5
        obtain ⟨r0, r1, r2, r3, r4, r5⟩ := bq4 hs1.hd
        have hs2 := (((hs1.setB 0 (.int .i64 n)).setB 1 (.slice e1 k f1)).setB 2 (.slice b1 m1 d1)).setB 3 (.slice b2 m2 d2)
        obtain ⟨k0, k1, k2, k3, _⟩ := bq4 hs2.hd
        have HF := Lib.hid hs2.tl.intoBag
        clear hs1 hs2 hxe hlt
        go_wp2_with fail
        refine bodyPost_ret_by (v := .agg #[.int .i64 n, .slice e1 k f1, .slice b1 m1 d1, .slice b2 m2 d2]) ?_ rfl ⟨_, xs, _, _, rfl, HXF.out, HF.out⟩
        simp [results, go_sem, *]
end Go.Proofs.YtjagjhchnpmngaaGreatDoor

/-
  Wires made one, in the program: the graph that is glued. Conditions: wires are in range; lengths are small.
-/
namespace Go.Proofs.YtjagjhchnpmngaaGreatDoor
open Go.RowKit
set_option linter.unusedVariables false
set_option maxRecDepth 100000

def pairE : Lay (Int × Int) := ⟨100, 2, fun p => [.int .i64 p.1, .int .i64 p.2], fun _ => rfl, by decide⟩
theorem pair_cells {w : World} {a : Option Addr} {n c : Nat} {ps : List (Int × Int)} (h : RdR pairE w (.slice a n c) ps) {k : Nat} (hk : k < ps.length) :
    ∃ b o, a = some ⟨b, o, none⟩ ∧ w.cell? ⟨b, o + k * 2, none⟩ = some (.int .i64 (ps.getD k (0, 0)).1) ∧ w.cell? ⟨b, o + k * 2 + 1, none⟩ = some (.int .i64 (ps.getD k (0, 0)).2) := by
  obtain ⟨b, o, ha, _, hc⟩ := h.at hk
  have e : ps.getD k (0, 0) = ps[k] := by rw [List.getD_eq_getElem?_getD, List.getElem?_eq_getElem hk]; rfl
  rw [e]
  exact ⟨b, o, ha, hc 0 (by decide), hc 1 (by decide)⟩
theorem numL_set {C ws : List Int} {m k : Nat} {v : Int} (hk : k < m) (hv : numX C ws (k : Int) = v) : ((numL C ws m).take k ++ List.replicate (m - k) (0 : Int)).set k v = (numL C ws m).take (k + 1) ++ List.replicate (m - (k + 1)) 0 := by
  have hl : ((numL C ws m).take k).length = k := by rw [List.length_take, numL_len]; omega
  rw [List.set_append_right _ _ (by omega), hl, Nat.sub_self, show m - k = (m - (k + 1)) + 1 by omega, List.replicate_succ, List.set_cons_zero]
  have h2 : (numL C ws m).take (k + 1) = (numL C ws m).take k ++ [v] := by
    rw [List.take_succ_eq_append_getElem (by rw [numL_len]; exact hk)]
    congr 1
    unfold numL
    rw [List.getElem_map, List.getElem_range, hv]
  rw [h2, List.append_assoc]
  rfl
theorem numL_get {C ws : List Int} {m k r : Nat} (hr : r < k) (hk : k < m) : ((numL C ws m).take k ++ List.replicate (m - k) (0 : Int)).getD r 0 = numX C ws (r : Int) := by
  rw [List.getD_eq_getElem?_getD, List.getElem?_append_left (by rw [List.length_take, numL_len]; omega), List.getElem?_take_of_lt hr]
  unfold numL
  rw [List.getElem?_map, List.getElem?_range (by omega)]
  rfl
theorem bq5 {w : World} {k : Nat} {x0 x1 x2 x3 x4 : Value} {t : TypeId} (h : w.heap[k]? = some (.cells #[x0, x1, x2, x3, x4] t (0, 0))) :
    w.cell? ⟨k, 0, none⟩ = some x0 ∧ w.cell? ⟨k, 1, none⟩ = some x1 ∧ w.cell? ⟨k, 2, none⟩ = some x2 ∧ w.cell? ⟨k, 3, none⟩ = some x3 ∧ w.cell? ⟨k, 4, none⟩ = some x4 :=
  ⟨cell_of_row w k 0 _ _ _ h, cell_of_row w k 1 _ _ _ h, cell_of_row w k 2 _ _ _ h, cell_of_row w k 3 _ _ _ h, cell_of_row w k 4 _ _ _ h⟩
theorem bf5 {w : World} {k : Nat} {x0 x1 x2 x3 x4 : Value} {t : TypeId} (h : w.heap[k]? = some (.cells #[x0, x1, x2, x3, x4] t (0, 0))) :
    w.frozen? ⟨k, 0, none⟩ = false ∧ w.frozen? ⟨k, 1, none⟩ = false ∧ w.frozen? ⟨k, 2, none⟩ = false ∧ w.frozen? ⟨k, 3, none⟩ = false ∧ w.frozen? ⟨k, 4, none⟩ = false :=
  ⟨frozen_of_row w k 0 _ _ h, frozen_of_row w k 1 _ _ h, frozen_of_row w k 2 _ _ h, frozen_of_row w k 3 _ _ h, frozen_of_row w k 4 _ _ h⟩
set_option maxHeartbeats 8000000 in
theorem glue_any (ev iv ov : Value) (g : Gr) (m : Nat) (pv : Value) (ps : List (Int × Int)) (w : World) (he : RdE edgeE w ev g.es) (hi : IntsV w iv g.i) (ho : IntsV w ov g.o) (hp : RdR pairE w pv ps) (hm : g.n = m) (hm1 : m ≤ 400) (h60 : g.es.length ≤ 200) (h12 : g.i.length ≤ 40) (h12' : g.o.length ≤ 40)
    (hle : ∀ e ∈ g.es, e.i.length ≤ 2 ∧ e.o.length ≤ 2) (hw : ∀ x ∈ wiresL g, 0 ≤ x ∧ x < (m : Int)) (hps : ∀ p ∈ ps, (0 ≤ p.1 ∧ p.1 < (m : Int)) ∧ 0 ≤ p.2 ∧ p.2 < (m : Int)) (hpl : ps.length ≤ 100) :
    Calls Tryz.prog 72 #[grV g.n ev iv ov, pv] w fun e w' => ∃ u0 xs u1 u2 t, e = .returned (.agg #[.int .i64 (glueG (classOf m ps) g).n, u0, u1, u2, t]) ∧ eds xs = (glueG (classOf m ps) g).es ∧
      Sep w' [OE u0 xs, OI u1 (glueG (classOf m ps) g).i, OI u2 (glueG (classOf m ps) g).o, KeepA w] := by
  obtain ⟨i0, hbi, hz0, hz1, hz2⟩ := info_parts info_bool
  have HBI := Lib.hid hbi; have HZ0 := Lib.hid hz0; have HZ1 := Lib.hid hz1; have HZ2 := Lib.hid hz2
  clear hbi hz0 hz1 hz2
  have HU := Lib.hid fun W => upTo_any m W (by omega)
  have HZ := Lib.hid fun W => zeros_full m W (by omega)
  have HP := Lib.hid fun W (h : w.grownBy W none) => hp.carry h
  have HPS := Lib.hid hps
  have HLS := Lib.hid fun (lb : Array Value) (A : List Int → Asrt) (hV : VisFnR (fun y => 0 ≤ y ∧ y < (m : Int)) 96 lb A) W l (hs : Sep W (A [] :: KeepA w :: l)) =>
    lists_anyR 96 lb (enters_of Tryz.func96 (by kernel_rfl) rfl) A _ hV g.n ev iv ov g w W l he hi ho (by omega) (by omega) (by omega) (fun e he => by have := hle e he; omega) hw hs
  have HMV := Lib.hid fun C tv W (h : w.grownBy W none) (ht : IntsV W tv (numL C (wiresL g) m)) => moved_any ev iv ov tv g (cntR C (wiresL g) m : Int) (numL C (wiresL g) m) W (he.carry h) (hi.carry h) (ho.carry h) ht (by omega) (by omega) (by omega) (fun e h => by have := hle e h; omega) (by rw [numL_len]; exact hw)
  have HGL := Lib.hid fun C => show (glueG C g).n = (cntR C (wiresL g) m : Int) ∧ (glueG C g).es = g.es.map (mapE (numL C (wiresL g) m)) ∧ (glueG C g).i = g.i.map (ofL (numL C (wiresL g) m)) ∧ (glueG C g).o = g.o.map (ofL (numL C (wiresL g) m)) from by
    unfold glueG mapG
    rw [hm, Int.toNat_natCast]
    exact ⟨rfl, rfl, rfl, rfl⟩
  obtain ⟨C, hC⟩ : ∃ C, C = classOf m ps := ⟨_, rfl⟩
  rw [← hC]
  have HCC := Lib.hid hC
  obtain ⟨gl1, gl2, gl3, gl4⟩ := HGL.out C
  rw [gl1, gl2, gl3, gl4]
  unfold grV at *
  obtain ⟨ea, ec, rfl⟩ := he.shape
  obtain ⟨ia, ic, rfl⟩ := hi.shape
  obtain ⟨oa, oc, rfl⟩ := ho.shape
  obtain ⟨pa, pc, rfl⟩ := hp.shape
  have HMM := Lib.hid hm1
  rw [hm] at *
  clear he hi ho hp h60 h12 h12' hle hps hC gl1 gl2 gl3 gl4 HGL hm
  have HW := Lib.hid hw
  clear hw
  generalize wiresL g = ws at *
  generalize g.es.length = m0 at *
  generalize g.i.length = n1 at *
  generalize g.o.length = n2 at *
  generalize hpn : ps.length = n at *
  have HPN := Lib.hid hpn
  clear hpn
  have hs0 := ((Sep.start w).box #[.int .i64 m, .slice ea m0 ec, .slice ia n1 ic, .slice oa n2 oc] 30).box #[.int .i64 0, .slice none 0 0, .slice none 0 0, .slice none 0 0, .slice none 0 0] 104
  have e1 : (w.alloc (.cells #[.int .i64 m, .slice ea m0 ec, .slice ia n1 ic, .slice oa n2 oc] 30)).heap.size = w.heap.size + 1 := by simp
  rw [e1] at hs0
  obtain ⟨x0, x1, x2, x3, _⟩ := bq4 hs0.tl.hd
  have HS0 := Lib.hid hs0
  clear hs0 e1
  go_enter Tryz.func72, Tryz.ntmps72
  go_wp2_with (
    go_at_call 76
    with_reducible refine (HU.out _).mono ?_
    rintro e w2 ⟨tb, tc, rfl, hsg⟩
    have hs2 := (HS0.out.graft1 hsg OI_own).box #[.slice (some ⟨tb, 0, none⟩) m tc] 130
    have HS2 := Lib.hid hs2
    clear hsg hs2)
  obtain ⟨cb, hcb⟩ : ∃ cb, cb = w2.heap.size := ⟨_, rfl⟩
  rw [← hcb] at HS2
  simp only [← hcb]
  clear hcb x0 x1 x2 x3
  go_loopw [7, 18] (fun _ i wr => ∃ (k : Nat) (F : List Int), k ≤ n ∧ i = .int .i64 k ∧ Rep m F (classOf m (ps.take k)) ∧ Sep wr [BxA cb #[.slice (some ⟨tb, 0, none⟩) m tc] 130, OI (.slice (some ⟨tb, 0, none⟩) m tc) F, BxA (w.heap.size + 1) #[.int .i64 0, .slice none 0 0, .slice none 0 0, .slice none 0 0, .slice none 0 0] 104, BxA w.heap.size #[.int .i64 m, .slice ea m0 ec, .slice ia n1 ic, .slice oa n2 oc] 30, KeepA w]) (fun _ i _ => n - (intOf i).toNat)
  case atStart => exact ⟨0, upL m, by omega, rfl, Rep.start m, HS2.out⟩
  case round =>
    obtain ⟨k, F, hk, rfl, hrep, hs⟩ := hrel
    have HREP := Lib.hid hrep; have HSX := Lib.hid hs
    clear hrep hs HS2
    by_cases hlt : k < n
    · have hkp : k < ps.length := by rw [HPN.out]; exact hlt
      obtain ⟨b, o, rfl, q0, q1⟩ := pair_cells (HP.out _ HSX.out.tl.tl.tl.tl.hd) hkp
      have hpr := HPS.out _ (getD_mem (d := ((0, 0) : Int × Int)) hkp)
      have htk : ps.take (k + 1) = ps.take k ++ [ps.getD k (0, 0)] := by rw [List.take_succ_eq_append_getElem hkp, List.getD_eq_getElem?_getD, List.getElem?_eq_getElem hkp]; rfl
      have HTK := Lib.hid (show classOf m (ps.take (k + 1)) = joinC (classOf m (ps.take k)) (ps.getD k (0, 0)).1 (ps.getD k (0, 0)).2 by rw [htk, classOf_snoc])
      generalize ps.getD k (0, 0) = pp at *
      obtain ⟨p1, p2⟩ := pp
      simp only at q0 q1 hpr HTK
      obtain ⟨a, rfl⟩ := Int.eq_ofNat_of_zero_le hpr.1.1
      obtain ⟨c, rfl⟩ := Int.eq_ofNat_of_zero_le hpr.2.1
      have hj := HREP.out.join hpr.1.1 hpr.1.2 hpr.2.1 hpr.2.2
      rw [← HTK.out] at hj
      have HJR := Lib.hid hj
      have hsb := (HSX.out.box #[.int .i64 a, .int .i64 c] 100)
      have y0 := (bx1' hsb.tl.hd).1
      have HJ := Lib.hid (join_any tb m tc F (classOf m (ps.take k)) a c _ _ hsb.s3 HREP.out (by omega) (by omega) (by have := HMM.out; omega))
      clear hkp htk hpr hj hsb
      go_wp2_with (
        go_at_call 95
        with_reducible refine HJ.out.mono ?_
        rintro e w4 ⟨rfl, h4⟩
        have HS4 := Lib.hid (show Sep w4 [BxA cb _ _, OI _ _, BxA _ _ _, BxA _ _ _, KeepA w] from h4.s2.tl.s2)
        clear h4)
      go_roundw
      case rel => exact ⟨k + 1, _, by omega, by go_num, HJR.out, HS4.out⟩
      case measure => simp [intOf]; omega
    · have hkn : k = n := by omega
      subst hkn
      have hrep := HREP.out
      rw [List.take_of_length_le (by rw [HPN.out]; exact Nat.le_refl _), ← HCC.out] at hrep
      have HR := Lib.hid hrep
      obtain ⟨y0, y1, y2, y3, _⟩ := bq4 HSX.out.tl.tl.tl.hd
      clear hlt hrep HREP
      go_upto_region 9 with (first
        | (at_make
           refine wpList_make_full _ rfl _ _ 109 rfl wr.heap.size 4 i0 _ 1 Tryz.underlying109 HBI.out HZ0.out HZ1.out _ _ _ _ m rfl rfl rfl rfl (by rw [HZ2.out]; have := HMM.out; omega) (by unfold maxLen; have := HMM.out; omega) (Nat.le_refl _) ?_
           intro w5 hown' hgr'
           have hs5 := (HSX.out.newR hgr' (OwnR.made (E := boolE) falseCells hown')).box #[.slice (some ⟨wr.heap.size, 0, none⟩) m m] 109
           rw [← usedL_nil m C] at hs5
           obtain ⟨y0, y1, y2, y3, _⟩ := bq4 hs5.tl.tl.tl.tl.tl.hd
           have hs6 := (Sep.bag (l := UseA m w5.heap.size wr.heap.size cb tb tc F C []) (r := [BxA (w.heap.size + 1) #[.int .i64 0, .slice none 0 0, .slice none 0 0, .slice none 0 0, .slice none 0 0] 104, BxA w.heap.size #[.int .i64 m, .slice ea m0 ec, .slice ia n1 ic, .slice oa n2 oc] 30, KeepA w]) hs5).under Sep.s3 (by simp +contextual)
           have HC := Lib.hid (HLS.out _ _ (glue1_fn m w5.heap.size wr.heap.size cb tb tc F C HR.out (by have := HMM.out; omega)) _ _ hs6)
           clear hs5 hs6 hown' hgr')
        | (go_at_call 79
           with_reducible refine HC.out.mono ?_
           rintro e w6 ⟨rfl, hs6⟩
           have hs7 := Sep.unbag hs6
           have hs8 : Sep w6 (([BxA (w.heap.size + 1) #[.int .i64 0, .slice none 0 0, .slice none 0 0, .slice none 0 0, .slice none 0 0] 104, BxA w.heap.size #[.int .i64 m, .slice ea m0 ec, .slice ia n1 ic, .slice oa n2 oc] 30] : List Asrt) ++ (UseA m w5.heap.size wr.heap.size cb tb tc F C ws ++ [KeepA w])) := Sep.perm (by
             have := List.perm_append_comm (l₁ := UseA m w5.heap.size wr.heap.size cb tb tc F C ws ++ [KeepA w]) (l₂ := [BxA (w.heap.size + 1) #[.int .i64 0, .slice none 0 0, .slice none 0 0, .slice none 0 0, .slice none 0 0] 104, BxA w.heap.size #[.int .i64 m, .slice ea m0 ec, .slice ia n1 ic, .slice oa n2 oc] 30])
             simpa using this) hs7
           obtain ⟨y0, y1, y2, y3, _⟩ := bq4 hs8.tl.hd
           have HS8 := Lib.hid (show Sep w6 (BxA (w.heap.size + 1) #[.int .i64 0, .slice none 0 0, .slice none 0 0, .slice none 0 0, .slice none 0 0] 104 :: BxA w.heap.size #[.int .i64 m, .slice ea m0 ec, .slice ia n1 ic, .slice oa n2 oc] 30 :: UseA m w5.heap.size wr.heap.size cb tb tc F C ws ++ [KeepA w]) from hs8)
           clear hs6 hs7 hs8))
      obtain ⟨us, hus⟩ : ∃ us, us = wr.heap.size := ⟨_, rfl⟩
      obtain ⟨ub, hub⟩ : ∃ ub, ub = w5.heap.size := ⟨_, rfl⟩
      rw [← hus, ← hub] at HS8
      simp only [← hus, ← hub]
      clear hus hub HSX HC
      go_wp2_with (
        go_at_call 98
        with_reducible refine (HZ.out _).mono ?_
        rintro e w7 ⟨tz, zc, rfl, hsg⟩
        have HS9 := Lib.hid (HS8.out.graft1 hsg OI_own)
        clear hsg)
      clear y0 y1 y2 y3
      go_loopw [10, 11, 12, 40, 52, 61] (fun cv _ _ i _ _ wr => ∃ k : Nat, k ≤ m ∧ i = .int .i64 k ∧ cv = .int .i64 (cntR C ws k) ∧ Sep wr (OI (.slice (some ⟨tz, 0, none⟩) m zc) ((numL C ws m).take k ++ List.replicate (m - k) 0) :: BxA (w.heap.size + 1) #[.int .i64 0, .slice none 0 0, .slice none 0 0, .slice none 0 0, .slice none 0 0] 104 :: BxA w.heap.size #[.int .i64 m, .slice ea m0 ec, .slice ia n1 ic, .slice oa n2 oc] 30 :: UseA m ub us cb tb tc F C ws ++ [KeepA w])) (fun _ _ _ i _ _ _ => m - (intOf i).toNat)
      case atStart => exact ⟨0, by omega, rfl, by simp [cntR], by simpa using HS9.out⟩
      case round =>
        obtain ⟨k, hk, rfl, rfl, hs⟩ := hrel
        have HSX := Lib.hid hs
        have hmm := HMM.out
        clear hs HS9 HS8
        by_cases hlt : k < m
        · have hll : m = ((numL C ws m).take k ++ List.replicate (m - k) (0 : Int)).length := by rw [List.length_append, List.length_take, numL_len, List.length_replicate]; omega
          have hS : Sep wr (OI (.slice (some ⟨tz, 0, none⟩) m zc) ((numL C ws m).take k ++ List.replicate (m - k) 0) :: BxA (w.heap.size + 1) #[.int .i64 0, .slice none 0 0, .slice none 0 0, .slice none 0 0, .slice none 0 0] 104 :: BxA w.heap.size #[.int .i64 m, .slice ea m0 ec, .slice ia n1 ic, .slice oa n2 oc] 30 :: BxA ub #[.slice (some ⟨us, 0, none⟩) m m] 109 :: OR boolE (.slice (some ⟨us, 0, none⟩) m m) (usedL m C ws) :: BxA cb #[.slice (some ⟨tb, 0, none⟩) m tc] 130 :: OI (.slice (some ⟨tb, 0, none⟩) m tc) F :: [KeepA w]) := HSX.out
          have hf := hS.hd.free hll k
          obtain ⟨q, hc0⟩ := hS.hd.cellQ hll (j := k) hlt
          have hc := HR.out.c0 (k : Int) (by omega) (by omega)
          have hcc := HR.out.cc (k : Int) (by omega) (by omega)
          obtain ⟨r, hr⟩ := Int.eq_ofNat_of_zero_le hc.1
          rw [hr] at hcc hc
          have hrk : r ≤ k := by omega
          have hrm : r < m := by omega
          have HRT := Lib.hid (root_any _ F C m k wr (OwnInts.read (show OwnInts 0 wr _ F from hS.tl.tl.tl.tl.tl.tl.hd)) HR.out hlt (by omega))
          rw [hr] at HRT
          have hb0 := (bx1' hS.tl.tl.tl.hd).1
          have hb1 := (bx1' hS.tl.tl.tl.tl.tl.hd).1
          have hub := bool_cell hS.tl.tl.tl.tl.hd (usedL_len m C ws).symm hrm
          rw [usedL_at hrm] at hub
          have hnx : numX C ws (k : Int) = if usedB C ws (r : Int) = true then (cntR C ws r : Int) else -1 := by unfold numX; rw [hr, Int.toNat_natCast]
          have hcs := cntR_succ C ws k
          have hcl := cntR_le C ws k
          rw [hr] at hcs
          have hset := fun v (hv : numX C ws (k : Int) = v) => (show Sep _ _ from by have := hS.setI hll k v; rw [numL_set hlt hv] at this; exact this)
          have HSET := Lib.hid hset
          cases hu : usedB C ws (r : Int)
          · rw [hu] at hub
            rw [hu, if_neg (by simp)] at hnx
            have HF := Lib.hid (HSET.out _ hnx)
            have HCN := Lib.hid (show cntR C ws (k + 1) = cntR C ws k from by
              rw [hcs]
              by_cases hrk' : r = k
              · subst hrk'; rw [hu]; simp
              · rw [decide_eq_false (by omega)]; simp)
            clear hll hS hc hcc hnx hcs hset HSET hr hcl
            go_wp2_with (go_at_call 97; with_reducible refine HRT.out.mono ?_; rintro e w8 ⟨rfl, rfl⟩)
            go_roundw
            case rel => exact ⟨k + 1, by omega, by go_num, by rw [HCN.out], HF.out⟩
            case measure => simp [intOf]; omega
          · rw [hu] at hub
            rw [hu, if_pos rfl] at hnx
            by_cases hrk' : r = k
            · subst hrk'
              have HF := Lib.hid (HSET.out _ hnx)
              have HCN := Lib.hid (show cntR C ws (r + 1) = cntR C ws r + 1 from by rw [hcs, hu, decide_eq_true rfl]; rfl)
              have hwc : wrap64 ((cntR C ws r : Int) + 1) = ((cntR C ws (r + 1) : Nat) : Int) := by rw [HCN.out, wrap64_id (by omega) (by omega)]; omega
              have hnl : ¬ (r : Int) < (r : Int) := by omega
              clear hll hS hc hcc hnx hcs hset HSET hr hcl
              go_wp2_with (go_at_call 97; with_reducible refine HRT.out.mono ?_; rintro e w8 ⟨rfl, rfl⟩)
              go_roundw
              case rel => exact ⟨r + 1, by omega, by go_num, by rw [hwc], HF.out⟩
              case measure => simp [intOf]; omega
            · have hrl : r < k := by omega
              have hcr := hS.hd.cell hll (j := r) (by rw [← hll]; exact hrm)
              have hgr := numL_get (C := C) (ws := ws) hrl hlt
              rw [List.getD_eq_getElem?_getD, List.getElem?_eq_getElem (by rw [← hll]; exact hrm)] at hgr
              have hxr : numX C ws (r : Int) = (cntR C ws r : Int) := by unfold numX; rw [hcc, Int.toNat_natCast, hu, if_pos rfl]
              rw [show ((numL C ws m).take k ++ List.replicate (m - k) (0 : Int))[r]'(by rw [← hll]; exact hrm) = (cntR C ws r : Int) from hgr.trans hxr] at hcr
              have HF := Lib.hid (HSET.out _ hnx)
              have HCN := Lib.hid (show cntR C ws (k + 1) = cntR C ws k from by rw [hcs, decide_eq_false (by omega)]; simp)
              have hrl' : (r : Int) < (k : Int) := by omega
              clear hll hS hc hcc hnx hcs hset HSET hr hgr hxr hcl
              go_wp2_with (go_at_call 97; with_reducible refine HRT.out.mono ?_; rintro e w8 ⟨rfl, rfl⟩)
              go_roundw
              case rel => exact ⟨k + 1, by omega, by go_num, by rw [HCN.out], HF.out⟩
              case measure => simp [intOf]; omega
        · have hkm : k = m := by omega
          subst hkm
          have hs := HSX.out
          rw [Nat.sub_self, List.replicate_zero, List.append_nil, List.take_of_length_le (by rw [numL_len]; exact Nat.le_refl _)] at hs
          obtain ⟨y0, y1, y2, y3, _⟩ := bq4 hs.tl.tl.hd
          have HMC := Lib.hid (HMV.out C _ wr (show w.grownBy wr none from hs.tl.tl.tl.tl.tl.tl.tl.hd) (OwnInts.read (show OwnInts 0 wr _ _ from hs.hd)))
          have HSY := Lib.hid hs
          clear hlt hs
          go_wp2_with (
            go_at_call 93
            with_reducible refine HMC.out.mono ?_
            rintro e w9 ⟨u0, xs, u1, u2, rfl, hxs, hsg⟩
            have HXS := Lib.hid hxs
            obtain ⟨s0, r0, rfl⟩ := OE.shape hsg.hd
            obtain ⟨s1, r1, rfl⟩ := own_shape hsg.tl.hd
            obtain ⟨s2, r2, rfl⟩ := own_shape hsg.tl.tl.hd
            simp only [List.length_map] at hsg
            have hs1 := (HSY.out.graft3 hsg OE_own OI_own OI_own).s5
            obtain ⟨v0, v1, v2, v3, v4⟩ := bq5 hs1.hd
            obtain ⟨f0, f1, f2, f3, f4⟩ := bf5 hs1.hd
            have hs2 := ((((hs1.setB 0 (.int .i64 (cntR C ws k))).setB 1 (.slice s0 xs.length r0)).setB 2 (.slice s1 g.i.length r1)).setB 3 (.slice s2 g.o.length r2)).setB 4 (.slice (some ⟨tz, 0, none⟩) k zc)
            obtain ⟨k0, k1, k2, k3, k4⟩ := bq5 hs2.hd
            have HSF := Lib.hid (hs2.tl.under (fun h => h.under (fun h => h.under (fun h => h.tl.tl.tl.tl.tl.tl) (by simp +contextual [UseA])) (by simp +contextual [UseA])) (by simp +contextual [UseA]))
            clear hsg hs1 hs2 hxs)
          refine bodyPost_ret_by (v := .agg #[.int .i64 (cntR C ws k), .slice s0 xs.length r0, .slice s1 g.i.length r1, .slice s2 g.o.length r2, .slice (some ⟨tz, 0, none⟩) k zc]) ?_ rfl ⟨_, xs, _, _, _, rfl, HXS.out, HSF.out⟩
          simp [results, go_sem, *]
end Go.Proofs.YtjagjhchnpmngaaGreatDoor

/-
  Lists of lists: all joined; is a list a permutation; the program's check that each number occurs once. Conditions: lengths are small.
-/
namespace Go.Proofs.YtjagjhchnpmngaaGreatDoor
open Go.RowKit
set_option linter.unusedVariables false
set_option maxRecDepth 100000

/-- A list with the slice that holds it. -/
structure RX where
  v : Value
  zs : List Int
def rowE : Lay RX := ⟨28, 1, fun x => [x.v], fun _ => rfl, by decide⟩
def rx0 : RX := ⟨nilS, []⟩
theorem info_row : (Tryz.prog.info? rowE.ty).map (fun i => (i.zero, i.size, i.bytes)) = some (some (.slice none 0 0), rowE.sz, 24) := by kernel_rfl
/-- A list of lists that can be read. -/
def RdL (w : World) (v : Value) (xs : List RX) : Prop := RdR rowE w v xs ∧ ∀ x ∈ xs, IntsV w x.v x.zs
theorem RdL.carry {w w' : World} {v : Value} {xs : List RX} (h : RdL w v xs) (hg : w.grownBy w' none) : RdL w' v xs := ⟨h.1.carry hg, fun x hx => (h.2 x hx).carry hg⟩
def joinL (xs : List RX) : List Int := xs.flatMap RX.zs
theorem joinL_take {xs : List RX} {k : Nat} (hk : k < xs.length) : joinL (xs.take (k + 1)) = joinL (xs.take k) ++ (xs.getD k rx0).zs := by
  unfold joinL
  rw [List.take_succ_eq_append_getElem hk, List.flatMap_append, List.getD_eq_getElem?_getD, List.getElem?_eq_getElem hk]
  simp
theorem joinL_le (xs : List RX) (k : Nat) : (joinL (xs.take k)).length ≤ (joinL xs).length := by
  have h : joinL xs = joinL (xs.take k) ++ joinL (xs.drop k) := by unfold joinL; rw [← List.flatMap_append, List.take_append_drop]
  rw [h, List.length_append]
  omega
theorem RdL.at {w : World} {a : Option Addr} {n c : Nat} {xs : List RX} (h : RdL w (.slice a n c) xs) {i : Nat} (hi : i < xs.length) : ∃ b o, a = some ⟨b, o, none⟩ ∧ w.cell? ⟨b, o + i, none⟩ = some (xs.getD i rx0).v ∧ IntsV w (xs.getD i rx0).v (xs.getD i rx0).zs := by
  obtain ⟨b, o, ha, _, hc⟩ := h.1.at hi
  have e : xs.getD i rx0 = xs[i] := by rw [List.getD_eq_getElem?_getD, List.getElem?_eq_getElem hi]; rfl
  rw [e]
  refine ⟨b, o, ha, ?_, h.2 _ (List.getElem_mem _)⟩
  have := hc 0 (by decide)
  simpa [rowE] using this
set_option maxHeartbeats 1000000 in
theorem joined_any (v : Value) (xs : List RX) (w : World) (hv : RdL w v xs) (hl : xs.length ≤ 1000000) (hj : (joinL xs).length ≤ 1000000) :
    Calls Tryz.prog 73 #[v] w fun e w' => ∃ u, e = .returned u ∧ Sep w' [OI u (joinL xs), KeepA w] := by
  have HV := Lib.hid hv; have HJ := Lib.hid hj
  obtain ⟨a, c, rfl⟩ := hv.1.shape
  clear hv hj
  generalize hn : xs.length = n at *
  have HN := Lib.hid hn
  clear hn
  have HS0 := Lib.hid ((Sep.start w).emptyI)
  go_enter Tryz.func73, Tryz.ntmps73
  go_wp2_with fail
  go_loopw [3, 5, 9] (fun ov _ i wr => ∃ k : Nat, k ≤ n ∧ i = .int .i64 k ∧ Sep wr [OI ov (joinL (xs.take k)), KeepA w]) (fun _ _ i _ => n - (intOf i).toNat)
  case atStart => exact ⟨0, by omega, rfl, by simpa [joinL] using HS0.out⟩
  case round =>
    obtain ⟨k, hk, rfl, hs⟩ := hrel
    have HSX := Lib.hid hs
    clear hs HS0
    by_cases hlt : k < n
    · have hkx : k < xs.length := by rw [HN.out]; exact hlt
      obtain ⟨b, o, rfl, hc, hi⟩ := (HV.out.carry HSX.out.tl.hd).at hkx
      have HT := Lib.hid (joinL_take hkx)
      have hle := joinL_le xs (k + 1)
      have hle2 := HJ.out
      rw [HT.out, List.length_append] at hle
      have HL := Lib.hid (show (joinL (xs.take k)).length + (xs.getD k rx0).zs.length ≤ 1000000000 by omega)
      generalize xs.getD k rx0 = y at *
      obtain ⟨yv, yz⟩ := y
      simp only at hc hi HL
      have HI := Lib.hid hi
      obtain ⟨a1, c1, rfl⟩ := hi.shape
      obtain ⟨a2, c2, rfl⟩ := own_shape (show OwnInts 0 wr u3 _ from HSX.out.hd)
      clear hkx hle hle2 hi
      go_wp2_with (
        refine app_intsS rfl (.tmp 13) (.tmp 14) rfl rfl rfl HSX.out HI.out HL.out ?_
        intro v' w' h'
        have HS2 := Lib.hid h'
        clear h')
      go_roundw
      case rel => exact ⟨k + 1, by omega, by go_num, by rw [HT.out]; exact HS2.out⟩
      case measure => simp [intOf]; omega
    · have hkn : k = n := by omega
      subst hkn
      have hs := HSX.out
      rw [List.take_of_length_le (by rw [HN.out]; exact Nat.le_refl _)] at hs
      have HF := Lib.hid hs
      clear hs hlt
      go_wp2
      go_ret
      exact ⟨_, rfl, HF.out⟩
end Go.Proofs.YtjagjhchnpmngaaGreatDoor

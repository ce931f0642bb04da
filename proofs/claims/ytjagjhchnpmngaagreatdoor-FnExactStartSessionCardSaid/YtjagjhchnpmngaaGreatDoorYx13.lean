/-
  The walk of FnExactStartSession. Conditions: the table of small primes holds what its text lays; the slices' lengths are those of slices.
-/
import Derived.Test.YtjagjhchnpmngaaGreatDoorYx12
import Derived.Test.YtjagjhchnpmngaaGreatDoorYx00
import Derived.Test.YtjagjhchnpmngaaGreatDoorBa02
namespace Go.Proofs.YtjagjhchnpmngaaGreatDoor
open Go.RowKit
set_option linter.unusedVariables false
set_option maxRecDepth 100000

theorem rdo {w : World} {v : Value} {xs : List Nd} {L : List Asrt} (h : Sep w (OR nodeE v xs :: L)) : RdR nodeE w v xs := OwnR.read (show OwnR nodeE 0 w v xs from h.hd)
set_option maxHeartbeats 16000000 in
theorem fnStart_any (p k l : Int) (x y : List Nd) (ua ub : Value) (w : World) (ht : Tab w) (h : RdR argNodeE w ua x) (hlx : x.length ≤ 9223372036854775807) (hokx : ∀ e ∈ x, okNd e) (h' : RdR argNodeE w ub y) (hly : y.length ≤ 9223372036854775807) (hoky : ∀ e ∈ y, okNd e) :
    Calls Tryz.prog 3 #[.int .i64 p, .int .i64 k, .int .i64 l, .agg #[ua], .agg #[ub]] w fun e w' => e = .returned (.bool true) ∧ w.grownBy w' none := by
  have HT := Lib.hid ht
  obtain ⟨ga, ca, rfl⟩ := h.shape
  obtain ⟨gb, cb, rfl⟩ := h'.shape
  have HZ1 := Lib.hid fun W (hw : w.grownBy W none) => szTerm_any ga x.length ca x 1048576 W (h.carry hw) rfl (by decide) (by decide) hlx hokx
  have HZP := Lib.hid fun (left : Int) (h0 : 0 ≤ left) (h1 : left ≤ 1048576) W (hw : w.grownBy W none) => szTerm_any gb y.length cb y left W (h'.carry hw) rfl h0 h1 hly hoky
  have HTX := Lib.hid fun (hl : x.length ≤ 2000000) W (hw : w.grownBy W none) => toTerm_any (.slice ga x.length ca) x W (h.carry hw) hl
  have HTY := Lib.hid fun (hl : y.length ≤ 2000000) W (hw : w.grownBy W none) => toTerm_any (.slice gb y.length cb) y W (h'.carry hw) hl
  have HEX := Lib.hid fun (hl : x.length ≤ 1000000000) W u v (a : RdR nodeE W u x) (b : RdR nodeE W v x) => eqTerm_same u v x W a b hl
  have HEY := Lib.hid fun (hl : y.length ≤ 1000000000) W u v (a : RdR nodeE W u y) (b : RdR nodeE W v y) => eqTerm_same u v y W a b hl
  have HMX := Lib.hid fun (hl : x.length ≤ 2000000) W a c l (h : Sep W (OR nodeE (.slice a x.length c) x :: l)) => markTerm_any a x.length c x 1 W l h rfl hl (by decide) (by decide)
  have HMY := Lib.hid fun (hl : y.length ≤ 2000000) (k : Int) (h0 : 0 ≤ k) (h1 : k ≤ 10000000) W a c l (h : Sep W (OR nodeE (.slice a y.length c) y :: l)) => markTerm_any a y.length c y k W l h rfl hl h0 h1
  have HSP := Lib.hid fun (hl1 : x.length ≤ 2000000) (hl2 : y.length ≤ 2000000) W a b c d (hx : RdR nodeE W (.slice a x.length c) x) (hxc : x.length ≤ c) (hy : RdR nodeE W (.slice b y.length d) y) (hyc : y.length ≤ d) => sStart_any p k l x y a b c d W hx hxc hl1 hy hyc hl2
  have HIM := Lib.hid fun (hl1 : x.length ≤ 2000000) (hl2 : y.length ≤ 2000000) W (hw : w.grownBy W none) a b c d (hx : RdR nodeE W (.slice a x.length c) x) (hy : RdR nodeE W (.slice b y.length d) y) => iStart_any p k l x y a b c d W (HT.out.grown hw) hx hl1 hy hl2
  unfold GivesN at HSP HIM
  clear h hlx hokx h' hly hoky ht
  obtain ⟨zx, hzx⟩ : ∃ z, x.length + totN x = z := ⟨_, rfl⟩
  obtain ⟨zy, hzy⟩ : ∃ z, y.length + totN y = z := ⟨_, rfl⟩
  rw [hzx] at HZ1
  rw [hzy] at HZP
  have hnx : x.length ≤ zx := by omega
  have hny : y.length ≤ zy := by omega
  clear hzx hzy
  generalize x.length = nx at *
  generalize y.length = ny at *
  have HS0 := Lib.hid (((Sep.start w).boxAt w.heap.size rfl #[.slice ga nx ca] 24).boxAt (w.heap.size + 1) (by simp) #[.slice gb ny cb] 24)
  have HK0 := Lib.hid (show w.grownBy _ none from HS0.out.tl.tl.hd)
  have x0_ := bs1 HS0.out.tl.hd
  have y0_ := bs1 HS0.out.hd
  by_cases hsz : lft 1048576 zx < 0
  · generalize lft 1048576 zx = rr at *
    clear HTX HTY HZP HT HSP HIM HMX HMY HEX HEY
    go_enter Tryz.func3, Tryz.ntmps3
    go_wp2_with (
      (go_at_call 4
       with_reducible refine (HZ1.out _ HK0.out).mono ?_
       rintro e w2 ⟨rfl, hg⟩
       have hs2 := HS0.out.grown hg
       clear x0_ y0_
       have y0_ := bs1 (hs2.hd)
       have x0_ := bs1 (hs2.tl.hd)
       have HS2 := Lib.hid hs2
       have HK2 := Lib.hid (show w.grownBy w2 none from hs2.tl.tl.hd)
       clear hg hs2))
    go_ret
    exact ⟨rfl, HK2.out⟩
  · have htg : zx ≤ 1048576 := by unfold lft at hsz; by_cases h : (1048576 : Int) - zx < 0 <;> simp [h] at hsz <;> omega
    obtain ⟨r1, hr1⟩ : ∃ r, lft 1048576 zx = r := ⟨_, rfl⟩
    rw [hr1] at HZ1 hsz
    have hr0 : 0 ≤ r1 := by omega
    have hr2 : r1 ≤ 1048576 := by rw [← hr1]; unfold lft; split <;> omega
    have HZ2 := Lib.hid (HZP.out r1 hr0 hr2)
    by_cases hsz2 : lft r1 zy < 0
    · generalize lft r1 zy = rr at *
      clear HTX HTY HZP HT HSP HIM HMX HMY HEX HEY hr1 hr0 hr2 htg hnx hny
      go_enter Tryz.func3, Tryz.ntmps3
      go_wp2_with (first
        | (go_at_call 4
           with_reducible refine (HZ1.out _ HK0.out).mono ?_
           rintro e w2 ⟨rfl, hg⟩
           have hs2 := HS0.out.grown hg
           clear x0_ y0_
           have y0_ := bs1 (hs2.hd)
           have x0_ := bs1 (hs2.tl.hd)
           have HS2 := Lib.hid hs2
           have HK2 := Lib.hid (show w.grownBy w2 none from hs2.tl.tl.hd)
           clear hg hs2)
        | (go_at_call 4
           with_reducible refine (HZ2.out _ HK2.out).mono ?_
           rintro e w3 ⟨rfl, hg⟩
           have hs3 := HS2.out.grown hg
           clear x0_
           clear y0_
           have HS3 := Lib.hid hs3
           have HK3 := Lib.hid (show w.grownBy w3 none from hs3.tl.tl.hd)
           clear hg hs3))
      go_ret
      exact ⟨rfl, HK3.out⟩
    · have htp : zy ≤ 1048576 := by unfold lft at hsz2; by_cases h : r1 - zy < 0 <;> simp [h] at hsz2 <;> omega
      have hx1 : nx ≤ 1048576 := by omega
      have hy1 : ny ≤ 1048576 := by omega
      have HTX2 := Lib.hid (HTX.out (by omega))
      have HTY2 := Lib.hid (HTY.out (by omega))
      have HEX2 := Lib.hid (HEX.out (by omega))
      have HEY2 := Lib.hid (HEY.out (by omega))
      have HMX2 := Lib.hid (HMX.out (by omega))
      have HMY2 := Lib.hid (HMY.out (by omega))
      have HSP2 := Lib.hid (HSP.out (by omega) (by omega))
      have HIM2 := Lib.hid (HIM.out (by omega) (by omega))
      clear HTX HTY HEX HEY HMX HMY HSP HIM
      have hsr := snRes_small p k l x y
      obtain ⟨R, hR⟩ : ∃ R, snRes p k l x y = R := ⟨_, rfl⟩
      obtain ⟨b, hb⟩ : ∃ b, snOk p k l x y = b := ⟨_, rfl⟩
      rw [hR] at HSP2 HIM2 hsr
      rw [hb] at HSP2 HIM2
      clear hR hb
      have HEQ := Lib.hid fun W u0 u1 u2 v0 v1 v2 u3 u4 u5 v3 v4 v5 (h : RdN W R u0 u1 u2 v0 v1 v2) (h' : RdN W R u3 u4 u5 v3 v4 v5) => eqSn_any R u0 u1 u2 v0 v1 v2 u3 u4 u5 v3 v4 v5 W h h' hsr
      have HMM := Lib.hid fun W u0 u1 u2 v0 v1 v2 xs ys l (h : Sep W (ON u0 xs u1 R.n.i u2 R.n.o v0 ys v1 R.g.i v2 R.g.o :: l)) (e : eds xs = R.n.es ∧ eds ys = R.g.es) => markSn_any R u0 u1 u2 v0 v1 v2 xs ys W l h e hsr
      have HHM := Lib.hid fun W u0 u1 u2 v0 v1 v2 (h : RdN W (mkSn R) u0 u1 u2 v0 v1 v2) => heldSn_any R u0 u1 u2 v0 v1 v2 W h hsr
      unfold snV at HEQ HMM HHM
      obtain ⟨m, hm⟩ : ∃ m : Int, m = 1 + (wX R.n : Int) + (wX R.g : Int) := ⟨_, rfl⟩
      rw [← hm] at HMM HHM
      have hm0 : ¬ m < 0 := by omega
      have hmm : (m != m) = false := by simp
      have hnb : (b != b) = false := by simp
      generalize lft r1 zy = r2 at *
      clear htg htp hm hr1 hr0 hr2 HZP hsr HT
      have HNX := Lib.hid (And.intro hx1 hy1)
      clear hnx hny hx1 hy1
      go_enter Tryz.func3, Tryz.ntmps3
      go_upto_region 8 with (first
        | (go_at_call 4
           with_reducible refine (HZ1.out _ HK0.out).mono ?_
           rintro e w2 ⟨rfl, hg⟩
           have hs2 := HS0.out.grown hg
           clear x0_ y0_
           have y0_ := bs1 (hs2.hd)
           have x0_ := bs1 (hs2.tl.hd)
           have HS2 := Lib.hid hs2
           have HK2 := Lib.hid (show w.grownBy w2 none from hs2.tl.tl.hd)
           clear hg hs2)
        | (go_at_call 4
           with_reducible refine (HZ2.out _ HK2.out).mono ?_
           rintro e w3 ⟨rfl, hg⟩
           have hs3 := HS2.out.grown hg
           clear x0_
           clear y0_
           have HS3 := Lib.hid hs3
           have HK3 := Lib.hid (show w.grownBy w3 none from hs3.tl.tl.hd)
           clear hg hs3))
      have HBM := Lib.hid fun (W1 : World) (L : List Asrt) (h : Sep W1 L) (hG : BxA w.heap.size #[.slice ga nx ca] 24 ∈ L) (hP : BxA (w.heap.size + 1) #[.slice gb ny cb] 24 ∈ L) => show W1.cell? ⟨w.heap.size, 0, none⟩ = some (.slice ga nx ca) ∧ W1.cell? ⟨w.heap.size + 1, 0, none⟩ = some (.slice gb ny cb) from
        ⟨bs1 (show W1.heap[w.heap.size]? = some (.cells #[.slice ga nx ca] 24 (0, 0)) from Sep.all h _ hG), bs1 (show W1.heap[w.heap.size + 1]? = some (.cells #[.slice gb ny cb] 24 (0, 0)) from Sep.all h _ hP)⟩
      have HSA := Lib.hid HS3.out.dr
      have HKA := Lib.hid (show w.grownBy _ none from HSA.out.tl.tl.hd)
      go_cut [12, 13] from 33 to 43 (fun v6 v7 wx => ∃ (nb : Nat) (a0 b0 c0 d0 e0 f0 : Option Addr) (s0 t0 u0 v0 q0 r0 : Nat) (xs0 ys0 : List XE), v6 = .pointer (some ⟨nb, 0, none⟩) ∧ v7 = .bool b ∧ (eds xs0 = R.n.es ∧ eds ys0 = R.g.es) ∧ Sep wx [BxA nb #[.int .i64 R.p, .int .i64 R.k, .int .i64 R.l, .slice none 0 0, .int .i64 R.n.n, .slice a0 R.n.es.length s0, .slice b0 R.n.i.length t0, .slice c0 R.n.o.length u0, .slice none 0 0, .int .i64 R.g.n, .slice d0 R.g.es.length v0, .slice e0 R.g.i.length q0, .slice f0 R.g.o.length r0] 32, ON (.slice a0 R.n.es.length s0) xs0 (.slice b0 R.n.i.length t0) R.n.i (.slice c0 R.n.o.length u0) R.n.o (.slice d0 R.g.es.length v0) ys0 (.slice e0 R.g.i.length q0) R.g.i (.slice f0 R.g.o.length r0) R.g.o, BxA (w.heap.size + 1) #[.slice gb ny cb] 24, BxA w.heap.size #[.slice ga nx ca] 24, KeepA w])
      case first =>
        have XA0 := Lib.hid (HBM.out _ _ HSA.out (by simp) (by simp))
        refine AnyL.start (fun W1 => W1.cell? ⟨w.heap.size, 0, none⟩ = some (.slice ga nx ca) ∧ W1.cell? ⟨w.heap.size + 1, 0, none⟩ = some (.slice gb ny cb)) (fun _ => True) 99 (by kernel_rfl) ?_
        refine AnyL.take (i := 0) (v := ?vx1) (by rfl) (by kernel_rfl) (by kernel_rfl) (by kernel_rfl) rfl (by exact fun _ _ _ h => h) (by rfl) ?hyx1 (by exact ⟨XA0.out, fun _ => trivial⟩) ?restx1
        case hyx1 => intro W hSW; (try dsimp only at hSW); first | (go_simp; done) | (go_simp; with_reducible rfl)
        try simp only [Act.put, List.setIfInBounds_toArray, List.set_cons_zero, List.set_cons_succ]
        refine AnyL.take (i := 1) (v := ?vx2) (by rfl) (by kernel_rfl) (by kernel_rfl) (by kernel_rfl) rfl (by exact fun _ _ _ h => h) (by rfl) ?hyx2 (by exact ⟨XA0.out, fun _ => trivial⟩) ?restx2
        case hyx2 => intro W hSW; (try dsimp only at hSW); first | (go_simp; done) | (go_simp; with_reducible rfl)
        try simp only [Act.put, List.setIfInBounds_toArray, List.set_cons_zero, List.set_cons_succ]
        refine AnyL.take (i := 2) (v := ?vx3) (by rfl) (by kernel_rfl) (by kernel_rfl) (by kernel_rfl) rfl (by exact fun _ _ _ h => h) (by rfl) ?hyx3 (by exact ⟨XA0.out, fun _ => trivial⟩) ?restx3
        case hyx3 => intro W hSW; (try dsimp only at hSW); first | (go_simp; done) | (go_simp; with_reducible rfl)
        try simp only [Act.put, List.setIfInBounds_toArray, List.set_cons_zero, List.set_cons_succ]
        refine AnyL.take (i := 3) (v := ?vx4) (by rfl) (by kernel_rfl) (by kernel_rfl) (by kernel_rfl) rfl (by exact fun _ _ _ h => h) (by rfl) ?hyx4 (by exact ⟨XA0.out, fun _ => trivial⟩) ?restx4
        case hyx4 => intro W hSW; (try dsimp only at hSW); first | (go_simp; done) | (go_simp; with_reducible rfl)
        try simp only [Act.put, List.setIfInBounds_toArray, List.set_cons_zero, List.set_cons_succ]
        refine AnyL.take (i := 5) (v := ?vx5) (by rfl) (by kernel_rfl) (by kernel_rfl) (by kernel_rfl) rfl (by exact fun _ _ _ h => h) (by rfl) ?hyx5 (by exact ⟨XA0.out, fun _ => trivial⟩) ?restx5
        case hyx5 => intro W hSW; (try dsimp only at hSW); first | (go_simp; done) | (go_simp; with_reducible rfl)
        try simp only [Act.put, List.setIfInBounds_toArray, List.set_cons_zero, List.set_cons_succ]
        refine AnyL.twoM (i := 4) (j := 11) (by kernel_rfl) (by rfl) (by rfl) (fun K hK => ?_) (fun K hK => ?_)
        · go_simp
          go_at_call 6
          with_reducible refine (HTX2.out _ HKA.out).mono ?_
          rintro e wac ⟨aA, cA, rfl, hsg⟩
          have hs := HSA.out.graft1 hsg (fun _ h => h)
          have HSac := Lib.hid hs
          have HKac := Lib.hid (show w.grownBy _ none from hs.tl.tl.tl.hd)
          clear hsg hs
          refine hK.out _ _ (by exact HBM.out _ _ HSac.out (by simp) (by simp)) (by exact fun _ => trivial) ?_
          clear hK K
          try simp only [Act.put, List.setIfInBounds_toArray, List.set_cons_zero, List.set_cons_succ]
          refine AnyL.twoM (i := 6) (j := 11) (by kernel_rfl) (by rfl) (by rfl) (fun K hK => ?_) (fun K hK => ?_)
          · go_simp
            go_at_call 6
            with_reducible refine (HTY2.out _ HKac.out).mono ?_
            rintro e wacc ⟨aB, cB, rfl, hsg⟩
            have hs := HSac.out.graft1 hsg (fun _ h => h)
            have HSacc := Lib.hid hs
            have HKacc := Lib.hid (show w.grownBy _ none from hs.tl.tl.tl.tl.hd)
            clear hsg hs
            refine hK.out _ _ (by exact HBM.out _ _ HSacc.out (by simp) (by simp)) (by exact fun _ => trivial) ?_
            clear hK K
            try simp only [Act.put, List.setIfInBounds_toArray, List.set_cons_zero, List.set_cons_succ]
            refine AnyL.twoM (i := 7) (j := 11) (by kernel_rfl) (by rfl) (by rfl) (fun K hK => ?_) (fun K hK => ?_)
            · go_simp
              have HCC := Lib.hid (HSP2.out _ _ _ _ _ (rdo HSacc.out.tl) (ownR_room (show OwnR nodeE 0 _ (.slice (some ⟨aA, 0, none⟩) nx cA) x from HSacc.out.tl.hd)) (rdo HSacc.out) (ownR_room (show OwnR nodeE 0 _ (.slice (some ⟨aB, 0, none⟩) ny cB) y from HSacc.out.hd)))
              go_at_call 5
              with_reducible refine HCC.out.mono ?_
              rintro e waccc ⟨a0, b0, c0, d0, e0, f0, s0, t0, u0, v0, q0, r0, xs0, ys0, rfl, hxs, hsg⟩
              have HX0 := Lib.hid hxs
              have hs := Sep.cutA (X := [_]) (A := [_]) (Sep.cutA (X := [_, _]) (A := [_]) (HSacc.out.graft1 hsg ON_own))
              have HSaccc := Lib.hid hs
              have HKaccc := Lib.hid (show w.grownBy _ none from hs.tl.tl.tl.hd)
              clear hsg hs hxs HCC
              refine hK.out _ _ (by exact HBM.out _ _ HSaccc.out (by simp) (by simp)) (by exact fun _ => trivial) ?_
              clear hK K
              try simp only [Act.put, List.setIfInBounds_toArray, List.set_cons_zero, List.set_cons_succ]
              refine AnyL.take (i := 8) (v := ?vx6) (by rfl) (by kernel_rfl) (by kernel_rfl) (by kernel_rfl) rfl (by exact fun _ _ _ h => h) (by rfl) ?hyx6 (by exact ⟨HBM.out _ _ HSaccc.out (by simp) (by simp), fun _ => trivial⟩) ?restx6
              case hyx6 => intro W hSW; (try dsimp only at hSW); first | (go_simp; done) | (go_simp; with_reducible rfl)
              try simp only [Act.put, List.setIfInBounds_toArray, List.set_cons_zero, List.set_cons_succ]
              refine AnyL.take (i := 9) (v := ?vx7) (by rfl) (by kernel_rfl) (by kernel_rfl) (by kernel_rfl) rfl (by exact fun _ _ _ h => h) (by rfl) ?hyx7 (by exact ⟨HBM.out _ _ HSaccc.out (by simp) (by simp), fun _ => trivial⟩) ?restx7
              case hyx7 => intro W hSW; (try dsimp only at hSW); first | (go_simp; done) | (go_simp; with_reducible rfl)
              try simp only [Act.put, List.setIfInBounds_toArray, List.set_cons_zero, List.set_cons_succ]
              refine AnyL.take (i := 10) (v := ?vx8) (by rfl) (by kernel_rfl) (by kernel_rfl) (by kernel_rfl) rfl (by exact fun _ _ _ h => h) (by rfl) ?hyx8 (by exact ⟨HBM.out _ _ HSaccc.out (by simp) (by simp), fun _ => trivial⟩) ?restx8
              case hyx8 => intro W hSW; (try dsimp only at hSW); first | (go_simp; done) | (go_simp; with_reducible rfl)
              try simp only [Act.put, List.setIfInBounds_toArray, List.set_cons_zero, List.set_cons_succ]
              refine AnyL.step (i := 11) (by kernel_rfl) (by rfl) (fun K hK => ?_)
              go_simp
              have HSacccz := Lib.hid (HSaccc.out.boxAt (waccc.heap.size) (by rfl) #[.int .i64 0, .int .i64 0, .int .i64 0, .slice none 0 0, .int .i64 0, .slice none 0 0, .slice none 0 0, .slice none 0 0, .slice none 0 0, .int .i64 0, .slice none 0 0, .slice none 0 0, .slice none 0 0] 32)
              refine hK.out _ (waccc.alloc (.cells #[.int .i64 0, .int .i64 0, .int .i64 0, .slice none 0 0, .int .i64 0, .slice none 0 0, .slice none 0 0, .slice none 0 0, .slice none 0 0, .int .i64 0, .slice none 0 0, .slice none 0 0, .slice none 0 0] 32)) (by exact HBM.out _ _ HSacccz.out (by simp) (by simp)) (by exact fun _ => trivial) ?_
              clear hK K
              try simp only [Act.put, List.setIfInBounds_toArray, List.set_cons_zero, List.set_cons_succ]
              generalize waccc.alloc (.cells #[.int .i64 0, .int .i64 0, .int .i64 0, .slice none 0 0, .int .i64 0, .slice none 0 0, .slice none 0 0, .slice none 0 0, .slice none 0 0, .int .i64 0, .slice none 0 0, .slice none 0 0, .slice none 0 0] 32) = wacccz at *
              generalize waccc.heap.size = nb at *
              have HKacccz := Lib.hid (show w.grownBy _ none from HSacccz.out.tl.tl.tl.tl.hd)
              have h8 := HSacccz.out
              obtain ⟨k0_, k1_, k2_, k3_, k4_, k5_, k6_, k7_, k8_, k9_, k10_, k11_, k12_⟩ := cq13 (h8.hd)
              obtain ⟨j0_, j1_, j2_, j3_, j4_, j5_, j6_, j7_, j8_, j9_, j10_, j11_, j12_⟩ := cf13 h8.hd
              have HZ9 := Lib.hid (((((((((((((h8.q13_0 (u := .int .i64 R.p)).q13_1 (u := .int .i64 R.k)).q13_2 (u := .int .i64 R.l)).q13_3 (u := .slice none 0 0)).q13_4 (u := .int .i64 R.n.n)).q13_5 (u := .slice a0 R.n.es.length s0)).q13_6 (u := .slice b0 R.n.i.length t0)).q13_7 (u := .slice c0 R.n.o.length u0)).q13_8 (u := .slice none 0 0)).q13_9 (u := .int .i64 R.g.n)).q13_10 (u := .slice d0 R.g.es.length v0)).q13_11 (u := .slice e0 R.g.i.length q0)).q13_12 (u := .slice f0 R.g.o.length r0))
              clear h8
              refine AnyL.step (i := 12) (by kernel_rfl) (by rfl) (fun K hK => ?_)
              go_simp
              refine hK.out _ (((((((((((((wacccz.setCell ⟨nb, 0, none⟩ (.int .i64 R.p)).setCell ⟨nb, 1, none⟩ (.int .i64 R.k)).setCell ⟨nb, 2, none⟩ (.int .i64 R.l)).setCell ⟨nb, 3, none⟩ (.slice none 0 0)).setCell ⟨nb, 4, none⟩ (.int .i64 R.n.n)).setCell ⟨nb, 5, none⟩ (.slice a0 R.n.es.length s0)).setCell ⟨nb, 6, none⟩ (.slice b0 R.n.i.length t0)).setCell ⟨nb, 7, none⟩ (.slice c0 R.n.o.length u0)).setCell ⟨nb, 8, none⟩ (.slice none 0 0)).setCell ⟨nb, 9, none⟩ (.int .i64 R.g.n)).setCell ⟨nb, 10, none⟩ (.slice d0 R.g.es.length v0)).setCell ⟨nb, 11, none⟩ (.slice e0 R.g.i.length q0)).setCell ⟨nb, 12, none⟩ (.slice f0 R.g.o.length r0)) (by exact HBM.out _ _ HZ9.out (by simp) (by simp)) (by exact fun _ => trivial) ?_
              clear hK K
              try simp only [Act.put, List.setIfInBounds_toArray, List.set_cons_zero, List.set_cons_succ]
              refine AnyL.take (i := 13) (v := ?vx13) (by rfl) (by kernel_rfl) (by kernel_rfl) (by kernel_rfl) rfl (by exact fun _ _ _ h => h) (by rfl) ?hyx13 (by exact ⟨HBM.out _ _ HZ9.out (by simp) (by simp), fun _ => trivial⟩) ?restx13
              case hyx13 => intro W hSW; (try dsimp only at hSW); first | (go_simp; done) | (go_simp; with_reducible rfl)
              try simp only [Act.put, List.setIfInBounds_toArray, List.set_cons_zero, List.set_cons_succ]
              refine AnyL.done (by kernel_rfl) ?_ _
              clear k0_ k1_ k2_ k3_ k4_ k5_ k6_ k7_ k8_ k9_ k10_ k11_ k12_ j0_ j1_ j2_ j3_ j4_ j5_ j6_ j7_ j8_ j9_ j10_ j11_ j12_
              go_wp2_with fail
              go_meet
              exact ⟨nb, a0, b0, c0, d0, e0, f0, s0, t0, u0, v0, q0, r0, xs0, ys0, rfl, rfl, HX0.out, HZ9.out⟩
            · go_simp
              have HSaccz := Lib.hid (HSacc.out.boxAt (wacc.heap.size) (by rfl) #[.int .i64 0, .int .i64 0, .int .i64 0, .slice none 0 0, .int .i64 0, .slice none 0 0, .slice none 0 0, .slice none 0 0, .slice none 0 0, .int .i64 0, .slice none 0 0, .slice none 0 0, .slice none 0 0] 32)
              refine hK.out _ (wacc.alloc (.cells #[.int .i64 0, .int .i64 0, .int .i64 0, .slice none 0 0, .int .i64 0, .slice none 0 0, .slice none 0 0, .slice none 0 0, .slice none 0 0, .int .i64 0, .slice none 0 0, .slice none 0 0, .slice none 0 0] 32)) (by exact HBM.out _ _ HSaccz.out (by simp) (by simp)) (by exact fun _ => trivial) ?_
              clear hK K
              try simp only [Act.put, List.setIfInBounds_toArray, List.set_cons_zero, List.set_cons_succ]
              generalize wacc.alloc (.cells #[.int .i64 0, .int .i64 0, .int .i64 0, .slice none 0 0, .int .i64 0, .slice none 0 0, .slice none 0 0, .slice none 0 0, .slice none 0 0, .int .i64 0, .slice none 0 0, .slice none 0 0, .slice none 0 0] 32) = waccz at *
              generalize wacc.heap.size = nb at *
              have HKaccz := Lib.hid (show w.grownBy _ none from HSaccz.out.tl.tl.tl.tl.tl.hd)
              refine AnyL.step (i := 7) (by kernel_rfl) (by rfl) (fun K hK => ?_)
              go_simp
              have HCC := Lib.hid (HSP2.out _ _ _ _ _ (rdo HSaccz.out.tl.tl) (ownR_room (show OwnR nodeE 0 _ (.slice (some ⟨aA, 0, none⟩) nx cA) x from HSaccz.out.tl.tl.hd)) (rdo HSaccz.out.tl) (ownR_room (show OwnR nodeE 0 _ (.slice (some ⟨aB, 0, none⟩) ny cB) y from HSaccz.out.tl.hd)))
              go_at_call 5
              with_reducible refine HCC.out.mono ?_
              rintro e wacczc ⟨a0, b0, c0, d0, e0, f0, s0, t0, u0, v0, q0, r0, xs0, ys0, rfl, hxs, hsg⟩
              have HX0 := Lib.hid hxs
              have hs := Sep.cutA (X := [_, _]) (A := [_]) (Sep.cutA (X := [_, _, _]) (A := [_]) (HSaccz.out.graft1 hsg ON_own))
              have HSacczc := Lib.hid hs
              have HKacczc := Lib.hid (show w.grownBy _ none from hs.tl.tl.tl.tl.hd)
              clear hsg hs hxs HCC
              refine hK.out _ _ (by exact HBM.out _ _ HSacczc.out (by simp) (by simp)) (by exact fun _ => trivial) ?_
              clear hK K
              try simp only [Act.put, List.setIfInBounds_toArray, List.set_cons_zero, List.set_cons_succ]
              refine AnyL.take (i := 8) (v := ?vx14) (by rfl) (by kernel_rfl) (by kernel_rfl) (by kernel_rfl) rfl (by exact fun _ _ _ h => h) (by rfl) ?hyx14 (by exact ⟨HBM.out _ _ HSacczc.out (by simp) (by simp), fun _ => trivial⟩) ?restx14
              case hyx14 => intro W hSW; (try dsimp only at hSW); first | (go_simp; done) | (go_simp; with_reducible rfl)
              try simp only [Act.put, List.setIfInBounds_toArray, List.set_cons_zero, List.set_cons_succ]
              refine AnyL.take (i := 9) (v := ?vx15) (by rfl) (by kernel_rfl) (by kernel_rfl) (by kernel_rfl) rfl (by exact fun _ _ _ h => h) (by rfl) ?hyx15 (by exact ⟨HBM.out _ _ HSacczc.out (by simp) (by simp), fun _ => trivial⟩) ?restx15
              case hyx15 => intro W hSW; (try dsimp only at hSW); first | (go_simp; done) | (go_simp; with_reducible rfl)
              try simp only [Act.put, List.setIfInBounds_toArray, List.set_cons_zero, List.set_cons_succ]
              refine AnyL.take (i := 10) (v := ?vx16) (by rfl) (by kernel_rfl) (by kernel_rfl) (by kernel_rfl) rfl (by exact fun _ _ _ h => h) (by rfl) ?hyx16 (by exact ⟨HBM.out _ _ HSacczc.out (by simp) (by simp), fun _ => trivial⟩) ?restx16
              case hyx16 => intro W hSW; (try dsimp only at hSW); first | (go_simp; done) | (go_simp; with_reducible rfl)
              try simp only [Act.put, List.setIfInBounds_toArray, List.set_cons_zero, List.set_cons_succ]
              have h8 := Sep.blk (A := [_]) (B := [_]) (HSacczc.out)
              obtain ⟨k0_, k1_, k2_, k3_, k4_, k5_, k6_, k7_, k8_, k9_, k10_, k11_, k12_⟩ := cq13 (h8.hd)
              obtain ⟨j0_, j1_, j2_, j3_, j4_, j5_, j6_, j7_, j8_, j9_, j10_, j11_, j12_⟩ := cf13 h8.hd
              have HZ9 := Lib.hid (((((((((((((h8.q13_0 (u := .int .i64 R.p)).q13_1 (u := .int .i64 R.k)).q13_2 (u := .int .i64 R.l)).q13_3 (u := .slice none 0 0)).q13_4 (u := .int .i64 R.n.n)).q13_5 (u := .slice a0 R.n.es.length s0)).q13_6 (u := .slice b0 R.n.i.length t0)).q13_7 (u := .slice c0 R.n.o.length u0)).q13_8 (u := .slice none 0 0)).q13_9 (u := .int .i64 R.g.n)).q13_10 (u := .slice d0 R.g.es.length v0)).q13_11 (u := .slice e0 R.g.i.length q0)).q13_12 (u := .slice f0 R.g.o.length r0))
              clear h8
              refine AnyL.step (i := 12) (by kernel_rfl) (by rfl) (fun K hK => ?_)
              go_simp
              refine hK.out _ (((((((((((((wacczc.setCell ⟨nb, 0, none⟩ (.int .i64 R.p)).setCell ⟨nb, 1, none⟩ (.int .i64 R.k)).setCell ⟨nb, 2, none⟩ (.int .i64 R.l)).setCell ⟨nb, 3, none⟩ (.slice none 0 0)).setCell ⟨nb, 4, none⟩ (.int .i64 R.n.n)).setCell ⟨nb, 5, none⟩ (.slice a0 R.n.es.length s0)).setCell ⟨nb, 6, none⟩ (.slice b0 R.n.i.length t0)).setCell ⟨nb, 7, none⟩ (.slice c0 R.n.o.length u0)).setCell ⟨nb, 8, none⟩ (.slice none 0 0)).setCell ⟨nb, 9, none⟩ (.int .i64 R.g.n)).setCell ⟨nb, 10, none⟩ (.slice d0 R.g.es.length v0)).setCell ⟨nb, 11, none⟩ (.slice e0 R.g.i.length q0)).setCell ⟨nb, 12, none⟩ (.slice f0 R.g.o.length r0)) (by exact HBM.out _ _ HZ9.out (by simp) (by simp)) (by exact fun _ => trivial) ?_
              clear hK K
              try simp only [Act.put, List.setIfInBounds_toArray, List.set_cons_zero, List.set_cons_succ]
              refine AnyL.take (i := 13) (v := ?vx17) (by rfl) (by kernel_rfl) (by kernel_rfl) (by kernel_rfl) rfl (by exact fun _ _ _ h => h) (by rfl) ?hyx17 (by exact ⟨HBM.out _ _ HZ9.out (by simp) (by simp), fun _ => trivial⟩) ?restx17
              case hyx17 => intro W hSW; (try dsimp only at hSW); first | (go_simp; done) | (go_simp; with_reducible rfl)
              try simp only [Act.put, List.setIfInBounds_toArray, List.set_cons_zero, List.set_cons_succ]
              refine AnyL.done (by kernel_rfl) ?_ _
              clear k0_ k1_ k2_ k3_ k4_ k5_ k6_ k7_ k8_ k9_ k10_ k11_ k12_ j0_ j1_ j2_ j3_ j4_ j5_ j6_ j7_ j8_ j9_ j10_ j11_ j12_
              go_wp2_with fail
              go_meet
              exact ⟨nb, a0, b0, c0, d0, e0, f0, s0, t0, u0, v0, q0, r0, xs0, ys0, rfl, rfl, HX0.out, HZ9.out⟩
          · go_simp
            have HSacz := Lib.hid (HSac.out.boxAt (wac.heap.size) (by rfl) #[.int .i64 0, .int .i64 0, .int .i64 0, .slice none 0 0, .int .i64 0, .slice none 0 0, .slice none 0 0, .slice none 0 0, .slice none 0 0, .int .i64 0, .slice none 0 0, .slice none 0 0, .slice none 0 0] 32)
            refine hK.out _ (wac.alloc (.cells #[.int .i64 0, .int .i64 0, .int .i64 0, .slice none 0 0, .int .i64 0, .slice none 0 0, .slice none 0 0, .slice none 0 0, .slice none 0 0, .int .i64 0, .slice none 0 0, .slice none 0 0, .slice none 0 0] 32)) (by exact HBM.out _ _ HSacz.out (by simp) (by simp)) (by exact fun _ => trivial) ?_
            clear hK K
            try simp only [Act.put, List.setIfInBounds_toArray, List.set_cons_zero, List.set_cons_succ]
            generalize wac.alloc (.cells #[.int .i64 0, .int .i64 0, .int .i64 0, .slice none 0 0, .int .i64 0, .slice none 0 0, .slice none 0 0, .slice none 0 0, .slice none 0 0, .int .i64 0, .slice none 0 0, .slice none 0 0, .slice none 0 0] 32) = wacz at *
            generalize wac.heap.size = nb at *
            have HKacz := Lib.hid (show w.grownBy _ none from HSacz.out.tl.tl.tl.tl.hd)
            refine AnyL.step (i := 6) (by kernel_rfl) (by rfl) (fun K hK => ?_)
            go_simp
            go_at_call 6
            with_reducible refine (HTY2.out _ HKacz.out).mono ?_
            rintro e waczc ⟨aB, cB, rfl, hsg⟩
            have hs := HSacz.out.graft1 hsg (fun _ h => h)
            have HSaczc := Lib.hid hs
            have HKaczc := Lib.hid (show w.grownBy _ none from hs.tl.tl.tl.tl.tl.hd)
            clear hsg hs
            refine hK.out _ _ (by exact HBM.out _ _ HSaczc.out (by simp) (by simp)) (by exact fun _ => trivial) ?_
            clear hK K
            try simp only [Act.put, List.setIfInBounds_toArray, List.set_cons_zero, List.set_cons_succ]
            refine AnyL.step (i := 7) (by kernel_rfl) (by rfl) (fun K hK => ?_)
            go_simp
            have HCC := Lib.hid (HSP2.out _ _ _ _ _ (rdo HSaczc.out.tl.tl) (ownR_room (show OwnR nodeE 0 _ (.slice (some ⟨aA, 0, none⟩) nx cA) x from HSaczc.out.tl.tl.hd)) (rdo HSaczc.out) (ownR_room (show OwnR nodeE 0 _ (.slice (some ⟨aB, 0, none⟩) ny cB) y from HSaczc.out.hd)))
            go_at_call 5
            with_reducible refine HCC.out.mono ?_
            rintro e waczcc ⟨a0, b0, c0, d0, e0, f0, s0, t0, u0, v0, q0, r0, xs0, ys0, rfl, hxs, hsg⟩
            have HX0 := Lib.hid hxs
            have hs := Sep.cutA (X := [_]) (A := [_]) (Sep.cutA (X := [_, _, _]) (A := [_]) (HSaczc.out.graft1 hsg ON_own))
            have HSaczcc := Lib.hid hs
            have HKaczcc := Lib.hid (show w.grownBy _ none from hs.tl.tl.tl.tl.hd)
            clear hsg hs hxs HCC
            refine hK.out _ _ (by exact HBM.out _ _ HSaczcc.out (by simp) (by simp)) (by exact fun _ => trivial) ?_
            clear hK K
            try simp only [Act.put, List.setIfInBounds_toArray, List.set_cons_zero, List.set_cons_succ]
            refine AnyL.take (i := 8) (v := ?vx18) (by rfl) (by kernel_rfl) (by kernel_rfl) (by kernel_rfl) rfl (by exact fun _ _ _ h => h) (by rfl) ?hyx18 (by exact ⟨HBM.out _ _ HSaczcc.out (by simp) (by simp), fun _ => trivial⟩) ?restx18
            case hyx18 => intro W hSW; (try dsimp only at hSW); first | (go_simp; done) | (go_simp; with_reducible rfl)
            try simp only [Act.put, List.setIfInBounds_toArray, List.set_cons_zero, List.set_cons_succ]
            refine AnyL.take (i := 9) (v := ?vx19) (by rfl) (by kernel_rfl) (by kernel_rfl) (by kernel_rfl) rfl (by exact fun _ _ _ h => h) (by rfl) ?hyx19 (by exact ⟨HBM.out _ _ HSaczcc.out (by simp) (by simp), fun _ => trivial⟩) ?restx19
            case hyx19 => intro W hSW; (try dsimp only at hSW); first | (go_simp; done) | (go_simp; with_reducible rfl)
            try simp only [Act.put, List.setIfInBounds_toArray, List.set_cons_zero, List.set_cons_succ]
            refine AnyL.take (i := 10) (v := ?vx20) (by rfl) (by kernel_rfl) (by kernel_rfl) (by kernel_rfl) rfl (by exact fun _ _ _ h => h) (by rfl) ?hyx20 (by exact ⟨HBM.out _ _ HSaczcc.out (by simp) (by simp), fun _ => trivial⟩) ?restx20
            case hyx20 => intro W hSW; (try dsimp only at hSW); first | (go_simp; done) | (go_simp; with_reducible rfl)
            try simp only [Act.put, List.setIfInBounds_toArray, List.set_cons_zero, List.set_cons_succ]
            have h8 := Sep.blk (A := [_]) (B := [_]) (HSaczcc.out)
            obtain ⟨k0_, k1_, k2_, k3_, k4_, k5_, k6_, k7_, k8_, k9_, k10_, k11_, k12_⟩ := cq13 (h8.hd)
            obtain ⟨j0_, j1_, j2_, j3_, j4_, j5_, j6_, j7_, j8_, j9_, j10_, j11_, j12_⟩ := cf13 h8.hd
            have HZ9 := Lib.hid (((((((((((((h8.q13_0 (u := .int .i64 R.p)).q13_1 (u := .int .i64 R.k)).q13_2 (u := .int .i64 R.l)).q13_3 (u := .slice none 0 0)).q13_4 (u := .int .i64 R.n.n)).q13_5 (u := .slice a0 R.n.es.length s0)).q13_6 (u := .slice b0 R.n.i.length t0)).q13_7 (u := .slice c0 R.n.o.length u0)).q13_8 (u := .slice none 0 0)).q13_9 (u := .int .i64 R.g.n)).q13_10 (u := .slice d0 R.g.es.length v0)).q13_11 (u := .slice e0 R.g.i.length q0)).q13_12 (u := .slice f0 R.g.o.length r0))
            clear h8
            refine AnyL.step (i := 12) (by kernel_rfl) (by rfl) (fun K hK => ?_)
            go_simp
            refine hK.out _ (((((((((((((waczcc.setCell ⟨nb, 0, none⟩ (.int .i64 R.p)).setCell ⟨nb, 1, none⟩ (.int .i64 R.k)).setCell ⟨nb, 2, none⟩ (.int .i64 R.l)).setCell ⟨nb, 3, none⟩ (.slice none 0 0)).setCell ⟨nb, 4, none⟩ (.int .i64 R.n.n)).setCell ⟨nb, 5, none⟩ (.slice a0 R.n.es.length s0)).setCell ⟨nb, 6, none⟩ (.slice b0 R.n.i.length t0)).setCell ⟨nb, 7, none⟩ (.slice c0 R.n.o.length u0)).setCell ⟨nb, 8, none⟩ (.slice none 0 0)).setCell ⟨nb, 9, none⟩ (.int .i64 R.g.n)).setCell ⟨nb, 10, none⟩ (.slice d0 R.g.es.length v0)).setCell ⟨nb, 11, none⟩ (.slice e0 R.g.i.length q0)).setCell ⟨nb, 12, none⟩ (.slice f0 R.g.o.length r0)) (by exact HBM.out _ _ HZ9.out (by simp) (by simp)) (by exact fun _ => trivial) ?_
            clear hK K
            try simp only [Act.put, List.setIfInBounds_toArray, List.set_cons_zero, List.set_cons_succ]
            refine AnyL.take (i := 13) (v := ?vx21) (by rfl) (by kernel_rfl) (by kernel_rfl) (by kernel_rfl) rfl (by exact fun _ _ _ h => h) (by rfl) ?hyx21 (by exact ⟨HBM.out _ _ HZ9.out (by simp) (by simp), fun _ => trivial⟩) ?restx21
            case hyx21 => intro W hSW; (try dsimp only at hSW); first | (go_simp; done) | (go_simp; with_reducible rfl)
            try simp only [Act.put, List.setIfInBounds_toArray, List.set_cons_zero, List.set_cons_succ]
            refine AnyL.done (by kernel_rfl) ?_ _
            clear k0_ k1_ k2_ k3_ k4_ k5_ k6_ k7_ k8_ k9_ k10_ k11_ k12_ j0_ j1_ j2_ j3_ j4_ j5_ j6_ j7_ j8_ j9_ j10_ j11_ j12_
            go_wp2_with fail
            go_meet
            exact ⟨nb, a0, b0, c0, d0, e0, f0, s0, t0, u0, v0, q0, r0, xs0, ys0, rfl, rfl, HX0.out, HZ9.out⟩
        · go_simp
          have HSaz := Lib.hid (HSA.out.boxAt (w3.heap.size) (by rfl) #[.int .i64 0, .int .i64 0, .int .i64 0, .slice none 0 0, .int .i64 0, .slice none 0 0, .slice none 0 0, .slice none 0 0, .slice none 0 0, .int .i64 0, .slice none 0 0, .slice none 0 0, .slice none 0 0] 32)
          refine hK.out _ (w3.drew.alloc (.cells #[.int .i64 0, .int .i64 0, .int .i64 0, .slice none 0 0, .int .i64 0, .slice none 0 0, .slice none 0 0, .slice none 0 0, .slice none 0 0, .int .i64 0, .slice none 0 0, .slice none 0 0, .slice none 0 0] 32)) (by exact HBM.out _ _ HSaz.out (by simp) (by simp)) (by exact fun _ => trivial) ?_
          clear hK K
          try simp only [Act.put, List.setIfInBounds_toArray, List.set_cons_zero, List.set_cons_succ]
          generalize w3.drew.alloc (.cells #[.int .i64 0, .int .i64 0, .int .i64 0, .slice none 0 0, .int .i64 0, .slice none 0 0, .slice none 0 0, .slice none 0 0, .slice none 0 0, .int .i64 0, .slice none 0 0, .slice none 0 0, .slice none 0 0] 32) = waz at *
          generalize w3.heap.size = nb at *
          have HKaz := Lib.hid (show w.grownBy _ none from HSaz.out.tl.tl.tl.hd)
          refine AnyL.step (i := 4) (by kernel_rfl) (by rfl) (fun K hK => ?_)
          go_simp
          go_at_call 6
          with_reducible refine (HTX2.out _ HKaz.out).mono ?_
          rintro e wazc ⟨aA, cA, rfl, hsg⟩
          have hs := HSaz.out.graft1 hsg (fun _ h => h)
          have HSazc := Lib.hid hs
          have HKazc := Lib.hid (show w.grownBy _ none from hs.tl.tl.tl.tl.hd)
          clear hsg hs
          refine hK.out _ _ (by exact HBM.out _ _ HSazc.out (by simp) (by simp)) (by exact fun _ => trivial) ?_
          clear hK K
          try simp only [Act.put, List.setIfInBounds_toArray, List.set_cons_zero, List.set_cons_succ]
          refine AnyL.step (i := 6) (by kernel_rfl) (by rfl) (fun K hK => ?_)
          go_simp
          go_at_call 6
          with_reducible refine (HTY2.out _ HKazc.out).mono ?_
          rintro e wazcc ⟨aB, cB, rfl, hsg⟩
          have hs := HSazc.out.graft1 hsg (fun _ h => h)
          have HSazcc := Lib.hid hs
          have HKazcc := Lib.hid (show w.grownBy _ none from hs.tl.tl.tl.tl.tl.hd)
          clear hsg hs
          refine hK.out _ _ (by exact HBM.out _ _ HSazcc.out (by simp) (by simp)) (by exact fun _ => trivial) ?_
          clear hK K
          try simp only [Act.put, List.setIfInBounds_toArray, List.set_cons_zero, List.set_cons_succ]
          refine AnyL.step (i := 7) (by kernel_rfl) (by rfl) (fun K hK => ?_)
          go_simp
          have HCC := Lib.hid (HSP2.out _ _ _ _ _ (rdo HSazcc.out.tl) (ownR_room (show OwnR nodeE 0 _ (.slice (some ⟨aA, 0, none⟩) nx cA) x from HSazcc.out.tl.hd)) (rdo HSazcc.out) (ownR_room (show OwnR nodeE 0 _ (.slice (some ⟨aB, 0, none⟩) ny cB) y from HSazcc.out.hd)))
          go_at_call 5
          with_reducible refine HCC.out.mono ?_
          rintro e wazccc ⟨a0, b0, c0, d0, e0, f0, s0, t0, u0, v0, q0, r0, xs0, ys0, rfl, hxs, hsg⟩
          have HX0 := Lib.hid hxs
          have hs := Sep.cutA (X := [_]) (A := [_]) (Sep.cutA (X := [_, _]) (A := [_]) (HSazcc.out.graft1 hsg ON_own))
          have HSazccc := Lib.hid hs
          have HKazccc := Lib.hid (show w.grownBy _ none from hs.tl.tl.tl.tl.hd)
          clear hsg hs hxs HCC
          refine hK.out _ _ (by exact HBM.out _ _ HSazccc.out (by simp) (by simp)) (by exact fun _ => trivial) ?_
          clear hK K
          try simp only [Act.put, List.setIfInBounds_toArray, List.set_cons_zero, List.set_cons_succ]
          refine AnyL.take (i := 8) (v := ?vx22) (by rfl) (by kernel_rfl) (by kernel_rfl) (by kernel_rfl) rfl (by exact fun _ _ _ h => h) (by rfl) ?hyx22 (by exact ⟨HBM.out _ _ HSazccc.out (by simp) (by simp), fun _ => trivial⟩) ?restx22
          case hyx22 => intro W hSW; (try dsimp only at hSW); first | (go_simp; done) | (go_simp; with_reducible rfl)
          try simp only [Act.put, List.setIfInBounds_toArray, List.set_cons_zero, List.set_cons_succ]
          refine AnyL.take (i := 9) (v := ?vx23) (by rfl) (by kernel_rfl) (by kernel_rfl) (by kernel_rfl) rfl (by exact fun _ _ _ h => h) (by rfl) ?hyx23 (by exact ⟨HBM.out _ _ HSazccc.out (by simp) (by simp), fun _ => trivial⟩) ?restx23
          case hyx23 => intro W hSW; (try dsimp only at hSW); first | (go_simp; done) | (go_simp; with_reducible rfl)
          try simp only [Act.put, List.setIfInBounds_toArray, List.set_cons_zero, List.set_cons_succ]
          refine AnyL.take (i := 10) (v := ?vx24) (by rfl) (by kernel_rfl) (by kernel_rfl) (by kernel_rfl) rfl (by exact fun _ _ _ h => h) (by rfl) ?hyx24 (by exact ⟨HBM.out _ _ HSazccc.out (by simp) (by simp), fun _ => trivial⟩) ?restx24
          case hyx24 => intro W hSW; (try dsimp only at hSW); first | (go_simp; done) | (go_simp; with_reducible rfl)
          try simp only [Act.put, List.setIfInBounds_toArray, List.set_cons_zero, List.set_cons_succ]
          have h8 := Sep.blk (A := [_]) (B := [_]) (HSazccc.out)
          obtain ⟨k0_, k1_, k2_, k3_, k4_, k5_, k6_, k7_, k8_, k9_, k10_, k11_, k12_⟩ := cq13 (h8.hd)
          obtain ⟨j0_, j1_, j2_, j3_, j4_, j5_, j6_, j7_, j8_, j9_, j10_, j11_, j12_⟩ := cf13 h8.hd
          have HZ9 := Lib.hid (((((((((((((h8.q13_0 (u := .int .i64 R.p)).q13_1 (u := .int .i64 R.k)).q13_2 (u := .int .i64 R.l)).q13_3 (u := .slice none 0 0)).q13_4 (u := .int .i64 R.n.n)).q13_5 (u := .slice a0 R.n.es.length s0)).q13_6 (u := .slice b0 R.n.i.length t0)).q13_7 (u := .slice c0 R.n.o.length u0)).q13_8 (u := .slice none 0 0)).q13_9 (u := .int .i64 R.g.n)).q13_10 (u := .slice d0 R.g.es.length v0)).q13_11 (u := .slice e0 R.g.i.length q0)).q13_12 (u := .slice f0 R.g.o.length r0))
          clear h8
          refine AnyL.step (i := 12) (by kernel_rfl) (by rfl) (fun K hK => ?_)
          go_simp
          refine hK.out _ (((((((((((((wazccc.setCell ⟨nb, 0, none⟩ (.int .i64 R.p)).setCell ⟨nb, 1, none⟩ (.int .i64 R.k)).setCell ⟨nb, 2, none⟩ (.int .i64 R.l)).setCell ⟨nb, 3, none⟩ (.slice none 0 0)).setCell ⟨nb, 4, none⟩ (.int .i64 R.n.n)).setCell ⟨nb, 5, none⟩ (.slice a0 R.n.es.length s0)).setCell ⟨nb, 6, none⟩ (.slice b0 R.n.i.length t0)).setCell ⟨nb, 7, none⟩ (.slice c0 R.n.o.length u0)).setCell ⟨nb, 8, none⟩ (.slice none 0 0)).setCell ⟨nb, 9, none⟩ (.int .i64 R.g.n)).setCell ⟨nb, 10, none⟩ (.slice d0 R.g.es.length v0)).setCell ⟨nb, 11, none⟩ (.slice e0 R.g.i.length q0)).setCell ⟨nb, 12, none⟩ (.slice f0 R.g.o.length r0)) (by exact HBM.out _ _ HZ9.out (by simp) (by simp)) (by exact fun _ => trivial) ?_
          clear hK K
          try simp only [Act.put, List.setIfInBounds_toArray, List.set_cons_zero, List.set_cons_succ]
          refine AnyL.take (i := 13) (v := ?vx25) (by rfl) (by kernel_rfl) (by kernel_rfl) (by kernel_rfl) rfl (by exact fun _ _ _ h => h) (by rfl) ?hyx25 (by exact ⟨HBM.out _ _ HZ9.out (by simp) (by simp), fun _ => trivial⟩) ?restx25
          case hyx25 => intro W hSW; (try dsimp only at hSW); first | (go_simp; done) | (go_simp; with_reducible rfl)
          try simp only [Act.put, List.setIfInBounds_toArray, List.set_cons_zero, List.set_cons_succ]
          refine AnyL.done (by kernel_rfl) ?_ _
          clear k0_ k1_ k2_ k3_ k4_ k5_ k6_ k7_ k8_ k9_ k10_ k11_ k12_ j0_ j1_ j2_ j3_ j4_ j5_ j6_ j7_ j8_ j9_ j10_ j11_ j12_
          go_wp2_with fail
          go_meet
          exact ⟨nb, a0, b0, c0, d0, e0, f0, s0, t0, u0, v0, q0, r0, xs0, ys0, rfl, rfl, HX0.out, HZ9.out⟩
      case rest =>
        obtain ⟨nb0, a0, b0, c0, d0, e0, f0, s0, t0, u0, v0, q0, r0, xs0, ys0, rfl, rfl, hx0, hs6⟩ := hcut
        have HX0 := Lib.hid hx0
        have HS6 := Lib.hid hs6
        have HK6 := Lib.hid (show w.grownBy _ none from hs6.tl.tl.tl.tl.hd)
        clear HS2 HS3 HS0 HK0 HK2 HK3 HSA HKA HZ1 HZ2 HSP2 hs6 hx0
        have y0_ := bs1 (HS6.out.tl.tl.hd)
        have x0_ := bs1 (HS6.out.tl.tl.tl.hd)
        go_upto_region 14 with (first
          | (go_at_call 6
             with_reducible refine (HTX2.out _ HK6.out).mono ?_
             rintro e w7 ⟨aC, cC, rfl, hsg⟩
             have hs := HS6.out.graft1 hsg (fun _ h => h)
             have hs := hs.boxAt w7.heap.size rfl #[.slice (some ⟨aC, 0, none⟩) nx cC] 37
             clear x0_
             clear y0_
             have y0_ := bs1 (hs.tl.tl.tl.tl.hd)
             have z0_ := bs1 (hs.hd)
             have HS7 := Lib.hid hs
             have HK7 := Lib.hid (show w.grownBy _ none from hs.tl.tl.tl.tl.tl.tl.hd)
             clear hsg hs)
          | (go_at_call 6
             with_reducible refine (HTY2.out _ HK7.out).mono ?_
             rintro e w8 ⟨aD, cD, rfl, hsg⟩
             have hs := HS7.out.graft1 hsg (fun _ h => h)
             have hs := hs.boxAt w8.heap.size rfl #[.slice (some ⟨aD, 0, none⟩) ny cD] 37
             clear y0_
             clear z0_
             have x0_ := bs1 (hs.tl.tl.hd)
             have y0_ := bs1 (hs.hd)
             have HIM8 := Lib.hid (HIM2.out _ (show w.grownBy _ none from hs.tl.tl.tl.tl.tl.tl.tl.tl.hd) _ _ _ _ (rdo hs.tl.tl.tl) (rdo hs.tl))
             have HS8 := Lib.hid hs
             clear hsg hs)
          | (go_at_call 7
             with_reducible refine HIM8.out.mono ?_
             rintro e w9 ⟨a1, b1, c1, d1, e1, f1, s1, t1, u1, v1, q1, r1, xs1, ys1, rfl, hxs, hsg⟩
             have HX1 := Lib.hid hxs
             have hs := (HS8.out.graft1 hsg ON_own).boxAt w9.heap.size rfl #[.int .i64 R.p, .int .i64 R.k, .int .i64 R.l, .slice none 0 0, .int .i64 R.n.n, .slice a1 R.n.es.length s1, .slice b1 R.n.i.length t1, .slice c1 R.n.o.length u1, .slice none 0 0, .int .i64 R.g.n, .slice d1 R.g.es.length v1, .slice e1 R.g.i.length q1, .slice f1 R.g.o.length r1] 32
             clear x0_
             clear y0_
             obtain ⟨t0_, t1_, t2_, t3_, t4_, t5_, t6_, t7_, t8_, t9_, t10_, t11_, t12_⟩ := cq13 (hs.hd)
             obtain ⟨v0_, v1_, v2_, v3_, v4_, v5_, v6_, v7_, v8_, v9_, v10_, v11_, v12_⟩ := cq13 (hs.tl.tl.tl.tl.tl.tl.hd)
             have HEQ9 := Lib.hid (HEQ.out _ _ _ _ _ _ _ _ _ _ _ _ _ (ON.rd hs.tl.hd hxs) (ON.rd hs.tl.tl.tl.tl.tl.tl.tl.hd HX0.out))
             have HS9 := Lib.hid hs
             clear hsg hs hxs)
          | (go_at_call 8
             with_reducible refine HEQ9.out.mono ?_
             rintro e w10 ⟨rfl, hg⟩
             have HS10 := Lib.hid (HS9.out.grown hg)
             clear hg
             clear t0_ t1_ t2_ t3_ t4_ t5_ t6_ t7_ t8_ t9_ t10_ t11_ t12_ v0_ v1_ v2_ v3_ v4_ v5_ v6_ v7_ v8_ v9_ v10_ v11_ v12_))
        clear HS7 HS8 HS9 HEQ9 HIM8
        have HSEa := Lib.hid HS10.out.dr
        have HKEa := Lib.hid (show w.grownBy _ none from HSEa.out.tl.tl.tl.tl.tl.tl.tl.tl.tl.tl.hd)
        have HBEa := Lib.hid fun (W1 : World) (L : List Asrt) (h : Sep W1 L) (hG : BxA (w7.heap.size) #[.slice (some ⟨aC, 0, none⟩) nx cC] 37 ∈ L) (hP : BxA (w.heap.size) #[.slice ga nx ca] 24 ∈ L) => show W1.cell? ⟨w7.heap.size, 0, none⟩ = some (.slice (some ⟨aC, 0, none⟩) nx cC) ∧ W1.cell? ⟨w.heap.size, 0, none⟩ = some (.slice ga nx ca) from
          ⟨bs1 (show W1.heap[w7.heap.size]? = some (.cells #[.slice (some ⟨aC, 0, none⟩) nx cC] 37 (0, 0)) from Sep.all h _ hG), bs1 (show W1.heap[w.heap.size]? = some (.cells #[.slice ga nx ca] 24 (0, 0)) from Sep.all h _ hP)⟩
        have XEa := Lib.hid (HBEa.out _ _ HSEa.out (by simp) (by simp))
        refine AnyL.start (fun W1 => W1.cell? ⟨w7.heap.size, 0, none⟩ = some (.slice (some ⟨aC, 0, none⟩) nx cC) ∧ W1.cell? ⟨w.heap.size, 0, none⟩ = some (.slice ga nx ca)) (fun _ => True) 99 (by kernel_rfl) ?_
        refine AnyL.take (i := 0) (v := ?vx26) (by rfl) (by kernel_rfl) (by kernel_rfl) (by kernel_rfl) rfl (by exact fun _ _ _ h => h) (by rfl) ?hyx26 (by exact ⟨XEa.out, fun _ => trivial⟩) ?restx26
        case hyx26 => intro W hSW; (try dsimp only at hSW); first | (go_simp; done) | (go_simp; with_reducible rfl)
        try simp only [Act.put, List.setIfInBounds_toArray, List.set_cons_zero, List.set_cons_succ]
        refine AnyL.take (i := 1) (v := ?vx27) (by rfl) (by kernel_rfl) (by kernel_rfl) (by kernel_rfl) rfl (by exact fun _ _ _ h => h) (by rfl) ?hyx27 (by exact ⟨XEa.out, fun _ => trivial⟩) ?restx27
        case hyx27 => intro W hSW; (try dsimp only at hSW); first | (go_simp; done) | (go_simp; with_reducible rfl)
        try simp only [Act.put, List.setIfInBounds_toArray, List.set_cons_zero, List.set_cons_succ]
        refine AnyL.step (i := 2) (by kernel_rfl) (by rfl) (fun K hK => ?_)
        go_simp
        go_at_call 6
        with_reducible refine (HTX2.out _ HKEa.out).mono ?_
        rintro e w11 ⟨aE, cE, rfl, hsg⟩
        have hs := HSEa.out.graft1 hsg (fun _ h => h)
        have HQEa := Lib.hid (HEX2.out _ _ _ (rdo hs.tl.tl.tl.tl.tl.tl) (rdo hs))
        have HSFa := Lib.hid hs
        clear hsg hs
        refine hK.out _ _ (by exact HBEa.out _ _ HSFa.out (by simp) (by simp)) (by exact fun _ => trivial) ?_
        clear hK K
        try simp only [Act.put, List.setIfInBounds_toArray, List.set_cons_zero, List.set_cons_succ]
        refine AnyL.step (i := 3) (by kernel_rfl) (by rfl) (fun K hK => ?_)
        go_simp
        go_at_call 9
        with_reducible refine HQEa.out.mono ?_
        rintro e w12 ⟨rfl, hg⟩
        have hs := (HSFa.out.grown hg).tl
        have HS12 := Lib.hid hs
        clear hg hs
        refine hK.out _ _ (by exact HBEa.out _ _ HS12.out (by simp) (by simp)) (by exact fun _ => trivial) ?_
        clear hK K
        try simp only [Act.put, List.setIfInBounds_toArray, List.set_cons_zero, List.set_cons_succ]
        refine AnyL.take (i := 4) (v := ?vx28) (by rfl) (by kernel_rfl) (by kernel_rfl) (by kernel_rfl) rfl (by exact fun _ _ _ h => h) (by rfl) ?hyx28 (by exact ⟨HBEa.out _ _ HS12.out (by simp) (by simp), fun _ => trivial⟩) ?restx28
        case hyx28 => intro W hSW; (try dsimp only at hSW); first | (go_simp; done) | (go_simp; with_reducible rfl)
        try simp only [Act.put, List.setIfInBounds_toArray, List.set_cons_zero, List.set_cons_succ]
        refine AnyL.done (by kernel_rfl) ?_ _
        clear HSEa HSFa XEa HBEa HQEa
        go_upto_region 16 with fail
        have HSEb := Lib.hid HS12.out.dr
        have HKEb := Lib.hid (show w.grownBy _ none from HSEb.out.tl.tl.tl.tl.tl.tl.tl.tl.tl.tl.hd)
        have HBEb := Lib.hid fun (W1 : World) (L : List Asrt) (h : Sep W1 L) (hG : BxA (w8.heap.size) #[.slice (some ⟨aD, 0, none⟩) ny cD] 37 ∈ L) (hP : BxA (w.heap.size + 1) #[.slice gb ny cb] 24 ∈ L) => show W1.cell? ⟨w8.heap.size, 0, none⟩ = some (.slice (some ⟨aD, 0, none⟩) ny cD) ∧ W1.cell? ⟨w.heap.size + 1, 0, none⟩ = some (.slice gb ny cb) from
          ⟨bs1 (show W1.heap[w8.heap.size]? = some (.cells #[.slice (some ⟨aD, 0, none⟩) ny cD] 37 (0, 0)) from Sep.all h _ hG), bs1 (show W1.heap[w.heap.size + 1]? = some (.cells #[.slice gb ny cb] 24 (0, 0)) from Sep.all h _ hP)⟩
        have XEb := Lib.hid (HBEb.out _ _ HSEb.out (by simp) (by simp))
        refine AnyL.start (fun W1 => W1.cell? ⟨w8.heap.size, 0, none⟩ = some (.slice (some ⟨aD, 0, none⟩) ny cD) ∧ W1.cell? ⟨w.heap.size + 1, 0, none⟩ = some (.slice gb ny cb)) (fun _ => True) 99 (by kernel_rfl) ?_
        refine AnyL.take (i := 0) (v := ?vx29) (by rfl) (by kernel_rfl) (by kernel_rfl) (by kernel_rfl) rfl (by exact fun _ _ _ h => h) (by rfl) ?hyx29 (by exact ⟨XEb.out, fun _ => trivial⟩) ?restx29
        case hyx29 => intro W hSW; (try dsimp only at hSW); first | (go_simp; done) | (go_simp; with_reducible rfl)
        try simp only [Act.put, List.setIfInBounds_toArray, List.set_cons_zero, List.set_cons_succ]
        refine AnyL.take (i := 1) (v := ?vx30) (by rfl) (by kernel_rfl) (by kernel_rfl) (by kernel_rfl) rfl (by exact fun _ _ _ h => h) (by rfl) ?hyx30 (by exact ⟨XEb.out, fun _ => trivial⟩) ?restx30
        case hyx30 => intro W hSW; (try dsimp only at hSW); first | (go_simp; done) | (go_simp; with_reducible rfl)
        try simp only [Act.put, List.setIfInBounds_toArray, List.set_cons_zero, List.set_cons_succ]
        refine AnyL.step (i := 2) (by kernel_rfl) (by rfl) (fun K hK => ?_)
        go_simp
        go_at_call 6
        with_reducible refine (HTY2.out _ HKEb.out).mono ?_
        rintro e w13 ⟨aF, cF, rfl, hsg⟩
        have hs := HSEb.out.graft1 hsg (fun _ h => h)
        have HQEb := Lib.hid (HEY2.out _ _ _ (rdo hs.tl.tl.tl.tl) (rdo hs))
        have HSFb := Lib.hid hs
        clear hsg hs
        refine hK.out _ _ (by exact HBEb.out _ _ HSFb.out (by simp) (by simp)) (by exact fun _ => trivial) ?_
        clear hK K
        try simp only [Act.put, List.setIfInBounds_toArray, List.set_cons_zero, List.set_cons_succ]
        refine AnyL.step (i := 3) (by kernel_rfl) (by rfl) (fun K hK => ?_)
        go_simp
        go_at_call 9
        with_reducible refine HQEb.out.mono ?_
        rintro e w14 ⟨rfl, hg⟩
        have hs := (HSFb.out.grown hg).tl
        have HS14 := Lib.hid hs
        clear hg hs
        refine hK.out _ _ (by exact HBEb.out _ _ HS14.out (by simp) (by simp)) (by exact fun _ => trivial) ?_
        clear hK K
        try simp only [Act.put, List.setIfInBounds_toArray, List.set_cons_zero, List.set_cons_succ]
        refine AnyL.take (i := 4) (v := ?vx31) (by rfl) (by kernel_rfl) (by kernel_rfl) (by kernel_rfl) rfl (by exact fun _ _ _ h => h) (by rfl) ?hyx31 (by exact ⟨HBEb.out _ _ HS14.out (by simp) (by simp), fun _ => trivial⟩) ?restx31
        case hyx31 => intro W hSW; (try dsimp only at hSW); first | (go_simp; done) | (go_simp; with_reducible rfl)
        try simp only [Act.put, List.setIfInBounds_toArray, List.set_cons_zero, List.set_cons_succ]
        refine AnyL.done (by kernel_rfl) ?_ _
        clear HSEb HSFb XEb HBEb HQEb
        have x0_ := bs1 (HS14.out.tl.tl.tl.tl.hd)
        have y0_ := bs1 (HS14.out.tl.tl.hd)
        have HS14b := Lib.hid (Sep.blk (A := [_, _, _, _, _]) (B := [_]) (HS14.out))
        have HMG14 := Lib.hid (HMX2.out _ _ _ _ HS14b.out)
        have HNX2 := Lib.hid (show 0 ≤ 1 + 3 * (nx : Int) ∧ 1 + 3 * (nx : Int) ≤ 10000000 from by have := HNX.out; omega)
        obtain ⟨r15, hr15⟩ : ∃ r : Int, 1 + 3 * (nx : Int) = r := ⟨_, rfl⟩
        rw [hr15] at HMG14 HNX2
        clear hr15
        obtain ⟨r16, hr16e⟩ : ∃ r : Int, r15 + 3 * (ny : Int) = r := ⟨_, rfl⟩
        have hr16 : ¬ r16 < 0 := by have := HNX2.out; omega
        have HMY3 := Lib.hid (HMY2.out r15 HNX2.out.1 HNX2.out.2)
        rw [hr16e] at HMY3
        clear hr16e
        go_upto_region 31 with (first
          | (go_at_call 10
             with_reducible refine HMG14.out.mono ?_
             rintro e w15 ⟨rfl, hs15⟩
             clear x0_
             clear y0_
             have y0_ := bs1 (hs15.tl.tl.hd)
             have hs := Sep.blk (A := [_, _, _]) (B := [_]) (hs15)
             have HMP15 := Lib.hid (HMY3.out _ _ _ _ hs)
             clear hs15 hs)
          | (go_at_call 10
             with_reducible refine HMP15.out.mono ?_
             rintro e w16 ⟨rfl, hs16⟩
             clear y0_
             obtain ⟨t0_, t1_, t2_, t3_, t4_, t5_, t6_, t7_, t8_, t9_, t10_, t11_, t12_⟩ := cq13 (hs16.hd)
             obtain ⟨v0_, v1_, v2_, v3_, v4_, v5_, v6_, v7_, v8_, v9_, v10_, v11_, v12_⟩ := cq13 (hs16.tl.tl.tl.tl.hd)
             have HS16 := Lib.hid hs16
             have HEQ16 := Lib.hid (HEQ.out _ _ _ _ _ _ _ _ _ _ _ _ _ (ON.rd hs16.tl.hd HX1.out) (ON.rd hs16.tl.tl.tl.tl.tl.hd HX0.out))
             clear hs16)
          | (go_at_call 8
             with_reducible refine HEQ16.out.mono ?_
             rintro e w17 ⟨rfl, hg⟩
             have hs := Sep.blk (A := [_]) (B := [_]) (HS16.out.grown hg)
             clear t0_ t1_ t2_ t3_ t4_ t5_ t6_ t7_ t8_ t9_ t10_ t11_ t12_ v0_ v1_ v2_ v3_ v4_ v5_ v6_ v7_ v8_ v9_ v10_ v11_ v12_
             obtain ⟨t0_, t1_, t2_, t3_, t4_, t5_, t6_, t7_, t8_, t9_, t10_, t11_, t12_⟩ := cq13 (hs.tl.hd)
             have HMM17 := Lib.hid (HMM.out _ _ _ _ _ _ _ _ _ _ hs HX1.out)
             clear hg hs)
          | (go_at_call 11
             with_reducible refine HMM17.out.mono ?_
             rintro e w18 ⟨rfl, yxs1, yys1, hy, hs18⟩
             have HY1 := Lib.hid hy
             clear t0_ t1_ t2_ t3_ t4_ t5_ t6_ t7_ t8_ t9_ t10_ t11_ t12_
             obtain ⟨t0_, t1_, t2_, t3_, t4_, t5_, t6_, t7_, t8_, t9_, t10_, t11_, t12_⟩ := cq13 (hs18.tl.hd)
             have HS18 := Lib.hid hs18
             have HHM18 := Lib.hid (HHM.out _ _ _ _ _ _ _ (ON.rd (R := mkSn R) hs18.hd hy))
             clear hs18 hy)
          | (go_at_call 12
             with_reducible refine HHM18.out.mono ?_
             rintro e w19 ⟨rfl, hg⟩
             have HS19 := Lib.hid (HS18.out.grown hg)
             clear hg
             clear t0_ t1_ t2_ t3_ t4_ t5_ t6_ t7_ t8_ t9_ t10_ t11_ t12_))
        have HSH := Lib.hid (show Sep _ [ON (.slice a1 R.n.es.length s1) yxs1 (.slice b1 R.n.i.length t1) (mkSn R).n.i (.slice c1 R.n.o.length u1) (mkSn R).n.o (.slice d1 R.g.es.length v1) yys1 (.slice e1 R.g.i.length q1) (mkSn R).g.i (.slice f1 R.g.o.length r1) (mkSn R).g.o, BxA w9.heap.size #[.int .i64 R.p, .int .i64 R.k, .int .i64 R.l, .slice none 0 0, .int .i64 R.n.n, .slice a1 R.n.es.length s1, .slice b1 R.n.i.length t1, .slice c1 R.n.o.length u1, .slice none 0 0, .int .i64 R.g.n, .slice d1 R.g.es.length v1, .slice e1 R.g.i.length q1, .slice f1 R.g.o.length r1] 32, BxA nb0 #[.int .i64 R.p, .int .i64 R.k, .int .i64 R.l, .slice none 0 0, .int .i64 R.n.n, .slice a0 R.n.es.length s0, .slice b0 R.n.i.length t0, .slice c0 R.n.o.length u0, .slice none 0 0, .int .i64 R.g.n, .slice d0 R.g.es.length v0, .slice e0 R.g.i.length q0, .slice f0 R.g.o.length r0] 32, ON (.slice a0 R.n.es.length s0) xs0 (.slice b0 R.n.i.length t0) R.n.i (.slice c0 R.n.o.length u0) R.n.o (.slice d0 R.g.es.length v0) ys0 (.slice e0 R.g.i.length q0) R.g.i (.slice f0 R.g.o.length r0) R.g.o, BxA (w.heap.size + 1) #[.slice gb ny cb] 24, BxA w.heap.size #[.slice ga nx ca] 24, KeepA w] from Sep.cutA (X := [_, _]) (A := [_]) (Sep.cutA (X := [_, _]) (A := [_]) (HS19.out.dr)))
        have HKH := Lib.hid (show w.grownBy _ none from HSH.out.tl.tl.tl.tl.tl.tl.hd)
        clear HS14 HS14b HS16 HS18 HMG14 HEQ16 HMM17 HHM18 HMP15 HS6 HS10 HS12
        go_cut [21, 22] from 106 to 116 (fun v6 v7 wx => ∃ (nb : Nat) (a2 b2 c2 d2 e2 f2 : Option Addr) (s2 t2 u2 v2 q2 r2 : Nat) (xs2 ys2 : List XE), v6 = .pointer (some ⟨nb, 0, none⟩) ∧ v7 = .bool b ∧ (eds xs2 = R.n.es ∧ eds ys2 = R.g.es) ∧ Sep wx [BxA nb #[.int .i64 R.p, .int .i64 R.k, .int .i64 R.l, .slice none 0 0, .int .i64 R.n.n, .slice a2 R.n.es.length s2, .slice b2 R.n.i.length t2, .slice c2 R.n.o.length u2, .slice none 0 0, .int .i64 R.g.n, .slice d2 R.g.es.length v2, .slice e2 R.g.i.length q2, .slice f2 R.g.o.length r2] 32, ON (.slice a2 R.n.es.length s2) xs2 (.slice b2 R.n.i.length t2) R.n.i (.slice c2 R.n.o.length u2) R.n.o (.slice d2 R.g.es.length v2) ys2 (.slice e2 R.g.i.length q2) R.g.i (.slice f2 R.g.o.length r2) R.g.o, ON (.slice a1 R.n.es.length s1) yxs1 (.slice b1 R.n.i.length t1) (mkSn R).n.i (.slice c1 R.n.o.length u1) (mkSn R).n.o (.slice d1 R.g.es.length v1) yys1 (.slice e1 R.g.i.length q1) (mkSn R).g.i (.slice f1 R.g.o.length r1) (mkSn R).g.o, BxA w9.heap.size #[.int .i64 R.p, .int .i64 R.k, .int .i64 R.l, .slice none 0 0, .int .i64 R.n.n, .slice a1 R.n.es.length s1, .slice b1 R.n.i.length t1, .slice c1 R.n.o.length u1, .slice none 0 0, .int .i64 R.g.n, .slice d1 R.g.es.length v1, .slice e1 R.g.i.length q1, .slice f1 R.g.o.length r1] 32, BxA nb0 #[.int .i64 R.p, .int .i64 R.k, .int .i64 R.l, .slice none 0 0, .int .i64 R.n.n, .slice a0 R.n.es.length s0, .slice b0 R.n.i.length t0, .slice c0 R.n.o.length u0, .slice none 0 0, .int .i64 R.g.n, .slice d0 R.g.es.length v0, .slice e0 R.g.i.length q0, .slice f0 R.g.o.length r0] 32, ON (.slice a0 R.n.es.length s0) xs0 (.slice b0 R.n.i.length t0) R.n.i (.slice c0 R.n.o.length u0) R.n.o (.slice d0 R.g.es.length v0) ys0 (.slice e0 R.g.i.length q0) R.g.i (.slice f0 R.g.o.length r0) R.g.o, BxA (w.heap.size + 1) #[.slice gb ny cb] 24, BxA w.heap.size #[.slice ga nx ca] 24, KeepA w])
        case first =>
          have XH0 := Lib.hid (HBM.out _ _ HSH.out (by simp) (by simp))
          refine AnyL.start (fun W1 => W1.cell? ⟨w.heap.size, 0, none⟩ = some (.slice ga nx ca) ∧ W1.cell? ⟨w.heap.size + 1, 0, none⟩ = some (.slice gb ny cb)) (fun _ => True) 99 (by kernel_rfl) ?_
          refine AnyL.take (i := 0) (v := ?vx32) (by rfl) (by kernel_rfl) (by kernel_rfl) (by kernel_rfl) rfl (by exact fun _ _ _ h => h) (by rfl) ?hyx32 (by exact ⟨XH0.out, fun _ => trivial⟩) ?restx32
          case hyx32 => intro W hSW; (try dsimp only at hSW); first | (go_simp; done) | (go_simp; with_reducible rfl)
          try simp only [Act.put, List.setIfInBounds_toArray, List.set_cons_zero, List.set_cons_succ]
          refine AnyL.take (i := 1) (v := ?vx33) (by rfl) (by kernel_rfl) (by kernel_rfl) (by kernel_rfl) rfl (by exact fun _ _ _ h => h) (by rfl) ?hyx33 (by exact ⟨XH0.out, fun _ => trivial⟩) ?restx33
          case hyx33 => intro W hSW; (try dsimp only at hSW); first | (go_simp; done) | (go_simp; with_reducible rfl)
          try simp only [Act.put, List.setIfInBounds_toArray, List.set_cons_zero, List.set_cons_succ]
          refine AnyL.take (i := 2) (v := ?vx34) (by rfl) (by kernel_rfl) (by kernel_rfl) (by kernel_rfl) rfl (by exact fun _ _ _ h => h) (by rfl) ?hyx34 (by exact ⟨XH0.out, fun _ => trivial⟩) ?restx34
          case hyx34 => intro W hSW; (try dsimp only at hSW); first | (go_simp; done) | (go_simp; with_reducible rfl)
          try simp only [Act.put, List.setIfInBounds_toArray, List.set_cons_zero, List.set_cons_succ]
          refine AnyL.take (i := 3) (v := ?vx35) (by rfl) (by kernel_rfl) (by kernel_rfl) (by kernel_rfl) rfl (by exact fun _ _ _ h => h) (by rfl) ?hyx35 (by exact ⟨XH0.out, fun _ => trivial⟩) ?restx35
          case hyx35 => intro W hSW; (try dsimp only at hSW); first | (go_simp; done) | (go_simp; with_reducible rfl)
          try simp only [Act.put, List.setIfInBounds_toArray, List.set_cons_zero, List.set_cons_succ]
          refine AnyL.take (i := 5) (v := ?vx36) (by rfl) (by kernel_rfl) (by kernel_rfl) (by kernel_rfl) rfl (by exact fun _ _ _ h => h) (by rfl) ?hyx36 (by exact ⟨XH0.out, fun _ => trivial⟩) ?restx36
          case hyx36 => intro W hSW; (try dsimp only at hSW); first | (go_simp; done) | (go_simp; with_reducible rfl)
          try simp only [Act.put, List.setIfInBounds_toArray, List.set_cons_zero, List.set_cons_succ]
          refine AnyL.twoM (i := 4) (j := 11) (by kernel_rfl) (by rfl) (by rfl) (fun K hK => ?_) (fun K hK => ?_)
          · go_simp
            go_at_call 6
            with_reducible refine (HTX2.out _ HKH.out).mono ?_
            rintro e wdc ⟨aG, cG, rfl, hsg⟩
            have hs := HSH.out.graft1 hsg (fun _ h => h)
            have HSdc := Lib.hid hs
            have HKdc := Lib.hid (show w.grownBy _ none from hs.tl.tl.tl.tl.tl.tl.tl.hd)
            clear hsg hs
            refine hK.out _ _ (by exact HBM.out _ _ HSdc.out (by simp) (by simp)) (by exact fun _ => trivial) ?_
            clear hK K
            try simp only [Act.put, List.setIfInBounds_toArray, List.set_cons_zero, List.set_cons_succ]
            refine AnyL.twoM (i := 6) (j := 11) (by kernel_rfl) (by rfl) (by rfl) (fun K hK => ?_) (fun K hK => ?_)
            · go_simp
              go_at_call 6
              with_reducible refine (HTY2.out _ HKdc.out).mono ?_
              rintro e wdcc ⟨aH, cH, rfl, hsg⟩
              have hs := HSdc.out.graft1 hsg (fun _ h => h)
              have HSdcc := Lib.hid hs
              have HKdcc := Lib.hid (show w.grownBy _ none from hs.tl.tl.tl.tl.tl.tl.tl.tl.hd)
              clear hsg hs
              refine hK.out _ _ (by exact HBM.out _ _ HSdcc.out (by simp) (by simp)) (by exact fun _ => trivial) ?_
              clear hK K
              try simp only [Act.put, List.setIfInBounds_toArray, List.set_cons_zero, List.set_cons_succ]
              refine AnyL.twoM (i := 7) (j := 11) (by kernel_rfl) (by rfl) (by rfl) (fun K hK => ?_) (fun K hK => ?_)
              · go_simp
                have HCC := Lib.hid (HIM2.out _ HKdcc.out _ _ _ _ (rdo HSdcc.out.tl) (rdo HSdcc.out))
                go_at_call 7
                with_reducible refine HCC.out.mono ?_
                rintro e wdccc ⟨a2, b2, c2, d2, e2, f2, s2, t2, u2, v2, q2, r2, xs2, ys2, rfl, hxs, hsg⟩
                have HX2 := Lib.hid hxs
                have hs := Sep.cutA (X := [_]) (A := [_]) (Sep.cutA (X := [_, _]) (A := [_]) (HSdcc.out.graft1 hsg ON_own))
                have HSdccc := Lib.hid hs
                have HKdccc := Lib.hid (show w.grownBy _ none from hs.tl.tl.tl.tl.tl.tl.tl.hd)
                clear hsg hs hxs HCC
                refine hK.out _ _ (by exact HBM.out _ _ HSdccc.out (by simp) (by simp)) (by exact fun _ => trivial) ?_
                clear hK K
                try simp only [Act.put, List.setIfInBounds_toArray, List.set_cons_zero, List.set_cons_succ]
                refine AnyL.take (i := 8) (v := ?vx37) (by rfl) (by kernel_rfl) (by kernel_rfl) (by kernel_rfl) rfl (by exact fun _ _ _ h => h) (by rfl) ?hyx37 (by exact ⟨HBM.out _ _ HSdccc.out (by simp) (by simp), fun _ => trivial⟩) ?restx37
                case hyx37 => intro W hSW; (try dsimp only at hSW); first | (go_simp; done) | (go_simp; with_reducible rfl)
                try simp only [Act.put, List.setIfInBounds_toArray, List.set_cons_zero, List.set_cons_succ]
                refine AnyL.take (i := 9) (v := ?vx38) (by rfl) (by kernel_rfl) (by kernel_rfl) (by kernel_rfl) rfl (by exact fun _ _ _ h => h) (by rfl) ?hyx38 (by exact ⟨HBM.out _ _ HSdccc.out (by simp) (by simp), fun _ => trivial⟩) ?restx38
                case hyx38 => intro W hSW; (try dsimp only at hSW); first | (go_simp; done) | (go_simp; with_reducible rfl)
                try simp only [Act.put, List.setIfInBounds_toArray, List.set_cons_zero, List.set_cons_succ]
                refine AnyL.take (i := 10) (v := ?vx39) (by rfl) (by kernel_rfl) (by kernel_rfl) (by kernel_rfl) rfl (by exact fun _ _ _ h => h) (by rfl) ?hyx39 (by exact ⟨HBM.out _ _ HSdccc.out (by simp) (by simp), fun _ => trivial⟩) ?restx39
                case hyx39 => intro W hSW; (try dsimp only at hSW); first | (go_simp; done) | (go_simp; with_reducible rfl)
                try simp only [Act.put, List.setIfInBounds_toArray, List.set_cons_zero, List.set_cons_succ]
                refine AnyL.step (i := 11) (by kernel_rfl) (by rfl) (fun K hK => ?_)
                go_simp
                have HSdcccz := Lib.hid (HSdccc.out.boxAt (wdccc.heap.size) (by rfl) #[.int .i64 0, .int .i64 0, .int .i64 0, .slice none 0 0, .int .i64 0, .slice none 0 0, .slice none 0 0, .slice none 0 0, .slice none 0 0, .int .i64 0, .slice none 0 0, .slice none 0 0, .slice none 0 0] 32)
                refine hK.out _ (wdccc.alloc (.cells #[.int .i64 0, .int .i64 0, .int .i64 0, .slice none 0 0, .int .i64 0, .slice none 0 0, .slice none 0 0, .slice none 0 0, .slice none 0 0, .int .i64 0, .slice none 0 0, .slice none 0 0, .slice none 0 0] 32)) (by exact HBM.out _ _ HSdcccz.out (by simp) (by simp)) (by exact fun _ => trivial) ?_
                clear hK K
                try simp only [Act.put, List.setIfInBounds_toArray, List.set_cons_zero, List.set_cons_succ]
                generalize wdccc.alloc (.cells #[.int .i64 0, .int .i64 0, .int .i64 0, .slice none 0 0, .int .i64 0, .slice none 0 0, .slice none 0 0, .slice none 0 0, .slice none 0 0, .int .i64 0, .slice none 0 0, .slice none 0 0, .slice none 0 0] 32) = wdcccz at *
                generalize wdccc.heap.size = nb at *
                have HKdcccz := Lib.hid (show w.grownBy _ none from HSdcccz.out.tl.tl.tl.tl.tl.tl.tl.tl.hd)
                have h8 := HSdcccz.out
                obtain ⟨k0_, k1_, k2_, k3_, k4_, k5_, k6_, k7_, k8_, k9_, k10_, k11_, k12_⟩ := cq13 (h8.hd)
                obtain ⟨j0_, j1_, j2_, j3_, j4_, j5_, j6_, j7_, j8_, j9_, j10_, j11_, j12_⟩ := cf13 h8.hd
                have HZ9 := Lib.hid (((((((((((((h8.q13_0 (u := .int .i64 R.p)).q13_1 (u := .int .i64 R.k)).q13_2 (u := .int .i64 R.l)).q13_3 (u := .slice none 0 0)).q13_4 (u := .int .i64 R.n.n)).q13_5 (u := .slice a2 R.n.es.length s2)).q13_6 (u := .slice b2 R.n.i.length t2)).q13_7 (u := .slice c2 R.n.o.length u2)).q13_8 (u := .slice none 0 0)).q13_9 (u := .int .i64 R.g.n)).q13_10 (u := .slice d2 R.g.es.length v2)).q13_11 (u := .slice e2 R.g.i.length q2)).q13_12 (u := .slice f2 R.g.o.length r2))
                clear h8
                refine AnyL.step (i := 12) (by kernel_rfl) (by rfl) (fun K hK => ?_)
                go_simp
                refine hK.out _ (((((((((((((wdcccz.setCell ⟨nb, 0, none⟩ (.int .i64 R.p)).setCell ⟨nb, 1, none⟩ (.int .i64 R.k)).setCell ⟨nb, 2, none⟩ (.int .i64 R.l)).setCell ⟨nb, 3, none⟩ (.slice none 0 0)).setCell ⟨nb, 4, none⟩ (.int .i64 R.n.n)).setCell ⟨nb, 5, none⟩ (.slice a2 R.n.es.length s2)).setCell ⟨nb, 6, none⟩ (.slice b2 R.n.i.length t2)).setCell ⟨nb, 7, none⟩ (.slice c2 R.n.o.length u2)).setCell ⟨nb, 8, none⟩ (.slice none 0 0)).setCell ⟨nb, 9, none⟩ (.int .i64 R.g.n)).setCell ⟨nb, 10, none⟩ (.slice d2 R.g.es.length v2)).setCell ⟨nb, 11, none⟩ (.slice e2 R.g.i.length q2)).setCell ⟨nb, 12, none⟩ (.slice f2 R.g.o.length r2)) (by exact HBM.out _ _ HZ9.out (by simp) (by simp)) (by exact fun _ => trivial) ?_
                clear hK K
                try simp only [Act.put, List.setIfInBounds_toArray, List.set_cons_zero, List.set_cons_succ]
                refine AnyL.take (i := 13) (v := ?vx44) (by rfl) (by kernel_rfl) (by kernel_rfl) (by kernel_rfl) rfl (by exact fun _ _ _ h => h) (by rfl) ?hyx44 (by exact ⟨HBM.out _ _ HZ9.out (by simp) (by simp), fun _ => trivial⟩) ?restx44
                case hyx44 => intro W hSW; (try dsimp only at hSW); first | (go_simp; done) | (go_simp; with_reducible rfl)
                try simp only [Act.put, List.setIfInBounds_toArray, List.set_cons_zero, List.set_cons_succ]
                refine AnyL.done (by kernel_rfl) ?_ _
                clear k0_ k1_ k2_ k3_ k4_ k5_ k6_ k7_ k8_ k9_ k10_ k11_ k12_ j0_ j1_ j2_ j3_ j4_ j5_ j6_ j7_ j8_ j9_ j10_ j11_ j12_
                go_wp2_with fail
                go_meet
                exact ⟨nb, a2, b2, c2, d2, e2, f2, s2, t2, u2, v2, q2, r2, xs2, ys2, rfl, rfl, HX2.out, HZ9.out⟩
              · go_simp
                have HSdccz := Lib.hid (HSdcc.out.boxAt (wdcc.heap.size) (by rfl) #[.int .i64 0, .int .i64 0, .int .i64 0, .slice none 0 0, .int .i64 0, .slice none 0 0, .slice none 0 0, .slice none 0 0, .slice none 0 0, .int .i64 0, .slice none 0 0, .slice none 0 0, .slice none 0 0] 32)
                refine hK.out _ (wdcc.alloc (.cells #[.int .i64 0, .int .i64 0, .int .i64 0, .slice none 0 0, .int .i64 0, .slice none 0 0, .slice none 0 0, .slice none 0 0, .slice none 0 0, .int .i64 0, .slice none 0 0, .slice none 0 0, .slice none 0 0] 32)) (by exact HBM.out _ _ HSdccz.out (by simp) (by simp)) (by exact fun _ => trivial) ?_
                clear hK K
                try simp only [Act.put, List.setIfInBounds_toArray, List.set_cons_zero, List.set_cons_succ]
                generalize wdcc.alloc (.cells #[.int .i64 0, .int .i64 0, .int .i64 0, .slice none 0 0, .int .i64 0, .slice none 0 0, .slice none 0 0, .slice none 0 0, .slice none 0 0, .int .i64 0, .slice none 0 0, .slice none 0 0, .slice none 0 0] 32) = wdccz at *
                generalize wdcc.heap.size = nb at *
                have HKdccz := Lib.hid (show w.grownBy _ none from HSdccz.out.tl.tl.tl.tl.tl.tl.tl.tl.tl.hd)
                refine AnyL.step (i := 7) (by kernel_rfl) (by rfl) (fun K hK => ?_)
                go_simp
                have HCC := Lib.hid (HIM2.out _ HKdccz.out _ _ _ _ (rdo HSdccz.out.tl.tl) (rdo HSdccz.out.tl))
                go_at_call 7
                with_reducible refine HCC.out.mono ?_
                rintro e wdcczc ⟨a2, b2, c2, d2, e2, f2, s2, t2, u2, v2, q2, r2, xs2, ys2, rfl, hxs, hsg⟩
                have HX2 := Lib.hid hxs
                have hs := Sep.cutA (X := [_, _]) (A := [_]) (Sep.cutA (X := [_, _, _]) (A := [_]) (HSdccz.out.graft1 hsg ON_own))
                have HSdcczc := Lib.hid hs
                have HKdcczc := Lib.hid (show w.grownBy _ none from hs.tl.tl.tl.tl.tl.tl.tl.tl.hd)
                clear hsg hs hxs HCC
                refine hK.out _ _ (by exact HBM.out _ _ HSdcczc.out (by simp) (by simp)) (by exact fun _ => trivial) ?_
                clear hK K
                try simp only [Act.put, List.setIfInBounds_toArray, List.set_cons_zero, List.set_cons_succ]
                refine AnyL.take (i := 8) (v := ?vx45) (by rfl) (by kernel_rfl) (by kernel_rfl) (by kernel_rfl) rfl (by exact fun _ _ _ h => h) (by rfl) ?hyx45 (by exact ⟨HBM.out _ _ HSdcczc.out (by simp) (by simp), fun _ => trivial⟩) ?restx45
                case hyx45 => intro W hSW; (try dsimp only at hSW); first | (go_simp; done) | (go_simp; with_reducible rfl)
                try simp only [Act.put, List.setIfInBounds_toArray, List.set_cons_zero, List.set_cons_succ]
                refine AnyL.take (i := 9) (v := ?vx46) (by rfl) (by kernel_rfl) (by kernel_rfl) (by kernel_rfl) rfl (by exact fun _ _ _ h => h) (by rfl) ?hyx46 (by exact ⟨HBM.out _ _ HSdcczc.out (by simp) (by simp), fun _ => trivial⟩) ?restx46
                case hyx46 => intro W hSW; (try dsimp only at hSW); first | (go_simp; done) | (go_simp; with_reducible rfl)
                try simp only [Act.put, List.setIfInBounds_toArray, List.set_cons_zero, List.set_cons_succ]
                refine AnyL.take (i := 10) (v := ?vx47) (by rfl) (by kernel_rfl) (by kernel_rfl) (by kernel_rfl) rfl (by exact fun _ _ _ h => h) (by rfl) ?hyx47 (by exact ⟨HBM.out _ _ HSdcczc.out (by simp) (by simp), fun _ => trivial⟩) ?restx47
                case hyx47 => intro W hSW; (try dsimp only at hSW); first | (go_simp; done) | (go_simp; with_reducible rfl)
                try simp only [Act.put, List.setIfInBounds_toArray, List.set_cons_zero, List.set_cons_succ]
                have h8 := Sep.blk (A := [_]) (B := [_]) (HSdcczc.out)
                obtain ⟨k0_, k1_, k2_, k3_, k4_, k5_, k6_, k7_, k8_, k9_, k10_, k11_, k12_⟩ := cq13 (h8.hd)
                obtain ⟨j0_, j1_, j2_, j3_, j4_, j5_, j6_, j7_, j8_, j9_, j10_, j11_, j12_⟩ := cf13 h8.hd
                have HZ9 := Lib.hid (((((((((((((h8.q13_0 (u := .int .i64 R.p)).q13_1 (u := .int .i64 R.k)).q13_2 (u := .int .i64 R.l)).q13_3 (u := .slice none 0 0)).q13_4 (u := .int .i64 R.n.n)).q13_5 (u := .slice a2 R.n.es.length s2)).q13_6 (u := .slice b2 R.n.i.length t2)).q13_7 (u := .slice c2 R.n.o.length u2)).q13_8 (u := .slice none 0 0)).q13_9 (u := .int .i64 R.g.n)).q13_10 (u := .slice d2 R.g.es.length v2)).q13_11 (u := .slice e2 R.g.i.length q2)).q13_12 (u := .slice f2 R.g.o.length r2))
                clear h8
                refine AnyL.step (i := 12) (by kernel_rfl) (by rfl) (fun K hK => ?_)
                go_simp
                refine hK.out _ (((((((((((((wdcczc.setCell ⟨nb, 0, none⟩ (.int .i64 R.p)).setCell ⟨nb, 1, none⟩ (.int .i64 R.k)).setCell ⟨nb, 2, none⟩ (.int .i64 R.l)).setCell ⟨nb, 3, none⟩ (.slice none 0 0)).setCell ⟨nb, 4, none⟩ (.int .i64 R.n.n)).setCell ⟨nb, 5, none⟩ (.slice a2 R.n.es.length s2)).setCell ⟨nb, 6, none⟩ (.slice b2 R.n.i.length t2)).setCell ⟨nb, 7, none⟩ (.slice c2 R.n.o.length u2)).setCell ⟨nb, 8, none⟩ (.slice none 0 0)).setCell ⟨nb, 9, none⟩ (.int .i64 R.g.n)).setCell ⟨nb, 10, none⟩ (.slice d2 R.g.es.length v2)).setCell ⟨nb, 11, none⟩ (.slice e2 R.g.i.length q2)).setCell ⟨nb, 12, none⟩ (.slice f2 R.g.o.length r2)) (by exact HBM.out _ _ HZ9.out (by simp) (by simp)) (by exact fun _ => trivial) ?_
                clear hK K
                try simp only [Act.put, List.setIfInBounds_toArray, List.set_cons_zero, List.set_cons_succ]
                refine AnyL.take (i := 13) (v := ?vx48) (by rfl) (by kernel_rfl) (by kernel_rfl) (by kernel_rfl) rfl (by exact fun _ _ _ h => h) (by rfl) ?hyx48 (by exact ⟨HBM.out _ _ HZ9.out (by simp) (by simp), fun _ => trivial⟩) ?restx48
                case hyx48 => intro W hSW; (try dsimp only at hSW); first | (go_simp; done) | (go_simp; with_reducible rfl)
                try simp only [Act.put, List.setIfInBounds_toArray, List.set_cons_zero, List.set_cons_succ]
                refine AnyL.done (by kernel_rfl) ?_ _
                clear k0_ k1_ k2_ k3_ k4_ k5_ k6_ k7_ k8_ k9_ k10_ k11_ k12_ j0_ j1_ j2_ j3_ j4_ j5_ j6_ j7_ j8_ j9_ j10_ j11_ j12_
                go_wp2_with fail
                go_meet
                exact ⟨nb, a2, b2, c2, d2, e2, f2, s2, t2, u2, v2, q2, r2, xs2, ys2, rfl, rfl, HX2.out, HZ9.out⟩
            · go_simp
              have HSdcz := Lib.hid (HSdc.out.boxAt (wdc.heap.size) (by rfl) #[.int .i64 0, .int .i64 0, .int .i64 0, .slice none 0 0, .int .i64 0, .slice none 0 0, .slice none 0 0, .slice none 0 0, .slice none 0 0, .int .i64 0, .slice none 0 0, .slice none 0 0, .slice none 0 0] 32)
              refine hK.out _ (wdc.alloc (.cells #[.int .i64 0, .int .i64 0, .int .i64 0, .slice none 0 0, .int .i64 0, .slice none 0 0, .slice none 0 0, .slice none 0 0, .slice none 0 0, .int .i64 0, .slice none 0 0, .slice none 0 0, .slice none 0 0] 32)) (by exact HBM.out _ _ HSdcz.out (by simp) (by simp)) (by exact fun _ => trivial) ?_
              clear hK K
              try simp only [Act.put, List.setIfInBounds_toArray, List.set_cons_zero, List.set_cons_succ]
              generalize wdc.alloc (.cells #[.int .i64 0, .int .i64 0, .int .i64 0, .slice none 0 0, .int .i64 0, .slice none 0 0, .slice none 0 0, .slice none 0 0, .slice none 0 0, .int .i64 0, .slice none 0 0, .slice none 0 0, .slice none 0 0] 32) = wdcz at *
              generalize wdc.heap.size = nb at *
              have HKdcz := Lib.hid (show w.grownBy _ none from HSdcz.out.tl.tl.tl.tl.tl.tl.tl.tl.hd)
              refine AnyL.step (i := 6) (by kernel_rfl) (by rfl) (fun K hK => ?_)
              go_simp
              go_at_call 6
              with_reducible refine (HTY2.out _ HKdcz.out).mono ?_
              rintro e wdczc ⟨aH, cH, rfl, hsg⟩
              have hs := HSdcz.out.graft1 hsg (fun _ h => h)
              have HSdczc := Lib.hid hs
              have HKdczc := Lib.hid (show w.grownBy _ none from hs.tl.tl.tl.tl.tl.tl.tl.tl.tl.hd)
              clear hsg hs
              refine hK.out _ _ (by exact HBM.out _ _ HSdczc.out (by simp) (by simp)) (by exact fun _ => trivial) ?_
              clear hK K
              try simp only [Act.put, List.setIfInBounds_toArray, List.set_cons_zero, List.set_cons_succ]
              refine AnyL.step (i := 7) (by kernel_rfl) (by rfl) (fun K hK => ?_)
              go_simp
              have HCC := Lib.hid (HIM2.out _ HKdczc.out _ _ _ _ (rdo HSdczc.out.tl.tl) (rdo HSdczc.out))
              go_at_call 7
              with_reducible refine HCC.out.mono ?_
              rintro e wdczcc ⟨a2, b2, c2, d2, e2, f2, s2, t2, u2, v2, q2, r2, xs2, ys2, rfl, hxs, hsg⟩
              have HX2 := Lib.hid hxs
              have hs := Sep.cutA (X := [_]) (A := [_]) (Sep.cutA (X := [_, _, _]) (A := [_]) (HSdczc.out.graft1 hsg ON_own))
              have HSdczcc := Lib.hid hs
              have HKdczcc := Lib.hid (show w.grownBy _ none from hs.tl.tl.tl.tl.tl.tl.tl.tl.hd)
              clear hsg hs hxs HCC
              refine hK.out _ _ (by exact HBM.out _ _ HSdczcc.out (by simp) (by simp)) (by exact fun _ => trivial) ?_
              clear hK K
              try simp only [Act.put, List.setIfInBounds_toArray, List.set_cons_zero, List.set_cons_succ]
              refine AnyL.take (i := 8) (v := ?vx49) (by rfl) (by kernel_rfl) (by kernel_rfl) (by kernel_rfl) rfl (by exact fun _ _ _ h => h) (by rfl) ?hyx49 (by exact ⟨HBM.out _ _ HSdczcc.out (by simp) (by simp), fun _ => trivial⟩) ?restx49
              case hyx49 => intro W hSW; (try dsimp only at hSW); first | (go_simp; done) | (go_simp; with_reducible rfl)
              try simp only [Act.put, List.setIfInBounds_toArray, List.set_cons_zero, List.set_cons_succ]
              refine AnyL.take (i := 9) (v := ?vx50) (by rfl) (by kernel_rfl) (by kernel_rfl) (by kernel_rfl) rfl (by exact fun _ _ _ h => h) (by rfl) ?hyx50 (by exact ⟨HBM.out _ _ HSdczcc.out (by simp) (by simp), fun _ => trivial⟩) ?restx50
              case hyx50 => intro W hSW; (try dsimp only at hSW); first | (go_simp; done) | (go_simp; with_reducible rfl)
              try simp only [Act.put, List.setIfInBounds_toArray, List.set_cons_zero, List.set_cons_succ]
              refine AnyL.take (i := 10) (v := ?vx51) (by rfl) (by kernel_rfl) (by kernel_rfl) (by kernel_rfl) rfl (by exact fun _ _ _ h => h) (by rfl) ?hyx51 (by exact ⟨HBM.out _ _ HSdczcc.out (by simp) (by simp), fun _ => trivial⟩) ?restx51
              case hyx51 => intro W hSW; (try dsimp only at hSW); first | (go_simp; done) | (go_simp; with_reducible rfl)
              try simp only [Act.put, List.setIfInBounds_toArray, List.set_cons_zero, List.set_cons_succ]
              have h8 := Sep.blk (A := [_]) (B := [_]) (HSdczcc.out)
              obtain ⟨k0_, k1_, k2_, k3_, k4_, k5_, k6_, k7_, k8_, k9_, k10_, k11_, k12_⟩ := cq13 (h8.hd)
              obtain ⟨j0_, j1_, j2_, j3_, j4_, j5_, j6_, j7_, j8_, j9_, j10_, j11_, j12_⟩ := cf13 h8.hd
              have HZ9 := Lib.hid (((((((((((((h8.q13_0 (u := .int .i64 R.p)).q13_1 (u := .int .i64 R.k)).q13_2 (u := .int .i64 R.l)).q13_3 (u := .slice none 0 0)).q13_4 (u := .int .i64 R.n.n)).q13_5 (u := .slice a2 R.n.es.length s2)).q13_6 (u := .slice b2 R.n.i.length t2)).q13_7 (u := .slice c2 R.n.o.length u2)).q13_8 (u := .slice none 0 0)).q13_9 (u := .int .i64 R.g.n)).q13_10 (u := .slice d2 R.g.es.length v2)).q13_11 (u := .slice e2 R.g.i.length q2)).q13_12 (u := .slice f2 R.g.o.length r2))
              clear h8
              refine AnyL.step (i := 12) (by kernel_rfl) (by rfl) (fun K hK => ?_)
              go_simp
              refine hK.out _ (((((((((((((wdczcc.setCell ⟨nb, 0, none⟩ (.int .i64 R.p)).setCell ⟨nb, 1, none⟩ (.int .i64 R.k)).setCell ⟨nb, 2, none⟩ (.int .i64 R.l)).setCell ⟨nb, 3, none⟩ (.slice none 0 0)).setCell ⟨nb, 4, none⟩ (.int .i64 R.n.n)).setCell ⟨nb, 5, none⟩ (.slice a2 R.n.es.length s2)).setCell ⟨nb, 6, none⟩ (.slice b2 R.n.i.length t2)).setCell ⟨nb, 7, none⟩ (.slice c2 R.n.o.length u2)).setCell ⟨nb, 8, none⟩ (.slice none 0 0)).setCell ⟨nb, 9, none⟩ (.int .i64 R.g.n)).setCell ⟨nb, 10, none⟩ (.slice d2 R.g.es.length v2)).setCell ⟨nb, 11, none⟩ (.slice e2 R.g.i.length q2)).setCell ⟨nb, 12, none⟩ (.slice f2 R.g.o.length r2)) (by exact HBM.out _ _ HZ9.out (by simp) (by simp)) (by exact fun _ => trivial) ?_
              clear hK K
              try simp only [Act.put, List.setIfInBounds_toArray, List.set_cons_zero, List.set_cons_succ]
              refine AnyL.take (i := 13) (v := ?vx52) (by rfl) (by kernel_rfl) (by kernel_rfl) (by kernel_rfl) rfl (by exact fun _ _ _ h => h) (by rfl) ?hyx52 (by exact ⟨HBM.out _ _ HZ9.out (by simp) (by simp), fun _ => trivial⟩) ?restx52
              case hyx52 => intro W hSW; (try dsimp only at hSW); first | (go_simp; done) | (go_simp; with_reducible rfl)
              try simp only [Act.put, List.setIfInBounds_toArray, List.set_cons_zero, List.set_cons_succ]
              refine AnyL.done (by kernel_rfl) ?_ _
              clear k0_ k1_ k2_ k3_ k4_ k5_ k6_ k7_ k8_ k9_ k10_ k11_ k12_ j0_ j1_ j2_ j3_ j4_ j5_ j6_ j7_ j8_ j9_ j10_ j11_ j12_
              go_wp2_with fail
              go_meet
              exact ⟨nb, a2, b2, c2, d2, e2, f2, s2, t2, u2, v2, q2, r2, xs2, ys2, rfl, rfl, HX2.out, HZ9.out⟩
          · go_simp
            have HSdz := Lib.hid (HSH.out.boxAt (w19.heap.size) (by rfl) #[.int .i64 0, .int .i64 0, .int .i64 0, .slice none 0 0, .int .i64 0, .slice none 0 0, .slice none 0 0, .slice none 0 0, .slice none 0 0, .int .i64 0, .slice none 0 0, .slice none 0 0, .slice none 0 0] 32)
            refine hK.out _ (w19.drew.alloc (.cells #[.int .i64 0, .int .i64 0, .int .i64 0, .slice none 0 0, .int .i64 0, .slice none 0 0, .slice none 0 0, .slice none 0 0, .slice none 0 0, .int .i64 0, .slice none 0 0, .slice none 0 0, .slice none 0 0] 32)) (by exact HBM.out _ _ HSdz.out (by simp) (by simp)) (by exact fun _ => trivial) ?_
            clear hK K
            try simp only [Act.put, List.setIfInBounds_toArray, List.set_cons_zero, List.set_cons_succ]
            generalize w19.drew.alloc (.cells #[.int .i64 0, .int .i64 0, .int .i64 0, .slice none 0 0, .int .i64 0, .slice none 0 0, .slice none 0 0, .slice none 0 0, .slice none 0 0, .int .i64 0, .slice none 0 0, .slice none 0 0, .slice none 0 0] 32) = wdz at *
            generalize w19.heap.size = nb at *
            have HKdz := Lib.hid (show w.grownBy _ none from HSdz.out.tl.tl.tl.tl.tl.tl.tl.hd)
            refine AnyL.step (i := 4) (by kernel_rfl) (by rfl) (fun K hK => ?_)
            go_simp
            go_at_call 6
            with_reducible refine (HTX2.out _ HKdz.out).mono ?_
            rintro e wdzc ⟨aG, cG, rfl, hsg⟩
            have hs := HSdz.out.graft1 hsg (fun _ h => h)
            have HSdzc := Lib.hid hs
            have HKdzc := Lib.hid (show w.grownBy _ none from hs.tl.tl.tl.tl.tl.tl.tl.tl.hd)
            clear hsg hs
            refine hK.out _ _ (by exact HBM.out _ _ HSdzc.out (by simp) (by simp)) (by exact fun _ => trivial) ?_
            clear hK K
            try simp only [Act.put, List.setIfInBounds_toArray, List.set_cons_zero, List.set_cons_succ]
            refine AnyL.step (i := 6) (by kernel_rfl) (by rfl) (fun K hK => ?_)
            go_simp
            go_at_call 6
            with_reducible refine (HTY2.out _ HKdzc.out).mono ?_
            rintro e wdzcc ⟨aH, cH, rfl, hsg⟩
            have hs := HSdzc.out.graft1 hsg (fun _ h => h)
            have HSdzcc := Lib.hid hs
            have HKdzcc := Lib.hid (show w.grownBy _ none from hs.tl.tl.tl.tl.tl.tl.tl.tl.tl.hd)
            clear hsg hs
            refine hK.out _ _ (by exact HBM.out _ _ HSdzcc.out (by simp) (by simp)) (by exact fun _ => trivial) ?_
            clear hK K
            try simp only [Act.put, List.setIfInBounds_toArray, List.set_cons_zero, List.set_cons_succ]
            refine AnyL.step (i := 7) (by kernel_rfl) (by rfl) (fun K hK => ?_)
            go_simp
            have HCC := Lib.hid (HIM2.out _ HKdzcc.out _ _ _ _ (rdo HSdzcc.out.tl) (rdo HSdzcc.out))
            go_at_call 7
            with_reducible refine HCC.out.mono ?_
            rintro e wdzccc ⟨a2, b2, c2, d2, e2, f2, s2, t2, u2, v2, q2, r2, xs2, ys2, rfl, hxs, hsg⟩
            have HX2 := Lib.hid hxs
            have hs := Sep.cutA (X := [_]) (A := [_]) (Sep.cutA (X := [_, _]) (A := [_]) (HSdzcc.out.graft1 hsg ON_own))
            have HSdzccc := Lib.hid hs
            have HKdzccc := Lib.hid (show w.grownBy _ none from hs.tl.tl.tl.tl.tl.tl.tl.tl.hd)
            clear hsg hs hxs HCC
            refine hK.out _ _ (by exact HBM.out _ _ HSdzccc.out (by simp) (by simp)) (by exact fun _ => trivial) ?_
            clear hK K
            try simp only [Act.put, List.setIfInBounds_toArray, List.set_cons_zero, List.set_cons_succ]
            refine AnyL.take (i := 8) (v := ?vx53) (by rfl) (by kernel_rfl) (by kernel_rfl) (by kernel_rfl) rfl (by exact fun _ _ _ h => h) (by rfl) ?hyx53 (by exact ⟨HBM.out _ _ HSdzccc.out (by simp) (by simp), fun _ => trivial⟩) ?restx53
            case hyx53 => intro W hSW; (try dsimp only at hSW); first | (go_simp; done) | (go_simp; with_reducible rfl)
            try simp only [Act.put, List.setIfInBounds_toArray, List.set_cons_zero, List.set_cons_succ]
            refine AnyL.take (i := 9) (v := ?vx54) (by rfl) (by kernel_rfl) (by kernel_rfl) (by kernel_rfl) rfl (by exact fun _ _ _ h => h) (by rfl) ?hyx54 (by exact ⟨HBM.out _ _ HSdzccc.out (by simp) (by simp), fun _ => trivial⟩) ?restx54
            case hyx54 => intro W hSW; (try dsimp only at hSW); first | (go_simp; done) | (go_simp; with_reducible rfl)
            try simp only [Act.put, List.setIfInBounds_toArray, List.set_cons_zero, List.set_cons_succ]
            refine AnyL.take (i := 10) (v := ?vx55) (by rfl) (by kernel_rfl) (by kernel_rfl) (by kernel_rfl) rfl (by exact fun _ _ _ h => h) (by rfl) ?hyx55 (by exact ⟨HBM.out _ _ HSdzccc.out (by simp) (by simp), fun _ => trivial⟩) ?restx55
            case hyx55 => intro W hSW; (try dsimp only at hSW); first | (go_simp; done) | (go_simp; with_reducible rfl)
            try simp only [Act.put, List.setIfInBounds_toArray, List.set_cons_zero, List.set_cons_succ]
            have h8 := Sep.blk (A := [_]) (B := [_]) (HSdzccc.out)
            obtain ⟨k0_, k1_, k2_, k3_, k4_, k5_, k6_, k7_, k8_, k9_, k10_, k11_, k12_⟩ := cq13 (h8.hd)
            obtain ⟨j0_, j1_, j2_, j3_, j4_, j5_, j6_, j7_, j8_, j9_, j10_, j11_, j12_⟩ := cf13 h8.hd
            have HZ9 := Lib.hid (((((((((((((h8.q13_0 (u := .int .i64 R.p)).q13_1 (u := .int .i64 R.k)).q13_2 (u := .int .i64 R.l)).q13_3 (u := .slice none 0 0)).q13_4 (u := .int .i64 R.n.n)).q13_5 (u := .slice a2 R.n.es.length s2)).q13_6 (u := .slice b2 R.n.i.length t2)).q13_7 (u := .slice c2 R.n.o.length u2)).q13_8 (u := .slice none 0 0)).q13_9 (u := .int .i64 R.g.n)).q13_10 (u := .slice d2 R.g.es.length v2)).q13_11 (u := .slice e2 R.g.i.length q2)).q13_12 (u := .slice f2 R.g.o.length r2))
            clear h8
            refine AnyL.step (i := 12) (by kernel_rfl) (by rfl) (fun K hK => ?_)
            go_simp
            refine hK.out _ (((((((((((((wdzccc.setCell ⟨nb, 0, none⟩ (.int .i64 R.p)).setCell ⟨nb, 1, none⟩ (.int .i64 R.k)).setCell ⟨nb, 2, none⟩ (.int .i64 R.l)).setCell ⟨nb, 3, none⟩ (.slice none 0 0)).setCell ⟨nb, 4, none⟩ (.int .i64 R.n.n)).setCell ⟨nb, 5, none⟩ (.slice a2 R.n.es.length s2)).setCell ⟨nb, 6, none⟩ (.slice b2 R.n.i.length t2)).setCell ⟨nb, 7, none⟩ (.slice c2 R.n.o.length u2)).setCell ⟨nb, 8, none⟩ (.slice none 0 0)).setCell ⟨nb, 9, none⟩ (.int .i64 R.g.n)).setCell ⟨nb, 10, none⟩ (.slice d2 R.g.es.length v2)).setCell ⟨nb, 11, none⟩ (.slice e2 R.g.i.length q2)).setCell ⟨nb, 12, none⟩ (.slice f2 R.g.o.length r2)) (by exact HBM.out _ _ HZ9.out (by simp) (by simp)) (by exact fun _ => trivial) ?_
            clear hK K
            try simp only [Act.put, List.setIfInBounds_toArray, List.set_cons_zero, List.set_cons_succ]
            refine AnyL.take (i := 13) (v := ?vx56) (by rfl) (by kernel_rfl) (by kernel_rfl) (by kernel_rfl) rfl (by exact fun _ _ _ h => h) (by rfl) ?hyx56 (by exact ⟨HBM.out _ _ HZ9.out (by simp) (by simp), fun _ => trivial⟩) ?restx56
            case hyx56 => intro W hSW; (try dsimp only at hSW); first | (go_simp; done) | (go_simp; with_reducible rfl)
            try simp only [Act.put, List.setIfInBounds_toArray, List.set_cons_zero, List.set_cons_succ]
            refine AnyL.done (by kernel_rfl) ?_ _
            clear k0_ k1_ k2_ k3_ k4_ k5_ k6_ k7_ k8_ k9_ k10_ k11_ k12_ j0_ j1_ j2_ j3_ j4_ j5_ j6_ j7_ j8_ j9_ j10_ j11_ j12_
            go_wp2_with fail
            go_meet
            exact ⟨nb, a2, b2, c2, d2, e2, f2, s2, t2, u2, v2, q2, r2, xs2, ys2, rfl, rfl, HX2.out, HZ9.out⟩
        case rest =>
          obtain ⟨nb2, a2, b2, c2, d2, e2, f2, s2, t2, u2, v2, q2, r2, xs2, ys2, rfl, rfl, hx2, hs22⟩ := hcut
          obtain ⟨t0_, t1_, t2_, t3_, t4_, t5_, t6_, t7_, t8_, t9_, t10_, t11_, t12_⟩ := cq13 (hs22.hd)
          obtain ⟨v0_, v1_, v2_, v3_, v4_, v5_, v6_, v7_, v8_, v9_, v10_, v11_, v12_⟩ := cq13 (hs22.tl.tl.tl.tl.hd)
          have HS22 := Lib.hid hs22
          have HEQ22 := Lib.hid (HEQ.out _ _ _ _ _ _ _ _ _ _ _ _ _ (ON.rd hs22.tl.hd hx2) (ON.rd hs22.tl.tl.tl.tl.tl.hd HX0.out))
          clear hs22 HSH HKH hx2
          go_wp2_with (first
            | (go_at_call 8
               with_reducible refine HEQ22.out.mono ?_
               rintro e w23 ⟨rfl, hg⟩
               have hs := HS22.out.grown hg
               clear t0_ t1_ t2_ t3_ t4_ t5_ t6_ t7_ t8_ t9_ t10_ t11_ t12_ v0_ v1_ v2_ v3_ v4_ v5_ v6_ v7_ v8_ v9_ v10_ v11_ v12_
               obtain ⟨t0_, t1_, t2_, t3_, t4_, t5_, t6_, t7_, t8_, t9_, t10_, t11_, t12_⟩ := cq13 (hs.tl.tl.tl.hd)
               have HHM23 := Lib.hid (HHM.out _ _ _ _ _ _ _ (ON.rd (R := mkSn R) hs.tl.tl.hd HY1.out))
               have HK23 := Lib.hid (show w.grownBy w23 none from hs.tl.tl.tl.tl.tl.tl.tl.tl.hd)
               clear hg hs)
            | (go_at_call 12
               with_reducible refine HHM23.out.mono ?_
               rintro e w24 ⟨rfl, hg⟩
               have HK24 := Lib.hid (grownBy_trans HK23.out hg)
               clear hg))
          go_ret
          exact ⟨rfl, HK24.out⟩
end Go.Proofs.YtjagjhchnpmngaaGreatDoor

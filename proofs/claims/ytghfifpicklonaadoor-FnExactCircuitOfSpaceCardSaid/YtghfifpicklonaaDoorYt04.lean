/-
  The circuit of a state space, in the second writing. Conditions: the state space is valid.
-/
import Derived.Test.YtghfifpicklonaaDoorYt03
import Derived.Test.YtghfifpicklonaaDoorBc08
import Derived.Test.YtghfifpicklonaaDoorBc02
namespace Go.Proofs.YtghfifpicklonaaDoor
open Go.RowKit
set_option linter.unusedVariables false
set_option maxRecDepth 100000

section
variable {P : Program} {ops : Array Oper} {Q : Exit → Act → World → Prop} {md : Region.Mode} {Se Sa : World → Prop} {ap : Nat}
/-- Two operations may come up now: each is carried out. -/
theorem AnyL.two {i j : Nat} {oi oj : Oper} {fuel : Nat} {listed : Array Bool} {a : Act} {w : World} {r r' : List Oper} (hr : Region.ready md ops listed = [i, j]) (hi' : ops.toList.drop i = oi :: r) (hj' : ops.toList.drop j = oj :: r')
    (h1 : ∀ K' : Act → World → Prop, Shut (∀ a' w', Se w' → ((listed.setIfInBounds i true).getD ap true = false → Sa w') → AnyL P md ops Q Se Sa ap fuel (listed.setIfInBounds i true) a' w' → K' a' w') → if Region.wanted oi (yielded ops a.tmps) = true then Oper.wp P oi a w K' Q else K' (a.put oi.dst undef) w)
    (h2 : ∀ K' : Act → World → Prop, Shut (∀ a' w', Se w' → ((listed.setIfInBounds j true).getD ap true = false → Sa w') → AnyL P md ops Q Se Sa ap fuel (listed.setIfInBounds j true) a' w' → K' a' w') → if Region.wanted oj (yielded ops a.tmps) = true then Oper.wp P oj a w K' Q else K' (a.put oj.dst undef) w) :
    AnyL P md ops Q Se Sa ap (fuel + 1) listed a w := by
  refine ⟨fun h0 => (by rw [hr] at h0; cases h0), fun k hk => ?_⟩
  rw [hr] at hk
  simp only [List.mem_cons, List.not_mem_nil, or_false] at hk
  rcases hk with rfl | rfl
  · exact wpOp_step (op_at hi') fun K' hK => h1 K' fun a w h1 h2 h3 => hK a w ⟨⟨h1, h2⟩, h3⟩
  · exact wpOp_step (op_at hj') fun K' hK => h2 K' fun a w h1 h2 h3 => hK a w ⟨⟨h1, h2⟩, h3⟩
end
set_option maxHeartbeats 8000000 in
theorem rzCircuit_any (s : StSp) (nS nI nO : Nat) (av bv cv dv : Value) (w : World) (h : RdSs w s av bv cv dv) (hk : SsOk s nS nI nO) :
    Calls Tryd.prog 31 #[.agg #[.int .i64 s.S, .int .i64 s.I, .int .i64 s.O, av, bv, cv, dv]] w (CirS (nI : Int) (CL nS nI s nO).1 (CL nS nI s nO).2 w) := by
  obtain ⟨sa, ta, rfl⟩ := h.a.shape
  obtain ⟨sb, tb, rfl⟩ := h.b.shape
  obtain ⟨sc, tc, rfl⟩ := h.c.shape
  obtain ⟨sd, td, rfl⟩ := h.d.shape
  have hls := hk.ls; have hli := hk.li; have hlo := hk.lo
  have HAL := Lib.hid fun j => AL_len (s := s) hls hli j
  have HCL := Lib.hid fun j => CL_len (s := s) hls hli j
  have HF1 := Lib.hid fun (j : Nat) (hj : j < nS) W (hw : w.grownBy W none) => coefs_any _ _ s.A s.B j W (h.a.carry hw) (h.b.carry hw) (by rw [hk.la]; omega) (by rw [hk.lb]; omega) (fun r hr => by rw [hk.ra r hr]; exact hj) (fun r hr => by rw [hk.rb r hr]; exact hj)
  have HF2 := Lib.hid fun (j : Nat) (hj : j < nO) W (hw : w.grownBy W none) => coefs_any _ _ s.C s.D j W (h.c.carry hw) (h.d.carry hw) (by rw [hk.lc]; omega) (by rw [hk.ld]; omega) (fun r hr => by rw [hk.rc r hr]; exact hj) (fun r hr => by rw [hk.rd r hr]; exact hj)
  have HO1 := Lib.hid fun (gv csv : Value) (oa : Option Addr) (on oc : Nat) (G : List Gt) (j : Nat) W l (hG : G.length ≤ 500000) (h : Sep W (OR gateE gv G :: OI csv (colL s.B j ++ colL s.A j) :: l)) => show Calls Tryd.prog 71 #[.agg #[.int .i64 nI, gv, .slice oa on oc], csv, .int .i64 nI] W (OrdR (nI : Int) (.slice oa on oc) (sumG G (prsL nS nI s.A s.B j)) (OI csv (colL s.B j ++ colL s.A j) :: l)) from by
    have hcl : (colL s.B j ++ colL s.A j).length = nI + nS := by rw [List.length_append, colL_len, colL_len, hk.lb, hk.la]
    have ho := ordered_any (nI : Int) gv csv oa on oc G _ nI W l hG (by rw [hcl]; omega) (by omega) h
    rw [hcl, ordP_eq j hk.la hk.lb] at ho
    exact ho
  have HO2 := Lib.hid fun (gv csv : Value) (oa : Option Addr) (on oc : Nat) (G : List Gt) (j : Nat) W l (hG : G.length ≤ 500000) (h : Sep W (OR gateE gv G :: OI csv (colL s.D j ++ colL s.C j) :: l)) => show Calls Tryd.prog 71 #[.agg #[.int .i64 nI, gv, .slice oa on oc], csv, .int .i64 nI] W (OrdR (nI : Int) (.slice oa on oc) (sumG G (prsL nS nI s.C s.D j)) (OI csv (colL s.D j ++ colL s.C j) :: l)) from by
    have hcl : (colL s.D j ++ colL s.C j).length = nI + nS := by rw [List.length_append, colL_len, colL_len, hk.ld, hk.lc]
    have ho := ordered_any (nI : Int) gv csv oa on oc G _ nI W l hG (by rw [hcl]; omega) (by omega) h
    rw [hcl, ordP_eq j hk.lc hk.ld] at ho
    exact ho
  rw [hk.es, hk.ei, hk.eo, hk.la, hk.lb, hk.lc, hk.ld]
  rw [hk.la, hk.lb] at HF1
  rw [hk.lc, hk.ld] at HF2
  have hs0 := (((Sep.start w).boxAt w.heap.size rfl #[.int .i64 nS, .int .i64 nI, .int .i64 nO, .slice sa nS ta, .slice sb nI tb, .slice sc nS tc, .slice sd nI td] 32).boxAt (w.heap.size + 1) (by simp) #[.int .i64 0, .slice none 0 0, .slice none 0 0] 29)
  obtain ⟨y0, y1, y2, y3, y4, y5, y6⟩ := bq7 hs0.tl.hd
  have HS0 := Lib.hid (Sep.blk (A := [_]) (B := [_]) (Sep.nilR gateE (hs0.boxAt (w.heap.size + 1 + 1) (by simp) #[.int .i64 nI, .slice none 0 0, .slice none 0 0] 29)))
  clear h hs0
  go_enter Tryd.func31, Tryd.ntmps31
  go_wp2_with fail
  clear y0 y1 y2 y3 y4 y5 y6
  go_loopw [4] (fun i wr => ∃ (k : Nat) (gv : Value), k ≤ nI ∧ i = .int .i64 k ∧ Sep wr [BxA (w.heap.size + 1 + 1) #[.int .i64 nI, gv, .slice none 0 0] 29, OR gateE gv (inG k), BxA (w.heap.size + 1) #[.int .i64 0, .slice none 0 0, .slice none 0 0] 29, BxA w.heap.size #[.int .i64 nS, .int .i64 nI, .int .i64 nO, .slice sa nS ta, .slice sb nI tb, .slice sc nS tc, .slice sd nI td] 32, KeepA w]) (fun i _ => nI - (intOf i).toNat)
  case atStart => exact ⟨0, .slice none 0 0, by omega, rfl, HS0.out⟩
  case round =>
    obtain ⟨k, gv, hbk, rfl, hs⟩ := hrel
    obtain ⟨ga, gc, rfl⟩ := OwnR.shape (show OwnR gateE 0 wr gv _ from hs.tl.hd)
    clear HS0
    have HSR := Lib.hid hs
    clear hs
    obtain ⟨m0, m1, m2, _⟩ := bx3 HSR.out.hd
    obtain ⟨y0, y1, y2, y3, y4, y5, y6⟩ := bq7 HSR.out.tl.tl.tl.hd
    by_cases hlt : k < nI
    · have hki : (k : Int) < (nI : Int) := by omega
      have hlb : (inG k).length ≤ 10000000 := by rw [inG_len]; omega
      obtain ⟨GG, hGG⟩ : ∃ GG, inG k = GG := ⟨_, rfl⟩
      rw [hGG] at HSR m1 hlb
      have HGG := Lib.hid hGG
      have HLB := Lib.hid hlb
      clear hGG hlb
      go_wp2_with (
        at_builtin
        go_loud (
          refine app_R (E := gateE) (y := ⟨1, 0, 0, (k : Int)⟩) info_gate rfl (by decide) Tryd.underlying26 (gate_one ⟨1, 0, 0, (k : Int)⟩) rfl (.tmp 22) (.tmp 25) rfl rfl rfl rfl (Sep.blk (A := [_]) (B := [_]) HSR.out) HLB.out ?_
          intro g5 c5 w3 h5
          have H5 := Lib.hid (Sep.blk (A := [_]) (B := [_]) h5)
          obtain ⟨_, _, _, _, z5, _⟩ := bx3 H5.out.hd
          have H6 := Lib.hid (H5.out.setB 1 (.slice (some ⟨g5, 0, none⟩) ((GG).length + 1) c5))
          clear h5 y0 y1 y2 y3 y4 y5 y6 m0 m1 m2))
      go_roundw
      case rel => exact ⟨k + 1, _, by omega, by go_num, by rw [inG_succ, HGG.out]; exact H6.out⟩
      case measure => simp [intOf]; omega
    · have hkm : nI = k := by omega
      subst hkm
      have hki : ¬ (nI : Int) < (nI : Int) := by omega
      go_wp2_with fail
      clear y0 y1 y2 y3 y4 y5 y6 m0 m1 m2
      go_loopw [5] (fun i wr => ∃ (t : Nat) (gv : Value), t ≤ nS ∧ i = .int .i64 t ∧ Sep wr [BxA (w.heap.size + 1 + 1) #[.int .i64 nI, gv, .slice none 0 0] 29, OR gateE gv (inG nI ++ List.replicate t dlG), BxA (w.heap.size + 1) #[.int .i64 0, .slice none 0 0, .slice none 0 0] 29, BxA w.heap.size #[.int .i64 nS, .int .i64 nI, .int .i64 nO, .slice sa nS ta, .slice sb nI tb, .slice sc nS tc, .slice sd nI td] 32, KeepA w]) (fun i _ => nS - (intOf i).toNat)
      case atStart => exact ⟨0, _, by omega, rfl, by rw [List.replicate_zero, List.append_nil]; exact HSR.out⟩
      case round =>
        obtain ⟨t, gv, hbt, rfl, hs⟩ := hrel
        obtain ⟨ga, gc, rfl⟩ := OwnR.shape (show OwnR gateE 0 wr gv _ from hs.tl.hd)
        clear HSR
        have HSR := Lib.hid hs
        clear hs
        obtain ⟨m0, m1, m2, _⟩ := bx3 HSR.out.hd
        obtain ⟨y0, y1, y2, y3, y4, y5, y6⟩ := bq7 HSR.out.tl.tl.tl.hd
        by_cases hlt : t < nS
        · have hki : (t : Int) < (nS : Int) := by omega
          have hlb : (inG nI ++ List.replicate t dlG).length ≤ 10000000 := by rw [List.length_append, inG_len, List.length_replicate]; omega
          obtain ⟨GG, hGG⟩ : ∃ GG, inG nI ++ List.replicate t dlG = GG := ⟨_, rfl⟩
          rw [hGG] at HSR m1 hlb
          have HGG := Lib.hid hGG
          have HLB := Lib.hid hlb
          clear hGG hlb
          go_wp2_with (
            at_builtin
            go_loud (
              refine app_R (E := gateE) (y := dlG) info_gate rfl (by decide) Tryd.underlying26 (gate_one dlG) rfl (.tmp 35) (.tmp 37) rfl rfl rfl rfl (Sep.blk (A := [_]) (B := [_]) HSR.out) HLB.out ?_
              intro g5 c5 w3 h5
              have H5 := Lib.hid (Sep.blk (A := [_]) (B := [_]) h5)
              obtain ⟨_, _, _, _, z5, _⟩ := bx3 H5.out.hd
              have H6 := Lib.hid (H5.out.setB 1 (.slice (some ⟨g5, 0, none⟩) ((GG).length + 1) c5))
              clear h5 y0 y1 y2 y3 y4 y5 y6 m0 m1 m2))
          go_roundw
          case rel => exact ⟨t + 1, _, by omega, by go_num, by rw [List.replicate_succ', ← List.append_assoc, HGG.out]; exact H6.out⟩
          case measure => simp [intOf]; omega
        · have htm : nS = t := by omega
          subst htm
          have hki : ¬ (nS : Int) < (nS : Int) := by omega
          go_wp2_with fail
          clear y0 y1 y2 y3 y4 y5 y6 m0 m1 m2
          go_loopw [6, 7, 8] (fun i _ _ wr => ∃ (j : Nat) (gv : Value), j ≤ nS ∧ i = .int .i64 j ∧ Sep wr [BxA (w.heap.size + 1 + 1) #[.int .i64 nI, gv, .slice none 0 0] 29, OR gateE gv (AL nS nI s j), BxA (w.heap.size + 1) #[.int .i64 0, .slice none 0 0, .slice none 0 0] 29, BxA w.heap.size #[.int .i64 nS, .int .i64 nI, .int .i64 nO, .slice sa nS ta, .slice sb nI tb, .slice sc nS tc, .slice sd nI td] 32, KeepA w]) (fun i _ _ _ => nS - (intOf i).toNat)
          case atStart => exact ⟨0, _, by omega, rfl, HSR.out⟩
          case round =>
            obtain ⟨j, gv, hbj, rfl, hs⟩ := hrel
            obtain ⟨ga, gc, rfl⟩ := OwnR.shape (show OwnR gateE 0 wr gv _ from hs.tl.hd)
            clear HSR
            have HSR := Lib.hid hs
            clear hs
            obtain ⟨m0, m1, m2, _⟩ := bx3 HSR.out.hd
            obtain ⟨y0, y1, y2, y3, y4, y5, y6⟩ := bq7 HSR.out.tl.tl.tl.hd
            by_cases hlt : j < nS
            · have HLT := Lib.hid hlt
              have hki : (j : Int) < (nS : Int) := by omega
              have HSC := Lib.hid (show AL nS nI s (j + 1) = setA (sumG (AL nS nI s j) (prsL nS nI s.A s.B j)).1 (nI + j) (sumG (AL nS nI s j) (prsL nS nI s.A s.B j)).2 from rfl)
              have HLN := Lib.hid (show nI + nS ≤ (sumG (AL nS nI s j) (prsL nS nI s.A s.B j)).1.length from by have h1 := (HAL.out j).2; have h2 := (sumG_len (AL nS nI s j) (prsL nS nI s.A s.B j)).2; omega)
              have HOR := Lib.hid fun gv csv W l (h : Sep W (OR gateE gv (AL nS nI s j) :: OI csv (colL s.B j ++ colL s.A j) :: l)) => HO1.out gv csv none 0 0 (AL nS nI s j) j W l (by have := (HAL.out j).1; omega) h
              generalize sumG (AL nS nI s j) (prsL nS nI s.A s.B j) = r at *
              obtain ⟨r1, r2⟩ := r
              simp only at HLN HSC
              go_upto_region 13 with fail
              clear y0 y1 y2 y3 y4 y5 y6 m0 m1 m2
              have HBM := Lib.hid fun (W1 : World) (L : List Asrt) (h : Sep W1 L) (h1 : BxA (w.heap.size + 1 + 1) #[.int .i64 nI, (.slice ga (AL nS nI s j).length gc), .slice none 0 0] 29 ∈ L) (h2 : BxA w.heap.size #[.int .i64 nS, .int .i64 nI, .int .i64 nO, .slice sa nS ta, .slice sb nI tb, .slice sc nS tc, .slice sd nI td] 32 ∈ L) => show (W1.cell? ⟨w.heap.size + 1 + 1, 0, none⟩ = some (.int .i64 nI) ∧ W1.cell? ⟨w.heap.size + 1 + 1, 1, none⟩ = some (.slice ga (AL nS nI s j).length gc) ∧ W1.cell? ⟨w.heap.size + 1 + 1, 2, none⟩ = some (.slice none 0 0)) ∧ (W1.cell? ⟨w.heap.size, 1, none⟩ = some (.int .i64 nI) ∧ W1.cell? ⟨w.heap.size, 3, none⟩ = some (.slice sa nS ta) ∧ W1.cell? ⟨w.heap.size, 4, none⟩ = some (.slice sb nI tb)) from
                have q := bx3 (show W1.heap[w.heap.size + 1 + 1]? = some (.cells #[.int .i64 nI, .slice ga (AL nS nI s j).length gc, .slice none 0 0] 29 (0, 0)) from Sep.all h _ h1)
                have q2 := bq7 (show W1.heap[w.heap.size]? = some (.cells #[.int .i64 nS, .int .i64 nI, .int .i64 nO, .slice sa nS ta, .slice sb nI tb, .slice sc nS tc, .slice sd nI td] 32 (0, 0)) from Sep.all h _ h2)
                ⟨⟨q.1, q.2.1, q.2.2.1⟩, q2.2.1, q2.2.2.2.1, q2.2.2.2.2.1⟩
              have HSA := Lib.hid HSR.out.dr
              go_cut [7, 8] from 46 to 58 (fun v7 v8 wx => ∃ (nb : Nat) (g2a : Option Addr) (g2c : Nat), v7 = .pointer (some ⟨nb, 0, none⟩) ∧ v8 = .int .i64 r2 ∧ Sep wx [BxA nb #[.int .i64 nI, .slice g2a r1.length g2c, .slice none 0 0] 29, OR gateE (.slice g2a r1.length g2c) r1, BxA (w.heap.size + 1 + 1) #[.int .i64 nI, (.slice ga (AL nS nI s j).length gc), .slice none 0 0] 29, BxA (w.heap.size + 1) #[.int .i64 0, .slice none 0 0, .slice none 0 0] 29, BxA w.heap.size #[.int .i64 nS, .int .i64 nI, .int .i64 nO, .slice sa nS ta, .slice sb nI tb, .slice sc nS tc, .slice sd nI td] 32, KeepA w])
              case first =>
                have XA0 := Lib.hid (HBM.out _ _ HSA.out (by simp) (by simp))
                refine AnyL.start (fun W1 => (W1.cell? ⟨w.heap.size + 1 + 1, 0, none⟩ = some (.int .i64 nI) ∧ W1.cell? ⟨w.heap.size + 1 + 1, 1, none⟩ = some (.slice ga (AL nS nI s j).length gc) ∧ W1.cell? ⟨w.heap.size + 1 + 1, 2, none⟩ = some (.slice none 0 0)) ∧ (W1.cell? ⟨w.heap.size, 1, none⟩ = some (.int .i64 nI) ∧ W1.cell? ⟨w.heap.size, 3, none⟩ = some (.slice sa nS ta) ∧ W1.cell? ⟨w.heap.size, 4, none⟩ = some (.slice sb nI tb))) (fun _ => True) 99 (by kernel_rfl) ?_
                refine AnyL.take (i := 0) (v := ?vx1) (by rfl) (by kernel_rfl) (by kernel_rfl) (by kernel_rfl) rfl (by exact fun _ _ _ h => h) (by rfl) ?hyx1 (by exact ⟨XA0.out, fun _ => trivial⟩) ?restx1
                case hyx1 => intro W hSW; (try dsimp only at hSW); first | (go_simp; done) | (go_simp; with_reducible rfl)
                try simp only [Act.put, List.setIfInBounds_toArray, List.set_cons_zero, List.set_cons_succ]
                refine AnyL.take (i := 1) (v := ?vx2) (by rfl) (by kernel_rfl) (by kernel_rfl) (by kernel_rfl) rfl (by exact fun _ _ _ h => h) (by rfl) ?hyx2 (by exact ⟨XA0.out, fun _ => trivial⟩) ?restx2
                case hyx2 => intro W hSW; (try dsimp only at hSW); first | (go_simp; done) | (go_simp; with_reducible rfl)
                try simp only [Act.put, List.setIfInBounds_toArray, List.set_cons_zero, List.set_cons_succ]
                refine AnyL.take (i := 2) (v := ?vx3) (by rfl) (by kernel_rfl) (by kernel_rfl) (by kernel_rfl) rfl (by exact fun _ _ _ h => h) (by rfl) ?hyx3 (by exact ⟨XA0.out, fun _ => trivial⟩) ?restx3
                case hyx3 => intro W hSW; (try dsimp only at hSW); first | (go_simp; done) | (go_simp; with_reducible rfl)
                try simp only [Act.put, List.setIfInBounds_toArray, List.set_cons_zero, List.set_cons_succ]
                refine AnyL.take (i := 3) (v := ?vx4) (by rfl) (by kernel_rfl) (by kernel_rfl) (by kernel_rfl) rfl (by exact fun _ _ _ h => h) (by rfl) ?hyx4 (by exact ⟨XA0.out, fun _ => trivial⟩) ?restx4
                case hyx4 => intro W hSW; (try dsimp only at hSW); first | (go_simp; done) | (go_simp; with_reducible rfl)
                try simp only [Act.put, List.setIfInBounds_toArray, List.set_cons_zero, List.set_cons_succ]
                refine AnyL.take (i := 4) (v := ?vx5) (by rfl) (by kernel_rfl) (by kernel_rfl) (by kernel_rfl) rfl (by exact fun _ _ _ h => h) (by rfl) ?hyx5 (by exact ⟨XA0.out, fun _ => trivial⟩) ?restx5
                case hyx5 => intro W hSW; (try dsimp only at hSW); first | (go_simp; done) | (go_simp; with_reducible rfl)
                try simp only [Act.put, List.setIfInBounds_toArray, List.set_cons_zero, List.set_cons_succ]
                refine AnyL.take (i := 5) (v := ?vx6) (by rfl) (by kernel_rfl) (by kernel_rfl) (by kernel_rfl) rfl (by exact fun _ _ _ h => h) (by rfl) ?hyx6 (by exact ⟨XA0.out, fun _ => trivial⟩) ?restx6
                case hyx6 => intro W hSW; (try dsimp only at hSW); first | (go_simp; done) | (go_simp; with_reducible rfl)
                try simp only [Act.put, List.setIfInBounds_toArray, List.set_cons_zero, List.set_cons_succ]
                refine AnyL.take (i := 7) (v := ?vx7) (by rfl) (by kernel_rfl) (by kernel_rfl) (by kernel_rfl) rfl (by exact fun _ _ _ h => h) (by rfl) ?hyx7 (by exact ⟨XA0.out, fun _ => trivial⟩) ?restx7
                case hyx7 => intro W hSW; (try dsimp only at hSW); first | (go_simp; done) | (go_simp; with_reducible rfl)
                try simp only [Act.put, List.setIfInBounds_toArray, List.set_cons_zero, List.set_cons_succ]
                refine AnyL.take (i := 8) (v := ?vx8) (by rfl) (by kernel_rfl) (by kernel_rfl) (by kernel_rfl) rfl (by exact fun _ _ _ h => h) (by rfl) ?hyx8 (by exact ⟨XA0.out, fun _ => trivial⟩) ?restx8
                case hyx8 => intro W hSW; (try dsimp only at hSW); first | (go_simp; done) | (go_simp; with_reducible rfl)
                try simp only [Act.put, List.setIfInBounds_toArray, List.set_cons_zero, List.set_cons_succ]
                refine AnyL.two (i := 6) (j := 13) (by kernel_rfl) (by rfl) (by rfl) (fun K hK => ?_) (fun K hK => ?_)
                · have hkE := (show w.grownBy _ none from HSA.out.tl.tl.tl.tl.hd)
                  have HCE := Lib.hid (HF1.out j hlt _ hkE)
                  clear hkE
                  go_simp
                  go_at_call 72
                  with_reducible refine HCE.out.mono ?_
                  rintro e wac ⟨uac, rfl, hsg⟩
                  have HSac := Lib.hid (HSA.out.graft1 hsg OI_own)
                  clear hsg HCE
                  refine hK.out _ _ (by exact HBM.out _ _ HSac.out (by simp) (by simp)) (by exact fun _ => trivial) ?_
                  clear hK K
                  try simp only [Act.put, List.setIfInBounds_toArray, List.set_cons_zero, List.set_cons_succ]
                  refine AnyL.two (i := 9) (j := 13) (by kernel_rfl) (by rfl) (by rfl) (fun K hK => ?_) (fun K hK => ?_)
                  · have HCE := Lib.hid (HOR.out _ uac _ _ (Sep.blk (A := [_, _]) (B := [_]) (HSac.out)))
                    go_simp
                    go_at_call 71
                    with_reducible refine HCE.out.mono ?_
                    rintro e wacc ⟨gv2, rfl, hsg⟩
                    obtain ⟨g2a, g2c, rfl⟩ := OwnR.shape (show OwnR gateE 0 _ gv2 r1 from hsg.hd)
                    have HSacc := Lib.hid (Sep.cutA (X := [_]) (A := [_]) hsg)
                    clear hsg HCE
                    refine hK.out _ _ (by exact HBM.out _ _ HSacc.out (by simp) (by simp)) (by exact fun _ => trivial) ?_
                    clear hK K
                    refine AnyL.take (i := 10) (v := ?vx9) (by rfl) (by kernel_rfl) (by kernel_rfl) (by kernel_rfl) rfl (by exact fun _ _ _ h => h) (by rfl) ?hyx9 (by exact ⟨HBM.out _ _ HSacc.out (by simp) (by simp), fun _ => trivial⟩) ?restx9
                    case hyx9 => intro W hSW; (try dsimp only at hSW); first | (go_simp; done) | (go_simp; with_reducible rfl)
                    try simp only [Act.put, List.setIfInBounds_toArray, List.set_cons_zero, List.set_cons_succ]
                    refine AnyL.take (i := 11) (v := ?vx10) (by rfl) (by kernel_rfl) (by kernel_rfl) (by kernel_rfl) rfl (by exact fun _ _ _ h => h) (by rfl) ?hyx10 (by exact ⟨HBM.out _ _ HSacc.out (by simp) (by simp), fun _ => trivial⟩) ?restx10
                    case hyx10 => intro W hSW; (try dsimp only at hSW); first | (go_simp; done) | (go_simp; with_reducible rfl)
                    try simp only [Act.put, List.setIfInBounds_toArray, List.set_cons_zero, List.set_cons_succ]
                    refine AnyL.take (i := 12) (v := ?vx11) (by rfl) (by kernel_rfl) (by kernel_rfl) (by kernel_rfl) rfl (by exact fun _ _ _ h => h) (by rfl) ?hyx11 (by exact ⟨HBM.out _ _ HSacc.out (by simp) (by simp), fun _ => trivial⟩) ?restx11
                    case hyx11 => intro W hSW; (try dsimp only at hSW); first | (go_simp; done) | (go_simp; with_reducible rfl)
                    try simp only [Act.put, List.setIfInBounds_toArray, List.set_cons_zero, List.set_cons_succ]
                    refine AnyL.step (i := 13) (by kernel_rfl) (by rfl) (fun K hK => ?_)
                    go_simp
                    have HSaccz := Lib.hid (HSacc.out.boxAt (wacc.heap.size) (by rfl) #[.int .i64 0, .slice none 0 0, .slice none 0 0] 29)
                    refine hK.out _ (wacc.alloc (.cells #[.int .i64 0, .slice none 0 0, .slice none 0 0] 29)) (by exact HBM.out _ _ HSaccz.out (by simp) (by simp)) (by exact fun _ => trivial) ?_
                    clear hK K
                    try simp only [Act.put, List.setIfInBounds_toArray, List.set_cons_zero, List.set_cons_succ]
                    generalize wacc.alloc (.cells #[.int .i64 0, .slice none 0 0, .slice none 0 0] 29) = waccz at *
                    generalize wacc.heap.size = nb at *
                    have h8 := Sep.blk (A := [_]) (B := [_]) (Sep.blk (A := [_]) (B := [_]) (HSaccz.out))
                    obtain ⟨_, _, _, f0, f1, f2⟩ := bx3 h8.hd
                    have HZ9 := Lib.hid (((h8.setB 0 (.int .i64 nI)).setB 1 (.slice g2a r1.length g2c)).setB 2 (.slice none 0 0))
                    clear h8
                    refine AnyL.step (i := 14) (by kernel_rfl) (by rfl) (fun K hK => ?_)
                    go_simp
                    refine hK.out _ (((waccz.setCell ⟨nb, 0, none⟩ (.int .i64 nI)).setCell ⟨nb, 1, none⟩ (.slice g2a r1.length g2c)).setCell ⟨nb, 2, none⟩ (.slice none 0 0)) (by exact HBM.out _ _ HZ9.out (by simp) (by simp)) (by exact fun _ => trivial) ?_
                    clear hK K
                    refine AnyL.take (i := 15) (v := ?vx12) (by rfl) (by kernel_rfl) (by kernel_rfl) (by kernel_rfl) rfl (by exact fun _ _ _ h => h) (by rfl) ?hyx12 (by exact ⟨HBM.out _ _ HZ9.out (by simp) (by simp), fun _ => trivial⟩) ?restx12
                    case hyx12 => intro W hSW; (try dsimp only at hSW); first | (go_simp; done) | (go_simp; with_reducible rfl)
                    try simp only [Act.put, List.setIfInBounds_toArray, List.set_cons_zero, List.set_cons_succ]
                    refine AnyL.done (by kernel_rfl) ?_ _
                    clear f0 f1 f2
                    go_wp2_with fail
                    go_meet
                    exact ⟨nb, g2a, g2c, rfl, rfl, HZ9.out⟩
                  · go_simp
                    have HSacz := Lib.hid (HSac.out.boxAt (wac.heap.size) (by rfl) #[.int .i64 0, .slice none 0 0, .slice none 0 0] 29)
                    refine hK.out _ (wac.alloc (.cells #[.int .i64 0, .slice none 0 0, .slice none 0 0] 29)) (by exact HBM.out _ _ HSacz.out (by simp) (by simp)) (by exact fun _ => trivial) ?_
                    clear hK K
                    try simp only [Act.put, List.setIfInBounds_toArray, List.set_cons_zero, List.set_cons_succ]
                    generalize wac.alloc (.cells #[.int .i64 0, .slice none 0 0, .slice none 0 0] 29) = wacz at *
                    generalize wac.heap.size = nb at *
                    refine AnyL.step (i := 9) (by kernel_rfl) (by rfl) (fun K hK => ?_)
                    have HCE := Lib.hid (HOR.out _ uac _ _ (Sep.blk (A := [_, _, _]) (B := [_]) (Sep.blk (A := [_]) (B := [_]) (HSacz.out))))
                    go_simp
                    go_at_call 71
                    with_reducible refine HCE.out.mono ?_
                    rintro e waczc ⟨gv2, rfl, hsg⟩
                    obtain ⟨g2a, g2c, rfl⟩ := OwnR.shape (show OwnR gateE 0 _ gv2 r1 from hsg.hd)
                    have HSaczc := Lib.hid (Sep.cutA (X := [_]) (A := [_]) hsg)
                    clear hsg HCE
                    refine hK.out _ _ (by exact HBM.out _ _ HSaczc.out (by simp) (by simp)) (by exact fun _ => trivial) ?_
                    clear hK K
                    refine AnyL.take (i := 10) (v := ?vx13) (by rfl) (by kernel_rfl) (by kernel_rfl) (by kernel_rfl) rfl (by exact fun _ _ _ h => h) (by rfl) ?hyx13 (by exact ⟨HBM.out _ _ HSaczc.out (by simp) (by simp), fun _ => trivial⟩) ?restx13
                    case hyx13 => intro W hSW; (try dsimp only at hSW); first | (go_simp; done) | (go_simp; with_reducible rfl)
                    try simp only [Act.put, List.setIfInBounds_toArray, List.set_cons_zero, List.set_cons_succ]
                    refine AnyL.take (i := 11) (v := ?vx14) (by rfl) (by kernel_rfl) (by kernel_rfl) (by kernel_rfl) rfl (by exact fun _ _ _ h => h) (by rfl) ?hyx14 (by exact ⟨HBM.out _ _ HSaczc.out (by simp) (by simp), fun _ => trivial⟩) ?restx14
                    case hyx14 => intro W hSW; (try dsimp only at hSW); first | (go_simp; done) | (go_simp; with_reducible rfl)
                    try simp only [Act.put, List.setIfInBounds_toArray, List.set_cons_zero, List.set_cons_succ]
                    refine AnyL.take (i := 12) (v := ?vx15) (by rfl) (by kernel_rfl) (by kernel_rfl) (by kernel_rfl) rfl (by exact fun _ _ _ h => h) (by rfl) ?hyx15 (by exact ⟨HBM.out _ _ HSaczc.out (by simp) (by simp), fun _ => trivial⟩) ?restx15
                    case hyx15 => intro W hSW; (try dsimp only at hSW); first | (go_simp; done) | (go_simp; with_reducible rfl)
                    try simp only [Act.put, List.setIfInBounds_toArray, List.set_cons_zero, List.set_cons_succ]
                    have h8 := Sep.blk (A := [_]) (B := [_]) (HSaczc.out)
                    obtain ⟨_, _, _, f0, f1, f2⟩ := bx3 h8.hd
                    have HZ9 := Lib.hid (((h8.setB 0 (.int .i64 nI)).setB 1 (.slice g2a r1.length g2c)).setB 2 (.slice none 0 0))
                    clear h8
                    refine AnyL.step (i := 14) (by kernel_rfl) (by rfl) (fun K hK => ?_)
                    go_simp
                    refine hK.out _ (((waczc.setCell ⟨nb, 0, none⟩ (.int .i64 nI)).setCell ⟨nb, 1, none⟩ (.slice g2a r1.length g2c)).setCell ⟨nb, 2, none⟩ (.slice none 0 0)) (by exact HBM.out _ _ HZ9.out (by simp) (by simp)) (by exact fun _ => trivial) ?_
                    clear hK K
                    refine AnyL.take (i := 15) (v := ?vx16) (by rfl) (by kernel_rfl) (by kernel_rfl) (by kernel_rfl) rfl (by exact fun _ _ _ h => h) (by rfl) ?hyx16 (by exact ⟨HBM.out _ _ HZ9.out (by simp) (by simp), fun _ => trivial⟩) ?restx16
                    case hyx16 => intro W hSW; (try dsimp only at hSW); first | (go_simp; done) | (go_simp; with_reducible rfl)
                    try simp only [Act.put, List.setIfInBounds_toArray, List.set_cons_zero, List.set_cons_succ]
                    refine AnyL.done (by kernel_rfl) ?_ _
                    clear f0 f1 f2
                    go_wp2_with fail
                    go_meet
                    exact ⟨nb, g2a, g2c, rfl, rfl, HZ9.out⟩
                · go_simp
                  have HSaz := Lib.hid (HSA.out.boxAt (wr.heap.size) (by rfl) #[.int .i64 0, .slice none 0 0, .slice none 0 0] 29)
                  refine hK.out _ (wr.drew.alloc (.cells #[.int .i64 0, .slice none 0 0, .slice none 0 0] 29)) (by exact HBM.out _ _ HSaz.out (by simp) (by simp)) (by exact fun _ => trivial) ?_
                  clear hK K
                  try simp only [Act.put, List.setIfInBounds_toArray, List.set_cons_zero, List.set_cons_succ]
                  generalize wr.drew.alloc (.cells #[.int .i64 0, .slice none 0 0, .slice none 0 0] 29) = waz at *
                  generalize wr.heap.size = nb at *
                  refine AnyL.step (i := 6) (by kernel_rfl) (by rfl) (fun K hK => ?_)
                  have hkE := (show w.grownBy _ none from HSaz.out.tl.tl.tl.tl.tl.hd)
                  have HCE := Lib.hid (HF1.out j hlt _ hkE)
                  clear hkE
                  go_simp
                  go_at_call 72
                  with_reducible refine HCE.out.mono ?_
                  rintro e wazc ⟨uazc, rfl, hsg⟩
                  have HSazc := Lib.hid (HSaz.out.graft1 hsg OI_own)
                  clear hsg HCE
                  refine hK.out _ _ (by exact HBM.out _ _ HSazc.out (by simp) (by simp)) (by exact fun _ => trivial) ?_
                  clear hK K
                  try simp only [Act.put, List.setIfInBounds_toArray, List.set_cons_zero, List.set_cons_succ]
                  refine AnyL.step (i := 9) (by kernel_rfl) (by rfl) (fun K hK => ?_)
                  have HCE := Lib.hid (HOR.out _ uazc _ _ (Sep.blk (A := [_, _, _]) (B := [_]) (HSazc.out)))
                  go_simp
                  go_at_call 71
                  with_reducible refine HCE.out.mono ?_
                  rintro e wazcc ⟨gv2, rfl, hsg⟩
                  obtain ⟨g2a, g2c, rfl⟩ := OwnR.shape (show OwnR gateE 0 _ gv2 r1 from hsg.hd)
                  have HSazcc := Lib.hid (Sep.cutA (X := [_]) (A := [_]) hsg)
                  clear hsg HCE
                  refine hK.out _ _ (by exact HBM.out _ _ HSazcc.out (by simp) (by simp)) (by exact fun _ => trivial) ?_
                  clear hK K
                  refine AnyL.take (i := 10) (v := ?vx17) (by rfl) (by kernel_rfl) (by kernel_rfl) (by kernel_rfl) rfl (by exact fun _ _ _ h => h) (by rfl) ?hyx17 (by exact ⟨HBM.out _ _ HSazcc.out (by simp) (by simp), fun _ => trivial⟩) ?restx17
                  case hyx17 => intro W hSW; (try dsimp only at hSW); first | (go_simp; done) | (go_simp; with_reducible rfl)
                  try simp only [Act.put, List.setIfInBounds_toArray, List.set_cons_zero, List.set_cons_succ]
                  refine AnyL.take (i := 11) (v := ?vx18) (by rfl) (by kernel_rfl) (by kernel_rfl) (by kernel_rfl) rfl (by exact fun _ _ _ h => h) (by rfl) ?hyx18 (by exact ⟨HBM.out _ _ HSazcc.out (by simp) (by simp), fun _ => trivial⟩) ?restx18
                  case hyx18 => intro W hSW; (try dsimp only at hSW); first | (go_simp; done) | (go_simp; with_reducible rfl)
                  try simp only [Act.put, List.setIfInBounds_toArray, List.set_cons_zero, List.set_cons_succ]
                  refine AnyL.take (i := 12) (v := ?vx19) (by rfl) (by kernel_rfl) (by kernel_rfl) (by kernel_rfl) rfl (by exact fun _ _ _ h => h) (by rfl) ?hyx19 (by exact ⟨HBM.out _ _ HSazcc.out (by simp) (by simp), fun _ => trivial⟩) ?restx19
                  case hyx19 => intro W hSW; (try dsimp only at hSW); first | (go_simp; done) | (go_simp; with_reducible rfl)
                  try simp only [Act.put, List.setIfInBounds_toArray, List.set_cons_zero, List.set_cons_succ]
                  have h8 := Sep.blk (A := [_]) (B := [_]) (HSazcc.out)
                  obtain ⟨_, _, _, f0, f1, f2⟩ := bx3 h8.hd
                  have HZ9 := Lib.hid (((h8.setB 0 (.int .i64 nI)).setB 1 (.slice g2a r1.length g2c)).setB 2 (.slice none 0 0))
                  clear h8
                  refine AnyL.step (i := 14) (by kernel_rfl) (by rfl) (fun K hK => ?_)
                  go_simp
                  refine hK.out _ (((wazcc.setCell ⟨nb, 0, none⟩ (.int .i64 nI)).setCell ⟨nb, 1, none⟩ (.slice g2a r1.length g2c)).setCell ⟨nb, 2, none⟩ (.slice none 0 0)) (by exact HBM.out _ _ HZ9.out (by simp) (by simp)) (by exact fun _ => trivial) ?_
                  clear hK K
                  refine AnyL.take (i := 15) (v := ?vx20) (by rfl) (by kernel_rfl) (by kernel_rfl) (by kernel_rfl) rfl (by exact fun _ _ _ h => h) (by rfl) ?hyx20 (by exact ⟨HBM.out _ _ HZ9.out (by simp) (by simp), fun _ => trivial⟩) ?restx20
                  case hyx20 => intro W hSW; (try dsimp only at hSW); first | (go_simp; done) | (go_simp; with_reducible rfl)
                  try simp only [Act.put, List.setIfInBounds_toArray, List.set_cons_zero, List.set_cons_succ]
                  refine AnyL.done (by kernel_rfl) ?_ _
                  clear f0 f1 f2
                  go_wp2_with fail
                  go_meet
                  exact ⟨nb, g2a, g2c, rfl, rfl, HZ9.out⟩
              case rest =>
                obtain ⟨nb, g2a, g2c, rfl, rfl, hs2⟩ := hcut
                have H2 := Lib.hid hs2
                clear hs2 HSR HSA HBM HOR
                have hdl : nI + j < r1.length := by have := HLN.out; omega
                obtain ⟨gb, gcap, hge, _, _, _⟩ := OwnR.parts (show OwnR gateE 0 wc _ r1 from H2.out.tl.hd) (by omega)
                injection hge with hge1 _ hge2
                subst hge1 hge2
                obtain ⟨m0, m1, m2, _⟩ := bx3 H2.out.hd
                obtain ⟨_, y1, _⟩ := bq7 H2.out.tl.tl.tl.tl.hd
                have n1 := (gate_cells (show OwnR gateE 0 wc _ r1 from H2.out.tl.hd) rfl hdl).2.1
                have n2 := (gate_free (show OwnR gateE 0 wc _ r1 from H2.out.tl.hd) rfl (nI + j)).2.1
                have H7 := Lib.hid (Sep.blk (A := [_]) (B := [_]) ((Sep.blk (A := [_]) (B := [_]) H2.out).setAA rfl hdl r2))
                have hdi : (nI : Int) + (j : Int) < (r1.length : Int) := by omega
                generalize (r1.getD (nI + j) g0).a = old at n1
                obtain ⟨k0, k1, k2, _⟩ := bx3 H7.out.hd
                obtain ⟨_, _, _, f0, f1, f2⟩ := bx3 H7.out.tl.tl.hd
                have H8 := Lib.hid (Sep.cutA (X := [_]) (A := [_]) ((((Sep.blk (A := [_, _]) (B := [_]) H7.out).setB 0 (.int .i64 nI)).setB 1 (.slice (some ⟨gb, 0, none⟩) r1.length g2c)).setB 2 (.slice none 0 0)))
                clear H2
                go_wp2_with fail
                go_roundw
                case rel => exact ⟨j + 1, _, HLT.out, by go_num, by rw [HSC.out]; exact H8.out⟩
                case measure => simp [intOf]; omega
            · have hjm : nS = j := by omega
              subst hjm
              have hki : ¬ (nS : Int) < (nS : Int) := by omega
              have HS3 := Lib.hid (Sep.blk3 (X := []) (A := [_]) (B := [_, _]) (Sep.nilI HSR.out))
              go_wp2_with fail
              clear y0 y1 y2 y3 y4 y5 y6 m0 m1 m2
              clear HSR
              go_loopw [9, 10, 11] (fun i _ _ wr => ∃ (m : Nat) (gv ov : Value), m ≤ nO ∧ i = .int .i64 m ∧ Sep wr [BxA (w.heap.size + 1 + 1) #[.int .i64 nI, gv, ov] 29, OR gateE gv (CL nS nI s m).1, OI ov (CL nS nI s m).2, BxA (w.heap.size + 1) #[.int .i64 0, .slice none 0 0, .slice none 0 0] 29, BxA w.heap.size #[.int .i64 nS, .int .i64 nI, .int .i64 nO, .slice sa nS ta, .slice sb nI tb, .slice sc nS tc, .slice sd nI td] 32, KeepA w]) (fun i _ _ _ => nO - (intOf i).toNat)
              case atStart => exact ⟨0, _, .slice none 0 0, by omega, rfl, HS3.out⟩
              case round =>
                obtain ⟨m, gv, ov, hbm, rfl, hs⟩ := hrel
                clear HS3
                obtain ⟨ga, gc, rfl⟩ := OwnR.shape (show OwnR gateE 0 wr gv _ from hs.tl.hd)
                obtain ⟨oa, oc, rfl⟩ := own_shape (show OwnInts 0 wr ov _ from hs.tl.tl.hd)
                rw [(HCL.out m).2] at hs
                have HSR := Lib.hid hs
                clear hs
                obtain ⟨m0, m1, m2, _⟩ := bx3 HSR.out.hd
                obtain ⟨y0, y1, y2, y3, y4, y5, y6⟩ := bq7 HSR.out.tl.tl.tl.tl.hd
                try rw [(HCL.out m).2]
                by_cases hlt : m < nO
                · have HLT := Lib.hid hlt
                  have hki : (m : Int) < (nO : Int) := by omega
                  have HSC := Lib.hid (show CL nS nI s (m + 1) = ((sumG (CL nS nI s m).1 (prsL nS nI s.C s.D m)).1, (CL nS nI s m).2 ++ [(sumG (CL nS nI s m).1 (prsL nS nI s.C s.D m)).2]) from rfl)
                  have HOR := Lib.hid fun gv csv W l (h : Sep W (OR gateE gv (CL nS nI s m).1 :: OI csv (colL s.D m ++ colL s.C m) :: l)) => HO2.out gv csv oa m oc (CL nS nI s m).1 m W l (by have := (HCL.out m).1; omega) h
                  generalize sumG (CL nS nI s m).1 (prsL nS nI s.C s.D m) = r at *
                  obtain ⟨r1, r2⟩ := r
                  simp only at HSC
                  go_upto_region 19 with fail
                  clear y0 y1 y2 y3 y4 y5 y6 m0 m1 m2
                  have HBM := Lib.hid fun (W1 : World) (L : List Asrt) (h : Sep W1 L) (h1 : BxA (w.heap.size + 1 + 1) #[.int .i64 nI, (.slice ga ((CL nS nI s m).1).length gc), .slice oa m oc] 29 ∈ L) (h2 : BxA w.heap.size #[.int .i64 nS, .int .i64 nI, .int .i64 nO, .slice sa nS ta, .slice sb nI tb, .slice sc nS tc, .slice sd nI td] 32 ∈ L) => show (W1.cell? ⟨w.heap.size + 1 + 1, 0, none⟩ = some (.int .i64 nI) ∧ W1.cell? ⟨w.heap.size + 1 + 1, 1, none⟩ = some (.slice ga ((CL nS nI s m).1).length gc) ∧ W1.cell? ⟨w.heap.size + 1 + 1, 2, none⟩ = some (.slice oa m oc)) ∧ (W1.cell? ⟨w.heap.size, 1, none⟩ = some (.int .i64 nI) ∧ W1.cell? ⟨w.heap.size, 5, none⟩ = some (.slice sc nS tc) ∧ W1.cell? ⟨w.heap.size, 6, none⟩ = some (.slice sd nI td)) from
                    have q := bx3 (show W1.heap[w.heap.size + 1 + 1]? = some (.cells #[.int .i64 nI, .slice ga ((CL nS nI s m).1).length gc, .slice oa m oc] 29 (0, 0)) from Sep.all h _ h1)
                    have q2 := bq7 (show W1.heap[w.heap.size]? = some (.cells #[.int .i64 nS, .int .i64 nI, .int .i64 nO, .slice sa nS ta, .slice sb nI tb, .slice sc nS tc, .slice sd nI td] 32 (0, 0)) from Sep.all h _ h2)
                    ⟨⟨q.1, q.2.1, q.2.2.1⟩, q2.2.1, q2.2.2.2.2.2.1, q2.2.2.2.2.2.2⟩
                  have HSA := Lib.hid HSR.out.dr
                  go_cut [10, 11] from 75 to 87 (fun v10 v11 wx => ∃ (nb : Nat) (g2a : Option Addr) (g2c : Nat), v10 = .pointer (some ⟨nb, 0, none⟩) ∧ v11 = .int .i64 r2 ∧ Sep wx [BxA nb #[.int .i64 nI, .slice g2a r1.length g2c, .slice oa m oc] 29, OR gateE (.slice g2a r1.length g2c) r1, BxA (w.heap.size + 1 + 1) #[.int .i64 nI, (.slice ga (CL nS nI s m).1.length gc), .slice oa m oc] 29, OI (.slice oa m oc) (CL nS nI s m).2, BxA (w.heap.size + 1) #[.int .i64 0, .slice none 0 0, .slice none 0 0] 29, BxA w.heap.size #[.int .i64 nS, .int .i64 nI, .int .i64 nO, .slice sa nS ta, .slice sb nI tb, .slice sc nS tc, .slice sd nI td] 32, KeepA w])
                  case first =>
                    have XA0 := Lib.hid (HBM.out _ _ HSA.out (by simp) (by simp))
                    refine AnyL.start (fun W1 => (W1.cell? ⟨w.heap.size + 1 + 1, 0, none⟩ = some (.int .i64 nI) ∧ W1.cell? ⟨w.heap.size + 1 + 1, 1, none⟩ = some (.slice ga ((CL nS nI s m).1).length gc) ∧ W1.cell? ⟨w.heap.size + 1 + 1, 2, none⟩ = some (.slice oa m oc)) ∧ (W1.cell? ⟨w.heap.size, 1, none⟩ = some (.int .i64 nI) ∧ W1.cell? ⟨w.heap.size, 5, none⟩ = some (.slice sc nS tc) ∧ W1.cell? ⟨w.heap.size, 6, none⟩ = some (.slice sd nI td))) (fun _ => True) 99 (by kernel_rfl) ?_
                    refine AnyL.take (i := 0) (v := ?vx21) (by rfl) (by kernel_rfl) (by kernel_rfl) (by kernel_rfl) rfl (by exact fun _ _ _ h => h) (by rfl) ?hyx21 (by exact ⟨XA0.out, fun _ => trivial⟩) ?restx21
                    case hyx21 => intro W hSW; (try dsimp only at hSW); first | (go_simp; done) | (go_simp; with_reducible rfl)
                    try simp only [Act.put, List.setIfInBounds_toArray, List.set_cons_zero, List.set_cons_succ]
                    refine AnyL.take (i := 1) (v := ?vx22) (by rfl) (by kernel_rfl) (by kernel_rfl) (by kernel_rfl) rfl (by exact fun _ _ _ h => h) (by rfl) ?hyx22 (by exact ⟨XA0.out, fun _ => trivial⟩) ?restx22
                    case hyx22 => intro W hSW; (try dsimp only at hSW); first | (go_simp; done) | (go_simp; with_reducible rfl)
                    try simp only [Act.put, List.setIfInBounds_toArray, List.set_cons_zero, List.set_cons_succ]
                    refine AnyL.take (i := 2) (v := ?vx23) (by rfl) (by kernel_rfl) (by kernel_rfl) (by kernel_rfl) rfl (by exact fun _ _ _ h => h) (by rfl) ?hyx23 (by exact ⟨XA0.out, fun _ => trivial⟩) ?restx23
                    case hyx23 => intro W hSW; (try dsimp only at hSW); first | (go_simp; done) | (go_simp; with_reducible rfl)
                    try simp only [Act.put, List.setIfInBounds_toArray, List.set_cons_zero, List.set_cons_succ]
                    refine AnyL.take (i := 3) (v := ?vx24) (by rfl) (by kernel_rfl) (by kernel_rfl) (by kernel_rfl) rfl (by exact fun _ _ _ h => h) (by rfl) ?hyx24 (by exact ⟨XA0.out, fun _ => trivial⟩) ?restx24
                    case hyx24 => intro W hSW; (try dsimp only at hSW); first | (go_simp; done) | (go_simp; with_reducible rfl)
                    try simp only [Act.put, List.setIfInBounds_toArray, List.set_cons_zero, List.set_cons_succ]
                    refine AnyL.take (i := 4) (v := ?vx25) (by rfl) (by kernel_rfl) (by kernel_rfl) (by kernel_rfl) rfl (by exact fun _ _ _ h => h) (by rfl) ?hyx25 (by exact ⟨XA0.out, fun _ => trivial⟩) ?restx25
                    case hyx25 => intro W hSW; (try dsimp only at hSW); first | (go_simp; done) | (go_simp; with_reducible rfl)
                    try simp only [Act.put, List.setIfInBounds_toArray, List.set_cons_zero, List.set_cons_succ]
                    refine AnyL.take (i := 5) (v := ?vx26) (by rfl) (by kernel_rfl) (by kernel_rfl) (by kernel_rfl) rfl (by exact fun _ _ _ h => h) (by rfl) ?hyx26 (by exact ⟨XA0.out, fun _ => trivial⟩) ?restx26
                    case hyx26 => intro W hSW; (try dsimp only at hSW); first | (go_simp; done) | (go_simp; with_reducible rfl)
                    try simp only [Act.put, List.setIfInBounds_toArray, List.set_cons_zero, List.set_cons_succ]
                    refine AnyL.take (i := 7) (v := ?vx27) (by rfl) (by kernel_rfl) (by kernel_rfl) (by kernel_rfl) rfl (by exact fun _ _ _ h => h) (by rfl) ?hyx27 (by exact ⟨XA0.out, fun _ => trivial⟩) ?restx27
                    case hyx27 => intro W hSW; (try dsimp only at hSW); first | (go_simp; done) | (go_simp; with_reducible rfl)
                    try simp only [Act.put, List.setIfInBounds_toArray, List.set_cons_zero, List.set_cons_succ]
                    refine AnyL.take (i := 8) (v := ?vx28) (by rfl) (by kernel_rfl) (by kernel_rfl) (by kernel_rfl) rfl (by exact fun _ _ _ h => h) (by rfl) ?hyx28 (by exact ⟨XA0.out, fun _ => trivial⟩) ?restx28
                    case hyx28 => intro W hSW; (try dsimp only at hSW); first | (go_simp; done) | (go_simp; with_reducible rfl)
                    try simp only [Act.put, List.setIfInBounds_toArray, List.set_cons_zero, List.set_cons_succ]
                    refine AnyL.two (i := 6) (j := 13) (by kernel_rfl) (by rfl) (by rfl) (fun K hK => ?_) (fun K hK => ?_)
                    · have hkE := (show w.grownBy _ none from HSA.out.tl.tl.tl.tl.tl.hd)
                      have HCE := Lib.hid (HF2.out m hlt _ hkE)
                      clear hkE
                      go_simp
                      go_at_call 72
                      with_reducible refine HCE.out.mono ?_
                      rintro e wac ⟨uac, rfl, hsg⟩
                      have HSac := Lib.hid (HSA.out.graft1 hsg OI_own)
                      clear hsg HCE
                      refine hK.out _ _ (by exact HBM.out _ _ HSac.out (by simp) (by simp)) (by exact fun _ => trivial) ?_
                      clear hK K
                      try simp only [Act.put, List.setIfInBounds_toArray, List.set_cons_zero, List.set_cons_succ]
                      refine AnyL.two (i := 9) (j := 13) (by kernel_rfl) (by rfl) (by rfl) (fun K hK => ?_) (fun K hK => ?_)
                      · have HCE := Lib.hid (HOR.out _ uac _ _ (Sep.blk (A := [_, _]) (B := [_]) (HSac.out)))
                        go_simp
                        go_at_call 71
                        with_reducible refine HCE.out.mono ?_
                        rintro e wacc ⟨gv2, rfl, hsg⟩
                        obtain ⟨g2a, g2c, rfl⟩ := OwnR.shape (show OwnR gateE 0 _ gv2 r1 from hsg.hd)
                        have HSacc := Lib.hid (Sep.cutA (X := [_]) (A := [_]) hsg)
                        clear hsg HCE
                        refine hK.out _ _ (by exact HBM.out _ _ HSacc.out (by simp) (by simp)) (by exact fun _ => trivial) ?_
                        clear hK K
                        refine AnyL.take (i := 10) (v := ?vx29) (by rfl) (by kernel_rfl) (by kernel_rfl) (by kernel_rfl) rfl (by exact fun _ _ _ h => h) (by rfl) ?hyx29 (by exact ⟨HBM.out _ _ HSacc.out (by simp) (by simp), fun _ => trivial⟩) ?restx29
                        case hyx29 => intro W hSW; (try dsimp only at hSW); first | (go_simp; done) | (go_simp; with_reducible rfl)
                        try simp only [Act.put, List.setIfInBounds_toArray, List.set_cons_zero, List.set_cons_succ]
                        refine AnyL.take (i := 11) (v := ?vx30) (by rfl) (by kernel_rfl) (by kernel_rfl) (by kernel_rfl) rfl (by exact fun _ _ _ h => h) (by rfl) ?hyx30 (by exact ⟨HBM.out _ _ HSacc.out (by simp) (by simp), fun _ => trivial⟩) ?restx30
                        case hyx30 => intro W hSW; (try dsimp only at hSW); first | (go_simp; done) | (go_simp; with_reducible rfl)
                        try simp only [Act.put, List.setIfInBounds_toArray, List.set_cons_zero, List.set_cons_succ]
                        refine AnyL.take (i := 12) (v := ?vx31) (by rfl) (by kernel_rfl) (by kernel_rfl) (by kernel_rfl) rfl (by exact fun _ _ _ h => h) (by rfl) ?hyx31 (by exact ⟨HBM.out _ _ HSacc.out (by simp) (by simp), fun _ => trivial⟩) ?restx31
                        case hyx31 => intro W hSW; (try dsimp only at hSW); first | (go_simp; done) | (go_simp; with_reducible rfl)
                        try simp only [Act.put, List.setIfInBounds_toArray, List.set_cons_zero, List.set_cons_succ]
                        refine AnyL.step (i := 13) (by kernel_rfl) (by rfl) (fun K hK => ?_)
                        go_simp
                        have HSaccz := Lib.hid (HSacc.out.boxAt (wacc.heap.size) (by rfl) #[.int .i64 0, .slice none 0 0, .slice none 0 0] 29)
                        refine hK.out _ (wacc.alloc (.cells #[.int .i64 0, .slice none 0 0, .slice none 0 0] 29)) (by exact HBM.out _ _ HSaccz.out (by simp) (by simp)) (by exact fun _ => trivial) ?_
                        clear hK K
                        try simp only [Act.put, List.setIfInBounds_toArray, List.set_cons_zero, List.set_cons_succ]
                        generalize wacc.alloc (.cells #[.int .i64 0, .slice none 0 0, .slice none 0 0] 29) = waccz at *
                        generalize wacc.heap.size = nb at *
                        have h8 := Sep.blk (A := [_]) (B := [_]) (Sep.blk (A := [_]) (B := [_]) (HSaccz.out))
                        obtain ⟨_, _, _, f0, f1, f2⟩ := bx3 h8.hd
                        have HZ9 := Lib.hid (((h8.setB 0 (.int .i64 nI)).setB 1 (.slice g2a r1.length g2c)).setB 2 (.slice oa m oc))
                        clear h8
                        refine AnyL.step (i := 14) (by kernel_rfl) (by rfl) (fun K hK => ?_)
                        go_simp
                        refine hK.out _ (((waccz.setCell ⟨nb, 0, none⟩ (.int .i64 nI)).setCell ⟨nb, 1, none⟩ (.slice g2a r1.length g2c)).setCell ⟨nb, 2, none⟩ (.slice oa m oc)) (by exact HBM.out _ _ HZ9.out (by simp) (by simp)) (by exact fun _ => trivial) ?_
                        clear hK K
                        refine AnyL.take (i := 15) (v := ?vx32) (by rfl) (by kernel_rfl) (by kernel_rfl) (by kernel_rfl) rfl (by exact fun _ _ _ h => h) (by rfl) ?hyx32 (by exact ⟨HBM.out _ _ HZ9.out (by simp) (by simp), fun _ => trivial⟩) ?restx32
                        case hyx32 => intro W hSW; (try dsimp only at hSW); first | (go_simp; done) | (go_simp; with_reducible rfl)
                        try simp only [Act.put, List.setIfInBounds_toArray, List.set_cons_zero, List.set_cons_succ]
                        refine AnyL.done (by kernel_rfl) ?_ _
                        clear f0 f1 f2
                        go_wp2_with fail
                        go_meet
                        exact ⟨nb, g2a, g2c, rfl, rfl, HZ9.out⟩
                      · go_simp
                        have HSacz := Lib.hid (HSac.out.boxAt (wac.heap.size) (by rfl) #[.int .i64 0, .slice none 0 0, .slice none 0 0] 29)
                        refine hK.out _ (wac.alloc (.cells #[.int .i64 0, .slice none 0 0, .slice none 0 0] 29)) (by exact HBM.out _ _ HSacz.out (by simp) (by simp)) (by exact fun _ => trivial) ?_
                        clear hK K
                        try simp only [Act.put, List.setIfInBounds_toArray, List.set_cons_zero, List.set_cons_succ]
                        generalize wac.alloc (.cells #[.int .i64 0, .slice none 0 0, .slice none 0 0] 29) = wacz at *
                        generalize wac.heap.size = nb at *
                        refine AnyL.step (i := 9) (by kernel_rfl) (by rfl) (fun K hK => ?_)
                        have HCE := Lib.hid (HOR.out _ uac _ _ (Sep.blk (A := [_, _, _]) (B := [_]) (Sep.blk (A := [_]) (B := [_]) (HSacz.out))))
                        go_simp
                        go_at_call 71
                        with_reducible refine HCE.out.mono ?_
                        rintro e waczc ⟨gv2, rfl, hsg⟩
                        obtain ⟨g2a, g2c, rfl⟩ := OwnR.shape (show OwnR gateE 0 _ gv2 r1 from hsg.hd)
                        have HSaczc := Lib.hid (Sep.cutA (X := [_]) (A := [_]) hsg)
                        clear hsg HCE
                        refine hK.out _ _ (by exact HBM.out _ _ HSaczc.out (by simp) (by simp)) (by exact fun _ => trivial) ?_
                        clear hK K
                        refine AnyL.take (i := 10) (v := ?vx33) (by rfl) (by kernel_rfl) (by kernel_rfl) (by kernel_rfl) rfl (by exact fun _ _ _ h => h) (by rfl) ?hyx33 (by exact ⟨HBM.out _ _ HSaczc.out (by simp) (by simp), fun _ => trivial⟩) ?restx33
                        case hyx33 => intro W hSW; (try dsimp only at hSW); first | (go_simp; done) | (go_simp; with_reducible rfl)
                        try simp only [Act.put, List.setIfInBounds_toArray, List.set_cons_zero, List.set_cons_succ]
                        refine AnyL.take (i := 11) (v := ?vx34) (by rfl) (by kernel_rfl) (by kernel_rfl) (by kernel_rfl) rfl (by exact fun _ _ _ h => h) (by rfl) ?hyx34 (by exact ⟨HBM.out _ _ HSaczc.out (by simp) (by simp), fun _ => trivial⟩) ?restx34
                        case hyx34 => intro W hSW; (try dsimp only at hSW); first | (go_simp; done) | (go_simp; with_reducible rfl)
                        try simp only [Act.put, List.setIfInBounds_toArray, List.set_cons_zero, List.set_cons_succ]
                        refine AnyL.take (i := 12) (v := ?vx35) (by rfl) (by kernel_rfl) (by kernel_rfl) (by kernel_rfl) rfl (by exact fun _ _ _ h => h) (by rfl) ?hyx35 (by exact ⟨HBM.out _ _ HSaczc.out (by simp) (by simp), fun _ => trivial⟩) ?restx35
                        case hyx35 => intro W hSW; (try dsimp only at hSW); first | (go_simp; done) | (go_simp; with_reducible rfl)
                        try simp only [Act.put, List.setIfInBounds_toArray, List.set_cons_zero, List.set_cons_succ]
                        have h8 := Sep.blk (A := [_]) (B := [_]) (HSaczc.out)
                        obtain ⟨_, _, _, f0, f1, f2⟩ := bx3 h8.hd
                        have HZ9 := Lib.hid (((h8.setB 0 (.int .i64 nI)).setB 1 (.slice g2a r1.length g2c)).setB 2 (.slice oa m oc))
                        clear h8
                        refine AnyL.step (i := 14) (by kernel_rfl) (by rfl) (fun K hK => ?_)
                        go_simp
                        refine hK.out _ (((waczc.setCell ⟨nb, 0, none⟩ (.int .i64 nI)).setCell ⟨nb, 1, none⟩ (.slice g2a r1.length g2c)).setCell ⟨nb, 2, none⟩ (.slice oa m oc)) (by exact HBM.out _ _ HZ9.out (by simp) (by simp)) (by exact fun _ => trivial) ?_
                        clear hK K
                        refine AnyL.take (i := 15) (v := ?vx36) (by rfl) (by kernel_rfl) (by kernel_rfl) (by kernel_rfl) rfl (by exact fun _ _ _ h => h) (by rfl) ?hyx36 (by exact ⟨HBM.out _ _ HZ9.out (by simp) (by simp), fun _ => trivial⟩) ?restx36
                        case hyx36 => intro W hSW; (try dsimp only at hSW); first | (go_simp; done) | (go_simp; with_reducible rfl)
                        try simp only [Act.put, List.setIfInBounds_toArray, List.set_cons_zero, List.set_cons_succ]
                        refine AnyL.done (by kernel_rfl) ?_ _
                        clear f0 f1 f2
                        go_wp2_with fail
                        go_meet
                        exact ⟨nb, g2a, g2c, rfl, rfl, HZ9.out⟩
                    · go_simp
                      have HSaz := Lib.hid (HSA.out.boxAt (wr.heap.size) (by rfl) #[.int .i64 0, .slice none 0 0, .slice none 0 0] 29)
                      refine hK.out _ (wr.drew.alloc (.cells #[.int .i64 0, .slice none 0 0, .slice none 0 0] 29)) (by exact HBM.out _ _ HSaz.out (by simp) (by simp)) (by exact fun _ => trivial) ?_
                      clear hK K
                      try simp only [Act.put, List.setIfInBounds_toArray, List.set_cons_zero, List.set_cons_succ]
                      generalize wr.drew.alloc (.cells #[.int .i64 0, .slice none 0 0, .slice none 0 0] 29) = waz at *
                      generalize wr.heap.size = nb at *
                      refine AnyL.step (i := 6) (by kernel_rfl) (by rfl) (fun K hK => ?_)
                      have hkE := (show w.grownBy _ none from HSaz.out.tl.tl.tl.tl.tl.tl.hd)
                      have HCE := Lib.hid (HF2.out m hlt _ hkE)
                      clear hkE
                      go_simp
                      go_at_call 72
                      with_reducible refine HCE.out.mono ?_
                      rintro e wazc ⟨uazc, rfl, hsg⟩
                      have HSazc := Lib.hid (HSaz.out.graft1 hsg OI_own)
                      clear hsg HCE
                      refine hK.out _ _ (by exact HBM.out _ _ HSazc.out (by simp) (by simp)) (by exact fun _ => trivial) ?_
                      clear hK K
                      try simp only [Act.put, List.setIfInBounds_toArray, List.set_cons_zero, List.set_cons_succ]
                      refine AnyL.step (i := 9) (by kernel_rfl) (by rfl) (fun K hK => ?_)
                      have HCE := Lib.hid (HOR.out _ uazc _ _ (Sep.blk (A := [_, _, _]) (B := [_]) (HSazc.out)))
                      go_simp
                      go_at_call 71
                      with_reducible refine HCE.out.mono ?_
                      rintro e wazcc ⟨gv2, rfl, hsg⟩
                      obtain ⟨g2a, g2c, rfl⟩ := OwnR.shape (show OwnR gateE 0 _ gv2 r1 from hsg.hd)
                      have HSazcc := Lib.hid (Sep.cutA (X := [_]) (A := [_]) hsg)
                      clear hsg HCE
                      refine hK.out _ _ (by exact HBM.out _ _ HSazcc.out (by simp) (by simp)) (by exact fun _ => trivial) ?_
                      clear hK K
                      refine AnyL.take (i := 10) (v := ?vx37) (by rfl) (by kernel_rfl) (by kernel_rfl) (by kernel_rfl) rfl (by exact fun _ _ _ h => h) (by rfl) ?hyx37 (by exact ⟨HBM.out _ _ HSazcc.out (by simp) (by simp), fun _ => trivial⟩) ?restx37
                      case hyx37 => intro W hSW; (try dsimp only at hSW); first | (go_simp; done) | (go_simp; with_reducible rfl)
                      try simp only [Act.put, List.setIfInBounds_toArray, List.set_cons_zero, List.set_cons_succ]
                      refine AnyL.take (i := 11) (v := ?vx38) (by rfl) (by kernel_rfl) (by kernel_rfl) (by kernel_rfl) rfl (by exact fun _ _ _ h => h) (by rfl) ?hyx38 (by exact ⟨HBM.out _ _ HSazcc.out (by simp) (by simp), fun _ => trivial⟩) ?restx38
                      case hyx38 => intro W hSW; (try dsimp only at hSW); first | (go_simp; done) | (go_simp; with_reducible rfl)
                      try simp only [Act.put, List.setIfInBounds_toArray, List.set_cons_zero, List.set_cons_succ]
                      refine AnyL.take (i := 12) (v := ?vx39) (by rfl) (by kernel_rfl) (by kernel_rfl) (by kernel_rfl) rfl (by exact fun _ _ _ h => h) (by rfl) ?hyx39 (by exact ⟨HBM.out _ _ HSazcc.out (by simp) (by simp), fun _ => trivial⟩) ?restx39
                      case hyx39 => intro W hSW; (try dsimp only at hSW); first | (go_simp; done) | (go_simp; with_reducible rfl)
                      try simp only [Act.put, List.setIfInBounds_toArray, List.set_cons_zero, List.set_cons_succ]
                      have h8 := Sep.blk (A := [_]) (B := [_]) (HSazcc.out)
                      obtain ⟨_, _, _, f0, f1, f2⟩ := bx3 h8.hd
                      have HZ9 := Lib.hid (((h8.setB 0 (.int .i64 nI)).setB 1 (.slice g2a r1.length g2c)).setB 2 (.slice oa m oc))
                      clear h8
                      refine AnyL.step (i := 14) (by kernel_rfl) (by rfl) (fun K hK => ?_)
                      go_simp
                      refine hK.out _ (((wazcc.setCell ⟨nb, 0, none⟩ (.int .i64 nI)).setCell ⟨nb, 1, none⟩ (.slice g2a r1.length g2c)).setCell ⟨nb, 2, none⟩ (.slice oa m oc)) (by exact HBM.out _ _ HZ9.out (by simp) (by simp)) (by exact fun _ => trivial) ?_
                      clear hK K
                      refine AnyL.take (i := 15) (v := ?vx40) (by rfl) (by kernel_rfl) (by kernel_rfl) (by kernel_rfl) rfl (by exact fun _ _ _ h => h) (by rfl) ?hyx40 (by exact ⟨HBM.out _ _ HZ9.out (by simp) (by simp), fun _ => trivial⟩) ?restx40
                      case hyx40 => intro W hSW; (try dsimp only at hSW); first | (go_simp; done) | (go_simp; with_reducible rfl)
                      try simp only [Act.put, List.setIfInBounds_toArray, List.set_cons_zero, List.set_cons_succ]
                      refine AnyL.done (by kernel_rfl) ?_ _
                      clear f0 f1 f2
                      go_wp2_with fail
                      go_meet
                      exact ⟨nb, g2a, g2c, rfl, rfl, HZ9.out⟩
                  case rest =>
                    obtain ⟨nb, g2a, g2c, rfl, rfl, hs2⟩ := hcut
                    have H2 := Lib.hid hs2
                    clear hs2 HSR HSA HBM HOR
                    obtain ⟨m0, m1, m2, _⟩ := bx3 H2.out.hd
                    have HQ := Lib.hid (Sep.blk (A := [_, _, _]) (B := [_]) (H2.out))
                    have HLO := Lib.hid (HCL.out m).2
                    go_wp2_with (
                      at_builtin
                      go_loud (
                        refine app_intS rfl _ _ rfl rfl rfl HQ.out (by rw [HLO.out]; omega) ?_
                        intro g5 c5 w5 h5
                        rw [HLO.out] at h5 ⊢
                        have h5 := Sep.blk (A := [_]) (B := [_]) h5
                        obtain ⟨_, _, _, _, _, z5⟩ := bx3 h5.hd
                        have H6 := Lib.hid (h5.setB 2 (.slice (some ⟨g5, 0, none⟩) (m + 1) c5))
                        obtain ⟨k0, k1, k2, _⟩ := bx3 H6.out.hd
                        obtain ⟨_, _, _, f0, f1, f2⟩ := bx3 H6.out.tl.tl.tl.hd
                        have H8 := Lib.hid (Sep.blk3 (X := [_]) (A := [_]) (B := [_]) (Sep.cutA (X := [_]) (A := [_]) ((((Sep.blk (A := [_, _, _]) (B := [_]) H6.out).setB 0 (.int .i64 nI)).setB 1 (.slice g2a r1.length g2c)).setB 2 (.slice (some ⟨g5, 0, none⟩) (m + 1) c5))))
                        clear h5 m0 m1 m2))
                    go_roundw
                    case rel => exact ⟨m + 1, _, _, HLT.out, by go_num, by rw [HSC.out]; exact H8.out⟩
                    case measure => simp [intOf]; omega
                · have hmo : m = nO := by omega
                  subst hmo
                  have hki : ¬ (m : Int) < (m : Int) := by omega
                  obtain ⟨_, _, _, f0, f1, f2⟩ := bx3 HSR.out.tl.tl.tl.hd
                  have H9 := Lib.hid ((((Sep.blk (A := [_, _, _]) (B := [_]) HSR.out).setB 0 (.int .i64 nI)).setB 1 (.slice ga (CL nS nI s m).1.length gc)).setB 2 (.slice oa m oc))
                  obtain ⟨g0, g1, g2, _⟩ := bx3 H9.out.hd
                  have HF := Lib.hid (Sep.cutA (X := [_, _]) (A := [_]) H9.out.tl.tl)
                  have HLO := Lib.hid (HCL.out m).2
                  clear HSR
                  go_wp2_with fail
                  generalize ((wr.setCell { block := w.heap.size + 1, off := 0 } (Value.int IntKind.i64 (nI : Int))).setCell { block := w.heap.size + 1, off := 1 } (Value.slice ga (CL nS nI s m).fst.length gc)).setCell { block := w.heap.size + 1, off := 2 } (Value.slice oa m oc) = w9 at *
                  refine bodyPost_ret_by (v := .agg #[.int .i64 nI, .slice ga (CL nS nI s m).1.length gc, .slice oa m oc]) ?_ rfl ⟨ga, gc, oa, oc, by rw [HLO.out], by rw [HLO.out]; exact HF.out⟩
                  simp [results, go_sem, *]
end Go.Proofs.YtghfifpicklonaaDoor

/-
  The circuit of a state space, checked: both writings. Conditions: the lists' lengths are small; the table of small primes holds what its text lays.
-/
namespace Go.Proofs.YtghfifpicklonaaDoor
open Go.RowKit
set_option linter.unusedVariables false
set_option maxRecDepth 100000

def spaceC (s : StSp) : Circ := ⟨(s.I.toNat : Int), (CL s.S.toNat s.I.toNat s s.O.toNat).1, (CL s.S.toNat s.I.toNat s s.O.toNat).2⟩
def spOk (p : Int) (s : StSp) : Bool := ssB p s && circE p (spaceC s)
def spRes (p : Int) (s : StSp) : Circ := if spOk p s = true then spaceC s else circ0
theorem ss_nat {p : Int} {s : StSp} (h : ssB p s = true) : SsOk s s.S.toNat s.I.toNat s.O.toNat := by
  obtain ⟨nS, nI, nO, hk⟩ := ss_ok h
  have e1 : s.S.toNat = nS := by rw [hk.es]; rfl
  have e2 : s.I.toNat = nI := by rw [hk.ei]; rfl
  have e3 : s.O.toNat = nO := by rw [hk.eo]; rfl
  rw [e1, e2, e3]
  exact hk
theorem space_len {p : Int} {s : StSp} (h : ssB p s = true) : (spaceC s).gs.length ≤ 3000 ∧ (spaceC s).os.length ≤ 8 := by
  have hk := ss_nat h
  have h1 := CL_len (s := s) hk.ls hk.li s.O.toNat
  have h2 := hk.lo
  show (CL s.S.toNat s.I.toNat s s.O.toNat).1.length ≤ 3000 ∧ (CL s.S.toNat s.I.toNat s s.O.toNat).2.length ≤ 8
  omega
theorem spRes_len (p : Int) (s : StSp) : (spRes p s).gs.length ≤ 3000 ∧ (spRes p s).os.length ≤ 8 := by
  unfold spRes
  split
  · rename_i h
    unfold spOk at h
    exact space_len (Bool.and_eq_true_iff.1 h).1
  · exact ⟨Nat.zero_le _, Nat.zero_le _⟩
set_option maxHeartbeats 2000000 in
theorem iSpace_any (p : Int) (s : StSp) (av bv cv dv : Value) (w : World) (ht : Tab w) (h : RdSs w s av bv cv dv) (hs : SmS s) :
    Calls Tryd.prog 9 #[.int .i64 p, .agg #[.int .i64 s.S, .int .i64 s.I, .int .i64 s.O, av, bv, cv, dv]] w (CirRes (spRes p s) (spOk p s) w) := by
  have HT := Lib.hid ht
  have HIP := Lib.hid fun W (hw : w.grownBy W none) => isSS_any p s av bv cv dv W (ht.grown hw) (h.carry hw) hs
  cases hp : ssB p s
  · have hok : spOk p s = false := by unfold spOk; rw [hp]; rfl
    have hr : spRes p s = circ0 := by unfold spRes; rw [hok]; rfl
    rw [hr, hok]
    rw [hp] at HIP
    obtain ⟨S, I, O, A, B, C, D⟩ := s
    obtain ⟨sa, ta, rfl⟩ := h.a.shape
    obtain ⟨sb, tb, rfl⟩ := h.b.shape
    obtain ⟨sc, tc, rfl⟩ := h.c.shape
    obtain ⟨sd, td, rfl⟩ := h.d.shape
    simp only at HIP ⊢
    clear hp hok hr h hs ht
    have hs0 := ((Sep.start w).boxAt w.heap.size rfl #[.int .i64 S, .int .i64 I, .int .i64 O, .slice sa A.length ta, .slice sb B.length tb, .slice sc C.length tc, .slice sd D.length td] 32).boxAt (w.heap.size + 1) (by simp) #[.int .i64 0, .slice none 0 0, .slice none 0 0] 29
    have HS0 := Lib.hid hs0
    have HK0 := Lib.hid (show w.grownBy _ none from hs0.tl.tl.hd)
    obtain ⟨x0, x1, x2, x3, x4, x5, x6⟩ := bq7 hs0.tl.hd
    clear hs0
    generalize A.length = na at *
    generalize B.length = nb at *
    generalize C.length = nc at *
    generalize D.length = nd at *
    go_enter Tryd.func9, Tryd.ntmps9
    go_wp2_with (
      go_at_call 33
      with_reducible refine (HIP.out _ HK0.out).mono ?_
      rintro e w4 ⟨rfl, hg4⟩
      have hs1 := HS0.out.grown hg4
      obtain ⟨r0, r1, r2, r3, r4, r5⟩ := bx3 hs1.hd
      have hs2 := ((hs1.setB 0 (.int .i64 0)).setB 1 (.slice none 0 0)).setB 2 (.slice none 0 0)
      obtain ⟨t0, t1, t2, _⟩ := bx3 hs2.hd
      have HKF := Lib.hid (show w.grownBy _ none from hs2.tl.tl.hd)
      clear hs1 hs2
      clear hg4 x0 x1 x2 x3 x4 x5 x6)
    refine bodyPost_ret_by (v := .tuple #[.agg #[.int .i64 0, .slice none 0 0, .slice none 0 0], .bool false]) ?_ rfl (CirRes.zero HKF.out)
    simp [results, go_sem, *]
  · have hokd : spOk p s = circE p (spaceC s) := by unfold spOk; rw [hp]; rfl
    have hk := ss_nat hp
    have HD := Lib.hid fun W (hw : w.grownBy W none) => show Calls Tryd.prog 35 #[.agg #[.int .i64 s.S, .int .i64 s.I, .int .i64 s.O, av, bv, cv, dv]] W (CirS (spaceC s).n (spaceC s).gs (spaceC s).os W) from circuit_any s _ _ _ av bv cv dv W (h.carry hw) hk
    obtain ⟨hl1, hl2⟩ := space_len hp
    rw [hp] at HIP
    have hres : spRes p s = if circE p (spaceC s) = true then spaceC s else circ0 := by unfold spRes; rw [hokd]
    rw [hokd, hres]
    clear hokd hres hp hk
    generalize spaceC s = R at *
    obtain ⟨n, gs, os⟩ := R
    simp only at hl1 hl2 HD
    have HV := Lib.hid fun W gv ov (ht : w.grownBy W none) (h1 : RdR gateE W gv gs) (h2 : IntsV W ov os) => validCircuit_any p n gv ov gs os W (HT.out.grown ht) h1 h2 (by omega) (by omega)
    obtain ⟨S, I, O, A, B, C, D⟩ := s
    obtain ⟨sa, ta, rfl⟩ := h.a.shape
    obtain ⟨sb, tb, rfl⟩ := h.b.shape
    obtain ⟨sc, tc, rfl⟩ := h.c.shape
    obtain ⟨sd, td, rfl⟩ := h.d.shape
    simp only at HIP HD
    unfold CirS at HD
    clear h hs hl1 hl2 ht
    have hs0 := ((Sep.start w).boxAt w.heap.size rfl #[.int .i64 S, .int .i64 I, .int .i64 O, .slice sa A.length ta, .slice sb B.length tb, .slice sc C.length tc, .slice sd D.length td] 32).boxAt (w.heap.size + 1) (by simp) #[.int .i64 0, .slice none 0 0, .slice none 0 0] 29
    have HS0 := Lib.hid hs0
    have HK0 := Lib.hid (show w.grownBy _ none from hs0.tl.tl.hd)
    obtain ⟨x0, x1, x2, x3, x4, x5, x6⟩ := bq7 hs0.tl.hd
    clear hs0
    generalize A.length = na at *
    generalize B.length = nb at *
    generalize C.length = nc at *
    generalize D.length = nd at *
    generalize hb : circE p ⟨n, gs, os⟩ = b at *
    clear hb
    cases b
    · simp only [cirV, nilS, Bool.false_eq_true, if_false] at HV
      go_enter Tryd.func9, Tryd.ntmps9
      go_wp2_with (first
        | (go_at_call 33
           with_reducible refine (HIP.out _ HK0.out).mono ?_
           rintro e w4 ⟨rfl, hg4⟩
           have HS1 := Lib.hid (HS0.out.grown hg4)
           have HK1 := Lib.hid (grownBy_trans HK0.out hg4)
           obtain ⟨y0, y1, y2, y3, y4, y5, y6⟩ := bq7 HS1.out.tl.hd
           clear hg4 x0 x1 x2 x3 x4 x5 x6)
        | (go_at_call 35
           with_reducible refine (HD.out _ HK1.out).mono ?_
           rintro e w5 ⟨a1, c1, a2, c2, rfl, hsg⟩
           obtain ⟨hR, hI, hk5⟩ := hsg.reads
           have HR := Lib.hid hR
           have HI := Lib.hid hI
           have HK5 := Lib.hid (grownBy_trans HK1.out hk5)
           have HS5 := Lib.hid (HS1.out.graft2 hsg OR_own OI_own)
           clear hR hI hk5 hsg y0 y1 y2 y3 y4 y5 y6)
        | (go_at_call 34
           with_reducible refine (HV.out _ _ _ HK5.out HR.out HI.out).mono ?_
           rintro e w6 ⟨rfl, hg6⟩
           have hs1 := (HS5.out.grown hg6).s3
           obtain ⟨r0, r1, r2, r3, r4, r5⟩ := bx3 hs1.hd
           have hs2 := ((hs1.setB 0 (.int .i64 0)).setB 1 (.slice none 0 0)).setB 2 (.slice none 0 0)
           obtain ⟨t0, t1, t2, _⟩ := bx3 hs2.hd
           have HKF := Lib.hid (show w.grownBy _ none from hs2.tl.tl.tl.tl.hd)
           clear hg6 hs1 hs2))
      refine bodyPost_ret_by (v := .tuple #[.agg #[.int .i64 0, .slice none 0 0, .slice none 0 0], .bool false]) ?_ rfl (CirRes.zero HKF.out)
      simp [results, go_sem, *]
    · simp only [cirV, if_true] at HV
      go_enter Tryd.func9, Tryd.ntmps9
      go_wp2_with (first
        | (go_at_call 33
           with_reducible refine (HIP.out _ HK0.out).mono ?_
           rintro e w4 ⟨rfl, hg4⟩
           have HS1 := Lib.hid (HS0.out.grown hg4)
           have HK1 := Lib.hid (grownBy_trans HK0.out hg4)
           obtain ⟨y0, y1, y2, y3, y4, y5, y6⟩ := bq7 HS1.out.tl.hd
           clear hg4 x0 x1 x2 x3 x4 x5 x6)
        | (go_at_call 35
           with_reducible refine (HD.out _ HK1.out).mono ?_
           rintro e w5 ⟨a1, c1, a2, c2, rfl, hsg⟩
           obtain ⟨hR, hI, hk5⟩ := hsg.reads
           have HR := Lib.hid hR
           have HI := Lib.hid hI
           have HK5 := Lib.hid (grownBy_trans HK1.out hk5)
           have HS5 := Lib.hid (HS1.out.graft2 hsg OR_own OI_own)
           clear hR hI hk5 hsg y0 y1 y2 y3 y4 y5 y6)
        | (go_at_call 34
           with_reducible refine (HV.out _ _ _ HK5.out HR.out HI.out).mono ?_
           rintro e w6 ⟨rfl, hg6⟩
           have hs1 := (HS5.out.grown hg6).s3
           obtain ⟨r0, r1, r2, r3, r4, r5⟩ := bx3 hs1.hd
           have hs2 := ((hs1.setB 0 (.int .i64 n)).setB 1 (.slice a1 gs.length c1)).setB 2 (.slice a2 os.length c2)
           obtain ⟨t0, t1, t2, _⟩ := bx3 hs2.hd
           have HSF := Lib.hid (hs2.tl.under (fun h => h.drop2) (by simp +contextual))
           clear hg6 hs1 hs2))
      refine bodyPost_ret_by (v := .tuple #[.agg #[.int .i64 n, .slice a1 gs.length c1, .slice a2 os.length c2], .bool true]) ?_ rfl ⟨a1, c1, a2, c2, rfl, HSF.out⟩
      simp [results, go_sem, *]
set_option maxHeartbeats 2000000 in
theorem sSpace_any (p : Int) (s : StSp) (av bv cv dv : Value) (w : World) (h : RdSs w s av bv cv dv) (hs : SmS s) :
    Calls Tryd.prog 7 #[.int .i64 p, .agg #[.int .i64 s.S, .int .i64 s.I, .int .i64 s.O, av, bv, cv, dv]] w (CirRes (spRes p s) (spOk p s) w) := by
  have HIP := Lib.hid fun W (hw : w.grownBy W none) => ssGood_any p s av bv cv dv W (h.carry hw) hs
  cases hp : ssB p s
  · have hok : spOk p s = false := by unfold spOk; rw [hp]; rfl
    have hr : spRes p s = circ0 := by unfold spRes; rw [hok]; rfl
    rw [hr, hok]
    rw [hp] at HIP
    obtain ⟨S, I, O, A, B, C, D⟩ := s
    obtain ⟨sa, ta, rfl⟩ := h.a.shape
    obtain ⟨sb, tb, rfl⟩ := h.b.shape
    obtain ⟨sc, tc, rfl⟩ := h.c.shape
    obtain ⟨sd, td, rfl⟩ := h.d.shape
    simp only at HIP ⊢
    clear hp hok hr h hs
    have hs0 := ((Sep.start w).boxAt w.heap.size rfl #[.int .i64 S, .int .i64 I, .int .i64 O, .slice sa A.length ta, .slice sb B.length tb, .slice sc C.length tc, .slice sd D.length td] 32).boxAt (w.heap.size + 1) (by simp) #[.int .i64 0, .slice none 0 0, .slice none 0 0] 29
    have HS0 := Lib.hid hs0
    have HK0 := Lib.hid (show w.grownBy _ none from hs0.tl.tl.hd)
    obtain ⟨x0, x1, x2, x3, x4, x5, x6⟩ := bq7 hs0.tl.hd
    clear hs0
    generalize A.length = na at *
    generalize B.length = nb at *
    generalize C.length = nc at *
    generalize D.length = nd at *
    go_enter Tryd.func7, Tryd.ntmps7
    go_wp2_with (
      go_at_call 29
      with_reducible refine (HIP.out _ HK0.out).mono ?_
      rintro e w4 ⟨rfl, hg4⟩
      have hs1 := HS0.out.grown hg4
      obtain ⟨r0, r1, r2, r3, r4, r5⟩ := bx3 hs1.hd
      have hs2 := ((hs1.setB 0 (.int .i64 0)).setB 1 (.slice none 0 0)).setB 2 (.slice none 0 0)
      obtain ⟨t0, t1, t2, _⟩ := bx3 hs2.hd
      have HKF := Lib.hid (show w.grownBy _ none from hs2.tl.tl.hd)
      clear hs1 hs2
      clear hg4 x0 x1 x2 x3 x4 x5 x6)
    refine bodyPost_ret_by (v := .tuple #[.agg #[.int .i64 0, .slice none 0 0, .slice none 0 0], .bool false]) ?_ rfl (CirRes.zero HKF.out)
    simp [results, go_sem, *]
  · have hokd : spOk p s = circE p (spaceC s) := by unfold spOk; rw [hp]; rfl
    have hk := ss_nat hp
    have HD := Lib.hid fun W (hw : w.grownBy W none) => show Calls Tryd.prog 31 #[.agg #[.int .i64 s.S, .int .i64 s.I, .int .i64 s.O, av, bv, cv, dv]] W (CirS (spaceC s).n (spaceC s).gs (spaceC s).os W) from rzCircuit_any s _ _ _ av bv cv dv W (h.carry hw) hk
    obtain ⟨hl1, hl2⟩ := space_len hp
    rw [hp] at HIP
    have hres : spRes p s = if circE p (spaceC s) = true then spaceC s else circ0 := by unfold spRes; rw [hokd]
    rw [hokd, hres]
    clear hokd hres hp hk
    generalize spaceC s = R at *
    obtain ⟨n, gs, os⟩ := R
    simp only at hl1 hl2 HD
    have HV := Lib.hid fun W gv ov (ht : w.grownBy W none) (h1 : RdR gateE W gv gs) (h2 : IntsV W ov os) => crIf_any p n gv ov gs os W h1 h2 (by omega) (by omega)
    obtain ⟨S, I, O, A, B, C, D⟩ := s
    obtain ⟨sa, ta, rfl⟩ := h.a.shape
    obtain ⟨sb, tb, rfl⟩ := h.b.shape
    obtain ⟨sc, tc, rfl⟩ := h.c.shape
    obtain ⟨sd, td, rfl⟩ := h.d.shape
    simp only at HIP HD
    unfold CirS at HD
    clear h hs hl1 hl2
    have hs0 := ((Sep.start w).boxAt w.heap.size rfl #[.int .i64 S, .int .i64 I, .int .i64 O, .slice sa A.length ta, .slice sb B.length tb, .slice sc C.length tc, .slice sd D.length td] 32).boxAt (w.heap.size + 1) (by simp) #[.int .i64 0, .slice none 0 0, .slice none 0 0] 29
    have HS0 := Lib.hid hs0
    have HK0 := Lib.hid (show w.grownBy _ none from hs0.tl.tl.hd)
    obtain ⟨x0, x1, x2, x3, x4, x5, x6⟩ := bq7 hs0.tl.hd
    clear hs0
    generalize A.length = na at *
    generalize B.length = nb at *
    generalize C.length = nc at *
    generalize D.length = nd at *
    generalize hb : circE p ⟨n, gs, os⟩ = b at *
    clear hb
    cases b
    · simp only [cirV, nilS, Bool.false_eq_true, if_false] at HV
      go_enter Tryd.func7, Tryd.ntmps7
      go_wp2_with (first
        | (go_at_call 29
           with_reducible refine (HIP.out _ HK0.out).mono ?_
           rintro e w4 ⟨rfl, hg4⟩
           have HS1 := Lib.hid (HS0.out.grown hg4)
           have HK1 := Lib.hid (grownBy_trans HK0.out hg4)
           obtain ⟨y0, y1, y2, y3, y4, y5, y6⟩ := bq7 HS1.out.tl.hd
           clear hg4 x0 x1 x2 x3 x4 x5 x6)
        | (go_at_call 31
           with_reducible refine (HD.out _ HK1.out).mono ?_
           rintro e w5 ⟨a1, c1, a2, c2, rfl, hsg⟩
           obtain ⟨hR, hI, hk5⟩ := hsg.reads
           have HR := Lib.hid hR
           have HI := Lib.hid hI
           have HK5 := Lib.hid (grownBy_trans HK1.out hk5)
           have HS5 := Lib.hid (HS1.out.graft2 hsg OR_own OI_own)
           clear hR hI hk5 hsg y0 y1 y2 y3 y4 y5 y6)
        | (go_at_call 30
           with_reducible refine (HV.out _ _ _ HK5.out HR.out HI.out).mono ?_
           rintro e w6 ⟨rfl, hg6⟩
           have hs1 := (HS5.out.grown hg6).s3
           obtain ⟨r0, r1, r2, r3, r4, r5⟩ := bx3 hs1.hd
           have hs2 := ((hs1.setB 0 (.int .i64 0)).setB 1 (.slice none 0 0)).setB 2 (.slice none 0 0)
           obtain ⟨t0, t1, t2, _⟩ := bx3 hs2.hd
           have HKF := Lib.hid (show w.grownBy _ none from hs2.tl.tl.tl.tl.hd)
           clear hg6 hs1 hs2))
      refine bodyPost_ret_by (v := .tuple #[.agg #[.int .i64 0, .slice none 0 0, .slice none 0 0], .bool false]) ?_ rfl (CirRes.zero HKF.out)
      simp [results, go_sem, *]
    · simp only [cirV, if_true] at HV
      go_enter Tryd.func7, Tryd.ntmps7
      go_wp2_with (first
        | (go_at_call 29
           with_reducible refine (HIP.out _ HK0.out).mono ?_
           rintro e w4 ⟨rfl, hg4⟩
           have HS1 := Lib.hid (HS0.out.grown hg4)
           have HK1 := Lib.hid (grownBy_trans HK0.out hg4)
           obtain ⟨y0, y1, y2, y3, y4, y5, y6⟩ := bq7 HS1.out.tl.hd
           clear hg4 x0 x1 x2 x3 x4 x5 x6)
        | (go_at_call 31
           with_reducible refine (HD.out _ HK1.out).mono ?_
           rintro e w5 ⟨a1, c1, a2, c2, rfl, hsg⟩
           obtain ⟨hR, hI, hk5⟩ := hsg.reads
           have HR := Lib.hid hR
           have HI := Lib.hid hI
           have HK5 := Lib.hid (grownBy_trans HK1.out hk5)
           have HS5 := Lib.hid (HS1.out.graft2 hsg OR_own OI_own)
           clear hR hI hk5 hsg y0 y1 y2 y3 y4 y5 y6)
        | (go_at_call 30
           with_reducible refine (HV.out _ _ _ HK5.out HR.out HI.out).mono ?_
           rintro e w6 ⟨rfl, hg6⟩
           have hs1 := (HS5.out.grown hg6).s3
           obtain ⟨r0, r1, r2, r3, r4, r5⟩ := bx3 hs1.hd
           have hs2 := ((hs1.setB 0 (.int .i64 n)).setB 1 (.slice a1 gs.length c1)).setB 2 (.slice a2 os.length c2)
           obtain ⟨t0, t1, t2, _⟩ := bx3 hs2.hd
           have HSF := Lib.hid (hs2.tl.under (fun h => h.drop2) (by simp +contextual))
           clear hg6 hs1 hs2))
      refine bodyPost_ret_by (v := .tuple #[.agg #[.int .i64 n, .slice a1 gs.length c1, .slice a2 os.length c2], .bool true]) ?_ rfl ⟨a1, c1, a2, c2, rfl, HSF.out⟩
      simp [results, go_sem, *]
end Go.Proofs.YtghfifpicklonaaDoor

/-
  The walk of FnExactCircuitOfSpace. Conditions: the table of small primes holds what its text lays; the slices' lengths are those of slices.
-/
namespace Go.Proofs.YtghfifpicklonaaDoor
open Go.RowKit
set_option linter.unusedVariables false
set_option maxRecDepth 100000

set_option maxHeartbeats 16000000 in
theorem fnSpace_any (p : Int) (s : StSp) (av bv cv dv : Value) (w : World) (ht : Tab w) (h : RdSs w s av bv cv dv) (hok : okSS s) :
    Calls Tryd.prog 3 #[.int .i64 p, .agg #[.int .i64 s.S, .int .i64 s.I, .int .i64 s.O, av, bv, cv, dv]] w fun e w' => e = .returned (.bool true) ∧ w.grownBy w' none := by
  have HSZ := Lib.hid fun W (hw : w.grownBy W none) => szSS_any s av bv cv dv 1048576 W (h.carry hw) (by decide) (by decide) hok
  have HTT := Lib.hid fun W (hw : w.grownBy W none) (hs : SmS s) => toSS_any s av bv cv dv W (h.carry hw) hs
  have HT := Lib.hid ht
  obtain ⟨sa, ta, rfl⟩ := h.a.shape
  obtain ⟨sb, tb, rfl⟩ := h.b.shape
  obtain ⟨sc, tc, rfl⟩ := h.c.shape
  obtain ⟨sd, td, rfl⟩ := h.d.shape
  clear h hok ht
  have HS0 := Lib.hid ((Sep.start w).box #[.int .i64 s.S, .int .i64 s.I, .int .i64 s.O, .slice sa s.A.length ta, .slice sb s.B.length tb, .slice sc s.C.length tc, .slice sd s.D.length td] 24)
  have HK0 := Lib.hid (show w.grownBy _ none from HS0.out.tl.hd)
  by_cases hsz : lft 1048576 (totSS s) < 0
  · generalize lft 1048576 (totSS s) = rr at *
    clear HTT HT
    go_enter Tryd.func3, Tryd.ntmps3
    go_wp2_with (
      go_at_call 6
      with_reducible refine (HSZ.out _ HK0.out).mono ?_
      rintro e w2 ⟨rfl, hg⟩
      have HK2 := Lib.hid (grownBy_trans HK0.out hg)
      clear hg)
    go_ret
    exact ⟨rfl, HK2.out⟩
  · have htot : totSS s ≤ 1048576 := by unfold lft at hsz; by_cases h : (1048576 : Int) - totSS s < 0 <;> simp [h] at hsz <;> omega
    have hsm := SmS.of htot
    have HTS := Lib.hid fun W (h : w.grownBy W none) => HTT.out W h hsm
    have HES := Lib.hid fun W u0 u1 u2 u3 v0 v1 v2 v3 (h : RdSs W s u0 u1 u2 u3) (h' : RdSs W s v0 v1 v2 v3) => eqSS_same s u0 u1 u2 u3 v0 v1 v2 v3 W h h' hsm
    have HMS := Lib.hid fun W sa sb sc sd ta tb tc td xa xb xc xd l (h : Sep W (OX4 (.slice sa s.A.length ta) xa (.slice sb s.B.length tb) xb (.slice sc s.C.length tc) xc (.slice sd s.D.length td) xd :: l)) (ha : rws xa = s.A) (hb : rws xb = s.B) (hc : rws xc = s.C) (hd : rws xd = s.D) => markSS_any s sa sb sc sd ta tb tc td xa xb xc xd 1 W l h ha hb hc hd htot (by decide) (by decide)
    obtain ⟨R, hR⟩ : ∃ R, spRes p s = R := ⟨_, rfl⟩
    obtain ⟨b, hb⟩ : ∃ b, spOk p s = b := ⟨_, rfl⟩
    obtain ⟨hR1, hR2⟩ := show R.gs.length ≤ 3000 ∧ R.os.length ≤ 8 from by rw [← hR]; exact spRes_len p s
    have HSP := Lib.hid fun W u0 u1 u2 u3 (hw : w.grownBy W none) (h : RdSs W s u0 u1 u2 u3) => show Calls Tryd.prog 7 #[.int .i64 p, .agg #[.int .i64 s.S, .int .i64 s.I, .int .i64 s.O, u0, u1, u2, u3]] W (CirRes R b W) from by
      have := sSpace_any p s u0 u1 u2 u3 W h hsm
      rw [hR, hb] at this
      exact this
    have HIM := Lib.hid fun W u0 u1 u2 u3 (hw : w.grownBy W none) (h : RdSs W s u0 u1 u2 u3) => show Calls Tryd.prog 9 #[.int .i64 p, .agg #[.int .i64 s.S, .int .i64 s.I, .int .i64 s.O, u0, u1, u2, u3]] W (CirRes R b W) from by
      have := iSpace_any p s u0 u1 u2 u3 W (HT.out.grown hw) h hsm
      rw [hR, hb] at this
      exact this
    have HER := Lib.hid fun W a1 c1 a2 c2 (h1 : RdR gateE W (.slice a1 R.gs.length c1) R.gs) (h2 : IntsV W (.slice a2 R.os.length c2) R.os) a3 c3 a4 c4 (h3 : RdR gateE W (.slice a3 R.gs.length c3) R.gs) (h4 : IntsV W (.slice a4 R.os.length c4) R.os) =>
      eqCircuit_same R.n (.slice a1 R.gs.length c1) (.slice a2 R.os.length c2) (.slice a3 R.gs.length c3) (.slice a4 R.os.length c4) R.gs R.os W h1 h3 h2 h4 (by omega) (by omega)
    have HMG := Lib.hid fun W l a1 c1 a2 c2 (h : Sep W (OR gateE (.slice a1 R.gs.length c1) R.gs :: OI (.slice a2 R.os.length c2) R.os :: l)) => markCircuit_any R.n a1 a2 R.gs.length c1 R.os.length c2 R.gs R.os 1 W l h rfl rfl (by omega) (by omega) (by decide) (by decide)
    have HHG := Lib.hid fun W a1 c1 a2 c2 (h1 : RdR gateE W (.slice a1 R.gs.length c1) (cntG 1 R.gs.length)) (h2 : IntsV W (.slice a2 R.os.length c2) (cntI (1 + 4 * R.gs.length) R.os.length)) => heldCircuit_any R.n a1 a2 R.gs.length c1 R.os.length c2 1 W h1 h2 (by omega) (by omega) (by decide) (by decide)
    clear hR hb
    unfold CirRes at HSP HIM
    unfold GivesS at HTS
    unfold MarkR at HMS
    obtain ⟨Rn, Rg, Ro⟩ := R
    simp only at HSP HIM HER HMG HHG hR1 hR2
    generalize hr1 : Rg.length = r1 at *
    generalize hr2 : Ro.length = r2 at *
    obtain ⟨q2, hq2⟩ : ∃ q : Int, q = 1 + 4 * (r1 : Int) + r2 := ⟨_, rfl⟩
    rw [← hq2] at HMG HHG
    have hq20 : ¬ q2 < 0 := by omega
    have hmm : (q2 != q2) = false := by simp
    have hnb : (b != b) = false := by simp
    clear hr1 hr2 hq2
    unfold cirV at *
    generalize lft 1048576 (totSS s) = rr at *
    clear htot hsm HTT HT
    go_enter Tryd.func3, Tryd.ntmps3
    go_upto_region 10 with (first
      | (go_at_call 6
         with_reducible refine (HSZ.out _ HK0.out).mono ?_
         rintro e w2 ⟨rfl, hg⟩
         have hs2 := HS0.out.grown hg
         obtain ⟨x0, x1, x2, x3, x4, x5, x6⟩ := bq7 hs2.hd
         have HS2 := Lib.hid hs2
         have HK2 := Lib.hid (show w.grownBy w2 none from hs2.tl.hd)
         clear hg hs2)
      | (go_at_call 8
         with_reducible refine (HTS.out _ HK2.out).mono ?_
         rintro e w3 ⟨maa, mba, mca, mda, kaa, kba, kca, kda, xaa, xba, xca, xda, rfl, ha, hb, hc, hd, hsg⟩
         have hs3 := HS2.out.graft1 hsg OX4_own
         have HS3 := Lib.hid hs3
         have HSP3 := Lib.hid (HSP.out _ _ _ _ _ (show w.grownBy w3 none from hs3.tl.tl.hd) (OX4.read hs3.hd ha hb hc hd))
         clear x0 x1 x2 x3 x4 x5 x6
         clear hsg hs3 ha hb hc hd)
      | (go_at_call 7
         with_reducible refine HSP3.out.mono ?_
         rintro e w4 ⟨wg, wc, wo, wd, rfl, hsg⟩
         have hs4 := (Sep.cutA (X := [_, _]) (A := [_]) (HS3.out.graft2 hsg OR_own OI_own)).box #[.int .i64 Rn, .slice wg r1 wc, .slice wo r2 wd] 29
         obtain ⟨x0, x1, x2, x3, x4, x5, x6⟩ := bq7 hs4.tl.tl.tl.hd
         have HS4 := Lib.hid hs4
         have HK4 := Lib.hid (show w.grownBy _ none from hs4.tl.tl.tl.tl.hd)
         clear hsg hs4)
      | (go_at_call 8
         with_reducible refine (HTS.out _ HK4.out).mono ?_
         rintro e w5 ⟨mab, mbb, mcb, mdb, kab, kbb, kcb, kdb, xab, xbb, xcb, xdb, rfl, ha, hb, hc, hd, hsg⟩
         have HXA := Lib.hid ha; have HXB := Lib.hid hb; have HXC := Lib.hid hc; have HXD := Lib.hid hd
         have hs5 := (HS4.out.graft1 hsg OX4_own).box #[.int .i64 s.S, .int .i64 s.I, .int .i64 s.O, .slice mab s.A.length kab, .slice mbb s.B.length kbb, .slice mcb s.C.length kcb, .slice mdb s.D.length kdb] 32
         clear x0 x1 x2 x3 x4 x5 x6
         obtain ⟨x0, x1, x2, x3, x4, x5, x6⟩ := bq7 hs5.hd
         have HS5 := Lib.hid hs5
         have HIM5 := Lib.hid (HIM.out _ _ _ _ _ (show w.grownBy _ none from hs5.tl.tl.tl.tl.tl.tl.hd) (OX4.read hs5.tl.hd ha hb hc hd))
         clear hsg hs5 ha hb hc hd)
      | (go_at_call 9
         with_reducible refine HIM5.out.mono ?_
         rintro e w6 ⟨hg1, hc1, ho1, hd1, rfl, hsg⟩
         have hs6 := (HS5.out.graft2 hsg OR_own OI_own).box #[.int .i64 Rn, .slice hg1 r1 hc1, .slice ho1 r2 hd1] 29
         clear x0 x1 x2 x3 x4 x5 x6
         obtain ⟨m0, m1, m2, _⟩ := bx3 hs6.hd
         obtain ⟨n0, n1, n2, _⟩ := bx3 hs6.tl.tl.tl.tl.tl.hd
         have HS6 := Lib.hid hs6
         have HEQ6 := Lib.hid (HER.out _ _ _ _ _ hs6.tl.hd.read hs6.tl.tl.hd.read _ _ _ _ hs6.tl.tl.tl.tl.tl.tl.hd.read hs6.tl.tl.tl.tl.tl.tl.tl.hd.read)
         clear hsg hs6)
      | (go_at_call 10
         with_reducible refine HEQ6.out.mono ?_
         rintro e w7 ⟨rfl, hg⟩
         have hs7 := HS6.out.grown hg
         clear m0 m1 m2
         clear n0 n1 n2
         have HS7 := Lib.hid hs7
         clear hg hs7))
    have hs7 := HS7.out.dr
    obtain ⟨x0, x1, x2, x3, x4, x5, x6⟩ := bq7 hs7.tl.tl.tl.hd
    obtain ⟨y0, y1, y2, y3, y4, y5, y6⟩ := bq7 hs7.tl.tl.tl.tl.tl.tl.tl.tl.hd
    have HSD7 := Lib.hid hs7
    have HKD7 := Lib.hid (show w.grownBy w7.drew none from hs7.tl.tl.tl.tl.tl.tl.tl.tl.tl.hd)
    clear hs7
    go_region_law (first
      | ((try go_simp)
         go_at_call 8
         with_reducible refine (HTS.out _ HKD7.out).mono ?_
         rintro e w8 ⟨mac, mbc, mcc, mdc, kac, kbc, kcc, kdc, xac, xbc, xcc, xdc, rfl, ha, hb, hc, hd, hsg⟩
         have hs8 := HSD7.out.graft1 hsg OX4_own
         obtain ⟨z0, z1, z2, z3, z4, z5, z6⟩ := bq7 hs8.tl.tl.tl.tl.hd
         have HE8 := Lib.hid (HES.out _ _ _ _ _ _ _ _ _ (OX4.read hs8.tl.tl.tl.tl.tl.hd HXA.out HXB.out HXC.out HXD.out) (OX4.read hs8.hd ha hb hc hd))
         have HS8 := Lib.hid hs8.tl
         clear hsg hs8 ha hb hc hd)
      | ((try go_simp)
         go_at_call 11
         with_reducible refine HE8.out.mono ?_
         rintro e w9 ⟨rfl, hg⟩
         have hs9 := HS8.out.grown hg
         obtain ⟨v0, v1, v2, v3, v4, v5, v6⟩ := bq7 hs9.tl.tl.tl.hd
         have HMS9 := Lib.hid (HMS.out _ _ _ _ _ _ _ _ _ _ _ _ _ _ (Sep.blk (A := [_, _, _, _]) (B := [_]) hs9) HXA.out HXB.out HXC.out HXD.out)
         clear hg hs9))
    all_goals
      clear x0 x1 x2 x3 x4 x5 x6 y0 y1 y2 y3 y4 y5 y6
      go_wp2_with (first
        | (go_at_call 12
           with_reducible refine HMS9.out.mono ?_
           rintro e w10 ⟨r10, rfl, hr10, _, hs10⟩
           have hr10' : ¬ r10 < 0 := by omega
           obtain ⟨m0, m1, m2, _⟩ := bx3 hs10.hd
           obtain ⟨n0, n1, n2, _⟩ := bx3 hs10.tl.tl.tl.tl.hd
           have HS10 := Lib.hid hs10
           have HEQ10 := Lib.hid (HER.out _ _ _ _ _ hs10.tl.hd.read hs10.tl.tl.hd.read _ _ _ _ hs10.tl.tl.tl.tl.tl.hd.read hs10.tl.tl.tl.tl.tl.tl.hd.read)
           clear hs10 hr10)
        | (go_at_call 10
           with_reducible refine HEQ10.out.mono ?_
           rintro e w11 ⟨rfl, hg⟩
           have hs11 := Sep.blk (A := [_]) (B := [_, _]) (HS10.out.grown hg)
           clear m0 m1 m2
           clear n0 n1 n2
           obtain ⟨m0, m1, m2, _⟩ := bx3 hs11.tl.tl.hd
           have HMG11 := Lib.hid (HMG.out _ _ _ _ _ _ hs11)
           clear hg hs11)
        | (go_at_call 13
           with_reducible refine HMG11.out.mono ?_
           rintro e w12 ⟨rfl, hs12⟩
           clear m0 m1 m2
           obtain ⟨m0, m1, m2, _⟩ := bx3 hs12.tl.tl.hd
           have HS12 := Lib.hid hs12
           have HHG12 := Lib.hid (HHG.out _ _ _ _ _ hs12.hd.read hs12.tl.hd.read)
           clear hs12)
        | (go_at_call 14
           with_reducible refine HHG12.out.mono ?_
           rintro e w13 ⟨rfl, hg⟩
           have hs13 := HS12.out.grown hg
           clear m0 m1 m2
           obtain ⟨x0, x1, x2, x3, x4, x5, x6⟩ := bq7 hs13.tl.tl.tl.tl.tl.tl.tl.hd
           have HS13 := Lib.hid hs13
           have HK13 := Lib.hid (show w.grownBy w13 none from hs13.tl.tl.tl.tl.tl.tl.tl.tl.hd)
           clear hg hs13)
        | (go_at_call 8
           with_reducible refine (HTS.out _ HK13.out).mono ?_
           rintro e w14 ⟨mad, mbd, mcd, mdd, kad, kbd, kcd, kdd, xad, xbd, xcd, xdd, rfl, ha, hb, hc, hd, hsg⟩
           have hs14 := HS13.out.graft1 hsg OX4_own
           clear x0 x1 x2 x3 x4 x5 x6
           have HS14 := Lib.hid hs14
           have HIM14 := Lib.hid (HIM.out _ _ _ _ _ (show w.grownBy _ none from hs14.tl.tl.tl.tl.tl.tl.tl.tl.tl.hd) (OX4.read hs14.hd ha hb hc hd))
           clear hsg hs14 ha hb hc hd)
        | (go_at_call 9
           with_reducible refine HIM14.out.mono ?_
           rintro e w15 ⟨ig, ic, io, id', rfl, hsg⟩
           have hs15 := (Sep.cutA (X := [_, _]) (A := [_]) (HS14.out.graft2 hsg OR_own OI_own)).box #[.int .i64 Rn, .slice ig r1 ic, .slice io r2 id'] 29
           obtain ⟨m0, m1, m2, _⟩ := bx3 hs15.hd
           obtain ⟨n0, n1, n2, _⟩ := bx3 hs15.tl.tl.tl.tl.tl.tl.tl.hd
           have HS15 := Lib.hid hs15
           have HEQ15 := Lib.hid (HER.out _ _ _ _ _ hs15.tl.hd.read hs15.tl.tl.hd.read _ _ _ _ hs15.tl.tl.tl.tl.tl.tl.tl.tl.hd.read hs15.tl.tl.tl.tl.tl.tl.tl.tl.tl.hd.read)
           clear hsg hs15)
        | (go_at_call 10
           with_reducible refine HEQ15.out.mono ?_
           rintro e w16 ⟨rfl, hg⟩
           have hs16 := HS15.out.grown hg
           clear m0 m1 m2
           clear n0 n1 n2
           obtain ⟨m0, m1, m2, _⟩ := bx3 hs16.tl.tl.tl.tl.tl.hd
           have HHG16 := Lib.hid (HHG.out _ _ _ _ _ hs16.tl.tl.tl.hd.read hs16.tl.tl.tl.tl.hd.read)
           have HK16 := Lib.hid (show w.grownBy w16 none from hs16.tl.tl.tl.tl.tl.tl.tl.tl.tl.tl.tl.hd)
           clear hg hs16)
        | (go_at_call 14
           with_reducible refine HHG16.out.mono ?_
           rintro e w17 ⟨rfl, hg⟩
           have HK17 := Lib.hid (grownBy_trans HK16.out hg)
           clear hg))
      go_ret
      exact ⟨rfl, HK17.out⟩
end Go.Proofs.YtghfifpicklonaaDoor

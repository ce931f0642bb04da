/-
  The order in which gates are made, in the program: the whole walk. Conditions: at most 1000 gates, whose operands are gates.
-/
import Derived.Test.YtghfifpicklonaaDoorBc02
import Derived.Test.YtghfifpicklonaaDoorBc01
import Derived.Deep.CutRange
namespace Go.Proofs.YtghfifpicklonaaDoor
open Go.RowKit Go.Maps
set_option linter.unusedVariables false
set_option maxRecDepth 100000

theorem bx1 {w : World} {k : Nat} {x : Value} {t : TypeId} (h : w.heap[k]? = some (.cells #[x] t (0, 0))) : w.cell? ⟨k, 0, none⟩ = some x ∧ w.frozen? ⟨k, 0, none⟩ = false :=
  ⟨cell_of_row w k 0 _ _ _ h, frozen_of_row w k 0 _ _ h⟩
theorem idx_next {gs : List Gt} {n : Nat} {op : List Bool} (hn : gs.length = n) : idxR (fun x => readyB gs op x.toNat) (upL n) = match nextI gs op with
    | some i => (i : Int)
    | none => -1 := by
  subst hn
  cases h : nextI gs op with
  | none =>
    refine idxR_none fun j hj => ?_
    rw [upL_len] at hj
    rw [upL_at hj]
    exact nextI_none h j hj
  | some i =>
    have h1 : readyB gs op i = true := by
      unfold nextI at h
      exact List.find?_some h
    obtain ⟨h2, _, _, h4⟩ := nextI_some h
    refine idxR_some (by rw [upL_len]; exact h2) (by rw [upL_at h2]; exact h1) fun j hj => ?_
    rw [upL_at (Nat.lt_trans hj h2)]
    exact h4 j hj
theorem Sep.swap23 {w : World} {A C D : Asrt} {l : List Asrt} (h : Sep w (A :: C :: D :: l)) : Sep w (A :: D :: C :: l) := h.under Sep.s2 fun E hE => by
  rcases List.mem_cons.1 hE with rfl | hE
  · simp
  · rcases List.mem_cons.1 hE with rfl | hE
    · simp
    · simp [hE]
set_option maxHeartbeats 4000000 in
theorem schedule_any (m : Int) (gv : Value) (a2 : Option Addr) (n2 c2 : Nat) (gs : List Gt) (w : World) (hg : RdR gateE w gv gs) (hl : gs.length ≤ 1000) (hops : ∀ g ∈ gs, ∀ x ∈ opsL g, 0 ≤ x ∧ x < gs.length) :
    Calls Tryd.prog 121 #[.agg #[.int .i64 m, gv, .slice a2 n2 c2]] w fun e w' => ∃ v, e = .returned (.tuple #[v, .bool (schedB gs)]) ∧ (schedB gs = true → Sep w' [OI v (sched gs).1, KeepA w]) ∧ w.grownBy w' none := by
  have HG := Lib.hid hg; have HOPS := Lib.hid hops
  obtain ⟨a, c, rfl⟩ := hg.shape
  generalize hn : gs.length = n at *
  have HN := Lib.hid hn
  clear hg hn hops
  have hmm := @run_makeMap Tryd.prog
  have hs0 := (((Sep.start w).box #[.int .i64 m, .slice a n c, .slice a2 n2 c2] 29).mapNew n).box #[.map (some (w.heap.size + 1))] 167
  have e1 : (w.alloc (.cells #[.int .i64 m, .slice a n c, .slice a2 n2 c2] 29)).heap.size = w.heap.size + 1 := by simp
  have e2 : ((w.alloc (.cells #[.int .i64 m, .slice a n c, .slice a2 n2 c2] 29)).alloc (.map #[] 0)).heap.size = w.heap.size + 2 := by simp
  rw [e1, e2] at hs0
  have HS0 := Lib.hid hs0
  clear hs0 e1 e2
  go_enter Tryd.func121, Tryd.ntmps121
  go_wp2_with fail
  go_loopw [13] (fun i wr => ∃ k : Nat, k ≤ n ∧ i = .int .i64 k ∧ Sep wr [BxA (w.heap.size + 2) #[.map (some (w.heap.size + 1))] 167, MapA (w.heap.size + 1) ((open0 gs).take k ++ List.replicate (n - k) false), BxA w.heap.size #[.int .i64 m, .slice a n c, .slice a2 n2 c2] 29, KeepA w]) (fun i _ => n - (intOf i).toNat)
  case atStart => exact ⟨0, by omega, rfl, by simpa using HS0.out⟩
  case round =>
    obtain ⟨k, hk, rfl, hs⟩ := hrel
    have HSX := Lib.hid hs
    clear hs
    by_cases hlt : k < n
    · obtain ⟨b, o, rfl, hb, q0, q1, q2, q3⟩ := gate_at rfl rfl (HG.out.carry HSX.out.tl.tl.tl.hd) (i := k) (by rw [HN.out]; exact hlt)
      have HST := Lib.hid (open_step HN.out hlt)
      have HAT := Lib.hid (open_at HN.out hlt)
      have HLN := Lib.hid (show ((open0 gs).take k ++ List.replicate (n - k) false).length = n by
        rw [List.length_append, List.length_take, List.length_replicate]; unfold open0; rw [List.length_map, HN.out]; omega)
      generalize gs.getD k g0 = g at *
      have HNE := Lib.hid (needs_any g)
      obtain ⟨hc1, hc2⟩ := needs_comb g
      unfold gtV at HNE
      generalize needsL g = zs at *
      generalize zs.length = zl at *
      generalize (open0 gs).take k ++ List.replicate (n - k) false = op at *
      cases hcb : combB g
      · have hz := hc2 hcb
        subst hz
        rw [hcb] at HST
        have HE := Lib.hid (show (open0 gs).take (k + 1) ++ List.replicate (n - (k + 1)) false = op from HST.out)
        clear hcb hc1 hc2 hb
        go_wp2_with (
          go_at_call 147
          refine (HNE.out _).mono ?_
          rintro e w2 ⟨a', c', rfl, hi', hg'⟩
          have HS2 := Lib.hid (HSX.out.grown (grownBy_trans (gr1 _ _) hg'))
          clear hi' hg')
        go_roundw
        case rel => exact ⟨k + 1, by omega, by go_num, by rw [HE.out]; exact HS2.out⟩
        case measure => simp [intOf]; omega
      · have hz := hc1 hcb
        rw [hcb] at HST
        have HE := Lib.hid (show (open0 gs).take (k + 1) ++ List.replicate (n - (k + 1)) false = op.set k true from HST.out)
        clear hcb hc1 hc2 hb
        go_wp2_with (first
          | (go_at_call 147
             refine (HNE.out _).mono ?_
             rintro e w2 ⟨a', c', rfl, hi', hg'⟩
             have HS2 := Lib.hid (HSX.out.grown (grownBy_trans (gr1 _ _) hg'))
             obtain ⟨x0, _⟩ := bx1 HS2.out.hd
             clear hi' hg')
          | (at_mapUpdate
             refine wpList_put rfl _ _ _ rfl rfl rfl rfl HS2.out.tl.hd (by rw [HLN.out]; exact hlt) (by rw [HLN.out]; omega) HAT.out ?_
             intro w3 hm3 hg3
             have HS3 := Lib.hid (HS2.out.s2.mapUpd hm3 hg3).s2
             clear hm3 hg3))
        go_roundw
        case rel => exact ⟨k + 1, by omega, by go_num, by rw [HE.out]; exact HS3.out⟩
        case measure => simp [intOf]; omega
    · have hkn : k = n := by omega
      subst hkn
      have hs1 := HSX.out
      rw [Nat.sub_self, List.replicate_zero, List.append_nil, List.take_of_length_le (by unfold open0; rw [List.length_map, HN.out]; exact Nat.le_refl _)] at hs1
      have HE := Lib.hid (hs1.emptyI)
      have HOL := Lib.hid (show (open0 gs).length = k by unfold open0; rw [List.length_map, HN.out])
      clear hlt hs1
      go_wp2_with fail
      clear HSX
      obtain ⟨N0, hN0⟩ : ∃ N0, N0 = nOpen (open0 gs) := ⟨_, rfl⟩
      have HN0 := Lib.hid hN0
      have HN01 := Lib.hid (show N0 ≤ k by rw [hN0]; have := nOpen_le (open0 gs); have := HOL.out; omega)
      clear hN0
      go_loopw [7] (fun ov wr => ∃ (op : List Bool) (out : List Int) (oa : Option Addr) (oc : Nat), ov = .slice oa out.length oc ∧ op.length = k ∧ sched gs = schedGo gs (nOpen op) op out ∧ out.length + nOpen op = N0 ∧
          Sep wr [OI ov out, BxA (w.heap.size + 2) #[.map (some (w.heap.size + 1))] 167, MapA (w.heap.size + 1) op, BxA w.heap.size #[.int .i64 m, .slice a k c, .slice a2 n2 c2] 29, KeepA w]) (fun ov _ => k - sliceLen ov)
      case atStart => exact ⟨open0 gs, [], _, _, rfl, HOL.out, schedGo_fuel gs _ _ _ _ (by have := nOpen_le (open0 gs); have := HOL.out; have := HN.out; omega) (Nat.le_refl _), by rw [HN0.out]; simp, HE.out⟩
      case round =>
        obtain ⟨op, out, oa, oc, rfl, hol, hsc, hcnt, hs⟩ := hrel
        have HS := Lib.hid hs
        have HSC := Lib.hid hsc; have HCNT := Lib.hid hcnt; have HOL2 := Lib.hid hol
        obtain ⟨x0, _⟩ := bx1 hs.tl.hd
        obtain ⟨y0, y1, y2, _⟩ := bx3 hs.tl.tl.tl.hd
        have hop := nOpen_le op
        rw [hol] at hop
        generalize hq : nOpen op = q at *
        have HQ := Lib.hid hq
        generalize hol' : out.length = ol at *
        have HO := Lib.hid hol'
        clear hs hsc hcnt hol hq hol'
        by_cases hz : q = 0
        · subst hz
          have hb : schedB gs = true := by
            unfold schedB
            rw [HSC.out]
            show decide (nOpen op = 0) = true
            rw [HQ.out]
            rfl
          have hb1 : (sched gs).1 = out := by rw [HSC.out]; rfl
          have HB := Lib.hid hb; have HB1 := Lib.hid hb1
          clear hb hb1
          go_wp2_with (at_len; refine wpList_mlen rfl _ rfl rfl HS.out.tl.tl.hd ?_; rw [HQ.out])
          go_ret2
          have hss := HS.out
          exact ⟨_, by rw [HB.out]; rfl, fun _ => by rw [HB1.out]; exact hss.under (fun h => h.tl.tl.tl) (by simp +contextual), hss.tl.tl.tl.tl.hd⟩
        · have hpos : 0 < q := by omega
          have HUP := Lib.hid (upTo_any k wr (by omega))
          have hb4 := World.block_lt_of_cell? wr _ x0
          have hb1 := World.block_lt_of_cell? wr _ y1
          have hkp := HS.out.tl.tl.tl.tl.hd
          have HIF := Lib.hid fun W v (hW : wr.grownBy W none) (hv : IntsV W v (upL k)) => indexFunc_any 148 #[.pointer (some ⟨w.heap.size + 2, 0, none⟩), .pointer (some ⟨w.heap.size, 0, none⟩)] (enters_of Tryd.func148 (by kernel_rfl) rfl) (upL k) (fun x => readyB gs op x.toNat) v W hv (by rw [upL_len]; omega) (fun W' x hx hg' => by
            obtain ⟨j, hj, rfl⟩ := List.mem_map.1 hx
            have hgw := grownBy_trans hW hg'
            exact sch1_any j (w.heap.size + 1) (w.heap.size + 2) w.heap.size k op gs a c W' ((World.cell?_of_block (a := ⟨w.heap.size + 2, 0, none⟩) (hgw.block _ hb4 (by simp))).trans x0) ((World.cell?_of_block (a := ⟨w.heap.size, 1, none⟩) (hgw.block _ hb1 (by simp))).trans y1) (HS.out.tl.tl.hd.grown hgw) (HG.out.carry (grownBy_trans hkp hgw)) HN.out (by simpa using hj) (by omega) HOPS.out)
          rw [idx_next HN.out] at HIF
          clear hkp hb4 hb1
          cases hnx : nextI gs op with
          | none =>
            rw [hnx] at HIF
            have hb : schedB gs = false := by
              unfold schedB
              rw [HSC.out, sched_stop hnx]
              show decide (nOpen op = 0) = false
              rw [HQ.out]
              exact decide_eq_false hz
            have HB := Lib.hid hb
            clear hb hnx hz
            go_wp2_with (first
              | (at_len; refine wpList_mlen rfl _ rfl rfl HS.out.tl.tl.hd ?_; rw [HQ.out])
              | (go_at_call 140
                 refine HUP.out.mono ?_
                 rintro e w2 ⟨g, c', rfl, hsu⟩
                 have HU := Lib.hid hsu
                 clear hsu)
              | (go_at_call 139
                 refine (HIF.out _ _ HU.out.tl.hd HU.out.hd.read).mono ?_
                 rintro e w3 ⟨rfl, hg3⟩
                 have HG3 := Lib.hid (grownBy_trans HU.out.tl.hd hg3)
                 clear hg3))
            go_ret2
            exact ⟨_, by rw [HB.out]; rfl, fun h => absurd (HB.out.symm.trans h) (by decide), (HS.out.grown HG3.out).tl.tl.tl.tl.hd⟩
          | some i =>
            rw [hnx] at HIF
            obtain ⟨hi1, hi2, _, _⟩ := nextI_some hnx
            have HNX := Lib.hid hnx; have HI2 := Lib.hid hi2
            have hik : i < k := by rw [← HN.out]; exact hi1
            have hout : ol < k := by have := HCNT.out; have := HN01.out; omega
            clear hnx hz hi1 hi2
            go_wp2_with (first
              | (at_len; refine wpList_mlen rfl _ rfl rfl HS.out.tl.tl.hd ?_; rw [HQ.out])
              | (go_at_call 140
                 refine HUP.out.mono ?_
                 rintro e w2 ⟨g, c', rfl, hsu⟩
                 have HU := Lib.hid hsu
                 clear hsu)
              | (go_at_call 139
                 refine (HIF.out _ _ HU.out.tl.hd HU.out.hd.read).mono ?_
                 rintro e w3 ⟨rfl, hg3⟩
                 have HS3 := Lib.hid (HS.out.grown (grownBy_trans HU.out.tl.hd hg3))
                 obtain ⟨z0, _⟩ := bx1 HS3.out.tl.hd
                 clear hg3)
              | (at_delete
                 refine wpList_del rfl _ _ rfl rfl rfl HS3.out.tl.tl.hd (by rw [HOL2.out]; omega) HI2.out ?_
                 intro w4 hm4 hg4
                 have HS4 := Lib.hid (HS3.out.s3.mapUpd hm4 hg4).s2
                 clear hm4 hg4)
              | (at_builtin
                 refine app_intS rfl _ _ rfl rfl rfl HS4.out (by rw [HO.out]; omega) ?_
                 intro g5 c5 w5 h5
                 rw [HO.out] at h5 ⊢
                 have HS5 := Lib.hid h5.swap23
                 clear h5))
            go_roundw
            case rel => exact ⟨op.set i false, out ++ [(i : Int)], _, _, by rw [List.length_append, HO.out]; rfl, by rw [List.length_set]; exact HOL2.out, by
                rw [HSC.out, ← HQ.out, sched_step (Nat.le_refl _) HNX.out]
                have h1 := nOpen_set HI2.out
                exact schedGo_fuel gs _ _ _ _ (by omega) (Nat.le_refl _), by
                have h1 := nOpen_set HI2.out
                have h2 := HCNT.out
                have h3 := HQ.out
                rw [List.length_append, HO.out, List.length_singleton]
                omega, HS5.out⟩
            case measure =>
              show k - (ol + 1) < k - ol
              omega
end Go.Proofs.YtghfifpicklonaaDoor

/-
  A gate's check, in the program and in the reference. Conditions: lengths are small.
-/
namespace Go.Proofs.YtghfifpicklonaaDoor
open Go.RowKit
set_option linter.unusedVariables false
set_option maxRecDepth 100000

theorem bx4 {w : World} {k : Nat} {x y z u : Value} {t : TypeId} (h : w.heap[k]? = some (.cells #[x, y, z, u] t (0, 0))) :
    w.cell? ⟨k, 0, none⟩ = some x ∧ w.cell? ⟨k, 1, none⟩ = some y ∧ w.cell? ⟨k, 2, none⟩ = some z ∧ w.cell? ⟨k, 3, none⟩ = some u ∧ w.frozen? ⟨k, 0, none⟩ = false ∧ w.frozen? ⟨k, 1, none⟩ = false ∧ w.frozen? ⟨k, 2, none⟩ = false ∧ w.frozen? ⟨k, 3, none⟩ = false :=
  ⟨cell_of_row w k 0 _ _ _ h, cell_of_row w k 1 _ _ _ h, cell_of_row w k 2 _ _ _ h, cell_of_row w k 3 _ _ _ h, frozen_of_row w k 0 _ _ h, frozen_of_row w k 1 _ _ h, frozen_of_row w k 2 _ _ h, frozen_of_row w k 3 _ _ h⟩
def opsB (n : Int) (g : Gt) : Bool := (opsL g).all fun x => inB x 0 (n - 1)
theorem ops_len (g : Gt) : (opsL g).length ≤ 2 := by
  unfold opsL
  split
  · simp
  · split <;> simp
/-- what holds of the boxes of a circuit and a gate in every later world -/
theorem two_boxes {w : World} {x1 x2 x3 y1 y2 y3 y4 : Value} {t1 t2 : TypeId} {W : World} (h : ((w.alloc (.cells #[x1, x2, x3] t1)).alloc (.cells #[y1, y2, y3, y4] t2)).grownBy W none) :
    W.cell? ⟨w.heap.size, 0, none⟩ = some x1 ∧ W.cell? ⟨w.heap.size, 1, none⟩ = some x2 ∧ W.cell? ⟨w.heap.size, 2, none⟩ = some x3 ∧
    W.cell? ⟨w.heap.size + 1, 0, none⟩ = some y1 ∧ W.cell? ⟨w.heap.size + 1, 1, none⟩ = some y2 ∧ W.cell? ⟨w.heap.size + 1, 2, none⟩ = some y3 ∧ W.cell? ⟨w.heap.size + 1, 3, none⟩ = some y4 := by
  have e1 : (w.alloc (.cells #[x1, x2, x3] t1)).heap.size = w.heap.size + 1 := by simp
  have h2 := alloc_heap_new (w.alloc (.cells #[x1, x2, x3] t1)) (.cells #[y1, y2, y3, y4] t2)
  rw [e1] at h2
  have h1 := (alloc_heap_old (w.alloc (.cells #[x1, x2, x3] t1)) (.cells #[y1, y2, y3, y4] t2) w.heap.size (by rw [e1]; omega)).trans (alloc_heap_new w (.cells #[x1, x2, x3] t1))
  obtain ⟨a1, a2, a3, _⟩ := bx3 ((h.block _ (blk_lt h1) (by simp)).trans h1)
  obtain ⟨b1, b2, b3, b4, _⟩ := bx4 ((h.block _ (blk_lt h2) (by simp)).trans h2)
  exact ⟨a1, a2, a3, b1, b2, b3, b4⟩
set_option maxHeartbeats 2000000 in
theorem isGate_any (n p : Int) (m : Nat) (a1 a2 : Option Addr) (c1 k2 c2 : Nat) (g : Gt) (w : World) (h0 : 0 ≤ n) (h1 : n ≤ 8) (hm : m ≤ 1000000) :
    Calls Tryd.prog 120 #[.agg #[.int .i64 n, .slice a1 m c1, .slice a2 k2 c2], .int .i64 p, gtV g] w fun e w' => e = .returned (.bool (gateB p n m g)) ∧ w.grownBy w' none := by
  have HO := Lib.hid (operands_any g)
  have HB := Lib.hid fun W v (hv : IntsV W v (opsL g)) => areBelow_any m v (opsL g) W hv (by have := ops_len g; omega) (by omega) (by omega)
  have HW := Lib.hid (within_any g.v 0 (n - 1))
  have HE := Lib.hid (isElement_any p g.v)
  have hel : elB p g.v = inB g.v 0 (p - 1) := by unfold elB inB; exact decide_eq_decide.2 (by omega)
  rw [hel] at HE
  have HGB := Lib.hid (show gateB p n m g = (opsB m g && (if g.k = 1 then decide (g.a = 0) && decide (g.b = 0) && inB g.v 0 (n - 1)
   else if g.k = 2 then decide (g.a = 0) && decide (g.b = 0) && decide (g.v = 0)
   else if g.k = 3 then decide (g.v = 0)
   else if g.k = 4 then decide (g.b = 0) && inB g.v 0 (p - 1)
   else if g.k = 5 then decide (g.b = 0) && decide (g.v = 0)
   else false)) from rfl)
  change Hid (∀ W v (hv : IntsV W v (opsL g)), Calls _ _ _ _ fun e w' => e = .returned (.bool (opsB m g)) ∧ W = w') at HB
  change Hid (∀ W, Calls _ _ _ _ fun e w' => e = .returned (.bool (inB g.v 0 (n - 1))) ∧ W = w') at HW
  unfold gtV at *
  clear hel
  generalize gateB p n m g = gb at *
  generalize opsB m g = ob at *
  generalize inB g.v 0 (n - 1) = i1 at *
  generalize inB g.v 0 (p - 1) = i2 at *
  generalize opsL g = zs at *
  generalize zs.length = zl at *
  obtain ⟨k, a, b, v⟩ := g
  simp only at HO HW HE HGB
  have HBX := Lib.hid fun W => two_boxes (w := w) (x1 := .int .i64 n) (x2 := .slice a1 m c1) (x3 := .slice a2 k2 c2) (y1 := .int .i64 k) (y2 := .int .i64 a) (y3 := .int .i64 b) (y4 := .int .i64 v) (t1 := 29) (t2 := 98) (W := W)
  have HG0 := Lib.hid (gr2 w (.cells #[.int .i64 n, .slice a1 m c1, .slice a2 k2 c2] 29) (.cells #[.int .i64 k, .int .i64 a, .int .i64 b, .int .i64 v] 98))
  go_enter Tryd.func120, Tryd.ntmps120
  go_upto_region 1 with fail
  go_cut [13] from 7 to 13 (fun t wx => t = .bool (!ob) ∧ ((w.alloc (.cells #[.int .i64 n, .slice a1 m c1, .slice a2 k2 c2] 29)).alloc (.cells #[.int .i64 k, .int .i64 a, .int .i64 b, .int .i64 v] 98)).grownBy wx none)
  case first =>
    have hd0 : ((w.alloc (.cells #[.int .i64 n, .slice a1 m c1, .slice a2 k2 c2] 29)).alloc (.cells #[.int .i64 k, .int .i64 a, .int .i64 b, .int .i64 v] 98)).grownBy ((w.alloc (.cells #[.int .i64 n, .slice a1 m c1, .slice a2 k2 c2] 29)).alloc (.cells #[.int .i64 k, .int .i64 a, .int .i64 b, .int .i64 v] 98)).drew none := ⟨rfl, rfl, rfl, Nat.le_refl _, fun _ _ _ => rfl⟩
    have HD0 := Lib.hid hd0
    have HX0 := Lib.hid (HBX.out _ hd0)
    clear hd0
    go_region_held3 (fun w' => w'.cell? ⟨w.heap.size, 0, none⟩ = some (.int .i64 n) ∧ w'.cell? ⟨w.heap.size, 1, none⟩ = some (.slice a1 m c1) ∧ w'.cell? ⟨w.heap.size, 2, none⟩ = some (.slice a2 k2 c2) ∧ w'.cell? ⟨w.heap.size + 1, 0, none⟩ = some (.int .i64 k) ∧ w'.cell? ⟨w.heap.size + 1, 1, none⟩ = some (.int .i64 a) ∧ w'.cell? ⟨w.heap.size + 1, 2, none⟩ = some (.int .i64 b) ∧ w'.cell? ⟨w.heap.size + 1, 3, none⟩ = some (.int .i64 v))
      (first | with_reducible exact HX0.out | with_reducible exact HX1.out)
      (first
      | (go_at_call 146
         go_loud (with_reducible refine (HO.out _).mono ?_)
         rintro e w2 ⟨a', c', rfl, hi, hg⟩
         have HI := Lib.hid hi
         have HG1 := Lib.hid (grownBy_trans HD0.out hg)
         have HX1 := Lib.hid (HBX.out _ HG1.out)
         clear hi hg)
      | (go_at_call 119
         go_loud (with_reducible refine (HB.out _ _ HI.out).mono ?_)
         rintro e w3 ⟨rfl, rfl⟩))
    all_goals (go_wp2_with fail; go_meet; exact ⟨rfl, HG1.out⟩)
  case rest =>
    obtain ⟨rfl, hg⟩ := hcut
    obtain ⟨x0, x1, x2, y0, y1, y2, y3⟩ := HBX.out _ hg
    have HG := Lib.hid (grownBy_trans HG0.out hg)
    clear hg HBX HG0
    cases ob
    · have HF := Lib.hid (show gb = false from HGB.out)
      clear HGB
      go_wp2_with fail
      go_ret
      exact ⟨by rw [HF.out]; rfl, HG.out⟩
    · rw [Bool.true_and] at HGB
      by_cases k1 : k = 1
      · subst k1
        have HK := Lib.hid (show gb = (decide (a = 0) && decide (b = 0) && i1) from by rw [HGB.out]; simp only [reduceIte, Int.reduceEq])
        clear HGB
        by_cases ha : a = 0 <;> by_cases hb : b = 0
        all_goals
          first | (rw [decide_eq_true ha] at HK; have ea : (a == 0) = true := decide_eq_true ha) | (rw [decide_eq_false ha] at HK; have ea : (a == 0) = false := decide_eq_false ha)
          first | (rw [decide_eq_true hb] at HK; have eb : (b == 0) = true := decide_eq_true hb) | (rw [decide_eq_false hb] at HK; have eb : (b == 0) = false := decide_eq_false hb)
          clear ha hb
          go_wp2_with (go_at_call 74; with_reducible refine (HW.out _).mono ?_; rintro e w3 ⟨rfl, rfl⟩)
          go_ret
          exact ⟨by rw [HK.out]; rfl, HG.out⟩
      have q1 : (k == 1) = false := by simpa using k1
      by_cases k2 : k = 2
      · subst k2
        have HK := Lib.hid (show gb = (decide (a = 0) && decide (b = 0) && decide (v = 0)) from by rw [HGB.out]; simp only [reduceIte, Int.reduceEq])
        clear HGB
        by_cases ha : a = 0 <;> by_cases hb : b = 0 <;> by_cases hv : v = 0
        all_goals
          first | (rw [decide_eq_true ha] at HK; have ea : (a == 0) = true := decide_eq_true ha) | (rw [decide_eq_false ha] at HK; have ea : (a == 0) = false := decide_eq_false ha)
          first | (rw [decide_eq_true hb] at HK; have eb : (b == 0) = true := decide_eq_true hb) | (rw [decide_eq_false hb] at HK; have eb : (b == 0) = false := decide_eq_false hb)
          first | (rw [decide_eq_true hv] at HK; have ev : (v == 0) = true := decide_eq_true hv) | (rw [decide_eq_false hv] at HK; have ev : (v == 0) = false := decide_eq_false hv)
          clear ha hb hv
          go_wp2_with fail
          go_ret
          exact ⟨by rw [HK.out]; rfl, HG.out⟩
      have q2 : (k == 2) = false := by simpa using k2
      by_cases k3 : k = 3
      · subst k3
        have HK := Lib.hid (show gb = (decide (v = 0)) from by rw [HGB.out]; simp only [reduceIte, Int.reduceEq])
        clear HGB
        by_cases hv : v = 0
        all_goals
          first | (rw [decide_eq_true hv] at HK; have ev : (v == 0) = true := decide_eq_true hv) | (rw [decide_eq_false hv] at HK; have ev : (v == 0) = false := decide_eq_false hv)
          clear hv
          go_wp2_with fail
          go_ret
          exact ⟨by rw [HK.out]; rfl, HG.out⟩
      have q3 : (k == 3) = false := by simpa using k3
      by_cases k4 : k = 4
      · subst k4
        have HK := Lib.hid (show gb = (decide (b = 0) && i2) from by rw [HGB.out]; simp only [reduceIte, Int.reduceEq])
        clear HGB
        by_cases hb : b = 0
        all_goals
          first | (rw [decide_eq_true hb] at HK; have eb : (b == 0) = true := decide_eq_true hb) | (rw [decide_eq_false hb] at HK; have eb : (b == 0) = false := decide_eq_false hb)
          clear hb
          go_wp2_with (go_at_call 145; with_reducible refine (HE.out _).mono ?_; rintro e w3 ⟨rfl, rfl⟩)
          go_ret
          exact ⟨by rw [HK.out]; rfl, HG.out⟩
      have q4 : (k == 4) = false := by simpa using k4
      by_cases k5 : k = 5
      · subst k5
        have HK := Lib.hid (show gb = (decide (b = 0) && decide (v = 0)) from by rw [HGB.out]; simp only [reduceIte, Int.reduceEq])
        clear HGB
        by_cases hb : b = 0 <;> by_cases hv : v = 0
        all_goals
          first | (rw [decide_eq_true hb] at HK; have eb : (b == 0) = true := decide_eq_true hb) | (rw [decide_eq_false hb] at HK; have eb : (b == 0) = false := decide_eq_false hb)
          first | (rw [decide_eq_true hv] at HK; have ev : (v == 0) = true := decide_eq_true hv) | (rw [decide_eq_false hv] at HK; have ev : (v == 0) = false := decide_eq_false hv)
          clear hb hv
          go_wp2_with fail
          go_ret
          exact ⟨by rw [HK.out]; rfl, HG.out⟩
      have q5 : (k == 5) = false := by simpa using k5
      have HK := Lib.hid (show gb = false from by rw [HGB.out]; simp only [if_neg k1, if_neg k2, if_neg k3, if_neg k4, if_neg k5])
      clear HGB k1 k2 k3 k4 k5
      go_wp2_with fail
      go_ret
      exact ⟨by rw [HK.out]; rfl, HG.out⟩
end Go.Proofs.YtghfifpicklonaaDoor

/-
  A gate's check in the reference. Conditions: lengths are small.
-/
namespace Go.Proofs.YtghfifpicklonaaDoor
open Go.RowKit
set_option linter.unusedVariables false
set_option maxRecDepth 100000

theorem one_box4 {w : World} {y1 y2 y3 y4 : Value} {t2 : TypeId} {W : World} (h : (w.alloc (.cells #[y1, y2, y3, y4] t2)).grownBy W none) :
    W.cell? ⟨w.heap.size, 0, none⟩ = some y1 ∧ W.cell? ⟨w.heap.size, 1, none⟩ = some y2 ∧ W.cell? ⟨w.heap.size, 2, none⟩ = some y3 ∧ W.cell? ⟨w.heap.size, 3, none⟩ = some y4 := by
  have h2 := alloc_heap_new w (.cells #[y1, y2, y3, y4] t2)
  obtain ⟨b1, b2, b3, b4, _⟩ := bx4 ((h.block _ (blk_lt h2) (by simp)).trans h2)
  exact ⟨b1, b2, b3, b4⟩
set_option maxHeartbeats 4000000 in
theorem crGate_any (n p : Int) (m : Nat) (g : Gt) (w : World) (h0 : 0 ≤ n) (h1 : n ≤ 8) (hm : m ≤ 1000000) (hp0 : 0 ≤ p) (hp1 : p ≤ 1000) :
    Calls Tryd.prog 115 #[.int .i64 p, gtV g, .int .i64 n, .int .i64 m] w fun e w' => e = .returned (.bool (gateB p n m g)) ∧ w.grownBy w' none := by
  have HO := Lib.hid (crOperands_any g)
  have HB := Lib.hid fun W v (hv : IntsV W v (opsL g)) => l1All_any 0 (m - 1) v (opsL g) W hv (by have := ops_len g; omega)
  have HW := Lib.hid (l1In_any g.v 0 (n - 1))
  have HE := Lib.hid (l1In_any g.v 0 (p - 1))
  have HGB := Lib.hid (show gateB p n m g = (opsB m g && (if g.k = 1 then decide (g.a = 0) && decide (g.b = 0) && inB g.v 0 (n - 1)
   else if g.k = 2 then decide (g.a = 0) && decide (g.b = 0) && decide (g.v = 0)
   else if g.k = 3 then decide (g.v = 0)
   else if g.k = 4 then decide (g.b = 0) && inB g.v 0 (p - 1)
   else if g.k = 5 then decide (g.b = 0) && decide (g.v = 0)
   else false)) from rfl)
  change Hid (∀ W v (hv : IntsV W v (opsL g)), Calls _ _ _ _ fun e w' => e = .returned (.bool (opsB m g)) ∧ W = w') at HB
  change Hid (∀ W, Calls _ _ _ _ fun e w' => e = .returned (.bool (inB g.v 0 (n - 1))) ∧ W = w') at HW
  change Hid (∀ W, Calls _ _ _ _ fun e w' => e = .returned (.bool (inB g.v 0 (p - 1))) ∧ W = w') at HE
  unfold gtV at *
  generalize gateB p n m g = gb at *
  generalize opsB m g = ob at *
  generalize inB g.v 0 (n - 1) = i1 at *
  generalize inB g.v 0 (p - 1) = i2 at *
  generalize opsL g = zs at *
  generalize zs.length = zl at *
  obtain ⟨k, a, b, v⟩ := g
  simp only at HO HW HE HGB
  have HBX := Lib.hid fun W => one_box4 (w := w) (y1 := .int .i64 k) (y2 := .int .i64 a) (y3 := .int .i64 b) (y4 := .int .i64 v) (t2 := 98) (W := W)
  have HG0 := Lib.hid (gr1 w (.cells #[.int .i64 k, .int .i64 a, .int .i64 b, .int .i64 v] 98))
  cases ob
  · have HK := Lib.hid (show gb = false from HGB.out)
    clear HGB
    go_enter Tryd.func115, Tryd.ntmps115
    go_wp2_with (first
      | (go_at_call 144
         with_reducible refine (HO.out _).mono ?_
         rintro e w2 ⟨a', c', rfl, hi, hg⟩
         have HI := Lib.hid hi
         obtain ⟨y0, y1, y2, y3⟩ := HBX.out _ hg
         have HG := Lib.hid (grownBy_trans HG0.out hg)
         clear hi hg)
      | (go_at_call 99
         with_reducible refine (HB.out _ _ HI.out).mono ?_
         rintro e w3 ⟨rfl, rfl⟩)
      | (go_at_call 68
         with_reducible refine (HW.out _).mono ?_
         rintro e w3 ⟨rfl, rfl⟩))
    go_ret
    exact ⟨by rw [HK.out]; rfl, HG.out⟩
  · rw [Bool.true_and] at HGB
    by_cases k1 : k = 1
    · subst k1
      have HK := Lib.hid (show gb = (decide (a = 0) && decide (b = 0) && i1) from by rw [HGB.out]; simp only [reduceIte, Int.reduceEq])
      clear HGB
      by_cases ha : a = 0 <;> by_cases hb : b = 0
      all_goals
        first | (rw [decide_eq_true ha] at HK; have ea : (a == 0) = true := decide_eq_true ha; have da : (a != 0) = false := by simp [ha]) | (rw [decide_eq_false ha] at HK; have ea : (a == 0) = false := decide_eq_false ha; have da : (a != 0) = true := by simp [ha])
        first | (rw [decide_eq_true hb] at HK; have eb : (b == 0) = true := decide_eq_true hb; have db : (b != 0) = false := by simp [hb]) | (rw [decide_eq_false hb] at HK; have eb : (b == 0) = false := decide_eq_false hb; have db : (b != 0) = true := by simp [hb])
        clear ha hb
        cases i1
        all_goals
          go_enter Tryd.func115, Tryd.ntmps115
          go_wp2_with (first
            | (go_at_call 144
               with_reducible refine (HO.out _).mono ?_
               rintro e w2 ⟨a', c', rfl, hi, hg⟩
               have HI := Lib.hid hi
               obtain ⟨y0, y1, y2, y3⟩ := HBX.out _ hg
               have HG := Lib.hid (grownBy_trans HG0.out hg)
               clear hi hg)
            | (go_at_call 99
               with_reducible refine (HB.out _ _ HI.out).mono ?_
               rintro e w3 ⟨rfl, rfl⟩)
            | (go_at_call 68
               with_reducible refine (HW.out _).mono ?_
               rintro e w3 ⟨rfl, rfl⟩))
          go_ret
          exact ⟨by rw [HK.out]; rfl, HG.out⟩
    have q1 : (k == 1) = false := by simpa using k1
    by_cases k2 : k = 2
    · subst k2
      have HK := Lib.hid (show gb = (decide (a = 0) && decide (b = 0) && decide (v = 0)) from by rw [HGB.out]; simp only [reduceIte, Int.reduceEq])
      clear HGB
      by_cases ha : a = 0 <;> by_cases hb : b = 0 <;> by_cases hv : v = 0
      all_goals
        first | (rw [decide_eq_true ha] at HK; have ea : (a == 0) = true := decide_eq_true ha; have da : (a != 0) = false := by simp [ha]) | (rw [decide_eq_false ha] at HK; have ea : (a == 0) = false := decide_eq_false ha; have da : (a != 0) = true := by simp [ha])
        first | (rw [decide_eq_true hb] at HK; have eb : (b == 0) = true := decide_eq_true hb; have db : (b != 0) = false := by simp [hb]) | (rw [decide_eq_false hb] at HK; have eb : (b == 0) = false := decide_eq_false hb; have db : (b != 0) = true := by simp [hb])
        first | (rw [decide_eq_true hv] at HK; have ev : (v == 0) = true := decide_eq_true hv; have dv : (v != 0) = false := by simp [hv]) | (rw [decide_eq_false hv] at HK; have ev : (v == 0) = false := decide_eq_false hv; have dv : (v != 0) = true := by simp [hv])
        clear ha hb hv
        go_enter Tryd.func115, Tryd.ntmps115
        go_wp2_with (first
            | (go_at_call 144
               with_reducible refine (HO.out _).mono ?_
               rintro e w2 ⟨a', c', rfl, hi, hg⟩
               have HI := Lib.hid hi
               obtain ⟨y0, y1, y2, y3⟩ := HBX.out _ hg
               have HG := Lib.hid (grownBy_trans HG0.out hg)
               clear hi hg)
            | (go_at_call 99
               with_reducible refine (HB.out _ _ HI.out).mono ?_
               rintro e w3 ⟨rfl, rfl⟩)
            | (go_at_call 68
               with_reducible refine (HW.out _).mono ?_
               rintro e w3 ⟨rfl, rfl⟩))
        go_ret
        exact ⟨by rw [HK.out]; rfl, HG.out⟩
    have q2 : (k == 2) = false := by simpa using k2
    by_cases k3 : k = 3
    · subst k3
      have HK := Lib.hid (show gb = (decide (v = 0)) from by rw [HGB.out]; simp only [reduceIte, Int.reduceEq])
      clear HGB
      by_cases hv : v = 0
      all_goals
        first | (rw [decide_eq_true hv] at HK; have ev : (v == 0) = true := decide_eq_true hv; have dv : (v != 0) = false := by simp [hv]) | (rw [decide_eq_false hv] at HK; have ev : (v == 0) = false := decide_eq_false hv; have dv : (v != 0) = true := by simp [hv])
        clear hv
        go_enter Tryd.func115, Tryd.ntmps115
        go_wp2_with (first
            | (go_at_call 144
               with_reducible refine (HO.out _).mono ?_
               rintro e w2 ⟨a', c', rfl, hi, hg⟩
               have HI := Lib.hid hi
               obtain ⟨y0, y1, y2, y3⟩ := HBX.out _ hg
               have HG := Lib.hid (grownBy_trans HG0.out hg)
               clear hi hg)
            | (go_at_call 99
               with_reducible refine (HB.out _ _ HI.out).mono ?_
               rintro e w3 ⟨rfl, rfl⟩)
            | (go_at_call 68
               with_reducible refine (HW.out _).mono ?_
               rintro e w3 ⟨rfl, rfl⟩))
        go_ret
        exact ⟨by rw [HK.out]; rfl, HG.out⟩
    have q3 : (k == 3) = false := by simpa using k3
    by_cases k4 : k = 4
    · subst k4
      have HK := Lib.hid (show gb = (decide (b = 0) && i2) from by rw [HGB.out]; simp only [reduceIte, Int.reduceEq])
      clear HGB
      by_cases hb : b = 0
      all_goals
        first | (rw [decide_eq_true hb] at HK; have eb : (b == 0) = true := decide_eq_true hb; have db : (b != 0) = false := by simp [hb]) | (rw [decide_eq_false hb] at HK; have eb : (b == 0) = false := decide_eq_false hb; have db : (b != 0) = true := by simp [hb])
        clear hb
        go_enter Tryd.func115, Tryd.ntmps115
        go_wp2_with (first
            | (go_at_call 144
               with_reducible refine (HO.out _).mono ?_
               rintro e w2 ⟨a', c', rfl, hi, hg⟩
               have HI := Lib.hid hi
               obtain ⟨y0, y1, y2, y3⟩ := HBX.out _ hg
               have HG := Lib.hid (grownBy_trans HG0.out hg)
               clear hi hg)
            | (go_at_call 99
               with_reducible refine (HB.out _ _ HI.out).mono ?_
               rintro e w3 ⟨rfl, rfl⟩)
            | (go_at_call 68
               with_reducible refine (HE.out _).mono ?_
               rintro e w3 ⟨rfl, rfl⟩))
        go_ret
        exact ⟨by rw [HK.out]; rfl, HG.out⟩
    have q4 : (k == 4) = false := by simpa using k4
    by_cases k5 : k = 5
    · subst k5
      have HK := Lib.hid (show gb = (decide (b = 0) && decide (v = 0)) from by rw [HGB.out]; simp only [reduceIte, Int.reduceEq])
      clear HGB
      by_cases hb : b = 0 <;> by_cases hv : v = 0
      all_goals
        first | (rw [decide_eq_true hb] at HK; have eb : (b == 0) = true := decide_eq_true hb; have db : (b != 0) = false := by simp [hb]) | (rw [decide_eq_false hb] at HK; have eb : (b == 0) = false := decide_eq_false hb; have db : (b != 0) = true := by simp [hb])
        first | (rw [decide_eq_true hv] at HK; have ev : (v == 0) = true := decide_eq_true hv; have dv : (v != 0) = false := by simp [hv]) | (rw [decide_eq_false hv] at HK; have ev : (v == 0) = false := decide_eq_false hv; have dv : (v != 0) = true := by simp [hv])
        clear hb hv
        go_enter Tryd.func115, Tryd.ntmps115
        go_wp2_with (first
            | (go_at_call 144
               with_reducible refine (HO.out _).mono ?_
               rintro e w2 ⟨a', c', rfl, hi, hg⟩
               have HI := Lib.hid hi
               obtain ⟨y0, y1, y2, y3⟩ := HBX.out _ hg
               have HG := Lib.hid (grownBy_trans HG0.out hg)
               clear hi hg)
            | (go_at_call 99
               with_reducible refine (HB.out _ _ HI.out).mono ?_
               rintro e w3 ⟨rfl, rfl⟩)
            | (go_at_call 68
               with_reducible refine (HW.out _).mono ?_
               rintro e w3 ⟨rfl, rfl⟩))
        go_ret
        exact ⟨by rw [HK.out]; rfl, HG.out⟩
    have q5 : (k == 5) = false := by simpa using k5
    have q6 : (k != 3) = true := by simpa using k3
    have HK := Lib.hid (show gb = false from by rw [HGB.out]; simp only [if_neg k1, if_neg k2, if_neg k3, if_neg k4, if_neg k5])
    clear HGB k1 k2 k3 k4 k5
    by_cases hb : b = 0
    all_goals
        first | have db : (b != 0) = false := by simp [hb] | have db : (b != 0) = true := by simp [hb]
        clear hb
        go_enter Tryd.func115, Tryd.ntmps115
        go_wp2_with (first
            | (go_at_call 144
               with_reducible refine (HO.out _).mono ?_
               rintro e w2 ⟨a', c', rfl, hi, hg⟩
               have HI := Lib.hid hi
               obtain ⟨y0, y1, y2, y3⟩ := HBX.out _ hg
               have HG := Lib.hid (grownBy_trans HG0.out hg)
               clear hi hg)
            | (go_at_call 99
               with_reducible refine (HB.out _ _ HI.out).mono ?_
               rintro e w3 ⟨rfl, rfl⟩)
            | (go_at_call 68
               with_reducible refine (HW.out _).mono ?_
               rintro e w3 ⟨rfl, rfl⟩))
        go_ret
        exact ⟨by rw [HK.out]; rfl, HG.out⟩
end Go.Proofs.YtghfifpicklonaaDoor

/-
  Is it a circuit: the program's check. Conditions: the table of small primes holds what its text lays; at most 2,000,000 gates and outputs.
-/
namespace Go.Proofs.YtghfifpicklonaaDoor
open Go.RowKit Go.Maps
set_option linter.unusedVariables false
set_option maxRecDepth 100000

def circE (p : Int) (c : Circ) : Bool := circB (fldB p) p c
theorem circE_eq (p : Int) (c : Circ) : circE p c = (fldB p && inB c.n 0 8 && decide (1 ≤ c.gs.length ∧ c.gs.length ≤ 40) && decide (c.os.length ≤ 8) && c.os.all (fun x => inB x 0 (c.gs.length - 1)) && c.gs.all (gateB p c.n c.gs.length) && schedB c.gs) := rfl
theorem all_getD {gs : List Gt} {f : Gt → Bool} (h : ∀ j, j < gs.length → f (gs.getD j g0) = true) : gs.all f = true := by
  refine List.all_eq_true.2 fun x hx => ?_
  obtain ⟨i, hi, rfl⟩ := List.getElem_of_mem hx
  have := h i hi
  rwa [List.getD_eq_getElem?_getD, List.getElem?_eq_getElem hi] at this
theorem all_no {gs : List Gt} {f : Gt → Bool} {k : Nat} (hk : k < gs.length) (h : f (gs.getD k g0) = false) : gs.all f = false := by
  refine List.all_eq_false.2 ⟨gs.getD k g0, ?_, by rw [h]; exact Bool.false_ne_true⟩
  rw [List.getD_eq_getElem?_getD, List.getElem?_eq_getElem hk]
  exact List.getElem_mem _
theorem gates_ops {p n : Int} {gs : List Gt} (h : gs.all (gateB p n gs.length) = true) : ∀ g ∈ gs, ∀ x ∈ opsL g, 0 ≤ x ∧ x < gs.length := by
  intro g hg x hx
  have := List.all_eq_true.1 h g hg
  unfold gateB at this
  rw [Bool.and_eq_true, List.all_eq_true] at this
  have := inB_iff.1 (this.1 x hx)
  omega
set_option maxHeartbeats 4000000 in
theorem isCircuit_any (p n : Int) (gv ov : Value) (gs : List Gt) (os : List Int) (w : World) (ht : Tab w) (hg : RdR gateE w gv gs) (ho : IntsV w ov os) (l1 : gs.length ≤ 2000000) (l2 : os.length ≤ 2000000) :
    Calls Tryd.prog 77 #[.int .i64 p, cirV n gv ov] w fun e w' => e = .returned (.bool (circE p ⟨n, gs, os⟩)) ∧ w.grownBy w' none := by
  have HF := Lib.hid fun W (h : w.grownBy W none) => isField_any p W (ht.grown h)
  have HW1 := Lib.hid (within_any n 0 8)
  have HW2 := Lib.hid (within_any gs.length 1 40)
  change Hid (∀ W, Calls _ _ _ _ fun e w' => e = .returned (.bool (inB n 0 8)) ∧ W = w') at HW1
  have hd3 : decide ((1 : Int) ≤ (gs.length : Int) ∧ (gs.length : Int) ≤ 40) = decide (1 ≤ gs.length ∧ gs.length ≤ 40) := decide_eq_decide.2 (by omega)
  rw [hd3] at HW2
  have hd4 : decide (8 < (os.length : Int)) = !decide (os.length ≤ 8) := by rw [Bool.eq_iff_iff, decide_eq_true_iff, Bool.not_eq_true', decide_eq_false_iff_not]; omega
  have HB := Lib.hid fun W (h : w.grownBy W none) (hl : os.length ≤ 1000000) => areBelow_any gs.length ov os W (ho.carry h) hl (by omega) (by omega)
  have HG := Lib.hid hg
  have HGC := Lib.hid fun W (h : w.grownBy W none) (hl : gs.length ≤ 1000) (h5 : gs.all (gateB p n gs.length) = true) (a2 : Option Addr) (c2 : Nat) => schedule_any n gv a2 os.length c2 gs W (hg.carry h) hl (gates_ops h5)
  have HE := Lib.hid (circE_eq p ⟨n, gs, os⟩)
  simp only at HE
  unfold cirV
  obtain ⟨a1, c1, rfl⟩ := hg.shape
  obtain ⟨a2, c2, rfl⟩ := ho.shape
  clear hg ho ht hd3
  generalize circE p ⟨n, gs, os⟩ = ce at *
  generalize os.all (fun x => inB x 0 (gs.length - 1)) = f5 at *
  have HG1 := Lib.hid (gr1 w (.cells #[.int .i64 n, .slice a1 gs.length c1, .slice a2 os.length c2] 29))
  have hs0 := (Sep.start w).box #[.int .i64 n, .slice a1 gs.length c1, .slice a2 os.length c2] 29
  generalize hn1 : gs.length = n1 at *
  generalize hn2 : os.length = n2 at *
  have HN1 := Lib.hid hn1; have HN2 := Lib.hid hn2
  have HS0 := Lib.hid hs0
  clear hn1 hn2 hs0
  cases f1 : fldB p
  · rw [f1] at HF HE
    have HC := Lib.hid (show ce = false from HE.out)
    clear HE f1 hd4
    go_enter Tryd.func77, Tryd.ntmps77
    go_wp2_with (go_at_call 73; with_reducible refine (HF.out _ HG1.out).mono ?_; rintro e w2 ⟨rfl, rfl⟩)
    go_ret
    exact ⟨by rw [HC.out]; rfl, HG1.out⟩
  · rw [f1] at HF
    have F1 := Lib.hid f1
    cases f2 : inB n 0 8
    · rw [f1, f2] at HE
      rw [f2] at HW1
      have HC := Lib.hid (show ce = false from HE.out)
      clear HE f1 f2 hd4
      go_enter Tryd.func77, Tryd.ntmps77
      go_wp2_with (first
        | (go_at_call 73; with_reducible refine (HF.out _ HG1.out).mono ?_; rintro e w2 ⟨rfl, rfl⟩)
        | (go_at_call 74; with_reducible refine (HW1.out _).mono ?_; rintro e w2 ⟨rfl, rfl⟩))
      go_ret
      exact ⟨by rw [HC.out]; rfl, HG1.out⟩
    · rw [f2] at HW1
      have hn := inB_iff.1 f2
      cases f3 : decide (1 ≤ n1 ∧ n1 ≤ 40)
      · rw [f1, f2, f3] at HE
        rw [f3] at HW2
        have HC := Lib.hid (show ce = false from HE.out)
        clear HE f1 f2 f3 hd4
        go_enter Tryd.func77, Tryd.ntmps77
        go_wp2_with (first
          | (go_at_call 73; with_reducible refine (HF.out _ HG1.out).mono ?_; rintro e w2 ⟨rfl, rfl⟩)
          | (go_at_call 74; with_reducible refine (HW1.out _).mono ?_; rintro e w2 ⟨rfl, rfl⟩)
          | (go_at_call 74; with_reducible refine (HW2.out _).mono ?_; rintro e w2 ⟨rfl, rfl⟩))
        go_ret
        exact ⟨by rw [HC.out]; rfl, HG1.out⟩
      · rw [f3] at HW2
        have hn1 := of_decide_eq_true f3
        cases f4 : decide (n2 ≤ 8)
        · rw [f1, f2, f3, f4] at HE
          rw [f4] at hd4
          have HC := Lib.hid (show ce = false from HE.out)
          clear HE f1 f2 f3 f4
          go_enter Tryd.func77, Tryd.ntmps77
          go_wp2_with (first
            | (go_at_call 73; with_reducible refine (HF.out _ HG1.out).mono ?_; rintro e w2 ⟨rfl, rfl⟩)
            | (go_at_call 74; with_reducible refine (HW1.out _).mono ?_; rintro e w2 ⟨rfl, rfl⟩)
            | (go_at_call 74; with_reducible refine (HW2.out _).mono ?_; rintro e w2 ⟨rfl, rfl⟩))
          go_ret
          exact ⟨by rw [HC.out]; rfl, HG1.out⟩
        · rw [f4] at hd4
          have hn2 := of_decide_eq_true f4
          rw [f1, f2, f3, f4] at HE
          simp only [Bool.true_and] at HE
          have HB2 := Lib.hid fun W h => HB.out W h (by omega)
          clear HB
          cases f5
          · have HC := Lib.hid (show ce = false from HE.out)
            clear HE f1 f2 f3 f4
            go_enter Tryd.func77, Tryd.ntmps77
            go_wp2_with (first
              | (go_at_call 73; with_reducible refine (HF.out _ HG1.out).mono ?_; rintro e w2 ⟨rfl, rfl⟩)
              | (go_at_call 74; with_reducible refine (HW1.out _).mono ?_; rintro e w2 ⟨rfl, rfl⟩)
              | (go_at_call 74; with_reducible refine (HW2.out _).mono ?_; rintro e w2 ⟨rfl, rfl⟩)
              | (go_at_call 119; with_reducible refine (HB2.out _ HG1.out).mono ?_; rintro e w2 ⟨rfl, rfl⟩))
            go_ret
            exact ⟨by rw [HC.out]; rfl, HG1.out⟩
          · rw [Bool.true_and] at HE
            clear f1 f2 f3 f4
            go_enter Tryd.func77, Tryd.ntmps77
            go_wp2_with (first
              | (go_at_call 73; with_reducible refine (HF.out _ HG1.out).mono ?_; rintro e w2 ⟨rfl, rfl⟩)
              | (go_at_call 74; with_reducible refine (HW1.out _).mono ?_; rintro e w2 ⟨rfl, rfl⟩)
              | (go_at_call 74; with_reducible refine (HW2.out _).mono ?_; rintro e w2 ⟨rfl, rfl⟩)
              | (go_at_call 119; with_reducible refine (HB2.out _ HG1.out).mono ?_; rintro e w2 ⟨rfl, rfl⟩))
            go_loopw [43] (fun i wr => ∃ k : Nat, k ≤ n1 ∧ i = .int .i64 k ∧ (∀ j, j < k → gateB p n n1 (gs.getD j g0) = true) ∧ Sep wr [BxA w.heap.size #[.int .i64 n, .slice a1 n1 c1, .slice a2 n2 c2] 29, KeepA w]) (fun i _ => n1 - (intOf i).toNat)
            case atStart => exact ⟨0, by omega, rfl, fun _ h => absurd h (by omega), HS0.out⟩
            case round =>
              obtain ⟨k, hk, rfl, hall, hs⟩ := hrel
              have HA := Lib.hid hall; have HS := Lib.hid hs
              obtain ⟨y0, y1, y2, _⟩ := bx3 hs.hd
              by_cases hlt : k < n1
              · obtain ⟨b, o, rfl, hb, q0, q1, q2, q3⟩ := gate_at rfl rfl (HG.out.carry hs.tl.hd) (i := k) (by rw [HN1.out]; exact hlt)
                clear hall hs hb
                generalize hgk : gs.getD k g0 = g at *
                have HGK := Lib.hid hgk
                clear hgk
                have HGT := Lib.hid fun W a1 c1 a2 k2 c2 => isGate_any n p n1 a1 a2 c1 k2 c2 g W hn.1 hn.2 (by omega)
                unfold gtV at HGT
                have HALB := Lib.hid (gr1 wr (.cells #[.int .i64 g.k, .int .i64 g.a, .int .i64 g.b, .int .i64 g.v] 98))
                obtain ⟨z0, z1, z2, _⟩ := bx3 (HS.out.grown HALB.out).hd
                cases hgb : gateB p n n1 g
                · rw [hgb] at HGT
                  have HC := Lib.hid (show ce = false by rw [HE.out, all_no (by rw [HN1.out]; exact hlt) (by rw [HGK.out]; exact hgb)]; rfl)
                  clear hgb
                  go_wp2_with (go_at_call 120; with_reducible refine (HGT.out _ _ _ _ _ _).mono ?_; rintro e w2 ⟨rfl, hg⟩; have HSF := Lib.hid ((HS.out.grown HALB.out).grown hg); clear hg)
                  go_ret
                  exact ⟨by rw [HC.out]; rfl, HSF.out.tl.hd⟩
                · rw [hgb] at HGT
                  have HGB := Lib.hid hgb
                  clear hgb
                  go_wp2_with (go_at_call 120; with_reducible refine (HGT.out _ _ _ _ _ _).mono ?_; rintro e w2 ⟨rfl, hg⟩; have HSF := Lib.hid ((HS.out.grown HALB.out).grown hg); clear hg)
                  go_roundw
                  case rel => exact ⟨k + 1, by omega, by go_num, fun j hj => by
                    by_cases hjk : j = k
                    · subst hjk; rw [HGK.out]; exact HGB.out
                    · exact HA.out j (by omega), HSF.out⟩
                  case measure => simp [intOf]; omega
              · have hkn : k = n1 := by omega
                subst hkn
                have h5 : gs.all (gateB p n k) = true := all_getD fun j hj => HA.out j (by rw [← HN1.out]; exact hj)
                have HSC := Lib.hid fun W h => HGC.out W h (by omega) h5 a2 c2
                have HC := Lib.hid (show ce = schedB gs by rw [HE.out, h5]; rfl)
                have HKP := Lib.hid hs.tl.hd
                clear hlt hall hs h5 HGC HE
                go_wp2_with (
                  go_at_call 121
                  refine (HSC.out _ HKP.out).mono ?_
                  rintro e w2 ⟨v, rfl, _, hg⟩
                  have HG2 := Lib.hid (grownBy_trans HKP.out hg)
                  clear hg)
                go_ret
                exact ⟨by rw [HC.out]; rfl, HG2.out⟩
end Go.Proofs.YtghfifpicklonaaDoor

/-
  The order in which gates are made, in the reference. Conditions: at most 1000 gates, whose operands are gates.
-/
namespace Go.Proofs.YtghfifpicklonaaDoor
open Go.RowKit
set_option linter.unusedVariables false
set_option maxRecDepth 100000

/-- the first gate below k that may be made -/
def atK (gs : List Gt) (op : List Bool) (k : Nat) : Int := ((List.range k).find? (readyB gs op)).elim (-1) fun i => (i : Int)
theorem atK_succ (gs : List Gt) (op : List Bool) (k : Nat) : atK gs op (k + 1) = if 0 ≤ atK gs op k then atK gs op k else if readyB gs op k then (k : Int) else -1 := by
  unfold atK
  rw [List.range_succ, List.find?_append]
  cases h : (List.range k).find? (readyB gs op) with
  | some i => exact (if_pos (show (0 : Int) ≤ (i : Int) by omega)).symm
  | none =>
    refine Eq.trans ?_ (if_neg (show ¬ (0 : Int) ≤ -1 by decide)).symm
    show ((List.find? (readyB gs op) [k]).elim (-1 : Int) fun i => (i : Int)) = _
    rw [List.find?_cons]
    cases readyB gs op k <;> rfl
theorem atK_next {gs : List Gt} {op : List Bool} {n : Nat} (hn : gs.length = n) : atK gs op n = (nextI gs op).elim (-1) fun i => (i : Int) := by
  subst hn
  rfl
theorem atK_ge (gs : List Gt) (op : List Bool) (k : Nat) : -1 ≤ atK gs op k := by
  unfold atK
  cases (List.range k).find? (readyB gs op) with
  | some i => simp only [Option.elim_some]; omega
  | none => simp
/-- are all of the first t operands made? -/
def rdyTo (op : List Bool) (zs : List Int) (t : Nat) : Bool := (zs.take t).all fun k => !op.getD k.toNat false
theorem rdyTo_succ (op : List Bool) (zs : List Int) {t : Nat} (h : t < zs.length) : rdyTo op zs (t + 1) = (rdyTo op zs t && !op.getD (zs.getD t 0).toNat false) := by
  unfold rdyTo
  have e : zs.getD t 0 = zs[t] := by rw [List.getD_eq_getElem?_getD, List.getElem?_eq_getElem h]; rfl
  rw [List.take_succ_eq_append_getElem h, List.all_append, e, List.all_cons, List.all_nil, Bool.and_true]
theorem rdyTo_all (op : List Bool) (zs : List Int) : rdyTo op zs zs.length = !zs.any fun k => op.getD k.toNat false := by
  unfold rdyTo
  rw [List.take_length]
  induction zs with
  | nil => rfl
  | cons z l ih => rw [List.all_cons, List.any_cons, ih, Bool.not_or]
theorem app_intG {ops : Array Oper} {rest : List Oper} {o : Oper} {a : Act} {Q : Exit → Act → World → Prop} {w : World} {v : Value} {zs : List Int} {l : List Asrt} {n : Int} {q : Nat} (hgd : o.guard = none) (s x : Operand) (ho : o.op = .call { callee := .builtin .append, args := #[s, x], argTypes := #[27, 27] })
    (hs : a.eval s = v) (hx : a.eval x = .slice (some ⟨q, 0, none⟩) 1 1) (hq : q = w.heap.size) (H : Sep w (OI v zs :: l)) (hl : zs.length ≤ 1000000000)
    (h : ∀ g cap w', Sep w' (OI (.slice (some ⟨g, 0, none⟩) (zs.length + 1) cap) (zs ++ [n]) :: l) → wpList Tryd.prog ops Q rest (a.put o.dst (.slice (some ⟨g, 0, none⟩) (zs.length + 1) cap)) w') :
    wpList Tryd.prog ops Q (o :: rest) a (w.alloc (.cells #[.int .i64 n] 3)) := by
  subst hq
  exact app_intS hgd s x ho hs hx H hl h
end Go.Proofs.YtghfifpicklonaaDoor

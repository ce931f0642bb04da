/-
  The circuit of a graph, in the reference. Conditions: the graph is as a circuit's is to be.
-/
import Derived.Test.YtghfifpicklonaaDoorYv04
namespace Go.Proofs.YtghfifpicklonaaDoor
open Go.RowKit
set_option linter.unusedVariables false
set_option maxRecDepth 100000

set_option maxHeartbeats 2000000 in
theorem cnNone_any (n : Nat) (w : World) (hl : n ≤ 1000) :
    Calls Tryd.prog 101 #[.int .i64 n] w fun e w' => ∃ g c, e = .returned (.slice (some ⟨g, 0, none⟩) n c) ∧ Sep w' [OI (.slice (some ⟨g, 0, none⟩) n c) (List.replicate n (-1)), KeepA w] := by
  obtain ⟨i0, hbi, hz0, hz1, hz2⟩ := info_parts info_int
  have HBI := Lib.hid hbi; have HZ0 := Lib.hid hz0; have HZ1 := Lib.hid hz1; have HZ2 := Lib.hid hz2
  clear hbi hz0 hz1 hz2
  go_enter Tryd.func101, Tryd.ntmps101
  go_wp2_with (
    at_make
    go_loud (
    refine wpList_make_full _ rfl _ _ 27 rfl _ 3 i0 (.int .i64 0) 1 Tryd.underlying27 HBI.out HZ0.out HZ1.out _ _ _ _ n rfl rfl rfl rfl (by rw [HZ2.out]; omega) (by unfold maxLen; omega) (Nat.le_refl _) ?_
    intro w1 hown' hgr'
    have hs1 := (Sep.start w).newI (zs := List.replicate n 0) hgr' (by rw [madeCells_int] at hown'; unfold OwnInts; rw [List.length_replicate]; exact hown')
    have HS1 := Lib.hid hs1
    clear hs1 hown' hgr'))
  go_loopw [4, 9] (fun _ i wr => ∃ k : Nat, k ≤ n ∧ i = .int .i64 k ∧ Sep wr [OI (.slice (some ⟨w.heap.size, 0, none⟩) n n) (List.replicate k (-1) ++ List.replicate (n - k) 0), KeepA w]) (fun _ i _ => n - (intOf i).toNat)
  case atStart => exact ⟨0, by omega, rfl, by simpa using HS1.out⟩
  case round =>
    obtain ⟨k, hk, rfl, hs⟩ := hrel
    have HSX := Lib.hid hs
    clear hs
    by_cases hlt : k < n
    · have hll : n = (List.replicate k (-1) ++ List.replicate (n - k) (0 : Int)).length := by rw [List.length_append, List.length_replicate, List.length_replicate]; omega
      have hf := HSX.out.hd.free hll k
      obtain ⟨q, hc0⟩ := HSX.out.hd.cellQ hll (j := k) hlt
      have hset := HSX.out.setI hll k (-1)
      rw [rep_set (-1) 0 hlt] at hset
      have HSET := Lib.hid hset
      have hki : (k : Int) < (n : Int) := by omega
      clear hll hset
      go_wp2_with fail
      go_roundw
      case rel => exact ⟨k + 1, by omega, by go_num, HSET.out⟩
      case measure => simp [intOf]; omega
    · have hkn : k = n := by omega
      subst hkn
      have hkk : ¬ (k : Int) < (k : Int) := by omega
      clear hlt
      go_wp2_with fail
      go_ret
      have := HSX.out
      rw [Nat.sub_self, List.replicate_zero, List.append_nil] at this
      exact ⟨_, _, rfl, this⟩
def boolN : Value → Nat
  | .bool true => 1
  | _ => 0
theorem gd01 {L : List Int} {v : Nat} (h : v < L.length) : L.getD v 0 = L.getD v (-1) := by
  rw [List.getD_eq_getElem?_getD, List.getD_eq_getElem?_getD, List.getElem?_eq_getElem h]; rfl
theorem Sep.getI {w : World} {sg n sc : Nat} {Gs : List Int} {l : List Asrt} (h : Sep w (OI (.slice (some ⟨sg, 0, none⟩) n sc) Gs :: l)) (hl : Gs.length = n) {v : Nat} (hv : v < n) : w.cell? ⟨sg, v, none⟩ = some (.int .i64 (Gs.getD v (-1))) ∧ w.frozen? ⟨sg, v, none⟩ = false := by
  obtain ⟨b, o, hb, _, hc⟩ := (show OwnInts 0 w _ Gs from h.hd).read.atD (i := v) (by omega)
  injection hb with hb
  injection hb with hb ho _
  subst hb ho
  rw [Nat.zero_add, gd01 (by omega)] at hc
  exact ⟨hc, (show OwnInts 0 w _ Gs from h.hd).free hl.symm v⟩
theorem gtE_at {es : List Ed} {j : Nat} (h : j < es.length) (hg : isGt (es.getD j e0) = true) : (gtE (es.take j)).length < (gtE es).length ∧ (gtE es).getD (gtE (es.take j)).length e0 = es.getD j e0 := by
  have e1 : gtE es = gtE (es.take j) ++ es.getD j e0 :: gtE (es.drop (j + 1)) := by
    have h0 : es.take j ++ es.getD j e0 :: es.drop (j + 1) = es := by
      rw [List.getD_eq_getElem?_getD, List.getElem?_eq_getElem h]
      show es.take j ++ es[j] :: es.drop (j + 1) = es
      rw [← List.drop_eq_getElem_cons h, List.take_append_drop]
    have h1 : gtE (es.take j ++ es.getD j e0 :: es.drop (j + 1)) = gtE (es.take j) ++ es.getD j e0 :: gtE (es.drop (j + 1)) := by
      unfold gtE
      rw [List.filter_append, List.filter_cons, if_pos hg]
    rw [h0] at h1
    exact h1
  constructor
  · rw [e1, List.length_append, List.length_cons]; omega
  · rw [e1, List.getD_eq_getElem?_getD, List.getElem?_append_right (Nat.le_refl _), Nat.sub_self]; rfl
set_option maxHeartbeats 16000000 in
theorem crOf_any (g : Gr) (n : Nat) (ev iv ov : Value) (w : World) (hk : CgOk g n) (hac : acyB (ndE g.es) = true) (he : RdE edgeE w ev g.es) (hi : IntsV w iv g.i) (ho : IntsV w ov g.o) :
    Calls Tryd.prog 56 #[grV n ev iv ov] w fun e w' => ∃ (a1 : Option Addr) (c1 : Nat) (a2 : Option Addr) (c2 : Nat), e = .returned (.agg #[.int .i64 (cirG g n).n, .slice a1 (cirG g n).gs.length c1, .slice a2 (cirG g n).os.length c2]) ∧ Sep w' [OR gateE (.slice a1 (cirG g n).gs.length c1) (cirG g n).gs, OI (.slice a2 (cirG g n).os.length c2) (cirG g n).os, KeepA w] := by
  have hln := hk.ln; have hle := hk.le; have hli := hk.li; have hlo := hk.lo
  have HRP := Lib.hid fun W => cnNone_any n W (by omega)
  have HE := Lib.hid he; have HII := Lib.hid hi; have HOO := Lib.hid ho; have HK := Lib.hid hk; have HAC := Lib.hid hac
  unfold grV at *
  obtain ⟨ea, ec, rfl⟩ := he.shape
  obtain ⟨ia, ic, rfl⟩ := hi.shape
  obtain ⟨oa, oc, rfl⟩ := ho.shape
  obtain ⟨R, hR⟩ : ∃ R, cirG g n = R := ⟨_, rfl⟩
  rw [hR]
  have HRR := Lib.hid hR
  obtain ⟨m, hm⟩ : ∃ m, g.es.length = m := ⟨_, rfl⟩
  obtain ⟨m1, hm1⟩ : ∃ m, g.i.length = m := ⟨_, rfl⟩
  obtain ⟨m2, hm2⟩ : ∃ m, g.o.length = m := ⟨_, rfl⟩
  have HM := Lib.hid hm; have HM1 := Lib.hid hm1; have HM2 := Lib.hid hm2
  rw [hm] at hle ⊢
  rw [hm1] at hli ⊢
  rw [hm2] at hlo ⊢
  clear he hi ho hk hac hR hm hm1 hm2
  have hs0 := (((Sep.start w).boxAt w.heap.size rfl #[.int .i64 n, .slice ea m ec, .slice ia m1 ic, .slice oa m2 oc] 56).boxAt (w.heap.size + 1) (by simp) #[.int .i64 0, .slice none 0 0, .slice none 0 0] 29).boxAt (w.heap.size + 2) (by simp) #[.int .i64 m1, .slice none 0 0, .slice none 0 0] 29
  obtain ⟨x0, x1, x2, x3, _⟩ := bq4 hs0.tl.tl.hd
  have HS0 := Lib.hid (Sep.nilR gateE hs0)
  clear hs0
  go_enter Tryd.func56, Tryd.ntmps56
  go_upto_region 4 with (
    go_at_call 101
    with_reducible refine (HRP.out _).mono ?_
    rintro e w1 ⟨sg, sc, rfl, hsg⟩
    have hs1 := HS0.out.graft1 hsg OI_own
    clear x0 x1 x2 x3
    obtain ⟨x0, x1, x2, x3, _⟩ := bq4 hs1.tl.tl.tl.tl.hd
    have HS1 := Lib.hid hs1
    clear hsg hs1)
  clear x0 x1 x2 x3 HS0
  have HS2 := Lib.hid (Sep.blk (A := [_]) (B := [_, _]) HS1.out)
  clear HS1
  go_loopw [5, 6, 26] (fun _ _ i wr => ∃ (k : Nat) (gv : Value), k ≤ m1 ∧ i = .int .i64 k ∧ Sep wr [OR gateE gv (inGt k), BxA (w.heap.size + 2) #[.int .i64 m1, gv, .slice none 0 0] 29, OI (.slice (some ⟨sg, 0, none⟩) n sc) (inM n g.i k), BxA (w.heap.size + 1) #[.int .i64 0, .slice none 0 0, .slice none 0 0] 29, BxA w.heap.size #[.int .i64 n, .slice ea m ec, .slice ia m1 ic, .slice oa m2 oc] 56, KeepA w]) (fun _ _ i _ => m1 - (intOf i).toNat)
  case atStart => exact ⟨0, _, by omega, rfl, HS2.out⟩
  case round =>
    obtain ⟨k, gv, hk, rfl, hs⟩ := hrel
    obtain ⟨ga, gc, rfl⟩ := OwnR.shape (show OwnR gateE 0 wr gv _ from hs.hd)
    rw [inGt_len] at hs
    have HSX := Lib.hid hs
    clear hs HS2
    obtain ⟨x0, x1, x2, x3, _⟩ := bq4 HSX.out.tl.tl.tl.tl.hd
    by_cases hlt : k < m1
    · have hki : (k : Int) < (m1 : Int) := by omega
      have hkl : k < g.i.length := by rw [HM1.out]; exact hlt
      obtain ⟨ib, io, rfl, _, q0⟩ := (HII.out.carry HSX.out.tl.tl.tl.tl.tl.hd).atD hkl
      have hvr := HK.out.ri _ (getD_mem' hkl)
      obtain ⟨v, hv⟩ : ∃ v : Nat, g.i.getD k 0 = (v : Int) := ⟨(g.i.getD k 0).toNat, by omega⟩
      have hvn : v < n := by omega
      have hvi : (v : Int) < (n : Int) := by omega
      have HIM := Lib.hid (show inM n g.i (k + 1) = (inM n g.i k).set v (k : Int) from by show (inM n g.i k).set (g.i.getD k 0).toNat (k : Int) = _; rw [hv]; rfl)
      have hzl : n = (inM n g.i k).length := (inM_len n g.i k).symm
      rw [hv] at q0
      have hs3 := Sep.blk (A := [_, _]) (B := [_]) HSX.out
      obtain ⟨hc0, hf⟩ := hs3.getI (inM_len n g.i k) hvn
      have hs4 := Sep.blk (A := [_]) (B := [_, _]) (hs3.setI hzl v (k : Int))
      rw [← HIM.out] at hs4
      have HS4 := Lib.hid hs4
      clear hvr hv hkl hzl hs3 hs4
      go_upto_region 7 with fail
      generalize wr.setCell ⟨sg, v, none⟩ (.int .i64 (k : Int)) = w2 at *
      clear q0 hc0 hf x0 x1 x2 x3
      obtain ⟨c0, c1, c2, _⟩ := bx3 HS4.out.tl.hd
      go_wp2_with (
        at_builtin
        go_loud (
        refine app_R (E := gateE) (y := ⟨1, 0, 0, (k : Int)⟩) info_gate rfl (by decide) Tryd.underlying26 (gate_one _) rfl (.tmp 36) (.tmp 39) rfl rfl rfl rfl HS4.out (by rw [inGt_len]; omega) ?_
        intro g5 c5 w5 h5
        rw [inGt_len, ← inGt_succ] at h5
        try rw [inGt_len]
        have h6 := Sep.blk (A := [_]) (B := [_]) h5
        obtain ⟨d0, d1, d2, _, f1, _⟩ := bx3 h6.hd
        have HS7 := Lib.hid (Sep.blk (A := [_]) (B := [_]) (h6.setB 1 (.slice (some ⟨g5, 0, none⟩) (k + 1) c5)))
        clear h5 h6 c0 c1 c2))
      go_roundw
      case rel => exact ⟨k + 1, .slice (some ⟨g5, 0, none⟩) (k + 1) c5, by omega, by go_num, HS7.out⟩
      case measure => simp [intOf]; omega
    · have hkm : m1 = k := by omega
      subst hkm
      have hkk : ¬ (m1 : Int) < (m1 : Int) := by omega
      go_wp2_with fail
      clear x0 x1 x2 x3
      go_loopw [8, 9, 46] (fun _ _ i wr => ∃ (j : Nat) (gv : Value), j ≤ m ∧ i = .int .i64 j ∧ Sep wr [OR gateE gv (inGt m1 ++ (gtE (g.es.take j)).map gt0), BxA (w.heap.size + 2) #[.int .i64 m1, gv, .slice none 0 0] 29, OI (.slice (some ⟨sg, 0, none⟩) n sc) ((gtM (inM n g.i m1) m1 g.es j).1), BxA (w.heap.size + 1) #[.int .i64 0, .slice none 0 0, .slice none 0 0] 29, BxA w.heap.size #[.int .i64 n, .slice ea m ec, .slice ia m1 ic, .slice oa m2 oc] 56, KeepA w]) (fun _ _ i _ => m - (intOf i).toNat)
      case atStart => exact ⟨0, _, by omega, rfl, by simpa [gtE, gtM] using HSX.out⟩
      case round =>
        obtain ⟨j, gv, hj, rfl, hs⟩ := hrel
        obtain ⟨ga, gc, rfl⟩ := OwnR.shape (show OwnR gateE 0 wr gv _ from hs.hd)
        have hgl : (inGt m1 ++ (gtE (g.es.take j)).map gt0).length = m1 + (gtM (inM n g.i m1) m1 g.es j).2 := by rw [List.length_append, inGt_len, List.length_map, gtM_cnt _ _ _ _ (by rw [HM.out]; exact hj)]
        rw [hgl] at hs
        have hcb : (gtM (inM n g.i m1) m1 g.es j).2 ≤ j := by rw [gtM_cnt _ _ _ _ (by rw [HM.out]; exact hj)]; have := gtE_len (g.es.take j); rw [List.length_take] at this; omega
        have HSX := Lib.hid hs; have HGL := Lib.hid hgl
        clear hs hgl
        obtain ⟨x0, x1, x2, x3, _⟩ := bq4 HSX.out.tl.tl.tl.tl.hd
        by_cases hlt : j < m
        · have hke : j < g.es.length := by rw [HM.out]; exact hlt
          have hji : (j : Int) < (m : Int) := by omega
          obtain ⟨eb, eo, u1, u2, rfl, hat⟩ := HE.out.atK rfl rfl hke
          obtain ⟨⟨q0, q1, q2, q3⟩, hqi, hqo⟩ := hat wr HSX.out.tl.tl.tl.tl.tl.hd
          have HGTM := Lib.hid (show gtM (inM n g.i m1) m1 g.es (j + 1) = if isGt (g.es.getD j e0) = true then ((gtM (inM n g.i m1) m1 g.es j).1.set ((g.es.getD j e0).o.getD 0 0).toNat ((m1 + (gtM (inM n g.i m1) m1 g.es j).2 : Nat) : Int), (gtM (inM n g.i m1) m1 g.es j).2 + 1) else gtM (inM n g.i m1) m1 g.es j from rfl)
          have HGTE := Lib.hid (gtE_step hke)
          have HYM := Lib.hid (esMem hke)
          have hsl : (gtM (inM n g.i m1) m1 g.es j).1.length = n := by rw [gtM_len, inM_len]
          obtain ⟨src, cnt, hsc⟩ : ∃ src cnt, gtM (inM n g.i m1) m1 g.es j = (src, cnt) := ⟨_, _, rfl⟩
          rw [hsc] at HSX HGL HGTM hsl hcb
          simp only at HSX HGL HGTM hsl hcb
          have HSC := Lib.hid hsc
          have HSL := Lib.hid hsl
          obtain ⟨y, hy⟩ : ∃ y, g.es.getD j e0 = y := ⟨_, rfl⟩
          rw [hy] at q0 q1 hqi hqo hat HGTM HGTE HYM
          obtain ⟨s1, r1, hu1⟩ := hqi.shape
          obtain ⟨s2, r2, hu2⟩ := hqo.shape
          subst hu1 hu2
          have HYR := Lib.hid fun W (hW : w.grownBy W none) => (hat W hW).2
          have hkr := HK.out.k1 y HYM.out
          have hv7 := HK.out.v7 y HYM.out
          have hw5 := HK.out.w5 y HYM.out
          have hre := (HK.out.re y HYM.out).2
          have hs2 := HSX.out.boxAt wr.heap.size rfl #[.int .i64 y.k, .int .i64 y.v, .slice s1 y.i.length r1, .slice s2 y.o.length r2] 84
          obtain ⟨z0, z1, z2, z3, _⟩ := bq4 hs2.hd
          have HS2 := Lib.hid hs2
          clear hqi hqo hat hke hs2 hy hsc hsl
          obtain ⟨yk, yv, yi, yo⟩ := y
          simp only at *
          by_cases h5 : 5 ≤ yk
          · have h8 : yk ≤ 8 := hkr.2
            have hgt : isGt ⟨yk, yv, yi, yo⟩ = true := decide_eq_true h5
            rw [hgt] at HGTM HGTE
            have hol := hw5 hgt
            have hvr := hre _ (head_mem (l := yo) (by omega))
            obtain ⟨v, hv⟩ : ∃ v : Nat, yo.getD 0 0 = (v : Int) := ⟨(yo.getD 0 0).toNat, by omega⟩
            have hvn : v < n := by omega
            have hvi : (v : Int) < (n : Int) := by omega
            have hyo := (HYR.out w (grownBy_refl _ _)).2
            obtain ⟨ob, oo, hoa, hob, hoc⟩ := hyo.atD (i := 0) (by omega)
            subst hoa
            rw [hol] at HS2 z0 z1 z2 z3 q3
            rw [hv, Nat.add_zero] at hoc
            have HOB := Lib.hid hob; have HOC := Lib.hid hoc
            have HN2 := Lib.hid (show (gtM (inM n g.i m1) m1 g.es (j + 1)).1 = src.set v ((m1 + cnt : Nat) : Int) from by rw [HGTM.out, if_pos rfl, hv]; rfl)
            have HN3 := Lib.hid (show (inGt m1 ++ (gtE (g.es.take j)).map gt0) ++ [gt0 ⟨yk, yv, yi, yo⟩] = inGt m1 ++ (gtE (g.es.take (j + 1))).map gt0 from by rw [HGTE.out, if_pos rfl, List.map_append, List.append_assoc]; rfl)
            skip
            clear hvr hv hyo hob hoc hol hgt hre hw5
            go_upto_region 13 with fail
            clear q0 q1 q2 q3 x0 x1 x2 x3 z0 z1 z2 z3
            generalize wr.alloc (.cells #[.int .i64 yk, .int .i64 yv, .slice s1 yi.length r1, .slice (some ⟨ob, oo, none⟩) 1 r2] 84) = w4 at *
            generalize wr.heap.size = xb at *
            have HSD := Lib.hid HS2.out.dr
            have HBM := Lib.hid fun (W1 : World) (L : List Asrt) (h : Sep W1 L) (h1 : BxA xb #[.int .i64 yk, .int .i64 yv, .slice s1 yi.length r1, .slice (some ⟨ob, oo, none⟩) 1 r2] 84 ∈ L) (h2 : BxA (w.heap.size + 2) #[.int .i64 m1, (.slice ga (m1 + cnt) gc), .slice none 0 0] 29 ∈ L) (h4 : KeepA w ∈ L) => show W1.cell? ⟨xb, 3, none⟩ = some (.slice (some ⟨ob, oo, none⟩) 1 r2) ∧ W1.cell? ⟨ob, oo, none⟩ = some (.int .i64 v) ∧ W1.cell? ⟨w.heap.size + 2, 1, none⟩ = some (.slice ga (m1 + cnt) gc) from by
              obtain ⟨_, _, _, a3, _⟩ := bq4 (show W1.heap[xb]? = some (.cells #[.int .i64 yk, .int .i64 yv, .slice s1 yi.length r1, .slice (some ⟨ob, oo, none⟩) 1 r2] 84 (0, 0)) from Sep.all h _ h1)
              obtain ⟨_, b1, _⟩ := bx3 (show W1.heap[w.heap.size + 2]? = some (.cells #[.int .i64 m1, .slice ga (m1 + cnt) gc, .slice none 0 0] 29 (0, 0)) from Sep.all h _ h2)
              have hg : w.grownBy W1 none := Sep.all h _ h4
              exact ⟨a3, (World.cell?_of_block (a := ⟨ob, oo, none⟩) (hg.block ob HOB.out (by simp))).trans HOC.out, b1⟩
            have X0 := Lib.hid (HBM.out _ _ HSD.out (by simp) (by simp) (by simp))
            refine AnyL.start (fun W1 => W1.cell? ⟨xb, 3, none⟩ = some (.slice (some ⟨ob, oo, none⟩) 1 r2) ∧ W1.cell? ⟨ob, oo, none⟩ = some (.int .i64 v) ∧ W1.cell? ⟨w.heap.size + 2, 1, none⟩ = some (.slice ga (m1 + cnt) gc)) (fun _ => True) 99 (by kernel_rfl) ?_
            refine AnyL.take (i := 0) (v := ?vx1) (by rfl) (by kernel_rfl) (by kernel_rfl) (by kernel_rfl) rfl (by exact fun _ _ _ h => h) (by rfl) ?hyx1 (by exact ⟨X0.out, fun _ => trivial⟩) ?restx1
            case hyx1 => intro W hSW; (try dsimp only at hSW); first | (go_simp; done) | (go_simp; with_reducible rfl)
            try simp only [Act.put, List.setIfInBounds_toArray, List.set_cons_zero, List.set_cons_succ]
            refine AnyL.take (i := 1) (v := ?vx2) (by rfl) (by kernel_rfl) (by kernel_rfl) (by kernel_rfl) rfl (by exact fun _ _ _ h => h) (by rfl) ?hyx2 (by exact ⟨X0.out, fun _ => trivial⟩) ?restx2
            case hyx2 => intro W hSW; (try dsimp only at hSW); first | (go_simp; done) | (go_simp; with_reducible rfl)
            try simp only [Act.put, List.setIfInBounds_toArray, List.set_cons_zero, List.set_cons_succ]
            refine AnyL.take (i := 2) (v := ?vx3) (by rfl) (by kernel_rfl) (by kernel_rfl) (by kernel_rfl) rfl (by exact fun _ _ _ h => h) (by rfl) ?hyx3 (by exact ⟨X0.out, fun _ => trivial⟩) ?restx3
            case hyx3 => intro W hSW; (try dsimp only at hSW); first | (go_simp; done) | (go_simp; with_reducible rfl)
            try simp only [Act.put, List.setIfInBounds_toArray, List.set_cons_zero, List.set_cons_succ]
            refine AnyL.take (i := 3) (v := ?vx4) (by rfl) (by kernel_rfl) (by kernel_rfl) (by kernel_rfl) rfl (by exact fun _ _ _ h => h) (by rfl) ?hyx4 (by exact ⟨X0.out, fun _ => trivial⟩) ?restx4
            case hyx4 => intro W hSW; (try dsimp only at hSW); first | (go_simp; done) | (go_simp; with_reducible rfl)
            try simp only [Act.put, List.setIfInBounds_toArray, List.set_cons_zero, List.set_cons_succ]
            refine AnyL.take (i := 4) (v := ?vx5) (by rfl) (by kernel_rfl) (by kernel_rfl) (by kernel_rfl) rfl (by exact fun _ _ _ h => h) (by rfl) ?hyx5 (by exact ⟨X0.out, fun _ => trivial⟩) ?restx5
            case hyx5 => intro W hSW; (try dsimp only at hSW); first | (go_simp; done) | (go_simp; with_reducible rfl)
            try simp only [Act.put, List.setIfInBounds_toArray, List.set_cons_zero, List.set_cons_succ]
            refine AnyL.take (i := 5) (v := ?vx6) (by rfl) (by kernel_rfl) (by kernel_rfl) (by kernel_rfl) rfl (by exact fun _ _ _ h => h) (by rfl) ?hyx6 (by exact ⟨X0.out, fun _ => trivial⟩) ?restx6
            case hyx6 => intro W hSW; (try dsimp only at hSW); first | (go_simp; done) | (go_simp; with_reducible rfl)
            try simp only [Act.put, List.setIfInBounds_toArray, List.set_cons_zero, List.set_cons_succ]
            refine AnyL.take (i := 6) (v := ?vx7) (by rfl) (by kernel_rfl) (by kernel_rfl) (by kernel_rfl) rfl (by exact fun _ _ _ h => h) (by rfl) ?hyx7 (by exact ⟨X0.out, fun _ => trivial⟩) ?restx7
            case hyx7 => intro W hSW; (try dsimp only at hSW); first | (go_simp; done) | (go_simp; with_reducible rfl)
            try simp only [Act.put, List.setIfInBounds_toArray, List.set_cons_zero, List.set_cons_succ]
            refine AnyL.take (i := 7) (v := ?vx8) (by rfl) (by kernel_rfl) (by kernel_rfl) (by kernel_rfl) rfl (by exact fun _ _ _ h => h) (by rfl) ?hyx8 (by exact ⟨X0.out, fun _ => trivial⟩) ?restx8
            case hyx8 => intro W hSW; (try dsimp only at hSW); first | (go_simp; done) | (go_simp; with_reducible rfl)
            try simp only [Act.put, List.setIfInBounds_toArray, List.set_cons_zero, List.set_cons_succ]
            refine AnyL.take (i := 8) (v := ?vx9) (by rfl) (by kernel_rfl) (by kernel_rfl) (by kernel_rfl) rfl (by exact fun _ _ _ h => h) (by rfl) ?hyx9 (by exact ⟨X0.out, fun _ => trivial⟩) ?restx9
            case hyx9 => intro W hSW; (try dsimp only at hSW); first | (go_simp; done) | (go_simp; with_reducible rfl)
            try simp only [Act.put, List.setIfInBounds_toArray, List.set_cons_zero, List.set_cons_succ]
            have hs4 := Sep.blk (A := [_, _, _]) (B := [_]) HSD.out
            obtain ⟨hc0, hf⟩ := hs4.getI HSL.out hvn
            have hs5 := Sep.blk (A := [_]) (B := [_, _, _]) (hs4.setI HSL.out.symm v ((m1 + cnt : Nat) : Int))
            rw [← HN2.out] at hs5
            have HS4 := Lib.hid hs5
            clear hs4 hs5
            refine AnyL.step (i := 9) (by kernel_rfl) (by rfl) (fun K hK => ?_)
            go_simp
            refine hK.out _ (w4.drew.setCell ⟨sg, v, none⟩ (.int .i64 ((m1 + cnt : Nat) : Int))) (by exact HBM.out _ _ HS4.out (by simp) (by simp) (by simp)) (by exact fun _ => trivial) ?_
            clear hK K
            try simp only [Act.put, List.setIfInBounds_toArray, List.set_cons_zero, List.set_cons_succ]
            refine AnyL.done (by kernel_rfl) ?_ _
            clear hf hc0 X0 HS2 HSD
            generalize w4.drew.setCell ⟨sg, v, none⟩ (.int .i64 ((m1 + cnt : Nat) : Int)) = w5 at *
            have HLG := Lib.hid HGL.out
            obtain ⟨t0, t1, t2, t3, _⟩ := bq4 HS4.out.hd
            obtain h | h | h | h : yk = 5 ∨ yk = 6 ∨ yk = 7 ∨ yk = 8 := by omega
            · subst h
              obtain rfl : yv = 0 := hv7 (by decide)
              have HA4 := Lib.hid (HS4.out.boxAt w5.heap.size rfl #[.int .i64 3, .int .i64 2, .int .i64 4, .int .i64 5] 3)
              obtain ⟨a0, a1, a2, a3, _⟩ := bq4 HA4.out.hd
              obtain ⟨k0, k1, k2, k3, _⟩ := bq4 HA4.out.tl.hd
              obtain ⟨c0, c1, c2, _⟩ := bx3 HA4.out.tl.tl.tl.hd
              have HS5 := Lib.hid (Sep.blk (A := [_, _]) (B := [_]) HA4.out)
              go_upto_region 15 with fail
              generalize w5.alloc (.cells #[.int .i64 3, .int .i64 2, .int .i64 4, .int .i64 5] 3) = w6 at *
              go_wp2_with (
                at_builtin
                go_loud (
                refine app_R (E := gateE) (y := gt0 ⟨5, 0, yi, yo⟩) info_gate rfl (by decide) Tryd.underlying26 (gate_one _) rfl (.tmp 74) (.tmp 79) rfl rfl rfl rfl HS5.out (by rw [HLG.out]; omega) ?_
                intro g5 c5 w7 h5
                rw [HLG.out, HN3.out] at h5
                try rw [HLG.out]
                have h6 := Sep.blk (A := [_, _, _]) (B := [_]) h5
                obtain ⟨d0, d1, d2, _, f1, _⟩ := bx3 h6.hd
                have h7 := h6.setB 1 (.slice (some ⟨g5, 0, none⟩) (m1 + cnt + 1) c5)
                have h8 := Sep.blk (A := [_]) (B := [_]) h7
                have HS8 := Lib.hid (Sep.cutA (X := [_, _]) (A := [_, _]) h8)
                clear h5 h6 h7 h8))
              go_roundw
              case rel => exact ⟨j + 1, .slice (some ⟨g5, 0, none⟩) (m1 + cnt + 1) c5, by omega, by go_num, HS8.out⟩
              case measure => simp [intOf]; omega
            · subst h
              obtain rfl : yv = 0 := hv7 (by decide)
              have HA4 := Lib.hid (HS4.out.boxAt w5.heap.size rfl #[.int .i64 3, .int .i64 2, .int .i64 4, .int .i64 5] 3)
              obtain ⟨a0, a1, a2, a3, _⟩ := bq4 HA4.out.hd
              obtain ⟨k0, k1, k2, k3, _⟩ := bq4 HA4.out.tl.hd
              obtain ⟨c0, c1, c2, _⟩ := bx3 HA4.out.tl.tl.tl.hd
              have HS5 := Lib.hid (Sep.blk (A := [_, _]) (B := [_]) HA4.out)
              go_upto_region 15 with fail
              generalize w5.alloc (.cells #[.int .i64 3, .int .i64 2, .int .i64 4, .int .i64 5] 3) = w6 at *
              go_wp2_with (
                at_builtin
                go_loud (
                refine app_R (E := gateE) (y := gt0 ⟨6, 0, yi, yo⟩) info_gate rfl (by decide) Tryd.underlying26 (gate_one _) rfl (.tmp 74) (.tmp 79) rfl rfl rfl rfl HS5.out (by rw [HLG.out]; omega) ?_
                intro g5 c5 w7 h5
                rw [HLG.out, HN3.out] at h5
                try rw [HLG.out]
                have h6 := Sep.blk (A := [_, _, _]) (B := [_]) h5
                obtain ⟨d0, d1, d2, _, f1, _⟩ := bx3 h6.hd
                have h7 := h6.setB 1 (.slice (some ⟨g5, 0, none⟩) (m1 + cnt + 1) c5)
                have h8 := Sep.blk (A := [_]) (B := [_]) h7
                have HS8 := Lib.hid (Sep.cutA (X := [_, _]) (A := [_, _]) h8)
                clear h5 h6 h7 h8))
              go_roundw
              case rel => exact ⟨j + 1, .slice (some ⟨g5, 0, none⟩) (m1 + cnt + 1) c5, by omega, by go_num, HS8.out⟩
              case measure => simp [intOf]; omega
            · subst h
              have HA4 := Lib.hid (HS4.out.boxAt w5.heap.size rfl #[.int .i64 3, .int .i64 2, .int .i64 4, .int .i64 5] 3)
              obtain ⟨a0, a1, a2, a3, _⟩ := bq4 HA4.out.hd
              obtain ⟨k0, k1, k2, k3, _⟩ := bq4 HA4.out.tl.hd
              obtain ⟨c0, c1, c2, _⟩ := bx3 HA4.out.tl.tl.tl.hd
              have HS5 := Lib.hid (Sep.blk (A := [_, _]) (B := [_]) HA4.out)
              go_upto_region 15 with fail
              generalize w5.alloc (.cells #[.int .i64 3, .int .i64 2, .int .i64 4, .int .i64 5] 3) = w6 at *
              go_wp2_with (
                at_builtin
                go_loud (
                refine app_R (E := gateE) (y := gt0 ⟨7, yv, yi, yo⟩) info_gate rfl (by decide) Tryd.underlying26 (gate_one _) rfl (.tmp 74) (.tmp 79) rfl rfl rfl rfl HS5.out (by rw [HLG.out]; omega) ?_
                intro g5 c5 w7 h5
                rw [HLG.out, HN3.out] at h5
                try rw [HLG.out]
                have h6 := Sep.blk (A := [_, _, _]) (B := [_]) h5
                obtain ⟨d0, d1, d2, _, f1, _⟩ := bx3 h6.hd
                have h7 := h6.setB 1 (.slice (some ⟨g5, 0, none⟩) (m1 + cnt + 1) c5)
                have h8 := Sep.blk (A := [_]) (B := [_]) h7
                have HS8 := Lib.hid (Sep.cutA (X := [_, _]) (A := [_, _]) h8)
                clear h5 h6 h7 h8))
              go_roundw
              case rel => exact ⟨j + 1, .slice (some ⟨g5, 0, none⟩) (m1 + cnt + 1) c5, by omega, by go_num, HS8.out⟩
              case measure => simp [intOf]; omega
            · subst h
              obtain rfl : yv = 0 := hv7 (by decide)
              have HA4 := Lib.hid (HS4.out.boxAt w5.heap.size rfl #[.int .i64 3, .int .i64 2, .int .i64 4, .int .i64 5] 3)
              obtain ⟨a0, a1, a2, a3, _⟩ := bq4 HA4.out.hd
              obtain ⟨k0, k1, k2, k3, _⟩ := bq4 HA4.out.tl.hd
              obtain ⟨c0, c1, c2, _⟩ := bx3 HA4.out.tl.tl.tl.hd
              have HS5 := Lib.hid (Sep.blk (A := [_, _]) (B := [_]) HA4.out)
              go_upto_region 15 with fail
              generalize w5.alloc (.cells #[.int .i64 3, .int .i64 2, .int .i64 4, .int .i64 5] 3) = w6 at *
              go_wp2_with (
                at_builtin
                go_loud (
                refine app_R (E := gateE) (y := gt0 ⟨8, 0, yi, yo⟩) info_gate rfl (by decide) Tryd.underlying26 (gate_one _) rfl (.tmp 74) (.tmp 79) rfl rfl rfl rfl HS5.out (by rw [HLG.out]; omega) ?_
                intro g5 c5 w7 h5
                rw [HLG.out, HN3.out] at h5
                try rw [HLG.out]
                have h6 := Sep.blk (A := [_, _, _]) (B := [_]) h5
                obtain ⟨d0, d1, d2, _, f1, _⟩ := bx3 h6.hd
                have h7 := h6.setB 1 (.slice (some ⟨g5, 0, none⟩) (m1 + cnt + 1) c5)
                have h8 := Sep.blk (A := [_]) (B := [_]) h7
                have HS8 := Lib.hid (Sep.cutA (X := [_, _]) (A := [_, _]) h8)
                clear h5 h6 h7 h8))
              go_roundw
              case rel => exact ⟨j + 1, .slice (some ⟨g5, 0, none⟩) (m1 + cnt + 1) c5, by omega, by go_num, HS8.out⟩
              case measure => simp [intOf]; omega
          · have hgt : isGt ⟨yk, yv, yi, yo⟩ = false := decide_eq_false h5
            rw [hgt] at HGTM HGTE
            have HN2 := Lib.hid (show (gtM (inM n g.i m1) m1 g.es (j + 1)).1 = src from by rw [HGTM.out]; simp)
            have HN3 := Lib.hid (show gtE (g.es.take (j + 1)) = gtE (g.es.take j) from by rw [HGTE.out]; simp)
            clear hgt
            go_wp2_with fail
            go_roundw
            case rel => exact ⟨j + 1, _, by omega, by go_num, by rw [HN2.out, HN3.out]; exact HS2.out.tl⟩
            case measure => simp [intOf]; omega
        · have hjm : m = j := by omega
          subst hjm
          have hjj : ¬ (m : Int) < (m : Int) := by omega
          have htk : g.es.take m = g.es := List.take_of_length_le (by rw [HM.out]; exact Nat.le_refl _)
          have hs1 := HSX.out
          have hgl := HGL.out
          rw [htk] at hs1 hgl
          have hsr : (gtM (inM n g.i m1) m1 g.es m).1 = srcG n g := by unfold srcG; rw [HM.out, HM1.out]
          rw [hsr] at hs1
          obtain ⟨cnt, hcnt⟩ : ∃ c, (gtM (inM n g.i m1) m1 g.es m).2 = c := ⟨_, rfl⟩
          rw [hcnt] at hs1 hgl hcb
          have hml : (gtE g.es).length = cnt := by rw [List.length_append, inGt_len, List.length_map] at hgl; omega
          rw [← gtsI_zero (srcV (srcG n g) g.es)] at hs1
          have HML := Lib.hid hml
          have HS1 := Lib.hid (Sep.blk (A := [_, _]) (B := [_]) hs1)
          clear hs1 hgl htk hsr hcnt hml HSX HGL
          have HFS := Lib.hid (FixOk.start HK.out)
          go_upto_region 18 with fail
          clear x0 x1 x2 x3
          go_loopw [10, 12, 87] (fun av _ _ wr => ∃ (bg : Bool) (Gs : List Int), av = .bool bg ∧ FixOk g n Gs ∧ (bg = false → (∀ i, i < m → (g.es.getD i e0).k = 3 → 0 ≤ Gs.getD (cI g.es i) (-1) → 0 ≤ Gs.getD (cO g.es i) (-1))) ∧ Sep wr [OI (.slice (some ⟨sg, 0, none⟩) n sc) (Gs), OR gateE (.slice ga (m1 + cnt) gc) (gtsI (srcV (srcG n g) g.es) (inGt m1) (gtE g.es) 0), BxA (w.heap.size + 2) #[.int .i64 m1, .slice ga (m1 + cnt) gc, .slice none 0 0] 29, BxA (w.heap.size + 1) #[.int .i64 0, .slice none 0 0, .slice none 0 0] 29, BxA w.heap.size #[.int .i64 n, .slice ea m ec, .slice ia m1 ic, .slice oa m2 oc] 56, KeepA w]) (fun av _ _ wr => 2 * negW sg n wr + boolN av)
          case atStart => exact ⟨true, _, rfl, HFS.out, (fun h => by cases h), HS1.out⟩
          case round =>
            obtain ⟨bg, Gs, rfl, hfx, hdn, hs⟩ := hrel
            have HSX := Lib.hid hs; have HFX := Lib.hid hfx
            have HNW := Lib.hid (negW_eq hs.hd hfx.l)
            obtain ⟨x0, x1, x2, x3, _⟩ := bq4 hs.tl.tl.tl.tl.hd
            clear hs hfx HS1 HFS
            cases bg
            · have HDN := Lib.hid (hdn rfl)
              have HFV := Lib.hid (FixOk.done HFX.out HK.out HAC.out (fun i hi h3 h0 => HDN.out i (by rw [← HM.out]; exact hi) h3 h0))
              clear HNW hdn HDN
              have HGL := Lib.hid HFX.out.l
              go_upto_region 30 with fail
              clear x0 x1 x2 x3
              go_loopw [13, 15, 147] (fun av _ i wr => ∃ j : Nat, j ≤ m ∧ i = .int .i64 j ∧ av = .int .i64 ((m1 + (gtE (g.es.take j)).length : Nat) : Int) ∧ Sep wr [OI (.slice (some ⟨sg, 0, none⟩) n sc) (Gs), OR gateE (.slice ga (m1 + cnt) gc) (gtsI (srcV (srcG n g) g.es) (inGt m1) (gtE g.es) (gtE (g.es.take j)).length), BxA (w.heap.size + 2) #[.int .i64 m1, .slice ga (m1 + cnt) gc, .slice none 0 0] 29, BxA (w.heap.size + 1) #[.int .i64 0, .slice none 0 0, .slice none 0 0] 29, BxA w.heap.size #[.int .i64 n, .slice ea m ec, .slice ia m1 ic, .slice oa m2 oc] 56, KeepA w]) (fun _ _ i _ => m - (intOf i).toNat)
              case atStart => exact ⟨0, by omega, rfl, rfl, HSX.out⟩
              case round =>
                obtain ⟨j, hj, rfl, rfl, hs⟩ := hrel
                have HSQ := Lib.hid hs
                clear hs HSX
                by_cases hlt : j < m
                · have hke : j < g.es.length := by rw [HM.out]; exact hlt
                  have hji : (j : Int) < (m : Int) := by omega
                  have hkw := HSQ.out.tl.tl.tl.tl.tl.hd
                  obtain ⟨eb, eo, u1, u2, rfl, hat⟩ := HE.out.atK rfl rfl hke
                  obtain ⟨⟨q0, q1, q2, q3⟩, hqi, hqo⟩ := hat wr hkw
                  have hstep := gtE_step hke
                  have hcut := @gtE_at g.es j hke
                  have hym := esMem hke
                  obtain ⟨y, hy⟩ : ∃ y, g.es.getD j e0 = y := ⟨_, rfl⟩
                  rw [hy] at q0 q1 hqi hqo hat hstep hcut hym
                  obtain ⟨s1, r1, hu1⟩ := hqi.shape
                  obtain ⟨s2, r2, hu2⟩ := hqo.shape
                  subst hu1 hu2
                  have HYR := Lib.hid fun W (hW : w.grownBy W none) => (hat W hW).2
                  have hrl := (HK.out.rl y hym).1
                  have hre := (HK.out.re y hym).1
                  have hk1 := HK.out.k1 y hym
                  have hs2 := HSQ.out.boxAt wr.heap.size rfl #[.int .i64 y.k, .int .i64 y.v, .slice s1 y.i.length r1, .slice s2 y.o.length r2] 84
                  obtain ⟨z0, z1, z2, z3, _⟩ := bq4 hs2.hd
                  have HS2 := Lib.hid hs2
                  obtain ⟨c, hc⟩ : ∃ c, (gtE (g.es.take j)).length = c := ⟨_, rfl⟩
                  rw [hc] at HS2 hcut hs2
                  have hcl : (gtE (g.es.take (j + 1))).length = if isGt y = true then c + 1 else c := by rw [hstep]; by_cases h : isGt y = true <;> simp [h, hc]
                  clear hqi hqo hat hs2 hy hkw hstep hke
                  obtain ⟨yk, yv, yi, yo⟩ := y
                  simp only at *
                  rw [hc]
                  obtain ⟨dd, hdd⟩ : ∃ dd, m1 + c = dd := ⟨_, rfl⟩
                  rw [hdd]
                  have HDD := Lib.hid hdd
                  clear hdd
                  by_cases h5 : 5 ≤ yk
                  · have h8 : yk ≤ 8 := hk1.2
                    have hgt : isGt ⟨yk, yv, yi, yo⟩ = true := decide_eq_true h5
                    rw [hgt] at hcl
                    have HCL := Lib.hid (show (gtE (g.es.take (j + 1))).length = c + 1 from by simpa using hcl)
                    obtain ⟨hcM, hcg⟩ := hcut hgt
                    have hcc : c < cnt := by rw [← HML.out]; exact hcM
                    have HCUT := Lib.hid (gtsI_cut (S := (srcV (srcG n g) g.es)) (a := inGt m1) hcM)
                    have HNXT := Lib.hid (gtsI_next (S := (srcV (srcG n g) g.es)) (a := inGt m1) hcM)
                    rw [hcg] at HCUT HNXT
                    have HAL := Lib.hid (show (inGt m1 ++ ((gtE g.es).take c).map (gtB (srcV (srcG n g) g.es))).length = dd from by rw [List.length_append, inGt_len, List.length_map, List.length_take, ← HDD.out]; omega)
                    have HTL := Lib.hid (gtsI_len (srcV (srcG n g) g.es) (inGt m1) (gtE g.es) (i := c) (by omega))
                    rw [inGt_len, HML.out] at HTL
                    obtain ⟨gg, gcp, hge, _, _, _⟩ := OwnR.parts (show OwnR gateE 0 _ (.slice ga (m1 + cnt) gc) _ from HS2.out.tl.tl.hd) (by rw [HTL.out]; omega)
                    rw [HTL.out] at hge
                    injection hge with hge1 _ hge2
                    subst hge1 hge2
                    have hs2 := HS2.out
                    rw [HCUT.out] at hs2
                    have HAG := Lib.hid (show m1 + cnt = ((inGt m1 ++ ((gtE g.es).take c).map (gtB (srcV (srcG n g) g.es))) ++ gt0 ⟨yk, yv, yi, yo⟩ :: ((gtE g.es).drop (c + 1)).map gt0).length from by rw [← HCUT.out]; exact HTL.out.symm)
                    obtain ⟨AA, hAA⟩ : ∃ A, inGt m1 ++ ((gtE g.es).take c).map (gtB (srcV (srcG n g) g.es)) = A := ⟨_, rfl⟩
                    obtain ⟨BB, hBB⟩ : ∃ B, ((gtE g.es).drop (c + 1)).map gt0 = B := ⟨_, rfl⟩
                    rw [hAA, hBB] at hs2 HNXT HAG
                    rw [hAA] at HAL
                    have HS4 := Lib.hid hs2
                    have hmk : (dd : Int) < (m1 : Int) + (cnt : Int) := by have := HDD.out; omega
                    have hmk2 : (dd : Int) < ((m1 + cnt : Nat) : Int) := by omega
                    have hwr : IntKind.i64.wrap ((dd : Int) + 1) = ((dd + 1 : Nat) : Int) := by have := HDD.out; rw [wrap_id (by omega) (by omega)]; omega
                    have HD1 := Lib.hid (show m1 + (c + 1) = dd + 1 from by have := HDD.out; omega)
                    clear hs2 HCUT HTL hAA hBB HS2 hgt hcl hcut hym hcM hcg HSQ hk1
                    go_upto_region 33 with fail
                    generalize wr.alloc (.cells #[.int .i64 yk, .int .i64 yv, .slice s1 yi.length r1, .slice s2 yo.length r2] 84) = w4 at *
                    generalize wr.heap.size = xb at *
                    clear q0 q1 q2 q3 z0 z1 z2 z3
                    obtain ⟨z0, z1, z2, z3, _⟩ := bq4 HS4.out.hd
                    obtain rfl | ⟨a, rfl⟩ | ⟨a, b, rfl⟩ := two_cases hrl
                    · go_wp2_with fail
                      go_roundw
                      case rel => exact ⟨j + 1, by omega, by go_num, by rw [HCL.out, HD1.out]; go_num, by rw [HCL.out, HNXT.out]; exact HS4.out.tl⟩
                      case measure => simp [intOf]; omega
                    · have har := hre a (by simp)
                      obtain ⟨an, han⟩ : ∃ v : Nat, a = (v : Int) := ⟨a.toNat, by omega⟩
                      subst han
                      have hal : an < n := by omega
                      have hai : (an : Int) < (n : Int) := by omega
                      obtain ⟨ib, io, hia, hib, hic0⟩ := (HYR.out w (grownBy_refl _ _)).1.atD (i := 0) (by simp)
                      subst hia
                      rw [Nat.add_zero] at hic0
                      simp only [List.getD_cons_zero] at hic0
                      have HIB := Lib.hid hib
                      have HIC0 := Lib.hid hic0
                      clear hib hic0
                      have HS5 := Lib.hid (show Sep w4 [BxA xb #[.int .i64 yk, .int .i64 yv, .slice (some ⟨ib, io, none⟩) 1 r1, .slice s2 yo.length r2] 84, OI (.slice (some ⟨sg, 0, none⟩) n sc) (Gs), OR gateE (.slice (some ⟨gg, 0, none⟩) (m1 + cnt) gc) (AA ++ gt0 ⟨yk, yv, [(an : Int)], yo⟩ :: BB), BxA (w.heap.size + 2) #[.int .i64 m1, .slice (some ⟨gg, 0, none⟩) (m1 + cnt) gc, .slice none 0 0] 29, BxA (w.heap.size + 1) #[.int .i64 0, .slice none 0 0, .slice none 0 0] 29, BxA w.heap.size #[.int .i64 n, .slice (some ⟨eb, eo, none⟩) m ec, .slice ia m1 ic, .slice oa m2 oc] 56, KeepA w] from HS4.out)
                      have z2 : w4.cell? ⟨xb, 2, none⟩ = some (.slice (some ⟨ib, io, none⟩) 1 r1) := z2
                      have h01 : (0 : Int) < ((1 : Nat) : Int) := by decide
                      have HBM0 := Lib.hid fun (W1 : World) (A : Asrt) (L : List Asrt) (h : Sep W1 (A :: OI (.slice (some ⟨sg, 0, none⟩) n sc) (Gs) :: L)) (h1 : BxA xb #[.int .i64 yk, .int .i64 yv, .slice (some ⟨ib, io, none⟩) 1 r1, .slice s2 yo.length r2] 84 ∈ A :: OI (.slice (some ⟨sg, 0, none⟩) n sc) (Gs) :: L) (h2 : BxA (w.heap.size + 2) #[.int .i64 m1, .slice (some ⟨gg, 0, none⟩) (m1 + cnt) gc, .slice none 0 0] 29 ∈ A :: OI (.slice (some ⟨sg, 0, none⟩) n sc) (Gs) :: L) (h4 : KeepA w ∈ A :: OI (.slice (some ⟨sg, 0, none⟩) n sc) (Gs) :: L) => show W1.cell? ⟨xb, 2, none⟩ = some (.slice (some ⟨ib, io, none⟩) 1 r1) ∧ W1.cell? ⟨ib, io, none⟩ = some (.int .i64 an) ∧ W1.cell? ⟨w.heap.size + 2, 1, none⟩ = some (.slice (some ⟨gg, 0, none⟩) (m1 + cnt) gc) ∧ W1.cell? ⟨sg, an, none⟩ = some (.int .i64 ((srcV (srcG n g) g.es) an)) from by
                        obtain ⟨_, _, a2, _, _⟩ := bq4 (show W1.heap[xb]? = some (.cells #[.int .i64 yk, .int .i64 yv, .slice (some ⟨ib, io, none⟩) 1 r1, .slice s2 yo.length r2] 84 (0, 0)) from Sep.all h _ h1)
                        obtain ⟨_, b1, _⟩ := bx3 (show W1.heap[w.heap.size + 2]? = some (.cells #[.int .i64 m1, .slice (some ⟨gg, 0, none⟩) (m1 + cnt) gc, .slice none 0 0] 29 (0, 0)) from Sep.all h _ h2)
                        have hg : w.grownBy W1 none := Sep.all h _ h4
                        have hd := (h.tl.getI HGL.out hal).1
                        rw [HFV.out _ hal] at hd
                        exact ⟨a2, (World.cell?_of_block (a := ⟨ib, io, none⟩) (hg.block ib HIB.out (by simp))).trans HIC0.out, b1, hd⟩
                      have HAG1 := Lib.hid (show m1 + cnt = (AA ++ gt0 ⟨yk, yv, [(an : Int)], yo⟩ :: BB).length from HAG.out)
                      go_upto_region 34 with fail
                      clear z0 z1 z2 z3
                      have HSD0 := Lib.hid HS5.out.dr
                      have X0 := Lib.hid (HBM0.out _ _ _ HSD0.out (by simp) (by simp) (by simp))
                      refine AnyL.start (fun W1 => W1.cell? ⟨xb, 2, none⟩ = some (.slice (some ⟨ib, io, none⟩) 1 r1) ∧ W1.cell? ⟨ib, io, none⟩ = some (.int .i64 an) ∧ W1.cell? ⟨w.heap.size + 2, 1, none⟩ = some (.slice (some ⟨gg, 0, none⟩) (m1 + cnt) gc) ∧ W1.cell? ⟨sg, an, none⟩ = some (.int .i64 ((srcV (srcG n g) g.es) an))) (fun _ => True) 99 (by kernel_rfl) ?_
                      refine AnyL.take (i := 0) (v := ?vx36) (by rfl) (by kernel_rfl) (by kernel_rfl) (by kernel_rfl) rfl (by exact fun _ _ _ h => h) (by rfl) ?hyx36 (by exact ⟨X0.out, fun _ => trivial⟩) ?restx36
                      case hyx36 => intro W hSW; (try dsimp only at hSW); first | (go_simp; done) | (go_simp; with_reducible rfl)
                      try simp only [Act.put, List.setIfInBounds_toArray, List.set_cons_zero, List.set_cons_succ]
                      refine AnyL.take (i := 1) (v := ?vx37) (by rfl) (by kernel_rfl) (by kernel_rfl) (by kernel_rfl) rfl (by exact fun _ _ _ h => h) (by rfl) ?hyx37 (by exact ⟨X0.out, fun _ => trivial⟩) ?restx37
                      case hyx37 => intro W hSW; (try dsimp only at hSW); first | (go_simp; done) | (go_simp; with_reducible rfl)
                      try simp only [Act.put, List.setIfInBounds_toArray, List.set_cons_zero, List.set_cons_succ]
                      refine AnyL.take (i := 2) (v := ?vx38) (by rfl) (by kernel_rfl) (by kernel_rfl) (by kernel_rfl) rfl (by exact fun _ _ _ h => h) (by rfl) ?hyx38 (by exact ⟨X0.out, fun _ => trivial⟩) ?restx38
                      case hyx38 => intro W hSW; (try dsimp only at hSW); first | (go_simp; done) | (go_simp; with_reducible rfl)
                      try simp only [Act.put, List.setIfInBounds_toArray, List.set_cons_zero, List.set_cons_succ]
                      refine AnyL.take (i := 3) (v := ?vx39) (by rfl) (by kernel_rfl) (by kernel_rfl) (by kernel_rfl) rfl (by exact fun _ _ _ h => h) (by rfl) ?hyx39 (by exact ⟨X0.out, fun _ => trivial⟩) ?restx39
                      case hyx39 => intro W hSW; (try dsimp only at hSW); first | (go_simp; done) | (go_simp; with_reducible rfl)
                      try simp only [Act.put, List.setIfInBounds_toArray, List.set_cons_zero, List.set_cons_succ]
                      refine AnyL.take (i := 4) (v := ?vx40) (by rfl) (by kernel_rfl) (by kernel_rfl) (by kernel_rfl) rfl (by exact fun _ _ _ h => h) (by rfl) ?hyx40 (by exact ⟨X0.out, fun _ => trivial⟩) ?restx40
                      case hyx40 => intro W hSW; (try dsimp only at hSW); first | (go_simp; done) | (go_simp; with_reducible rfl)
                      try simp only [Act.put, List.setIfInBounds_toArray, List.set_cons_zero, List.set_cons_succ]
                      refine AnyL.take (i := 5) (v := ?vx41) (by rfl) (by kernel_rfl) (by kernel_rfl) (by kernel_rfl) rfl (by exact fun _ _ _ h => h) (by rfl) ?hyx41 (by exact ⟨X0.out, fun _ => trivial⟩) ?restx41
                      case hyx41 => intro W hSW; (try dsimp only at hSW); first | (go_simp; done) | (go_simp; with_reducible rfl)
                      try simp only [Act.put, List.setIfInBounds_toArray, List.set_cons_zero, List.set_cons_succ]
                      refine AnyL.take (i := 6) (v := ?vx42) (by rfl) (by kernel_rfl) (by kernel_rfl) (by kernel_rfl) rfl (by exact fun _ _ _ h => h) (by rfl) ?hyx42 (by exact ⟨X0.out, fun _ => trivial⟩) ?restx42
                      case hyx42 => intro W hSW; (try dsimp only at hSW); first | (go_simp; done) | (go_simp; with_reducible rfl)
                      try simp only [Act.put, List.setIfInBounds_toArray, List.set_cons_zero, List.set_cons_succ]
                      refine AnyL.take (i := 7) (v := ?vx43) (by rfl) (by kernel_rfl) (by kernel_rfl) (by kernel_rfl) rfl (by exact fun _ _ _ h => h) (by rfl) ?hyx43 (by exact ⟨X0.out, fun _ => trivial⟩) ?restx43
                      case hyx43 => intro W hSW; (try dsimp only at hSW); first | (go_simp; done) | (go_simp; with_reducible rfl)
                      try simp only [Act.put, List.setIfInBounds_toArray, List.set_cons_zero, List.set_cons_succ]
                      refine AnyL.take (i := 8) (v := ?vx44) (by rfl) (by kernel_rfl) (by kernel_rfl) (by kernel_rfl) rfl (by exact fun _ _ _ h => h) (by rfl) ?hyx44 (by exact ⟨X0.out, fun _ => trivial⟩) ?restx44
                      case hyx44 => intro W hSW; (try dsimp only at hSW); first | (go_simp; done) | (go_simp; with_reducible rfl)
                      try simp only [Act.put, List.setIfInBounds_toArray, List.set_cons_zero, List.set_cons_succ]
                      refine AnyL.take (i := 9) (v := ?vx45) (by rfl) (by kernel_rfl) (by kernel_rfl) (by kernel_rfl) rfl (by exact fun _ _ _ h => h) (by rfl) ?hyx45 (by exact ⟨X0.out, fun _ => trivial⟩) ?restx45
                      case hyx45 => intro W hSW; (try dsimp only at hSW); first | (go_simp; done) | (go_simp; with_reducible rfl)
                      try simp only [Act.put, List.setIfInBounds_toArray, List.set_cons_zero, List.set_cons_succ]
                      refine AnyL.take (i := 10) (v := ?vx46) (by rfl) (by kernel_rfl) (by kernel_rfl) (by kernel_rfl) rfl (by exact fun _ _ _ h => h) (by rfl) ?hyx46 (by exact ⟨X0.out, fun _ => trivial⟩) ?restx46
                      case hyx46 => intro W hSW; (try dsimp only at hSW); first | (go_simp; done) | (go_simp; with_reducible rfl)
                      try simp only [Act.put, List.setIfInBounds_toArray, List.set_cons_zero, List.set_cons_succ]
                      refine AnyL.take (i := 11) (v := ?vx47) (by rfl) (by kernel_rfl) (by kernel_rfl) (by kernel_rfl) rfl (by exact fun _ _ _ h => h) (by rfl) ?hyx47 (by exact ⟨X0.out, fun _ => trivial⟩) ?restx47
                      case hyx47 => intro W hSW; (try dsimp only at hSW); first | (go_simp; done) | (go_simp; with_reducible rfl)
                      try simp only [Act.put, List.setIfInBounds_toArray, List.set_cons_zero, List.set_cons_succ]
                      have hsb := Sep.blk (A := [_, _]) (B := [_]) HSD0.out
                      obtain ⟨hs6, ⟨qq, hq⟩, hfz⟩ := hsb.setGm (y := (gtA (srcV (srcG n g) g.es) ⟨yk, yv, [(an : Int)], yo⟩)) (j := 1) (u := .int .i64 ((srcV (srcG n g) g.es) an)) HAG1.out HAL.out (by decide) (by simp [gateC, gt0, gtA])
                      have HS6 := Lib.hid (Sep.blk (A := [_]) (B := [_, _]) hs6)
                      clear hsb hs6
                      refine AnyL.step (i := 12) (by kernel_rfl) (by rfl) (fun K hK => ?_)
                      go_simp
                      refine hK.out _ (w4.drew.setCell ⟨gg, dd * 4 + 1, none⟩ (.int .i64 ((srcV (srcG n g) g.es) an))) (by exact HBM0.out _ _ _ HS6.out (by simp) (by simp) (by simp)) (by exact fun _ => trivial) ?_
                      clear hK K
                      try simp only [Act.put, List.setIfInBounds_toArray, List.set_cons_zero, List.set_cons_succ]
                      refine AnyL.done (by kernel_rfl) ?_ _
                      clear hq hfz X0
                      generalize w4.drew.setCell ⟨gg, dd * 4 + 1, none⟩ (.int .i64 ((srcV (srcG n g) g.es) an)) = w6 at *
                      obtain ⟨z0, z1, z2, z3, _⟩ := bq4 HS6.out.hd
                      have HSe := Lib.hid (show gtB (srcV (srcG n g) g.es) ⟨yk, yv, [(an : Int)], yo⟩ = gtA (srcV (srcG n g) g.es) ⟨yk, yv, [(an : Int)], yo⟩ from rfl)
                      rw [HSe.out] at HNXT
                      go_wp2_with fail
                      go_roundw
                      case rel => exact ⟨j + 1, by omega, by go_num, by rw [HCL.out, HD1.out]; go_num, by rw [HCL.out, HNXT.out]; exact HS6.out.tl⟩
                      case measure => simp [intOf]; omega
                    · have har := hre a (by simp)
                      obtain ⟨an, han⟩ : ∃ v : Nat, a = (v : Int) := ⟨a.toNat, by omega⟩
                      subst han
                      have hal : an < n := by omega
                      have hai : (an : Int) < (n : Int) := by omega
                      have hbr := hre b (by simp)
                      obtain ⟨bn, hbn⟩ : ∃ v : Nat, b = (v : Int) := ⟨b.toNat, by omega⟩
                      subst hbn
                      have hbl : bn < n := by omega
                      have hbi : (bn : Int) < (n : Int) := by omega
                      obtain ⟨ib, io, hia, hib, hic0⟩ := (HYR.out w (grownBy_refl _ _)).1.atD (i := 0) (by simp)
                      subst hia
                      rw [Nat.add_zero] at hic0
                      simp only [List.getD_cons_zero] at hic0
                      have HIB := Lib.hid hib
                      have HIC0 := Lib.hid hic0
                      obtain ⟨ib2, io2, hia2, _, hic1⟩ := (HYR.out w (grownBy_refl _ _)).1.atD (i := 1) (by simp)
                      injection hia2 with hia2
                      injection hia2 with hb2 ho2 _
                      subst hb2 ho2
                      have hic1 : w.cell? ⟨ib, io + 1, none⟩ = some (.int .i64 (bn : Int)) := hic1
                      have HIC1 := Lib.hid hic1
                      clear hic1
                      clear hib hic0
                      have HS5 := Lib.hid (show Sep w4 [BxA xb #[.int .i64 yk, .int .i64 yv, .slice (some ⟨ib, io, none⟩) 2 r1, .slice s2 yo.length r2] 84, OI (.slice (some ⟨sg, 0, none⟩) n sc) (Gs), OR gateE (.slice (some ⟨gg, 0, none⟩) (m1 + cnt) gc) (AA ++ gt0 ⟨yk, yv, [(an : Int), (bn : Int)], yo⟩ :: BB), BxA (w.heap.size + 2) #[.int .i64 m1, .slice (some ⟨gg, 0, none⟩) (m1 + cnt) gc, .slice none 0 0] 29, BxA (w.heap.size + 1) #[.int .i64 0, .slice none 0 0, .slice none 0 0] 29, BxA w.heap.size #[.int .i64 n, .slice (some ⟨eb, eo, none⟩) m ec, .slice ia m1 ic, .slice oa m2 oc] 56, KeepA w] from HS4.out)
                      have z2 : w4.cell? ⟨xb, 2, none⟩ = some (.slice (some ⟨ib, io, none⟩) 2 r1) := z2
                      have h02 : (0 : Int) < ((2 : Nat) : Int) := by decide
                      have h12 : (1 : Int) < ((2 : Nat) : Int) := by decide
                      have HBM0 := Lib.hid fun (W1 : World) (A : Asrt) (L : List Asrt) (h : Sep W1 (A :: OI (.slice (some ⟨sg, 0, none⟩) n sc) (Gs) :: L)) (h1 : BxA xb #[.int .i64 yk, .int .i64 yv, .slice (some ⟨ib, io, none⟩) 2 r1, .slice s2 yo.length r2] 84 ∈ A :: OI (.slice (some ⟨sg, 0, none⟩) n sc) (Gs) :: L) (h2 : BxA (w.heap.size + 2) #[.int .i64 m1, .slice (some ⟨gg, 0, none⟩) (m1 + cnt) gc, .slice none 0 0] 29 ∈ A :: OI (.slice (some ⟨sg, 0, none⟩) n sc) (Gs) :: L) (h4 : KeepA w ∈ A :: OI (.slice (some ⟨sg, 0, none⟩) n sc) (Gs) :: L) => show W1.cell? ⟨xb, 2, none⟩ = some (.slice (some ⟨ib, io, none⟩) 2 r1) ∧ W1.cell? ⟨ib, io, none⟩ = some (.int .i64 an) ∧ W1.cell? ⟨w.heap.size + 2, 1, none⟩ = some (.slice (some ⟨gg, 0, none⟩) (m1 + cnt) gc) ∧ W1.cell? ⟨sg, an, none⟩ = some (.int .i64 ((srcV (srcG n g) g.es) an)) from by
                        obtain ⟨_, _, a2, _, _⟩ := bq4 (show W1.heap[xb]? = some (.cells #[.int .i64 yk, .int .i64 yv, .slice (some ⟨ib, io, none⟩) 2 r1, .slice s2 yo.length r2] 84 (0, 0)) from Sep.all h _ h1)
                        obtain ⟨_, b1, _⟩ := bx3 (show W1.heap[w.heap.size + 2]? = some (.cells #[.int .i64 m1, .slice (some ⟨gg, 0, none⟩) (m1 + cnt) gc, .slice none 0 0] 29 (0, 0)) from Sep.all h _ h2)
                        have hg : w.grownBy W1 none := Sep.all h _ h4
                        have hd := (h.tl.getI HGL.out hal).1
                        rw [HFV.out _ hal] at hd
                        exact ⟨a2, (World.cell?_of_block (a := ⟨ib, io, none⟩) (hg.block ib HIB.out (by simp))).trans HIC0.out, b1, hd⟩
                      have HBM1 := Lib.hid fun (W1 : World) (A : Asrt) (L : List Asrt) (h : Sep W1 (A :: OI (.slice (some ⟨sg, 0, none⟩) n sc) (Gs) :: L)) (h1 : BxA xb #[.int .i64 yk, .int .i64 yv, .slice (some ⟨ib, io, none⟩) 2 r1, .slice s2 yo.length r2] 84 ∈ A :: OI (.slice (some ⟨sg, 0, none⟩) n sc) (Gs) :: L) (h2 : BxA (w.heap.size + 2) #[.int .i64 m1, .slice (some ⟨gg, 0, none⟩) (m1 + cnt) gc, .slice none 0 0] 29 ∈ A :: OI (.slice (some ⟨sg, 0, none⟩) n sc) (Gs) :: L) (h4 : KeepA w ∈ A :: OI (.slice (some ⟨sg, 0, none⟩) n sc) (Gs) :: L) => show W1.cell? ⟨xb, 2, none⟩ = some (.slice (some ⟨ib, io, none⟩) 2 r1) ∧ W1.cell? ⟨ib, io + 1, none⟩ = some (.int .i64 bn) ∧ W1.cell? ⟨w.heap.size + 2, 1, none⟩ = some (.slice (some ⟨gg, 0, none⟩) (m1 + cnt) gc) ∧ W1.cell? ⟨sg, bn, none⟩ = some (.int .i64 ((srcV (srcG n g) g.es) bn)) from by
                        obtain ⟨_, _, a2, _, _⟩ := bq4 (show W1.heap[xb]? = some (.cells #[.int .i64 yk, .int .i64 yv, .slice (some ⟨ib, io, none⟩) 2 r1, .slice s2 yo.length r2] 84 (0, 0)) from Sep.all h _ h1)
                        obtain ⟨_, b1, _⟩ := bx3 (show W1.heap[w.heap.size + 2]? = some (.cells #[.int .i64 m1, .slice (some ⟨gg, 0, none⟩) (m1 + cnt) gc, .slice none 0 0] 29 (0, 0)) from Sep.all h _ h2)
                        have hg : w.grownBy W1 none := Sep.all h _ h4
                        have hd := (h.tl.getI HGL.out hbl).1
                        rw [HFV.out _ hbl] at hd
                        exact ⟨a2, (World.cell?_of_block (a := ⟨ib, io + 1, none⟩) (hg.block ib HIB.out (by simp))).trans HIC1.out, b1, hd⟩
                      have HAG1 := Lib.hid (show m1 + cnt = (AA ++ gt0 ⟨yk, yv, [(an : Int), (bn : Int)], yo⟩ :: BB).length from HAG.out)
                      go_upto_region 34 with fail
                      clear z0 z1 z2 z3
                      have HSD0 := Lib.hid HS5.out.dr
                      have X0 := Lib.hid (HBM0.out _ _ _ HSD0.out (by simp) (by simp) (by simp))
                      refine AnyL.start (fun W1 => W1.cell? ⟨xb, 2, none⟩ = some (.slice (some ⟨ib, io, none⟩) 2 r1) ∧ W1.cell? ⟨ib, io, none⟩ = some (.int .i64 an) ∧ W1.cell? ⟨w.heap.size + 2, 1, none⟩ = some (.slice (some ⟨gg, 0, none⟩) (m1 + cnt) gc) ∧ W1.cell? ⟨sg, an, none⟩ = some (.int .i64 ((srcV (srcG n g) g.es) an))) (fun _ => True) 99 (by kernel_rfl) ?_
                      refine AnyL.take (i := 0) (v := ?vx48) (by rfl) (by kernel_rfl) (by kernel_rfl) (by kernel_rfl) rfl (by exact fun _ _ _ h => h) (by rfl) ?hyx48 (by exact ⟨X0.out, fun _ => trivial⟩) ?restx48
                      case hyx48 => intro W hSW; (try dsimp only at hSW); first | (go_simp; done) | (go_simp; with_reducible rfl)
                      try simp only [Act.put, List.setIfInBounds_toArray, List.set_cons_zero, List.set_cons_succ]
                      refine AnyL.take (i := 1) (v := ?vx49) (by rfl) (by kernel_rfl) (by kernel_rfl) (by kernel_rfl) rfl (by exact fun _ _ _ h => h) (by rfl) ?hyx49 (by exact ⟨X0.out, fun _ => trivial⟩) ?restx49
                      case hyx49 => intro W hSW; (try dsimp only at hSW); first | (go_simp; done) | (go_simp; with_reducible rfl)
                      try simp only [Act.put, List.setIfInBounds_toArray, List.set_cons_zero, List.set_cons_succ]
                      refine AnyL.take (i := 2) (v := ?vx50) (by rfl) (by kernel_rfl) (by kernel_rfl) (by kernel_rfl) rfl (by exact fun _ _ _ h => h) (by rfl) ?hyx50 (by exact ⟨X0.out, fun _ => trivial⟩) ?restx50
                      case hyx50 => intro W hSW; (try dsimp only at hSW); first | (go_simp; done) | (go_simp; with_reducible rfl)
                      try simp only [Act.put, List.setIfInBounds_toArray, List.set_cons_zero, List.set_cons_succ]
                      refine AnyL.take (i := 3) (v := ?vx51) (by rfl) (by kernel_rfl) (by kernel_rfl) (by kernel_rfl) rfl (by exact fun _ _ _ h => h) (by rfl) ?hyx51 (by exact ⟨X0.out, fun _ => trivial⟩) ?restx51
                      case hyx51 => intro W hSW; (try dsimp only at hSW); first | (go_simp; done) | (go_simp; with_reducible rfl)
                      try simp only [Act.put, List.setIfInBounds_toArray, List.set_cons_zero, List.set_cons_succ]
                      refine AnyL.take (i := 4) (v := ?vx52) (by rfl) (by kernel_rfl) (by kernel_rfl) (by kernel_rfl) rfl (by exact fun _ _ _ h => h) (by rfl) ?hyx52 (by exact ⟨X0.out, fun _ => trivial⟩) ?restx52
                      case hyx52 => intro W hSW; (try dsimp only at hSW); first | (go_simp; done) | (go_simp; with_reducible rfl)
                      try simp only [Act.put, List.setIfInBounds_toArray, List.set_cons_zero, List.set_cons_succ]
                      refine AnyL.take (i := 5) (v := ?vx53) (by rfl) (by kernel_rfl) (by kernel_rfl) (by kernel_rfl) rfl (by exact fun _ _ _ h => h) (by rfl) ?hyx53 (by exact ⟨X0.out, fun _ => trivial⟩) ?restx53
                      case hyx53 => intro W hSW; (try dsimp only at hSW); first | (go_simp; done) | (go_simp; with_reducible rfl)
                      try simp only [Act.put, List.setIfInBounds_toArray, List.set_cons_zero, List.set_cons_succ]
                      refine AnyL.take (i := 6) (v := ?vx54) (by rfl) (by kernel_rfl) (by kernel_rfl) (by kernel_rfl) rfl (by exact fun _ _ _ h => h) (by rfl) ?hyx54 (by exact ⟨X0.out, fun _ => trivial⟩) ?restx54
                      case hyx54 => intro W hSW; (try dsimp only at hSW); first | (go_simp; done) | (go_simp; with_reducible rfl)
                      try simp only [Act.put, List.setIfInBounds_toArray, List.set_cons_zero, List.set_cons_succ]
                      refine AnyL.take (i := 7) (v := ?vx55) (by rfl) (by kernel_rfl) (by kernel_rfl) (by kernel_rfl) rfl (by exact fun _ _ _ h => h) (by rfl) ?hyx55 (by exact ⟨X0.out, fun _ => trivial⟩) ?restx55
                      case hyx55 => intro W hSW; (try dsimp only at hSW); first | (go_simp; done) | (go_simp; with_reducible rfl)
                      try simp only [Act.put, List.setIfInBounds_toArray, List.set_cons_zero, List.set_cons_succ]
                      refine AnyL.take (i := 8) (v := ?vx56) (by rfl) (by kernel_rfl) (by kernel_rfl) (by kernel_rfl) rfl (by exact fun _ _ _ h => h) (by rfl) ?hyx56 (by exact ⟨X0.out, fun _ => trivial⟩) ?restx56
                      case hyx56 => intro W hSW; (try dsimp only at hSW); first | (go_simp; done) | (go_simp; with_reducible rfl)
                      try simp only [Act.put, List.setIfInBounds_toArray, List.set_cons_zero, List.set_cons_succ]
                      refine AnyL.take (i := 9) (v := ?vx57) (by rfl) (by kernel_rfl) (by kernel_rfl) (by kernel_rfl) rfl (by exact fun _ _ _ h => h) (by rfl) ?hyx57 (by exact ⟨X0.out, fun _ => trivial⟩) ?restx57
                      case hyx57 => intro W hSW; (try dsimp only at hSW); first | (go_simp; done) | (go_simp; with_reducible rfl)
                      try simp only [Act.put, List.setIfInBounds_toArray, List.set_cons_zero, List.set_cons_succ]
                      refine AnyL.take (i := 10) (v := ?vx58) (by rfl) (by kernel_rfl) (by kernel_rfl) (by kernel_rfl) rfl (by exact fun _ _ _ h => h) (by rfl) ?hyx58 (by exact ⟨X0.out, fun _ => trivial⟩) ?restx58
                      case hyx58 => intro W hSW; (try dsimp only at hSW); first | (go_simp; done) | (go_simp; with_reducible rfl)
                      try simp only [Act.put, List.setIfInBounds_toArray, List.set_cons_zero, List.set_cons_succ]
                      refine AnyL.take (i := 11) (v := ?vx59) (by rfl) (by kernel_rfl) (by kernel_rfl) (by kernel_rfl) rfl (by exact fun _ _ _ h => h) (by rfl) ?hyx59 (by exact ⟨X0.out, fun _ => trivial⟩) ?restx59
                      case hyx59 => intro W hSW; (try dsimp only at hSW); first | (go_simp; done) | (go_simp; with_reducible rfl)
                      try simp only [Act.put, List.setIfInBounds_toArray, List.set_cons_zero, List.set_cons_succ]
                      have hsb := Sep.blk (A := [_, _]) (B := [_]) HSD0.out
                      obtain ⟨hs6, ⟨qq, hq⟩, hfz⟩ := hsb.setGm (y := (gtA (srcV (srcG n g) g.es) ⟨yk, yv, [(an : Int), (bn : Int)], yo⟩)) (j := 1) (u := .int .i64 ((srcV (srcG n g) g.es) an)) HAG1.out HAL.out (by decide) (by simp [gateC, gt0, gtA])
                      have HS6 := Lib.hid (Sep.blk (A := [_]) (B := [_, _]) hs6)
                      clear hsb hs6
                      refine AnyL.step (i := 12) (by kernel_rfl) (by rfl) (fun K hK => ?_)
                      go_simp
                      refine hK.out _ (w4.drew.setCell ⟨gg, dd * 4 + 1, none⟩ (.int .i64 ((srcV (srcG n g) g.es) an))) (by exact HBM0.out _ _ _ HS6.out (by simp) (by simp) (by simp)) (by exact fun _ => trivial) ?_
                      clear hK K
                      try simp only [Act.put, List.setIfInBounds_toArray, List.set_cons_zero, List.set_cons_succ]
                      refine AnyL.done (by kernel_rfl) ?_ _
                      clear hq hfz X0
                      generalize w4.drew.setCell ⟨gg, dd * 4 + 1, none⟩ (.int .i64 ((srcV (srcG n g) g.es) an)) = w6 at *
                      obtain ⟨z0, z1, z2, z3, _⟩ := bq4 HS6.out.hd
                      have HAG2 := Lib.hid (show m1 + cnt = (AA ++ gtA (srcV (srcG n g) g.es) ⟨yk, yv, [(an : Int), (bn : Int)], yo⟩ :: BB).length from by have := HAG1.out; rw [List.length_append, List.length_cons] at this ⊢; exact this)
                      go_upto_region 36 with fail
                      clear z0 z1 z2 z3
                      have HSD1 := Lib.hid HS6.out.dr
                      have X1 := Lib.hid (HBM1.out _ _ _ HSD1.out (by simp) (by simp) (by simp))
                      refine AnyL.start (fun W1 => W1.cell? ⟨xb, 2, none⟩ = some (.slice (some ⟨ib, io, none⟩) 2 r1) ∧ W1.cell? ⟨ib, io + 1, none⟩ = some (.int .i64 bn) ∧ W1.cell? ⟨w.heap.size + 2, 1, none⟩ = some (.slice (some ⟨gg, 0, none⟩) (m1 + cnt) gc) ∧ W1.cell? ⟨sg, bn, none⟩ = some (.int .i64 ((srcV (srcG n g) g.es) bn))) (fun _ => True) 99 (by kernel_rfl) ?_
                      refine AnyL.take (i := 0) (v := ?vx60) (by rfl) (by kernel_rfl) (by kernel_rfl) (by kernel_rfl) rfl (by exact fun _ _ _ h => h) (by rfl) ?hyx60 (by exact ⟨X1.out, fun _ => trivial⟩) ?restx60
                      case hyx60 => intro W hSW; (try dsimp only at hSW); first | (go_simp; done) | (go_simp; with_reducible rfl)
                      try simp only [Act.put, List.setIfInBounds_toArray, List.set_cons_zero, List.set_cons_succ]
                      refine AnyL.take (i := 1) (v := ?vx61) (by rfl) (by kernel_rfl) (by kernel_rfl) (by kernel_rfl) rfl (by exact fun _ _ _ h => h) (by rfl) ?hyx61 (by exact ⟨X1.out, fun _ => trivial⟩) ?restx61
                      case hyx61 => intro W hSW; (try dsimp only at hSW); first | (go_simp; done) | (go_simp; with_reducible rfl)
                      try simp only [Act.put, List.setIfInBounds_toArray, List.set_cons_zero, List.set_cons_succ]
                      refine AnyL.take (i := 2) (v := ?vx62) (by rfl) (by kernel_rfl) (by kernel_rfl) (by kernel_rfl) rfl (by exact fun _ _ _ h => h) (by rfl) ?hyx62 (by exact ⟨X1.out, fun _ => trivial⟩) ?restx62
                      case hyx62 => intro W hSW; (try dsimp only at hSW); first | (go_simp; done) | (go_simp; with_reducible rfl)
                      try simp only [Act.put, List.setIfInBounds_toArray, List.set_cons_zero, List.set_cons_succ]
                      refine AnyL.take (i := 3) (v := ?vx63) (by rfl) (by kernel_rfl) (by kernel_rfl) (by kernel_rfl) rfl (by exact fun _ _ _ h => h) (by rfl) ?hyx63 (by exact ⟨X1.out, fun _ => trivial⟩) ?restx63
                      case hyx63 => intro W hSW; (try dsimp only at hSW); first | (go_simp; done) | (go_simp; with_reducible rfl)
                      try simp only [Act.put, List.setIfInBounds_toArray, List.set_cons_zero, List.set_cons_succ]
                      refine AnyL.take (i := 4) (v := ?vx64) (by rfl) (by kernel_rfl) (by kernel_rfl) (by kernel_rfl) rfl (by exact fun _ _ _ h => h) (by rfl) ?hyx64 (by exact ⟨X1.out, fun _ => trivial⟩) ?restx64
                      case hyx64 => intro W hSW; (try dsimp only at hSW); first | (go_simp; done) | (go_simp; with_reducible rfl)
                      try simp only [Act.put, List.setIfInBounds_toArray, List.set_cons_zero, List.set_cons_succ]
                      refine AnyL.take (i := 5) (v := ?vx65) (by rfl) (by kernel_rfl) (by kernel_rfl) (by kernel_rfl) rfl (by exact fun _ _ _ h => h) (by rfl) ?hyx65 (by exact ⟨X1.out, fun _ => trivial⟩) ?restx65
                      case hyx65 => intro W hSW; (try dsimp only at hSW); first | (go_simp; done) | (go_simp; with_reducible rfl)
                      try simp only [Act.put, List.setIfInBounds_toArray, List.set_cons_zero, List.set_cons_succ]
                      refine AnyL.take (i := 6) (v := ?vx66) (by rfl) (by kernel_rfl) (by kernel_rfl) (by kernel_rfl) rfl (by exact fun _ _ _ h => h) (by rfl) ?hyx66 (by exact ⟨X1.out, fun _ => trivial⟩) ?restx66
                      case hyx66 => intro W hSW; (try dsimp only at hSW); first | (go_simp; done) | (go_simp; with_reducible rfl)
                      try simp only [Act.put, List.setIfInBounds_toArray, List.set_cons_zero, List.set_cons_succ]
                      refine AnyL.take (i := 7) (v := ?vx67) (by rfl) (by kernel_rfl) (by kernel_rfl) (by kernel_rfl) rfl (by exact fun _ _ _ h => h) (by rfl) ?hyx67 (by exact ⟨X1.out, fun _ => trivial⟩) ?restx67
                      case hyx67 => intro W hSW; (try dsimp only at hSW); first | (go_simp; done) | (go_simp; with_reducible rfl)
                      try simp only [Act.put, List.setIfInBounds_toArray, List.set_cons_zero, List.set_cons_succ]
                      refine AnyL.take (i := 8) (v := ?vx68) (by rfl) (by kernel_rfl) (by kernel_rfl) (by kernel_rfl) rfl (by exact fun _ _ _ h => h) (by rfl) ?hyx68 (by exact ⟨X1.out, fun _ => trivial⟩) ?restx68
                      case hyx68 => intro W hSW; (try dsimp only at hSW); first | (go_simp; done) | (go_simp; with_reducible rfl)
                      try simp only [Act.put, List.setIfInBounds_toArray, List.set_cons_zero, List.set_cons_succ]
                      refine AnyL.take (i := 9) (v := ?vx69) (by rfl) (by kernel_rfl) (by kernel_rfl) (by kernel_rfl) rfl (by exact fun _ _ _ h => h) (by rfl) ?hyx69 (by exact ⟨X1.out, fun _ => trivial⟩) ?restx69
                      case hyx69 => intro W hSW; (try dsimp only at hSW); first | (go_simp; done) | (go_simp; with_reducible rfl)
                      try simp only [Act.put, List.setIfInBounds_toArray, List.set_cons_zero, List.set_cons_succ]
                      refine AnyL.take (i := 10) (v := ?vx70) (by rfl) (by kernel_rfl) (by kernel_rfl) (by kernel_rfl) rfl (by exact fun _ _ _ h => h) (by rfl) ?hyx70 (by exact ⟨X1.out, fun _ => trivial⟩) ?restx70
                      case hyx70 => intro W hSW; (try dsimp only at hSW); first | (go_simp; done) | (go_simp; with_reducible rfl)
                      try simp only [Act.put, List.setIfInBounds_toArray, List.set_cons_zero, List.set_cons_succ]
                      refine AnyL.take (i := 11) (v := ?vx71) (by rfl) (by kernel_rfl) (by kernel_rfl) (by kernel_rfl) rfl (by exact fun _ _ _ h => h) (by rfl) ?hyx71 (by exact ⟨X1.out, fun _ => trivial⟩) ?restx71
                      case hyx71 => intro W hSW; (try dsimp only at hSW); first | (go_simp; done) | (go_simp; with_reducible rfl)
                      try simp only [Act.put, List.setIfInBounds_toArray, List.set_cons_zero, List.set_cons_succ]
                      have hsb := Sep.blk (A := [_, _]) (B := [_]) HSD1.out
                      obtain ⟨hs6, ⟨qq, hq⟩, hfz⟩ := hsb.setGm (y := (gtB (srcV (srcG n g) g.es) ⟨yk, yv, [(an : Int), (bn : Int)], yo⟩)) (j := 2) (u := .int .i64 ((srcV (srcG n g) g.es) bn)) HAG2.out HAL.out (by decide) (by simp [gateC, gtA, gtB])
                      have HS8 := Lib.hid (Sep.blk (A := [_]) (B := [_, _]) hs6)
                      clear hsb hs6
                      refine AnyL.step (i := 12) (by kernel_rfl) (by rfl) (fun K hK => ?_)
                      go_simp
                      refine hK.out _ (w6.drew.setCell ⟨gg, dd * 4 + 2, none⟩ (.int .i64 ((srcV (srcG n g) g.es) bn))) (by exact HBM1.out _ _ _ HS8.out (by simp) (by simp) (by simp)) (by exact fun _ => trivial) ?_
                      clear hK K
                      try simp only [Act.put, List.setIfInBounds_toArray, List.set_cons_zero, List.set_cons_succ]
                      refine AnyL.done (by kernel_rfl) ?_ _
                      clear hq hfz X1
                      generalize w6.drew.setCell ⟨gg, dd * 4 + 2, none⟩ (.int .i64 ((srcV (srcG n g) g.es) bn)) = w8 at *
                      go_wp2_with fail
                      go_roundw
                      case rel => exact ⟨j + 1, by omega, by go_num, by rw [HCL.out, HD1.out]; go_num, by rw [HCL.out, HNXT.out]; exact HS8.out.tl⟩
                      case measure => simp [intOf]; omega
                  · have hgt : isGt ⟨yk, yv, yi, yo⟩ = false := decide_eq_false h5
                    rw [hgt] at hcl
                    have HCL := Lib.hid (show (gtE (g.es.take (j + 1))).length = c from by simpa using hcl)
                    clear hgt hcl hcut hym
                    go_wp2_with fail
                    go_roundw
                    case rel => exact ⟨j + 1, by omega, by go_num, by rw [HCL.out, HDD.out], by rw [HCL.out]; exact HS2.out.tl⟩
                    case measure => simp [intOf]; omega
                · have hjm : m = j := by omega
                  subst hjm
                  have hjj : ¬ (m : Int) < (m : Int) := by omega
                  have htk : g.es.take m = g.es := List.take_of_length_le (by rw [HM.out]; exact Nat.le_refl _)
                  have hga := gtsI_all (srcV (srcG n g) g.es) (inGt m1) (gtE g.es)
                  rw [HML.out] at hga
                  have hs1 := HSQ.out
                  rw [htk, HML.out, hga] at hs1
                  have HS6 := Lib.hid hs1
                  have HMP := Lib.hid (show g.o.map (ofL Gs) = g.o.map (srcV (srcG n g) g.es) from List.map_congr_left fun x hx => by
                    have hr := HK.out.ro x hx
                    show Gs.getD x.toNat 0 = _
                    rw [gd01 (by rw [HGL.out]; omega), HFV.out _ (by omega), show ((x.toNat : Nat) : Int) = x by omega])
                  have HHL := Lib.hid (show Calls Tryd.prog 102 #[.slice oa m2 oc, .slice (some ⟨sg, 0, none⟩) n sc] wr fun e w' => ∃ a c, e = .returned (.slice a m2 c) ∧ Sep w' [OI (.slice a m2 c) (g.o.map (srcV (srcG n g) g.es)), KeepA wr] from by
                    have h := hgList_any (.slice oa g.o.length oc) (.slice (some ⟨sg, 0, none⟩) n sc) g.o Gs wr (HOO.out.carry HS6.out.tl.tl.tl.tl.tl.hd) (show OwnInts 0 wr _ Gs from HS6.out.hd).read (by rw [HM2.out]; omega) (fun x hx => by have := HK.out.ro x hx; rw [HGL.out]; omega)
                    rw [HM2.out, HMP.out] at h
                    exact h)
                  obtain ⟨x0, x1, x2, x3, _⟩ := bq4 HS6.out.tl.tl.tl.tl.hd
                  clear hs1 hga htk HMP HSQ
                  go_upto_region 40 with (
                    go_at_call 102
                    with_reducible refine HHL.out.mono ?_
                    rintro e w5 ⟨va, vc, rfl, hsg⟩
                    have hs2 := Sep.blk (A := [_, _, _]) (B := [_]) (HS6.out.graft1 hsg OI_own)
                    obtain ⟨c0, c1, c2, f0, f1, f2⟩ := bx3 hs2.hd
                    have HS7 := Lib.hid (hs2.setB 2 (.slice va m2 vc))
                    clear hsg hs2 x0 x1 x2 x3)
                  generalize w5.setCell ⟨w.heap.size + 2, 2, none⟩ (.slice va m2 vc) = w6 at *
                  clear c0 c1 c2 f0 f1 f2
                  have hRn : R.n = (m1 : Int) := by rw [← HRR.out]; show (g.i.length : Int) = m1; rw [HM1.out]
                  have hRg : R.gs = inGt m1 ++ (gtE g.es).map (gtB (srcV (srcG n g) g.es)) := by rw [← HRR.out]; show inGt g.i.length ++ _ = _; rw [HM1.out]
                  have hRo : R.os = g.o.map (srcV (srcG n g) g.es) := by rw [← HRR.out]; rfl
                  have hL1 : R.gs.length = m1 + cnt := by rw [hRg, List.length_append, inGt_len, List.length_map, HML.out]
                  have hL2 : R.os.length = m2 := by rw [hRo, List.length_map]; exact HM2.out
                  have hs2 : Sep w6 [BxA (w.heap.size + 2) #[.int .i64 m1, .slice ga (m1 + cnt) gc, .slice va m2 vc] 29, OI (.slice va m2 vc) (g.o.map (srcV (srcG n g) g.es)), OI (.slice (some ⟨sg, 0, none⟩) n sc) (Gs), OR gateE (.slice ga (m1 + cnt) gc) (inGt m1 ++ (gtE g.es).map (gtB (srcV (srcG n g) g.es))), BxA (w.heap.size + 1) #[.int .i64 0, .slice none 0 0, .slice none 0 0] 29, BxA w.heap.size #[.int .i64 n, .slice ea m ec, .slice ia m1 ic, .slice oa m2 oc] 56, KeepA w] := HS7.out
                  rw [← hRg, ← hRo] at hs2
                  obtain ⟨c0, c1, c2, _⟩ := bx3 hs2.hd
                  have hs3 := Sep.blk (A := [_, _, _, _]) (B := [_]) hs2
                  obtain ⟨r0, r1, r2, f0, f1, f2⟩ := bx3 hs3.hd
                  have hs4 := ((hs3.setB 0 (.int .i64 m1)).setB 1 (.slice ga (m1 + cnt) gc)).setB 2 (.slice va m2 vc)
                  obtain ⟨t0, t1, t2, _⟩ := bx3 hs4.hd
                  have hs5 := Sep.cutA (X := [_, _]) (A := [_]) (Sep.cutA (X := [_]) (A := [_]) hs4.tl.tl)
                  have HSF := Lib.hid hs5.s2
                  have HL1 := Lib.hid hL1; have HL2 := Lib.hid hL2; have HRN := Lib.hid hRn
                  clear hs2 hs3 hs4 hs5 hRn hRg hRo hL1 hL2 HS7
                  go_wp2_with fail
                  refine bodyPost_ret_by (v := .agg #[.int .i64 m1, .slice ga (m1 + cnt) gc, .slice va m2 vc]) ?_ rfl ⟨ga, gc, va, vc, by rw [HRN.out, HL1.out, HL2.out], by rw [HL1.out, HL2.out]; exact HSF.out⟩
                  simp [results, go_sem, *]
            · clear hdn
              go_wp2_with fail
              clear x0 x1 x2 x3
              go_loopw [10, 12, 87] (fun av _ i wr => ∃ (b2 : Bool) (j : Nat) (Gs2 : List Int), av = .bool b2 ∧ j ≤ m ∧ i = .int .i64 j ∧ FixOk g n Gs2 ∧ (b2 = false → Gs2 = Gs ∧ (∀ i, i < j → (g.es.getD i e0).k = 3 → 0 ≤ Gs.getD (cI g.es i) (-1) → 0 ≤ Gs.getD (cO g.es i) (-1))) ∧ (b2 = true → negL Gs2 < negL Gs) ∧ Sep wr [OI (.slice (some ⟨sg, 0, none⟩) n sc) (Gs2), OR gateE (.slice ga (m1 + cnt) gc) (gtsI (srcV (srcG n g) g.es) (inGt m1) (gtE g.es) 0), BxA (w.heap.size + 2) #[.int .i64 m1, .slice ga (m1 + cnt) gc, .slice none 0 0] 29, BxA (w.heap.size + 1) #[.int .i64 0, .slice none 0 0, .slice none 0 0] 29, BxA w.heap.size #[.int .i64 n, .slice ea m ec, .slice ia m1 ic, .slice oa m2 oc] 56, KeepA w]) (fun _ _ i _ => m - (intOf i).toNat)
              case atStart => exact ⟨false, 0, Gs, rfl, by omega, rfl, HFX.out, (fun _ => ⟨rfl, fun i hi => absurd hi (Nat.not_lt_zero _)⟩), (fun h => by cases h), HSX.out⟩
              case round =>
                obtain ⟨b2, j, Gs2, rfl, hj, rfl, hfx, hb0, hb1, hs⟩ := hrel
                have HSQ := Lib.hid hs; have HF2 := Lib.hid hfx; have HB0 := Lib.hid hb0; have HB1 := Lib.hid hb1
                clear hs hfx hb0 hb1 HSX
                by_cases hlt : j < m
                · have hke : j < g.es.length := by rw [HM.out]; exact hlt
                  have hji : (j : Int) < (m : Int) := by omega
                  have hkw := HSQ.out.tl.tl.tl.tl.tl.hd
                  obtain ⟨eb, eo, u1, u2, rfl, hat⟩ := HE.out.atK rfl rfl hke
                  obtain ⟨⟨q0, q1, q2, q3⟩, hqi, hqo⟩ := hat wr hkw
                  obtain ⟨y, hy⟩ : ∃ y, g.es.getD j e0 = y := ⟨_, rfl⟩
                  have HY := Lib.hid hy
                  rw [hy] at q0 q1 hqi hqo hat
                  obtain ⟨s1, r1, hu1⟩ := hqi.shape
                  obtain ⟨s2, r2, hu2⟩ := hqo.shape
                  subst hu1 hu2
                  have HYR := Lib.hid (hat w (grownBy_refl _ _)).2
                  have hs2 := HSQ.out.boxAt wr.heap.size rfl #[.int .i64 y.k, .int .i64 y.v, .slice s1 y.i.length r1, .slice s2 y.o.length r2] 84
                  obtain ⟨z0, z1, z2, z3, _⟩ := bq4 hs2.hd
                  have HS2 := Lib.hid hs2
                  clear hqi hqo hat hs2 hy hkw
                  by_cases h3 : y.k = 3
                  · have c := copy_parts HK.out hke (by rw [HY.out]; exact h3)
                    have hci := c.ei; have hco := c.eo
                    rw [HY.out] at hci hco
                    have hl1 : y.i.length = 1 := by rw [hci]; rfl
                    have hl2 : y.o.length = 2 := by rw [hco]; rfl
                    obtain ⟨ib, io, hia, hib, hic⟩ := HYR.out.1.atD (i := 0) (by omega)
                    subst hia
                    obtain ⟨ob, oo, hoa, hob, hoc⟩ := HYR.out.2.atD (i := 0) (by omega)
                    subst hoa
                    obtain ⟨ob2, oo2, hoa2, _, hod⟩ := HYR.out.2.atD (i := 1) (by omega)
                    injection hoa2 with hoa2
                    injection hoa2 with h1_ h2_ _
                    subst h1_ h2_
                    rw [hci] at hic
                    rw [hco] at hoc hod
                    simp only [List.getD_cons_zero, List.getD_cons_succ, Nat.add_zero] at hic hoc hod
                    rw [hl1, hl2] at HS2 z0 z1 z2 z3
                    rw [hl1] at q2
                    rw [hl2] at q3
                    have hkk := HS2.out.tl.tl.tl.tl.tl.tl.hd
                    have hIC := Lib.hid fun W (hW : w.grownBy W none) => (World.cell?_of_block (a := ⟨ib, io, none⟩) (hW.block ib hib (by simp))).trans hic
                    have hOC := Lib.hid fun W (hW : w.grownBy W none) => (World.cell?_of_block (a := ⟨ob, oo, none⟩) (hW.block ob hob (by simp))).trans hoc
                    have hOD := Lib.hid fun W (hW : w.grownBy W none) => (World.cell?_of_block (a := ⟨ob, oo + 1, none⟩) (hW.block ob hob (by simp))).trans hod
                    have i0 := hIC.out _ hkk
                    have o0 := hOC.out _ hkk
                    have hli2 := c.li; have hlo2 := c.lo; have hlp2 := c.lp
                    have HCE := Lib.hid c
                    obtain ⟨xc, hxc⟩ : ∃ x, cI g.es j = x := ⟨_, rfl⟩
                    obtain ⟨zc, hzc⟩ : ∃ x, cO g.es j = x := ⟨_, rfl⟩
                    obtain ⟨pc, hpc⟩ : ∃ x, cP g.es j = x := ⟨_, rfl⟩
                    have HXC := Lib.hid hxc; have HZC := Lib.hid hzc; have HPC := Lib.hid hpc
                    rw [hxc] at i0 hIC hli2
                    rw [hzc] at o0 hOC hlo2
                    rw [hpc] at hOD hlp2
                    have hf1 : (xc : Int) < (n : Int) := by omega
                    have hf2 : (zc : Int) < (n : Int) := by omega
                    have hf3 : (pc : Int) < (n : Int) := by omega
                    have g1 := (HS2.out.tl.getI HF2.out.l hli2).1
                    have g2 := (HS2.out.tl.getI HF2.out.l hlo2).1
                    have hyk : (y.k == 3) = true := by rw [h3]; rfl
                    have h12 : (1 : Int) < ((2 : Nat) : Int) := by decide
                    have h02 : (0 : Int) < ((2 : Nat) : Int) := by decide
                    have h01 : (0 : Int) < ((1 : Nat) : Int) := by decide
                    have HK3 := Lib.hid (show (g.es.getD j e0).k = 3 from by rw [HY.out]; exact h3)
                    have HKE := Lib.hid hke
                    clear hci hco hl1 hl2 hic hoc hod hib hob hkk c hxc hzc hpc h3 hke
                    have HGX := Lib.hid (show Gs2.getD (cI g.es j) (-1) = Gs2.getD xc (-1) from by rw [HXC.out])
                    have HGZ := Lib.hid (show Gs2.getD (cO g.es j) (-1) = Gs2.getD zc (-1) from by rw [HZC.out])
                    obtain ⟨x, hx⟩ : ∃ x, Gs2.getD xc (-1) = x := ⟨_, rfl⟩
                    obtain ⟨z, hz⟩ : ∃ z, Gs2.getD zc (-1) = z := ⟨_, rfl⟩
                    rw [hx] at g1 HGX
                    rw [hz] at g2 HGZ
                    have HX := Lib.hid hx; have HZ := Lib.hid hz
                    clear hx hz
                    by_cases hx0 : 0 ≤ x
                    · by_cases hz0 : z < 0
                      · have HST := Lib.hid (HF2.out.step HK.out HAC.out HKE.out HK3.out (by rw [HGX.out]; exact hx0) (by rw [HGZ.out]; exact hz0))
                        rw [HGX.out, HZC.out, HPC.out] at HST
                        have HG3 := Lib.hid (show (Gs2.set zc x).getD xc (-1) = x from by
                          rw [gdm_set (by rw [HF2.out.l]; exact hlo2)]
                          by_cases h : zc = xc
                          · rw [if_pos h]
                          · rw [if_neg h]; exact HX.out)
                        go_upto_region 24 with fail
                        clear q0 q1 q2 q3 z0 z1 z2 z3 i0 o0 g1 g2
                        generalize wr.alloc (.cells #[.int .i64 y.k, .int .i64 y.v, .slice (some ⟨ib, io, none⟩) 1 r1, .slice (some ⟨ob, oo, none⟩) 2 r2] 84) = w4 at *
                        generalize wr.heap.size = xb at *
                        have HSD := Lib.hid HS2.out.dr
                        have HBM := Lib.hid fun (W1 : World) (L : List Asrt) (h : Sep W1 L) (h1 : BxA xb #[.int .i64 y.k, .int .i64 y.v, .slice (some ⟨ib, io, none⟩) 1 r1, .slice (some ⟨ob, oo, none⟩) 2 r2] 84 ∈ L) (h4 : KeepA w ∈ L) => show W1.cell? ⟨xb, 2, none⟩ = some (.slice (some ⟨ib, io, none⟩) 1 r1) ∧ W1.cell? ⟨xb, 3, none⟩ = some (.slice (some ⟨ob, oo, none⟩) 2 r2) ∧ W1.cell? ⟨ib, io, none⟩ = some (.int .i64 xc) ∧ W1.cell? ⟨ob, oo, none⟩ = some (.int .i64 zc) ∧ W1.cell? ⟨ob, oo + 1, none⟩ = some (.int .i64 pc) from by
                          obtain ⟨_, _, a2, a3, _⟩ := bq4 (show W1.heap[xb]? = some (.cells #[.int .i64 y.k, .int .i64 y.v, .slice (some ⟨ib, io, none⟩) 1 r1, .slice (some ⟨ob, oo, none⟩) 2 r2] 84 (0, 0)) from Sep.all h _ h1)
                          have hg : w.grownBy W1 none := Sep.all h _ h4
                          exact ⟨a2, a3, hIC.out _ hg, hOC.out _ hg, hOD.out _ hg⟩
                        have X1 := Lib.hid (HBM.out _ _ HSD.out (by simp) (by simp))
                        have Y1 := Lib.hid (HSD.out.tl.getI HF2.out.l hli2).1
                        have Y1_ := Lib.hid (show w4.drew.cell? ⟨sg, xc, none⟩ = some (Value.int .i64 x) from by have := Y1.out; rw [HX.out] at this; exact this)
                        refine AnyL.start (fun W1 => W1.cell? ⟨xb, 2, none⟩ = some (.slice (some ⟨ib, io, none⟩) 1 r1) ∧ W1.cell? ⟨xb, 3, none⟩ = some (.slice (some ⟨ob, oo, none⟩) 2 r2) ∧ W1.cell? ⟨ib, io, none⟩ = some (.int .i64 xc) ∧ W1.cell? ⟨ob, oo, none⟩ = some (.int .i64 zc) ∧ W1.cell? ⟨ob, oo + 1, none⟩ = some (.int .i64 pc)) (fun W1 => W1.cell? ⟨sg, xc, none⟩ = some (.int .i64 x)) 13 (by kernel_rfl) ?_
                        refine AnyL.take (i := 0) (v := ?vx10) (by rfl) (by kernel_rfl) (by kernel_rfl) (by kernel_rfl) rfl (by exact fun _ _ _ h => h) (by rfl) ?hyx10 (by exact ⟨X1.out, fun _ => Y1_.out⟩) ?restx10
                        case hyx10 => intro W hSW; (try dsimp only at hSW); first | (go_simp; done) | (go_simp; with_reducible rfl)
                        try simp only [Act.put, List.setIfInBounds_toArray, List.set_cons_zero, List.set_cons_succ]
                        refine AnyL.take (i := 1) (v := ?vx11) (by rfl) (by kernel_rfl) (by kernel_rfl) (by kernel_rfl) rfl (by exact fun _ _ _ h => h) (by rfl) ?hyx11 (by exact ⟨X1.out, fun _ => Y1_.out⟩) ?restx11
                        case hyx11 => intro W hSW; (try dsimp only at hSW); first | (go_simp; done) | (go_simp; with_reducible rfl)
                        try simp only [Act.put, List.setIfInBounds_toArray, List.set_cons_zero, List.set_cons_succ]
                        refine AnyL.take (i := 2) (v := ?vx12) (by rfl) (by kernel_rfl) (by kernel_rfl) (by kernel_rfl) rfl (by exact fun _ _ _ h => h) (by rfl) ?hyx12 (by exact ⟨X1.out, fun _ => Y1_.out⟩) ?restx12
                        case hyx12 => intro W hSW; (try dsimp only at hSW); first | (go_simp; done) | (go_simp; with_reducible rfl)
                        try simp only [Act.put, List.setIfInBounds_toArray, List.set_cons_zero, List.set_cons_succ]
                        refine AnyL.take (i := 3) (v := ?vx13) (by rfl) (by kernel_rfl) (by kernel_rfl) (by kernel_rfl) rfl (by exact fun _ _ _ h => h) (by rfl) ?hyx13 (by exact ⟨X1.out, fun _ => Y1_.out⟩) ?restx13
                        case hyx13 => intro W hSW; (try dsimp only at hSW); first | (go_simp; done) | (go_simp; with_reducible rfl)
                        try simp only [Act.put, List.setIfInBounds_toArray, List.set_cons_zero, List.set_cons_succ]
                        refine AnyL.take (i := 4) (v := ?vx14) (by rfl) (by kernel_rfl) (by kernel_rfl) (by kernel_rfl) rfl (by exact fun _ _ _ h => h) (by rfl) ?hyx14 (by exact ⟨X1.out, fun _ => Y1_.out⟩) ?restx14
                        case hyx14 => intro W hSW; (try dsimp only at hSW); first | (go_simp; done) | (go_simp; with_reducible rfl)
                        try simp only [Act.put, List.setIfInBounds_toArray, List.set_cons_zero, List.set_cons_succ]
                        refine AnyL.take (i := 5) (v := ?vx15) (by rfl) (by kernel_rfl) (by kernel_rfl) (by kernel_rfl) rfl (by exact fun _ _ _ h => h) (by rfl) ?hyx15 (by exact ⟨X1.out, fun _ => Y1_.out⟩) ?restx15
                        case hyx15 => intro W hSW; (try dsimp only at hSW); first | (go_simp; done) | (go_simp; with_reducible rfl)
                        try simp only [Act.put, List.setIfInBounds_toArray, List.set_cons_zero, List.set_cons_succ]
                        refine AnyL.take (i := 6) (v := ?vx16) (by rfl) (by kernel_rfl) (by kernel_rfl) (by kernel_rfl) rfl (by exact fun _ _ _ h => h) (by rfl) ?hyx16 (by exact ⟨X1.out, fun _ => Y1_.out⟩) ?restx16
                        case hyx16 => intro W hSW; (try dsimp only at hSW); first | (go_simp; done) | (go_simp; with_reducible rfl)
                        try simp only [Act.put, List.setIfInBounds_toArray, List.set_cons_zero, List.set_cons_succ]
                        refine AnyL.take (i := 7) (v := ?vx17) (by rfl) (by kernel_rfl) (by kernel_rfl) (by kernel_rfl) rfl (by exact fun _ _ _ h => h) (by rfl) ?hyx17 (by exact ⟨X1.out, fun _ => Y1_.out⟩) ?restx17
                        case hyx17 => intro W hSW; (try dsimp only at hSW); first | (go_simp; done) | (go_simp; with_reducible rfl)
                        try simp only [Act.put, List.setIfInBounds_toArray, List.set_cons_zero, List.set_cons_succ]
                        refine AnyL.take (i := 8) (v := ?vx18) (by rfl) (by kernel_rfl) (by kernel_rfl) (by kernel_rfl) rfl (by exact fun _ _ _ h => h) (by rfl) ?hyx18 (by exact ⟨X1.out, fun _ => Y1_.out⟩) ?restx18
                        case hyx18 => intro W hSW; (try dsimp only at hSW); first | (go_simp; done) | (go_simp; with_reducible rfl)
                        try simp only [Act.put, List.setIfInBounds_toArray, List.set_cons_zero, List.set_cons_succ]
                        refine AnyL.take (i := 9) (v := ?vx19) (by rfl) (by kernel_rfl) (by kernel_rfl) (by kernel_rfl) rfl (by exact fun _ _ _ h => h) (by rfl) ?hyx19 (by exact ⟨X1.out, fun _ => Y1_.out⟩) ?restx19
                        case hyx19 => intro W hSW; (try dsimp only at hSW); first | (go_simp; done) | (go_simp; with_reducible rfl)
                        try simp only [Act.put, List.setIfInBounds_toArray, List.set_cons_zero, List.set_cons_succ]
                        refine AnyL.take (i := 10) (v := ?vx20) (by rfl) (by kernel_rfl) (by kernel_rfl) (by kernel_rfl) rfl (by exact fun _ _ _ h => h) (by rfl) ?hyx20 (by exact ⟨X1.out, fun _ => Y1_.out⟩) ?restx20
                        case hyx20 => intro W hSW; (try dsimp only at hSW); first | (go_simp; done) | (go_simp; with_reducible rfl)
                        try simp only [Act.put, List.setIfInBounds_toArray, List.set_cons_zero, List.set_cons_succ]
                        refine AnyL.takeA (i := 11) (v := ?vx21) (by rfl) (by kernel_rfl) (by kernel_rfl) (by kernel_rfl) rfl (by rfl) (by kernel_rfl) (by kernel_rfl) (by exact fun _ _ _ h => h) (by rfl) ?hyx21 (by exact ⟨X1.out, fun _ => Y1_.out⟩) ?restx21
                        case hyx21 => intro W hSW; (try dsimp only at hSW); first | (go_simp; done) | (go_simp; with_reducible rfl)
                        try simp only [Act.put, List.setIfInBounds_toArray, List.set_cons_zero, List.set_cons_succ]
                        refine AnyL.take (i := 12) (v := ?vx22) (by rfl) (by kernel_rfl) (by kernel_rfl) (by kernel_rfl) rfl (by exact fun _ _ _ h => h) (by rfl) ?hyx22 (by exact ⟨X1.out, fun _ => Y1_.out⟩) ?restx22
                        case hyx22 => intro W hSW; (try dsimp only at hSW); first | (go_simp; done) | (go_simp; with_reducible rfl)
                        try simp only [Act.put, List.setIfInBounds_toArray, List.set_cons_zero, List.set_cons_succ]
                        obtain ⟨hc1, hf1⟩ := HSD.out.tl.getI HF2.out.l hlo2
                        have hsb := Sep.blk (A := [_]) (B := [_]) HSD.out
                        have HS5 := Lib.hid (Sep.blk (A := [_]) (B := [_]) (hsb.setI (HF2.out.l).symm zc x))
                        clear hsb
                        refine AnyL.step (i := 13) (by kernel_rfl) (by rfl) (fun K hK => ?_)
                        go_simp
                        refine hK.out _ (w4.drew.setCell ⟨sg, zc, none⟩ (.int .i64 x)) (by exact HBM.out _ _ HS5.out (by simp) (by simp)) (by exact fun h => noTF (by kernel_rfl) h) ?_
                        clear hK K
                        try simp only [Act.put, List.setIfInBounds_toArray, List.set_cons_zero, List.set_cons_succ]
                        refine AnyL.done (by kernel_rfl) ?_ _
                        clear hc1 hf1
                        generalize w4.drew.setCell ⟨sg, zc, none⟩ (.int .i64 x) = w5 at *
                        have HSD5 := Lib.hid HS5.out.dr
                        have HL5 := Lib.hid (show (Gs2.set zc x).length = n from by rw [List.length_set]; exact HF2.out.l)
                        go_upto_region 25 with fail
                        have X2 := Lib.hid (HBM.out _ _ HSD5.out (by simp) (by simp))
                        have Y2 := Lib.hid (HSD5.out.tl.getI HL5.out hli2).1
                        have Y2_ := Lib.hid (show w5.drew.cell? ⟨sg, xc, none⟩ = some (Value.int .i64 x) from by have := Y2.out; rw [HG3.out] at this; exact this)
                        refine AnyL.start (fun W1 => W1.cell? ⟨xb, 2, none⟩ = some (.slice (some ⟨ib, io, none⟩) 1 r1) ∧ W1.cell? ⟨xb, 3, none⟩ = some (.slice (some ⟨ob, oo, none⟩) 2 r2) ∧ W1.cell? ⟨ib, io, none⟩ = some (.int .i64 xc) ∧ W1.cell? ⟨ob, oo, none⟩ = some (.int .i64 zc) ∧ W1.cell? ⟨ob, oo + 1, none⟩ = some (.int .i64 pc)) (fun W1 => W1.cell? ⟨sg, xc, none⟩ = some (.int .i64 x)) 13 (by kernel_rfl) ?_
                        refine AnyL.take (i := 0) (v := ?vx23) (by rfl) (by kernel_rfl) (by kernel_rfl) (by kernel_rfl) rfl (by exact fun _ _ _ h => h) (by rfl) ?hyx23 (by exact ⟨X2.out, fun _ => Y2_.out⟩) ?restx23
                        case hyx23 => intro W hSW; (try dsimp only at hSW); first | (go_simp; done) | (go_simp; with_reducible rfl)
                        try simp only [Act.put, List.setIfInBounds_toArray, List.set_cons_zero, List.set_cons_succ]
                        refine AnyL.take (i := 1) (v := ?vx24) (by rfl) (by kernel_rfl) (by kernel_rfl) (by kernel_rfl) rfl (by exact fun _ _ _ h => h) (by rfl) ?hyx24 (by exact ⟨X2.out, fun _ => Y2_.out⟩) ?restx24
                        case hyx24 => intro W hSW; (try dsimp only at hSW); first | (go_simp; done) | (go_simp; with_reducible rfl)
                        try simp only [Act.put, List.setIfInBounds_toArray, List.set_cons_zero, List.set_cons_succ]
                        refine AnyL.take (i := 2) (v := ?vx25) (by rfl) (by kernel_rfl) (by kernel_rfl) (by kernel_rfl) rfl (by exact fun _ _ _ h => h) (by rfl) ?hyx25 (by exact ⟨X2.out, fun _ => Y2_.out⟩) ?restx25
                        case hyx25 => intro W hSW; (try dsimp only at hSW); first | (go_simp; done) | (go_simp; with_reducible rfl)
                        try simp only [Act.put, List.setIfInBounds_toArray, List.set_cons_zero, List.set_cons_succ]
                        refine AnyL.take (i := 3) (v := ?vx26) (by rfl) (by kernel_rfl) (by kernel_rfl) (by kernel_rfl) rfl (by exact fun _ _ _ h => h) (by rfl) ?hyx26 (by exact ⟨X2.out, fun _ => Y2_.out⟩) ?restx26
                        case hyx26 => intro W hSW; (try dsimp only at hSW); first | (go_simp; done) | (go_simp; with_reducible rfl)
                        try simp only [Act.put, List.setIfInBounds_toArray, List.set_cons_zero, List.set_cons_succ]
                        refine AnyL.take (i := 4) (v := ?vx27) (by rfl) (by kernel_rfl) (by kernel_rfl) (by kernel_rfl) rfl (by exact fun _ _ _ h => h) (by rfl) ?hyx27 (by exact ⟨X2.out, fun _ => Y2_.out⟩) ?restx27
                        case hyx27 => intro W hSW; (try dsimp only at hSW); first | (go_simp; done) | (go_simp; with_reducible rfl)
                        try simp only [Act.put, List.setIfInBounds_toArray, List.set_cons_zero, List.set_cons_succ]
                        refine AnyL.take (i := 5) (v := ?vx28) (by rfl) (by kernel_rfl) (by kernel_rfl) (by kernel_rfl) rfl (by exact fun _ _ _ h => h) (by rfl) ?hyx28 (by exact ⟨X2.out, fun _ => Y2_.out⟩) ?restx28
                        case hyx28 => intro W hSW; (try dsimp only at hSW); first | (go_simp; done) | (go_simp; with_reducible rfl)
                        try simp only [Act.put, List.setIfInBounds_toArray, List.set_cons_zero, List.set_cons_succ]
                        refine AnyL.take (i := 6) (v := ?vx29) (by rfl) (by kernel_rfl) (by kernel_rfl) (by kernel_rfl) rfl (by exact fun _ _ _ h => h) (by rfl) ?hyx29 (by exact ⟨X2.out, fun _ => Y2_.out⟩) ?restx29
                        case hyx29 => intro W hSW; (try dsimp only at hSW); first | (go_simp; done) | (go_simp; with_reducible rfl)
                        try simp only [Act.put, List.setIfInBounds_toArray, List.set_cons_zero, List.set_cons_succ]
                        refine AnyL.take (i := 7) (v := ?vx30) (by rfl) (by kernel_rfl) (by kernel_rfl) (by kernel_rfl) rfl (by exact fun _ _ _ h => h) (by rfl) ?hyx30 (by exact ⟨X2.out, fun _ => Y2_.out⟩) ?restx30
                        case hyx30 => intro W hSW; (try dsimp only at hSW); first | (go_simp; done) | (go_simp; with_reducible rfl)
                        try simp only [Act.put, List.setIfInBounds_toArray, List.set_cons_zero, List.set_cons_succ]
                        refine AnyL.take (i := 8) (v := ?vx31) (by rfl) (by kernel_rfl) (by kernel_rfl) (by kernel_rfl) rfl (by exact fun _ _ _ h => h) (by rfl) ?hyx31 (by exact ⟨X2.out, fun _ => Y2_.out⟩) ?restx31
                        case hyx31 => intro W hSW; (try dsimp only at hSW); first | (go_simp; done) | (go_simp; with_reducible rfl)
                        try simp only [Act.put, List.setIfInBounds_toArray, List.set_cons_zero, List.set_cons_succ]
                        refine AnyL.take (i := 9) (v := ?vx32) (by rfl) (by kernel_rfl) (by kernel_rfl) (by kernel_rfl) rfl (by exact fun _ _ _ h => h) (by rfl) ?hyx32 (by exact ⟨X2.out, fun _ => Y2_.out⟩) ?restx32
                        case hyx32 => intro W hSW; (try dsimp only at hSW); first | (go_simp; done) | (go_simp; with_reducible rfl)
                        try simp only [Act.put, List.setIfInBounds_toArray, List.set_cons_zero, List.set_cons_succ]
                        refine AnyL.take (i := 10) (v := ?vx33) (by rfl) (by kernel_rfl) (by kernel_rfl) (by kernel_rfl) rfl (by exact fun _ _ _ h => h) (by rfl) ?hyx33 (by exact ⟨X2.out, fun _ => Y2_.out⟩) ?restx33
                        case hyx33 => intro W hSW; (try dsimp only at hSW); first | (go_simp; done) | (go_simp; with_reducible rfl)
                        try simp only [Act.put, List.setIfInBounds_toArray, List.set_cons_zero, List.set_cons_succ]
                        refine AnyL.takeA (i := 11) (v := ?vx34) (by rfl) (by kernel_rfl) (by kernel_rfl) (by kernel_rfl) rfl (by rfl) (by kernel_rfl) (by kernel_rfl) (by exact fun _ _ _ h => h) (by rfl) ?hyx34 (by exact ⟨X2.out, fun _ => Y2_.out⟩) ?restx34
                        case hyx34 => intro W hSW; (try dsimp only at hSW); first | (go_simp; done) | (go_simp; with_reducible rfl)
                        try simp only [Act.put, List.setIfInBounds_toArray, List.set_cons_zero, List.set_cons_succ]
                        refine AnyL.take (i := 12) (v := ?vx35) (by rfl) (by kernel_rfl) (by kernel_rfl) (by kernel_rfl) rfl (by exact fun _ _ _ h => h) (by rfl) ?hyx35 (by exact ⟨X2.out, fun _ => Y2_.out⟩) ?restx35
                        case hyx35 => intro W hSW; (try dsimp only at hSW); first | (go_simp; done) | (go_simp; with_reducible rfl)
                        try simp only [Act.put, List.setIfInBounds_toArray, List.set_cons_zero, List.set_cons_succ]
                        obtain ⟨hc2, hf2⟩ := HSD5.out.tl.getI HL5.out hlp2
                        have hsb := Sep.blk (A := [_]) (B := [_]) HSD5.out
                        have HS6 := Lib.hid (Sep.blk (A := [_]) (B := [_]) (hsb.setI (HL5.out).symm pc x))
                        clear hsb
                        refine AnyL.step (i := 13) (by kernel_rfl) (by rfl) (fun K hK => ?_)
                        go_simp
                        refine hK.out _ (w5.drew.setCell ⟨sg, pc, none⟩ (.int .i64 x)) (by exact HBM.out _ _ HS6.out (by simp) (by simp)) (by exact fun h => noTF (by kernel_rfl) h) ?_
                        clear hK K
                        try simp only [Act.put, List.setIfInBounds_toArray, List.set_cons_zero, List.set_cons_succ]
                        refine AnyL.done (by kernel_rfl) ?_ _
                        clear hc2 hf2
                        generalize w5.drew.setCell ⟨sg, pc, none⟩ (.int .i64 x) = w6 at *
                        have HNL := Lib.hid (show negL ((Gs2.set zc x).set pc x) < negL Gs from by
                          have h1 := HST.out.2
                          cases hb2 : b2
                          · rw [(HB0.out hb2).1] at h1 ⊢; exact h1
                          · have := HB1.out hb2; omega)
                        go_wp2_with fail
                        go_roundw
                        case rel => exact ⟨true, j + 1, _, rfl, by omega, by go_num, HST.out.1, (fun h => by cases h), (fun _ => HNL.out), HS6.out.tl⟩
                        case measure => simp [intOf]; omega
                      · have HBN := Lib.hid (show b2 = false → Gs2 = Gs ∧ (∀ i, i < j + 1 → (g.es.getD i e0).k = 3 → 0 ≤ Gs.getD (cI g.es i) (-1) → 0 ≤ Gs.getD (cO g.es i) (-1)) from fun hb => ⟨(HB0.out hb).1, fun i hi hk3 hp => by
                          rcases Nat.lt_or_ge i j with h | h
                          · exact (HB0.out hb).2 i h hk3 hp
                          · have hij : i = j := by omega
                            subst hij
                            rw [← (HB0.out hb).1, HGZ.out]
                            omega
                        ⟩)
                        go_wp2_with fail
                        go_roundw
                        case rel => exact ⟨b2, j + 1, Gs2, rfl, by omega, by go_num, HF2.out, HBN.out, HB1.out, HS2.out.tl⟩
                        case measure => simp [intOf]; omega
                    · have HBN := Lib.hid (show b2 = false → Gs2 = Gs ∧ (∀ i, i < j + 1 → (g.es.getD i e0).k = 3 → 0 ≤ Gs.getD (cI g.es i) (-1) → 0 ≤ Gs.getD (cO g.es i) (-1)) from fun hb => ⟨(HB0.out hb).1, fun i hi hk3 hp => by
                        rcases Nat.lt_or_ge i j with h | h
                        · exact (HB0.out hb).2 i h hk3 hp
                        · have hij : i = j := by omega
                          subst hij
                          rw [← (HB0.out hb).1, HGX.out] at hp
                          exact absurd hp hx0
                      ⟩)
                      go_wp2_with fail
                      go_roundw
                      case rel => exact ⟨b2, j + 1, Gs2, rfl, by omega, by go_num, HF2.out, HBN.out, HB1.out, HS2.out.tl⟩
                      case measure => simp [intOf]; omega
                  · have hne : (y.k == 3) = false := by simpa using h3
                    have HBN := Lib.hid (show b2 = false → Gs2 = Gs ∧ (∀ i, i < j + 1 → (g.es.getD i e0).k = 3 → 0 ≤ Gs.getD (cI g.es i) (-1) → 0 ≤ Gs.getD (cO g.es i) (-1)) from fun hb => ⟨(HB0.out hb).1, fun i hi hk3 hp => by
                      rcases Nat.lt_or_ge i j with h | h
                      · exact (HB0.out hb).2 i h hk3 hp
                      · have hij : i = j := by omega
                        subst hij
                        exact absurd (by rw [← HY.out]; exact hk3) h3
                    ⟩)
                    clear h3 hke
                    go_wp2_with fail
                    go_roundw
                    case rel => exact ⟨b2, j + 1, Gs2, rfl, by omega, by go_num, HF2.out, HBN.out, HB1.out, HS2.out.tl⟩
                    case measure => simp [intOf]; omega
                · have hjm : m = j := by omega
                  subst hjm
                  have hjj : ¬ (m : Int) < (m : Int) := by omega
                  have HM2w := Lib.hid (negW_eq HSQ.out.hd HF2.out.l)
                  have HDN := Lib.hid (show b2 = false → (∀ i, i < m → (g.es.getD i e0).k = 3 → 0 ≤ Gs2.getD (cI g.es i) (-1) → 0 ≤ Gs2.getD (cO g.es i) (-1)) from fun hb => by rw [(HB0.out hb).1]; exact (HB0.out hb).2)
                  go_wp2_with fail
                  go_roundw
                  case rel => exact ⟨b2, Gs2, rfl, HF2.out, HDN.out, HSQ.out⟩
                  case measure =>
                    show 2 * negW sg n wr + boolN (.bool b2) < 2 * negW sg n _ + 1
                    rw [HM2w.out, HNW.out]
                    cases hb2 : b2
                    · rw [(HB0.out hb2).1]; show 2 * negL Gs + 0 < _; omega
                    · have := HB1.out hb2; show 2 * negL Gs2 + 1 < _; omega
end Go.Proofs.YtghfifpicklonaaDoor

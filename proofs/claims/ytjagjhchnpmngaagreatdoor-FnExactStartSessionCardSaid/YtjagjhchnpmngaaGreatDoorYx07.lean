/-
  The graph of a term, in the program. Conditions: it is a term.
-/
import Derived.Test.YtjagjhchnpmngaaGreatDoorYx05
import Derived.Test.YtjagjhchnpmngaaGreatDoorYx06
import Derived.Test.YtjagjhchnpmngaaGreatDoorYx00
import Derived.Test.YtjagjhchnpmngaaGreatDoorYx03
import Derived.BigQuiet
namespace Go.Proofs.YtjagjhchnpmngaaGreatDoor
open Go.RowKit
set_option linter.unusedVariables false
set_option linter.unusedSimpArgs false
set_option maxRecDepth 100000

theorem graph_oneT (n : Int) (a1 : Option Addr) (n1 c1 : Nat) (xs : List XE) (a2 : Option Addr) (n2 c2 : Nat) (is : List Int) (a3 : Option Addr) (n3 c3 : Nat) (os : List Int) :
    ∀ u ∈ graphE.cs ⟨n, .slice a1 n1 c1, xs, .slice a2 n2 c2, is, .slice a3 n3 c3, os⟩, u.oneCell' = true := by
  intro u hu
  simp only [graphE, graphC, List.mem_cons, List.not_mem_nil, or_false] at hu
  rcases hu with rfl | rfl | rfl | rfl <;> rfl
/-- What a call hands back that makes a term's graph. -/
def MadeR (b : Bool) (K : Gr) (w : World) (e : Ending) (w' : World) : Prop :=
  ∃ u0 xs u1 u2, e = .returned (.tuple #[grV (if b = true then K else gr0).n u0 u1 u2, .bool b]) ∧ eds xs = (if b = true then K else gr0).es ∧ Sep w' [OE u0 xs, OI u1 (if b = true then K else gr0).i, OI u2 (if b = true then K else gr0).o, KeepA w]
theorem Sep.nilGT {w : World} {l : List Asrt} (h : Sep w l) : Sep w (OE nilS [] :: OI nilS [] :: OI nilS [] :: l) := Sep.bag (l := [OR edgeE nilS []]) (Sep.nilR edgeE h.nilI.nilI)
theorem MadeR.zero {K : Gr} {w w' : World} (h : w.grownBy w' none) : MadeR false K w (.returned (.tuple #[.agg #[.int .i64 0, .slice none 0 0, .slice none 0 0, .slice none 0 0], .bool false])) w' :=
  ⟨_, [], _, _, rfl, rfl, Sep.nilGT ((Sep.start w).grown h)⟩
def gStk (S : List Tr) : List Gr := (S.map Tr.g).reverse
theorem gStk_push (T : Tr) (S : List Tr) : gStk (T :: S) = gStk S ++ [T.g] := by simp [gStk]
theorem gStk_len (S : List Tr) : (gStk S).length = S.length := by simp [gStk]
theorem split2 {ys : List XG} {A B : Tr} {R : List Tr} (h : grs ys = gStk (B :: A :: R)) : ∃ ys0 yA yB, ys = ys0 ++ [yA, yB] ∧ grs ys0 = gStk R ∧ yA.gr = A.g ∧ yB.gr = B.g := by
  rw [gStk_push, gStk_push, List.append_assoc] at h
  unfold grs at h ⊢
  obtain ⟨ys0, t, rfl, h1, h2⟩ := List.map_eq_append_iff.1 h
  have hl : t.length = 2 := by have := congrArg List.length h2; simpa using this
  match t, hl, h2 with
  | [yA, yB], _, h2 =>
    simp only [List.map_cons, List.map_nil, List.singleton_append, List.cons.injEq, and_true] at h2
    exact ⟨ys0, yA, yB, rfl, h1, h2.1, h2.2⟩
theorem rows_readT {w : World} {ys : List XG} (h : (Bag (rowsG ys)).holds w) {y : XG} (hy : y ∈ ys) : RdE edgeE w y.ev y.gr.es ∧ IntsV w y.iv y.gr.i ∧ IntsV w y.ov y.gr.o := by
  have ha := Sep.all (show Sep w (rowsG ys) from h)
  have hm : ∀ A ∈ [OE y.ev y.xs, OI y.iv y.is, OI y.ov y.os], A.holds w := fun A hA => ha A (List.mem_flatMap.2 ⟨y, hy, hA⟩)
  exact ⟨OE.read (hm (OE y.ev y.xs) (by simp)), OwnInts.read (show OwnInts 0 w y.iv y.is from hm (OI y.iv y.is) (by simp)), OwnInts.read (show OwnInts 0 w y.ov y.os from hm (OI y.ov y.os) (by simp))⟩
theorem Sep.cutRows {w : World} {A B l : List Asrt} (h : Sep w (Bag (A ++ B) :: l)) : Sep w (Bag A :: l) := by
  have h1 := Sep.unbag h
  rw [List.append_assoc] at h1
  exact Sep.bag (Sep.cutA h1)
theorem Sep.addRows {w : World} {X P Q R : Asrt} {A l : List Asrt} (h : Sep w (X :: P :: Q :: R :: Bag A :: l)) : Sep w (X :: Bag (A ++ [P, Q, R]) :: l) := by
  have h1 : Sep w (Bag A :: P :: Q :: R :: X :: l) := Sep.blk3 (X := [_]) (A := [_]) (B := [_, _, _]) (Sep.blk (A := [_, _, _, _]) (B := [_]) h)
  have h2 : Sep w ((A ++ [P, Q, R]) ++ (X :: l)) := by
    have := Sep.unbag h1
    rw [List.append_assoc]
    exact this
  exact (Sep.bag h2).s2
theorem OwnR.graphC {w : World} {g n c : Nat} {ys : List XG} (h : OwnR graphE 0 w (.slice (some ⟨g, 0, none⟩) n c) ys) (hn : n = ys.length) {i : Nat} {y : XG} (hi : i < ys.length) (hy : ys[i] = y) :
    w.cell? ⟨g, i * 4, none⟩ = some (.int .i64 y.n) ∧ w.cell? ⟨g, i * 4 + 1, none⟩ = some y.ev ∧ w.cell? ⟨g, i * 4 + 2, none⟩ = some y.iv ∧ w.cell? ⟨g, i * 4 + 3, none⟩ = some y.ov := by
  subst hy
  exact ⟨OwnR.cell h hn hi (j := 0) (by decide), OwnR.cell h hn hi (j := 1) (by decide), OwnR.cell h hn hi (j := 2) (by decide), OwnR.cell h hn hi (j := 3) (by decide)⟩
set_option maxHeartbeats 16000000 in
theorem graphOf_any (nv : Value) (ns : List Nd) (t : Tr) (w : World) (hn : RdR nodeE w nv ns) (ht : prun ns ns.length = some [t]) (h1 : 1 ≤ ns.length) (h4 : ns.length ≤ 400) :
    Calls Tryz.prog 22 #[.agg #[nv]] w (MadeR t.gB t.g w) := by
  have HN := Lib.hid hn
  obtain ⟨na, nc, rfl⟩ := hn.shape
  obtain ⟨n, hnl⟩ : ∃ n, ns.length = n := ⟨_, rfl⟩
  have HNL := Lib.hid hnl
  rw [hnl] at ht h1 h4 ⊢
  have HTT := Lib.hid ht
  obtain ⟨b, hb⟩ : ∃ b, t.gB = b := ⟨_, rfl⟩
  obtain ⟨KT, hkt⟩ : ∃ K, t.g = K := ⟨_, rfl⟩
  rw [hb, hkt]
  have HB := Lib.hid hb; have HKT := Lib.hid hkt
  clear hn hnl ht hb hkt
  have HLG := Lib.hid fun (nd : Nd) (h : lfB nd = true) W => leafGraph_any nd W h
  have hs0 := ((Sep.start w).boxAt w.heap.size rfl #[.slice na n nc] 37).boxAt (w.heap.size + 1) (by simp) #[.int .i64 0, .slice none 0 0, .slice none 0 0, .slice none 0 0] 30
  have HS0 := Lib.hid hs0
  have x0 := bw1 hs0.tl.hd
  clear hs0
  have HS1 := Lib.hid (show Sep ((w.alloc _ |>.alloc _).alloc (.cells #[] 30)) [OR graphE (.slice (some ⟨w.heap.size + 1 + 1, 0, none⟩) 0 0) [], Bag (rowsG []), BxA (w.heap.size + 1) #[.int .i64 0, .slice none 0 0, .slice none 0 0, .slice none 0 0] 30, BxA w.heap.size #[.slice na n nc] 37, KeepA w] from (Sep.bag (l := []) (r := [_, _, _, _]) (Sep.emptyRT graphE HS0.out (w.heap.size + 1 + 1) (by simp))).s2)
  go_enter Tryz.func22, Tryz.ntmps22
  go_upto_region 3 with fail
  clear x0
  go_loopw [4, 6, 7, 8, 13] (fun s4 _ _ _ s13 wr => ∃ (i : Nat) (S : List Tr) (ys : List XG), i ≤ n ∧ s13 = .int .i64 i ∧ prun ns i = some S ∧ S.all Tr.gB = true ∧ grs ys = gStk S ∧ Sep wr [OR graphE s4 ys, Bag (rowsG ys), BxA (w.heap.size + 1) #[.int .i64 0, .slice none 0 0, .slice none 0 0, .slice none 0 0] 30, BxA w.heap.size #[.slice na n nc] 37, KeepA w]) (fun _ _ _ _ s13 _ => n - (intOf s13).toNat)
  case atStart => exact ⟨0, [], [], by omega, rfl, rfl, rfl, rfl, HS1.out⟩
  case round =>
    obtain ⟨i, S, ys, hi, rfl, hpr, hall, hgs, hs⟩ := hrel
    obtain ⟨sa, sc, rfl⟩ := OwnR.shape (show OwnR graphE 0 wr _ ys from hs.hd)
    have hyl : ys.length = S.length := by rw [← gStk_len, ← hgs, grs_len]
    have HYL := Lib.hid hyl
    rw [hyl] at hs ⊢
    have HSQ := Lib.hid hs; have HPR := Lib.hid hpr; have HALL := Lib.hid hall; have HGS := Lib.hid hgs
    have hcn := prun_cnt i S hpr
    clear hs hpr hall hgs hyl HS1
    by_cases hlt : i < n
    · have hke : i < ns.length := by rw [HNL.out]; exact hlt
      have hji : (i : Int) < (n : Int) := by omega
      have HKE := Lib.hid hke
      have HLT := Lib.hid hlt
      obtain ⟨nb, no, rfl, _, q0, q1, q2⟩ := (HN.out.carry HSQ.out.tl.tl.tl.tl.hd).node rfl rfl hke
      obtain ⟨y, hy⟩ : ∃ y, ns.getD i nd0 = y := ⟨_, rfl⟩
      have HY := Lib.hid hy
      rw [hy] at q0 q1 q2
      clear hy hke
      obtain ⟨k, v, s⟩ := y
      simp only at q0 q1 q2
      have hs2 := (HSQ.out.boxAt wr.heap.size rfl #[.int .i64 k, .int .i64 v, .string s] 66).boxAt (wr.heap.size + 1) (by simp) #[.int .i64 0, .slice none 0 0, .slice none 0 0, .slice none 0 0] 30
      have HS2 := Lib.hid hs2
      obtain ⟨z0, z1, z2⟩ := bw3 hs2.tl.hd
      clear hs2
      obtain ⟨S2, hS2⟩ : ∃ S2, prun ns (i + 1) = some S2 := prun_back HTT.out (by omega)
      have HP2 := Lib.hid hS2
      have hst := prun_succ (ns := ns) HPR.out
      rw [hS2, HY.out] at hst
      clear hS2
      rcases pstep_cases hst.symm with ⟨hl1, hop, rfl⟩ | ⟨A, B, R, rfl, hnd, hty, rfl⟩ | ⟨A, B, R, rfl, hnd, hty, rfl⟩
      · simp only at hop
        have h15 : (k == 15) = false := by simp; omega
        have h16 : (k == 16) = false := by simp; omega
        have HLL := Lib.hid fun W => HLG.out ⟨k, v, s⟩ hl1 W
        obtain ⟨K, hK⟩ : ∃ K, leafG ⟨k, v, s⟩ = K := ⟨_, rfl⟩
        rw [hK] at HLL
        have HKG := Lib.hid (show (Tr.leaf ⟨k, v, s⟩).g = K from hK)
        have HGT := Lib.hid (show grB K = true → (Tr.leaf ⟨k, v, s⟩).gB = true from fun _ => rfl)
        have HOK := Lib.hid (show (Tr.leaf ⟨k, v, s⟩).Ok from hl1)
        have HKL := Lib.hid (show K.es.length ≤ 2000000 ∧ K.i.length ≤ 2000000 ∧ K.o.length ≤ 2000000 from by
          obtain ⟨m, _, _, a1, a2, a3, _⟩ := grB_n (leafG_ok hl1).1
          rw [hK] at a1 a2 a3
          exact ⟨by omega, by omega, by omega⟩)
        unfold OwnG grV at HLL
        obtain ⟨S3, hS3⟩ : ∃ S3, S = S3 := ⟨_, rfl⟩
        have HS3 := Lib.hid (show grs ys = gStk S3 from by rw [← hS3]; exact HGS.out)
        have HAL3 := Lib.hid (show S3.all Tr.gB = true from by rw [← hS3]; exact HALL.out)
        rw [hS3] at HP2
        have hs5 : S.length ≤ 400 := by omega
        have HYS := Lib.hid (show ys.length + 1 = S.length + 1 ∧ ys.length ≤ 10000000 from by have := HYL.out; omega)
        clear hst hl1 hop hK hS3 HLG
        obtain ⟨ys0, hys⟩ : ∃ y0, y0 = ys := ⟨_, rfl⟩
        subst hys
        obtain ⟨xb, hxb⟩ : ∃ x, wr.heap.size + 1 = x := ⟨_, rfl⟩
        go_upto_region 15 with (
          go_at_call 49
          with_reducible refine (HLL.out _).mono ?_
          rintro e w5 ⟨u0, xs, u1, u2, rfl, hx, hsg⟩
          obtain ⟨t0, v0, rfl⟩ := OE.shape hsg.hd
          obtain ⟨t1, v1, rfl⟩ := own_shape (show OwnInts 0 _ u1 K.i from hsg.tl.hd)
          obtain ⟨t2, v2, rfl⟩ := own_shape (show OwnInts 0 _ u2 K.o from hsg.tl.tl.hd)
          obtain ⟨q0, hq0⟩ : ∃ q, xs.length = q := ⟨_, rfl⟩
          obtain ⟨q1, hq1⟩ : ∃ q, K.i.length = q := ⟨_, rfl⟩
          obtain ⟨q2, hq2⟩ : ∃ q, K.o.length = q := ⟨_, rfl⟩
          rw [hq0, hq1, hq2] at hsg
          rw [hq0, hq1, hq2]
          have hq := HS2.out.graft3 hsg OE_own OI_own OI_own
          rw [hxb] at hq
          have hz := Sep.blk (A := [_, _, _]) (B := [_]) hq
          obtain ⟨k0, k1, k2, k3, k4, k5, k6, k7⟩ := gq4 hz.hd
          have hz2 := (((hz.setB 0 (.int .i64 K.n)).setB 1 (.slice t0 q0 v0)).setB 2 (.slice t1 q1 v1)).setB 3 (.slice t2 q2 v2)
          obtain ⟨l0, l1, l2, l3, _⟩ := gq4 hz2.hd
          have HT := Lib.hid (Sep.blk3 (X := [_, _, _, _]) (A := [_]) (B := [_, _]) hz2)
          have HX := Lib.hid hx
          try rw [hxb]
          have HT := Lib.hid (Sep.blk3 (X := [_, _, _, _]) (A := [_]) (B := [_, _]) hz2)
          have HX := Lib.hid hx
          clear hq hz hz2 hsg hx z0 z1 z2 hq0 hq1 hq2)
        generalize (((w5.setCell ⟨xb, 0, none⟩ (.int .i64 K.n)).setCell ⟨xb, 1, none⟩ (.slice t0 q0 v0)).setCell ⟨xb, 2, none⟩ (.slice t1 q1 v1)).setCell ⟨xb, 3, none⟩ (.slice t2 q2 v2) = w6 at *
        clear k0 k1 k2 k3 k4 k5 k6 k7 l0 l1 l2 l3
        obtain ⟨k0, k1, k2, k3, _⟩ := gq4 HT.out.hd
        have HIG := Lib.hid (isGraph_any (.slice t0 q0 v0) (.slice t1 q1 v1) (.slice t2 q2 v2) K w6 (by rw [← HX.out]; exact OE.read HT.out.tl.hd) (show OwnInts 0 w6 _ K.i from HT.out.tl.tl.hd).read (show OwnInts 0 w6 _ K.o from HT.out.tl.tl.tl.hd).read (HKL.out.1) (HKL.out.2.1) (HKL.out.2.2))
        unfold grV at HIG
        cases hgb : grB K
        · rw [hgb] at HIG
          obtain rfl : b = false := by
            rw [← HB.out]
            have hbad := prun_bad HP2.out (show ((Tr.leaf ⟨k, v, s⟩) :: S3).all Tr.gB = false from by
              have : ((Tr.leaf ⟨k, v, s⟩)).gB = false := by
                cases hq : ((Tr.leaf ⟨k, v, s⟩)).gB with
                | false => rfl
                | true =>
                  have := (Tr.g_ok (t := (Tr.leaf ⟨k, v, s⟩)) HOK.out hq).1
                  rw [HKG.out, hgb] at this; cases this
              rw [List.all_cons, this]; rfl) n [t] HLT.out HTT.out
            simpa using hbad
          go_wp2_with (
            go_at_call 50
            with_reducible refine HIG.out.mono ?_
            rintro e w9 ⟨rfl, hg⟩
            have hz0 := Sep.blk (A := [_, _, _, _, _, _, _]) (B := [_]) (HT.out.grown hg)
            obtain ⟨y0, y1, y2, y3, f0, f1, f2, f3⟩ := gq4 hz0.hd
            have hz1 := (((hz0.setB 0 (.int .i64 0)).setB 1 (.slice none 0 0)).setB 2 (.slice none 0 0)).setB 3 (.slice none 0 0)
            obtain ⟨l0, l1, l2, l3, _⟩ := gq4 hz1.hd
            have HKF := Lib.hid (show w.grownBy _ none from Sep.all hz1 (KeepA w) (by simp))
            clear hg hz0 hz1 k0 k1 k2 k3)
          refine bodyPost_ret_by (v := .tuple #[.agg #[.int .i64 0, .slice none 0 0, .slice none 0 0, .slice none 0 0], .bool false]) ?_ rfl (MadeR.zero HKF.out)
          simp [results, go_sem, *]
        · rw [hgb] at HIG
          go_upto_region 17 with (
            go_at_call 50
            with_reducible refine HIG.out.mono ?_
            rintro e w9 ⟨rfl, hg⟩
            have HT2 := Lib.hid (Sep.blk (A := [_, _, _, _]) (B := [_]) (HT.out.grown hg))
            clear hg k0 k1 k2 k3
            obtain ⟨k0, k1, k2, k3, _⟩ := gq4 HT2.out.tl.hd)
          go_wp2_with (
            at_builtin
            go_loud (
            refine app_R (E := graphE) (y := ⟨K.n, .slice t0 q0 v0, xs, .slice t1 q1 v1, K.i, .slice t2 q2 v2, K.o⟩) info_graph rfl (by decide) Tryz.underlying26 (graph_oneT _ _ _ _ _ _ _ _ _ _ _ _ _) rfl (.tmp 60) (.tmp 62) rfl rfl rfl rfl HT2.out HYS.out.2 ?_
            intro g5 c5 w10 h5
            rw [HYS.out.1] at h5
            try rw [HYS.out.1]
            have h6 := Sep.addRows (Sep.cutA (X := [_]) (A := [_]) h5)
            have h7 := Sep.cutA (X := [_, _]) (A := [_]) h6
            rw [← show rowsG (ys0 ++ [⟨K.n, .slice t0 q0 v0, xs, .slice t1 q1 v1, K.i, .slice t2 q2 v2, K.o⟩]) = rowsG ys0 ++ [OE (.slice t0 q0 v0) xs, OI (.slice t1 q1 v1) K.i, OI (.slice t2 q2 v2) K.o] from rowsG_snoc _ _] at h7
            have HS9 := Lib.hid (show Sep w10 [OR graphE (.slice (some ⟨g5, 0, none⟩) (S.length + 1) c5) (ys0 ++ [⟨K.n, .slice t0 q0 v0, xs, .slice t1 q1 v1, K.i, .slice t2 q2 v2, K.o⟩]), Bag (rowsG (ys0 ++ [⟨K.n, .slice t0 q0 v0, xs, .slice t1 q1 v1, K.i, .slice t2 q2 v2, K.o⟩])), BxA (w.heap.size + 1) #[.int .i64 0, .slice none 0 0, .slice none 0 0, .slice none 0 0] 30, BxA w.heap.size #[.slice (some ⟨nb, no, none⟩) n nc] 37, KeepA w] from h7)
            clear h5 h6 h7 k0 k1 k2 k3))
          go_roundw
          case rel => exact ⟨i + 1, (Tr.leaf ⟨k, v, s⟩) :: S3, ys0 ++ [⟨K.n, .slice t0 q0 v0, xs, .slice t1 q1 v1, K.i, .slice t2 q2 v2, K.o⟩], by have := HLT.out; omega, by go_num, HP2.out, (by rw [List.all_cons, HAL3.out, Bool.and_true]; exact HGT.out hgb), (by rw [gStk_push, ← HS3.out, HKG.out]; unfold grs; rw [List.map_append]; show _ ++ [(⟨K.n, eds xs, K.i, K.o⟩ : Gr)] = _; rw [HX.out]), HS9.out⟩
          case measure => have := HLT.out; simp [intOf]; omega
      · obtain ⟨rfl, rfl, rfl⟩ : k = 15 ∧ v = 0 ∧ s = noS := by injection hnd with a b c; exact ⟨a, b, c⟩
        obtain ⟨ys0, yA, yB, rfl, hg0, hgA, hgB⟩ := split2 HGS.out
        have hoa : A.Ok ∧ B.Ok ∧ (Tr.seq A B).Ok := by
          have hi1 := prun_inv i _ (by rw [HNL.out]; omega) HPR.out
          exact ⟨hi1.ok A (by simp), hi1.ok B (by simp), hi1.ok A (by simp), hi1.ok B (by simp), hty⟩
        have hal := HALL.out
        simp only [List.all_cons, Bool.and_eq_true] at hal
        obtain ⟨halB, halA, halR⟩ := hal
        have gA := Tr.g_ok hoa.1 halA
        have gB := Tr.g_ok hoa.2.1 halB
        have hfit : yA.gr.o.length = yB.gr.i.length := by rw [hgA, hgB]; exact Tr.seq_fit hoa.2.2 halA halB
        obtain ⟨K, hK⟩ : ∃ K, seqG yA.gr yB.gr = K := ⟨_, rfl⟩
        have HKG := Lib.hid (show (Tr.seq A B).g = K from by show seqG A.g B.g = K; rw [← hgA, ← hgB]; exact hK)
        have HGT := Lib.hid (show grB K = true → (Tr.seq A B).gB = true from fun h => by simp only [Tr.gB, Bool.and_eq_true]; refine ⟨halA, halB, ?_⟩; have := HKG.out; simp only [Tr.g] at this; rw [this]; exact h)
        have HOK := Lib.hid hoa.2.2
        have HKL := Lib.hid (show K.es.length ≤ 2000000 ∧ K.i.length ≤ 2000000 ∧ K.o.length ≤ 2000000 from by
          rw [← hK, hgA, hgB]
          obtain ⟨m1, _, _, a1, a2, a3, _⟩ := grB_n gA.1
          obtain ⟨m2, _, _, b1, b2, b3, _⟩ := grB_n gB.1
          refine ⟨?_, by rw [(seq_lens _ _).1]; omega, by rw [(seq_lens _ _).2]; omega⟩
          show ((A.g.es ++ B.g.es.map _).map _).length ≤ _
          rw [List.length_map, List.length_append, List.length_map]; omega)
        obtain ⟨S3, hS3⟩ : ∃ S3, R = S3 := ⟨_, rfl⟩
        have HS3 := Lib.hid (show grs ys0 = gStk S3 from by rw [← hS3]; exact hg0)
        have HAL3 := Lib.hid (show S3.all Tr.gB = true from by rw [← hS3]; exact halR)
        rw [hS3] at HP2
        obtain ⟨m, hm⟩ : ∃ m, ys0.length = m := ⟨_, rfl⟩
        have hRl : R.length = m := by rw [← hm, ← grs_len, hg0, gStk_len]
        have HM0 := Lib.hid hm
        simp only [List.length_cons] at HS2 hcn ⊢
        rw [hRl] at HS2 hcn ⊢
        have HYS := Lib.hid (show ys0.length + 1 = m + 1 ∧ ys0.length ≤ 10000000 from by omega)
        obtain ⟨m1, hm1⟩ : ∃ x, m + 1 = x := ⟨_, rfl⟩
        rw [hm1] at HS2 hcn ⊢
        obtain ⟨m2, hm2⟩ : ∃ x, m1 + 1 = x := ⟨_, rfl⟩
        rw [hm2] at HS2 hcn ⊢
        have hlen : m2 = (ys0 ++ [yA, yB]).length := by rw [List.length_append]; simp only [List.length_cons, List.length_nil]; omega
        obtain ⟨gg, gcp, hge, _, _, hcap⟩ := OwnR.parts (show OwnR graphE 0 _ (.slice sa m2 sc) (ys0 ++ [yA, yB]) from HS2.out.tl.tl.hd) (by rw [← hlen]; omega)
        injection hge with hge1 hgl hge2
        subst hge1 hge2
        rw [← hlen] at hcap
        clear hgl
        have hwa : IntKind.i64.wrap ((m2 : Int) - 1) = (m1 : Int) := by rw [wrap_id (by omega) (by omega)]; omega
        have hwb : IntKind.i64.wrap ((m1 : Int) - 1) = (m : Int) := by rw [wrap_id (by omega) (by omega)]; omega
        have hb1 : (m : Int) < (m2 : Int) := by omega
        have hb2 : (m1 : Int) < (m2 : Int) := by omega
        have hms : m ≤ sc := by omega
        have HLEN := Lib.hid hlen
        have HMM := Lib.hid (show m < (ys0 ++ [yA, yB]).length ∧ m1 < (ys0 ++ [yA, yB]).length ∧ m ≤ m2 from by rw [← hlen]; omega)
        have hyA : ∀ h, (ys0 ++ [yA, yB])[m]'h = yA := fun h => by rw [List.getElem_append_right (by omega)]; simp [hm]
        have hyB : ∀ h, (ys0 ++ [yA, yB])[m1]'h = yB := fun h => by rw [List.getElem_append_right (by omega)]; simp [hm, ← hm1]
        have HYA := Lib.hid hyA; have HYB := Lib.hid hyB
        have HGA := Lib.hid (show grB yA.gr = true ∧ grB yB.gr = true from ⟨by rw [hgA]; exact gA.1, by rw [hgB]; exact gB.1⟩)
        have HSG := Lib.hid (show ∀ W : World, (Bag (rowsG (ys0 ++ [yA, yB]))).holds W → Calls Tryz.prog 47 #[.agg #[.int .i64 yA.n, yA.ev, yA.iv, yA.ov], .agg #[.int .i64 yB.n, yB.ev, yB.iv, yB.ov]] W (OwnG K W) from fun W h => by rw [← hK]; exact seqGraphs_any yA.gr yB.gr yA.ev yA.iv yA.ov yB.ev yB.iv yB.ov W (rows_readT h (by simp)).1 (rows_readT h (by simp)).2.1 (rows_readT h (by simp)).2.2 (rows_readT h (by simp)).1 (rows_readT h (by simp)).2.1 (rows_readT h (by simp)).2.2 HGA.out.1 HGA.out.2 hfit)
        unfold OwnG grV at HSG
        clear hst hnd hty hgA hgB hoa halA halB halR gA gB hK hS3 hg0 hm hRl hm1 hm2 hlen hcap hyA hyB HLG hcn hfit
        obtain ⟨xb, hxb⟩ : ∃ x, wr.heap.size + 1 = x := ⟨_, rfl⟩
        go_upto_region 10 with fail
        clear z0 z1 z2 q0 q1 q2 HSQ
        generalize (wr.alloc (.cells #[.int .i64 15, .int .i64 0, .string noS] 66)).alloc (.cells #[.int .i64 0, .slice none 0 0, .slice none 0 0, .slice none 0 0] 30) = w4 at *
        have HBM := Lib.hid fun (W1 : World) (L : List Asrt) (h : Sep W1 L) (h1 : OR graphE (.slice (some ⟨gg, 0, none⟩) m2 sc) (ys0 ++ [yA, yB]) ∈ L) => show ((W1.cell? ⟨gg, m * 4, none⟩ = some (.int .i64 yA.n) ∧ W1.cell? ⟨gg, m * 4 + 1, none⟩ = some yA.ev ∧ W1.cell? ⟨gg, m * 4 + 2, none⟩ = some yA.iv ∧ W1.cell? ⟨gg, m * 4 + 3, none⟩ = some yA.ov) ∧ (W1.cell? ⟨gg, m1 * 4, none⟩ = some (.int .i64 yB.n) ∧ W1.cell? ⟨gg, m1 * 4 + 1, none⟩ = some yB.ev ∧ W1.cell? ⟨gg, m1 * 4 + 2, none⟩ = some yB.iv ∧ W1.cell? ⟨gg, m1 * 4 + 3, none⟩ = some yB.ov)) from
          have hh : OwnR graphE 0 W1 _ _ := Sep.all h _ h1
          ⟨hh.graphC HLEN.out HMM.out.1 (HYA.out _), hh.graphC HLEN.out HMM.out.2.1 (HYB.out _)⟩
        have HSD := Lib.hid HS2.out.dr
        have X0 := Lib.hid (HBM.out _ _ HSD.out (by simp))
        refine AnyL.start (fun W1 => ((W1.cell? ⟨gg, m * 4, none⟩ = some (.int .i64 yA.n) ∧ W1.cell? ⟨gg, m * 4 + 1, none⟩ = some yA.ev ∧ W1.cell? ⟨gg, m * 4 + 2, none⟩ = some yA.iv ∧ W1.cell? ⟨gg, m * 4 + 3, none⟩ = some yA.ov) ∧ (W1.cell? ⟨gg, m1 * 4, none⟩ = some (.int .i64 yB.n) ∧ W1.cell? ⟨gg, m1 * 4 + 1, none⟩ = some yB.ev ∧ W1.cell? ⟨gg, m1 * 4 + 2, none⟩ = some yB.iv ∧ W1.cell? ⟨gg, m1 * 4 + 3, none⟩ = some yB.ov))) (fun _ => True) 99 (by kernel_rfl) ?_
        generalize w4.drew = w3 at *
        refine AnyL.take (i := 0) (v := ?vx1) (by rfl) (by kernel_rfl) (by kernel_rfl) (by kernel_rfl) rfl (by exact fun _ _ _ h => h) (by rfl) ?hyx1 (by exact ⟨X0.out, fun _ => trivial⟩) ?restx1
        case hyx1 => intro W hSW; (try dsimp only at hSW); first | (go_simp; done) | (go_simp; with_reducible rfl)
        try simp only [Act.put, List.setIfInBounds_toArray, List.set_cons_zero, List.set_cons_succ]
        refine AnyL.take (i := 1) (v := ?vx2) (by rfl) (by kernel_rfl) (by kernel_rfl) (by kernel_rfl) rfl (by exact fun _ _ _ h => h) (by rfl) ?hyx2 (by exact ⟨X0.out, fun _ => trivial⟩) ?restx2
        case hyx2 => intro W hSW; (try dsimp only at hSW); first | (go_simp; done) | (go_simp; with_reducible rfl)
        try simp only [Act.put, List.setIfInBounds_toArray, List.set_cons_zero, List.set_cons_succ]
        refine AnyL.take (i := 2) (v := ?vx3) (by rfl) (by kernel_rfl) (by kernel_rfl) (by kernel_rfl) rfl (by exact fun _ _ _ h => h) (by rfl) ?hyx3 (by exact ⟨X0.out, fun _ => trivial⟩) ?restx3
        case hyx3 => intro W hSW; (try dsimp only at hSW); first | (go_simp; done) | (go_simp; with_reducible rfl)
        try simp only [Act.put, List.setIfInBounds_toArray, List.set_cons_zero, List.set_cons_succ]
        refine AnyL.take (i := 3) (v := ?vx4) (by rfl) (by kernel_rfl) (by kernel_rfl) (by kernel_rfl) rfl (by exact fun _ _ _ h => h) (by rfl) ?hyx4 (by exact ⟨X0.out, fun _ => trivial⟩) ?restx4
        case hyx4 => intro W hSW; (try dsimp only at hSW); first | (go_simp; done) | (go_simp; with_reducible rfl)
        try simp only [Act.put, List.setIfInBounds_toArray, List.set_cons_zero, List.set_cons_succ]
        refine AnyL.take (i := 4) (v := ?vx5) (by rfl) (by kernel_rfl) (by kernel_rfl) (by kernel_rfl) rfl (by exact fun _ _ _ h => h) (by rfl) ?hyx5 (by exact ⟨X0.out, fun _ => trivial⟩) ?restx5
        case hyx5 => intro W hSW; (try dsimp only at hSW); first | (go_simp; done) | (go_simp; with_reducible rfl)
        try simp only [Act.put, List.setIfInBounds_toArray, List.set_cons_zero, List.set_cons_succ]
        refine AnyL.take (i := 5) (v := ?vx6) (by rfl) (by kernel_rfl) (by kernel_rfl) (by kernel_rfl) rfl (by exact fun _ _ _ h => h) (by rfl) ?hyx6 (by exact ⟨X0.out, fun _ => trivial⟩) ?restx6
        case hyx6 => intro W hSW; (try dsimp only at hSW); first | (go_simp; done) | (go_simp; with_reducible rfl)
        try simp only [Act.put, List.setIfInBounds_toArray, List.set_cons_zero, List.set_cons_succ]
        refine AnyL.take (i := 6) (v := ?vx7) (by rfl) (by kernel_rfl) (by kernel_rfl) (by kernel_rfl) rfl (by exact fun _ _ _ h => h) (by rfl) ?hyx7 (by exact ⟨X0.out, fun _ => trivial⟩) ?restx7
        case hyx7 => intro W hSW; (try dsimp only at hSW); first | (go_simp; done) | (go_simp; with_reducible rfl)
        try simp only [Act.put, List.setIfInBounds_toArray, List.set_cons_zero, List.set_cons_succ]
        refine AnyL.take (i := 7) (v := ?vx8) (by rfl) (by kernel_rfl) (by kernel_rfl) (by kernel_rfl) rfl (by exact fun _ _ _ h => h) (by rfl) ?hyx8 (by exact ⟨X0.out, fun _ => trivial⟩) ?restx8
        case hyx8 => intro W hSW; (try dsimp only at hSW); first | (go_simp; done) | (go_simp; with_reducible rfl)
        try simp only [Act.put, List.setIfInBounds_toArray, List.set_cons_zero, List.set_cons_succ]
        refine AnyL.take (i := 8) (v := ?vx9) (by rfl) (by kernel_rfl) (by kernel_rfl) (by kernel_rfl) rfl (by exact fun _ _ _ h => h) (by rfl) ?hyx9 (by exact ⟨X0.out, fun _ => trivial⟩) ?restx9
        case hyx9 => intro W hSW; (try dsimp only at hSW); first | (go_simp; done) | (go_simp; with_reducible rfl)
        try simp only [Act.put, List.setIfInBounds_toArray, List.set_cons_zero, List.set_cons_succ]
        refine AnyL.step (i := 9) (by kernel_rfl) (by rfl) (fun KK hK => ?_)
        go_simp
        have HCC := Lib.hid (HSG.out _ HSD.out.tl.tl.tl.hd)
        go_at_call 47
        with_reducible refine HCC.out.mono ?_
        rintro e w5 ⟨u0, xs, u1, u2, rfl, hx, hsg⟩
        obtain ⟨t0, v0, rfl⟩ := OE.shape hsg.hd
        obtain ⟨t1, v1, rfl⟩ := own_shape (show OwnInts 0 _ u1 K.i from hsg.tl.hd)
        obtain ⟨t2, v2, rfl⟩ := own_shape (show OwnInts 0 _ u2 K.o from hsg.tl.tl.hd)
        obtain ⟨q0, hq0⟩ : ∃ q, xs.length = q := ⟨_, rfl⟩
        obtain ⟨q1, hq1⟩ : ∃ q, K.i.length = q := ⟨_, rfl⟩
        obtain ⟨q2, hq2⟩ : ∃ q, K.o.length = q := ⟨_, rfl⟩
        rw [hq0, hq1, hq2] at hsg
        rw [hq0, hq1, hq2]
        have hq := HSD.out.graft3 hsg OE_own OI_own OI_own
        rw [hxb] at hq
        have HS5 := Lib.hid hq
        have HX := Lib.hid hx
        have X1 := Lib.hid (HBM.out _ _ hq (by simp))
        clear hq hx hsg hq0 hq1 hq2 HCC
        refine hK.out _ _ (by exact X1.out) (by exact fun _ => trivial) ?_
        clear hK KK
        try simp only [Act.put, List.setIfInBounds_toArray, List.set_cons_zero, List.set_cons_succ]
        have hz := Sep.blk (A := [_, _, _]) (B := [_]) HS5.out
        obtain ⟨k0, k1, k2, k3, k4, k5, k6, k7⟩ := gq4 hz.hd
        have hz2 := (((hz.setB 0 (.int .i64 K.n)).setB 1 (.slice t0 q0 v0)).setB 2 (.slice t1 q1 v1)).setB 3 (.slice t2 q2 v2)
        have HS6 := Lib.hid hz2
        have X5 := Lib.hid (HBM.out _ _ hz2 (by simp))
        clear hz hz2
        refine AnyL.step (i := 10) (by kernel_rfl) (by rfl) (fun KK hK => ?_)
        go_simp
        refine hK.out _ ((((w5.setCell ⟨xb, 0, none⟩ (.int .i64 K.n)).setCell ⟨xb, 1, none⟩ (.slice t0 q0 v0)).setCell ⟨xb, 2, none⟩ (.slice t1 q1 v1)).setCell ⟨xb, 3, none⟩ (.slice t2 q2 v2)) (by exact X5.out) (by exact fun _ => trivial) ?_
        clear hK KK
        try simp only [Act.put, List.setIfInBounds_toArray, List.set_cons_zero, List.set_cons_succ]
        refine AnyL.done (by kernel_rfl) ?_ _
        clear k0 k1 k2 k3 k4 k5 k6 k7
        generalize (((w5.setCell ⟨xb, 0, none⟩ (.int .i64 K.n)).setCell ⟨xb, 1, none⟩ (.slice t0 q0 v0)).setCell ⟨xb, 2, none⟩ (.slice t1 q1 v1)).setCell ⟨xb, 3, none⟩ (.slice t2 q2 v2) = w6 at *
        have ht1 := (Sep.blk (A := [_, _, _, _, _]) (B := [_]) HS6.out).cutR (k := m) HLEN.out.symm HMM.out.2.2
        have htk : (ys0 ++ [yA, yB]).take m = ys0 := by rw [← HM0.out, List.take_left]
        rw [htk] at ht1
        have hrg : rowsG (ys0 ++ [yA, yB]) = rowsG ys0 ++ rowsG [yA, yB] := by simp [rowsG]
        rw [hrg] at ht1
        have ht2 := Sep.cutRows (Sep.blk (A := [_, _, _, _, _, _]) (B := [_]) ht1)
        have HT := Lib.hid (Sep.blk (A := [_, _]) (B := [_, _, _, _]) ht2)
        have HT0 := Lib.hid (Sep.blk3 (X := [_, _, _, _]) (A := [_]) (B := [_]) HT.out)
        clear ht1 ht2 htk hrg HT HBM HSG
        have HT := HT0
        clear HT0
        go_upto_region 15 with fail
        obtain ⟨k0, k1, k2, k3, _⟩ := gq4 HT.out.hd
        have HIG := Lib.hid (isGraph_any (.slice t0 q0 v0) (.slice t1 q1 v1) (.slice t2 q2 v2) K w6 (by rw [← HX.out]; exact OE.read HT.out.tl.hd) (show OwnInts 0 w6 _ K.i from HT.out.tl.tl.hd).read (show OwnInts 0 w6 _ K.o from HT.out.tl.tl.tl.hd).read (HKL.out.1) (HKL.out.2.1) (HKL.out.2.2))
        unfold grV at HIG
        cases hgb : grB K
        · rw [hgb] at HIG
          obtain rfl : b = false := by
            rw [← HB.out]
            have hbad := prun_bad HP2.out (show ((Tr.seq A B) :: S3).all Tr.gB = false from by
              have : ((Tr.seq A B)).gB = false := by
                cases hq : ((Tr.seq A B)).gB with
                | false => rfl
                | true =>
                  have := (Tr.g_ok (t := (Tr.seq A B)) HOK.out hq).1
                  rw [HKG.out, hgb] at this; cases this
              rw [List.all_cons, this]; rfl) n [t] HLT.out HTT.out
            simpa using hbad
          go_wp2_with (
            go_at_call 50
            with_reducible refine HIG.out.mono ?_
            rintro e w9 ⟨rfl, hg⟩
            have hz0 := Sep.blk (A := [_, _, _, _, _, _, _]) (B := [_]) (HT.out.grown hg)
            obtain ⟨y0, y1, y2, y3, f0, f1, f2, f3⟩ := gq4 hz0.hd
            have hz1 := (((hz0.setB 0 (.int .i64 0)).setB 1 (.slice none 0 0)).setB 2 (.slice none 0 0)).setB 3 (.slice none 0 0)
            obtain ⟨l0, l1, l2, l3, _⟩ := gq4 hz1.hd
            have HKF := Lib.hid (show w.grownBy _ none from Sep.all hz1 (KeepA w) (by simp))
            clear hg hz0 hz1 k0 k1 k2 k3)
          refine bodyPost_ret_by (v := .tuple #[.agg #[.int .i64 0, .slice none 0 0, .slice none 0 0, .slice none 0 0], .bool false]) ?_ rfl (MadeR.zero HKF.out)
          simp [results, go_sem, *]
        · rw [hgb] at HIG
          go_upto_region 17 with (
            go_at_call 50
            with_reducible refine HIG.out.mono ?_
            rintro e w9 ⟨rfl, hg⟩
            have HT2 := Lib.hid (Sep.blk (A := [_, _, _, _]) (B := [_]) (HT.out.grown hg))
            clear hg k0 k1 k2 k3
            obtain ⟨k0, k1, k2, k3, _⟩ := gq4 HT2.out.tl.hd)
          go_wp2_with (
            at_builtin
            go_loud (
            refine app_R (E := graphE) (y := ⟨K.n, .slice t0 q0 v0, xs, .slice t1 q1 v1, K.i, .slice t2 q2 v2, K.o⟩) info_graph rfl (by decide) Tryz.underlying26 (graph_oneT _ _ _ _ _ _ _ _ _ _ _ _ _) rfl (.tmp 60) (.tmp 62) rfl rfl rfl rfl HT2.out HYS.out.2 ?_
            intro g5 c5 w10 h5
            rw [HYS.out.1] at h5
            try rw [HYS.out.1]
            have h6 := Sep.addRows (Sep.cutA (X := [_]) (A := [_]) h5)
            have h7 := Sep.cutA (X := [_, _]) (A := [_]) h6
            rw [← show rowsG (ys0 ++ [⟨K.n, .slice t0 q0 v0, xs, .slice t1 q1 v1, K.i, .slice t2 q2 v2, K.o⟩]) = rowsG ys0 ++ [OE (.slice t0 q0 v0) xs, OI (.slice t1 q1 v1) K.i, OI (.slice t2 q2 v2) K.o] from rowsG_snoc _ _] at h7
            have HS9 := Lib.hid (show Sep w10 [OR graphE (.slice (some ⟨g5, 0, none⟩) (m + 1) c5) (ys0 ++ [⟨K.n, .slice t0 q0 v0, xs, .slice t1 q1 v1, K.i, .slice t2 q2 v2, K.o⟩]), Bag (rowsG (ys0 ++ [⟨K.n, .slice t0 q0 v0, xs, .slice t1 q1 v1, K.i, .slice t2 q2 v2, K.o⟩])), BxA (w.heap.size + 1) #[.int .i64 0, .slice none 0 0, .slice none 0 0, .slice none 0 0] 30, BxA w.heap.size #[.slice (some ⟨nb, no, none⟩) n nc] 37, KeepA w] from h7)
            clear h5 h6 h7 k0 k1 k2 k3))
          go_roundw
          case rel => exact ⟨i + 1, (Tr.seq A B) :: S3, ys0 ++ [⟨K.n, .slice t0 q0 v0, xs, .slice t1 q1 v1, K.i, .slice t2 q2 v2, K.o⟩], by have := HLT.out; omega, by go_num, HP2.out, (by rw [List.all_cons, HAL3.out, Bool.and_true]; exact HGT.out hgb), (by rw [gStk_push, ← HS3.out, HKG.out]; unfold grs; rw [List.map_append]; show _ ++ [(⟨K.n, eds xs, K.i, K.o⟩ : Gr)] = _; rw [HX.out]), HS9.out⟩
          case measure => have := HLT.out; simp [intOf]; omega
      · obtain ⟨rfl, rfl, rfl⟩ : k = 16 ∧ v = 0 ∧ s = noS := by injection hnd with a b c; exact ⟨a, b, c⟩
        obtain ⟨ys0, yA, yB, rfl, hg0, hgA, hgB⟩ := split2 HGS.out
        have hoa : A.Ok ∧ B.Ok ∧ (Tr.par A B).Ok := by
          have hi1 := prun_inv i _ (by rw [HNL.out]; omega) HPR.out
          exact ⟨hi1.ok A (by simp), hi1.ok B (by simp), hi1.ok A (by simp), hi1.ok B (by simp), hty⟩
        have hal := HALL.out
        simp only [List.all_cons, Bool.and_eq_true] at hal
        obtain ⟨halB, halA, halR⟩ := hal
        have gA := Tr.g_ok hoa.1 halA
        have gB := Tr.g_ok hoa.2.1 halB
        skip
        obtain ⟨K, hK⟩ : ∃ K, parG yA.gr yB.gr = K := ⟨_, rfl⟩
        have HKG := Lib.hid (show (Tr.par A B).g = K from by show parG A.g B.g = K; rw [← hgA, ← hgB]; exact hK)
        have HGT := Lib.hid (show grB K = true → (Tr.par A B).gB = true from fun h => by simp only [Tr.gB, Bool.and_eq_true]; refine ⟨halA, halB, ?_⟩; have := HKG.out; simp only [Tr.g] at this; rw [this]; exact h)
        have HOK := Lib.hid hoa.2.2
        have HKL := Lib.hid (show K.es.length ≤ 2000000 ∧ K.i.length ≤ 2000000 ∧ K.o.length ≤ 2000000 from by
          rw [← hK, hgA, hgB]
          obtain ⟨m1, _, _, a1, a2, a3, _⟩ := grB_n gA.1
          obtain ⟨m2, _, _, b1, b2, b3, _⟩ := grB_n gB.1
          refine ⟨?_, by rw [(par_lens _ _).1]; omega, by rw [(par_lens _ _).2]; omega⟩
          show (A.g.es ++ B.g.es.map _).length ≤ _
          rw [List.length_append, List.length_map]; omega)
        obtain ⟨S3, hS3⟩ : ∃ S3, R = S3 := ⟨_, rfl⟩
        have HS3 := Lib.hid (show grs ys0 = gStk S3 from by rw [← hS3]; exact hg0)
        have HAL3 := Lib.hid (show S3.all Tr.gB = true from by rw [← hS3]; exact halR)
        rw [hS3] at HP2
        obtain ⟨m, hm⟩ : ∃ m, ys0.length = m := ⟨_, rfl⟩
        have hRl : R.length = m := by rw [← hm, ← grs_len, hg0, gStk_len]
        have HM0 := Lib.hid hm
        simp only [List.length_cons] at HS2 hcn ⊢
        rw [hRl] at HS2 hcn ⊢
        have HYS := Lib.hid (show ys0.length + 1 = m + 1 ∧ ys0.length ≤ 10000000 from by omega)
        obtain ⟨m1, hm1⟩ : ∃ x, m + 1 = x := ⟨_, rfl⟩
        rw [hm1] at HS2 hcn ⊢
        obtain ⟨m2, hm2⟩ : ∃ x, m1 + 1 = x := ⟨_, rfl⟩
        rw [hm2] at HS2 hcn ⊢
        have hlen : m2 = (ys0 ++ [yA, yB]).length := by rw [List.length_append]; simp only [List.length_cons, List.length_nil]; omega
        obtain ⟨gg, gcp, hge, _, _, hcap⟩ := OwnR.parts (show OwnR graphE 0 _ (.slice sa m2 sc) (ys0 ++ [yA, yB]) from HS2.out.tl.tl.hd) (by rw [← hlen]; omega)
        injection hge with hge1 hgl hge2
        subst hge1 hge2
        rw [← hlen] at hcap
        clear hgl
        have hwa : IntKind.i64.wrap ((m2 : Int) - 1) = (m1 : Int) := by rw [wrap_id (by omega) (by omega)]; omega
        have hwb : IntKind.i64.wrap ((m1 : Int) - 1) = (m : Int) := by rw [wrap_id (by omega) (by omega)]; omega
        have hb1 : (m : Int) < (m2 : Int) := by omega
        have hb2 : (m1 : Int) < (m2 : Int) := by omega
        have hms : m ≤ sc := by omega
        have HLEN := Lib.hid hlen
        have HMM := Lib.hid (show m < (ys0 ++ [yA, yB]).length ∧ m1 < (ys0 ++ [yA, yB]).length ∧ m ≤ m2 from by rw [← hlen]; omega)
        have hyA : ∀ h, (ys0 ++ [yA, yB])[m]'h = yA := fun h => by rw [List.getElem_append_right (by omega)]; simp [hm]
        have hyB : ∀ h, (ys0 ++ [yA, yB])[m1]'h = yB := fun h => by rw [List.getElem_append_right (by omega)]; simp [hm, ← hm1]
        have HYA := Lib.hid hyA; have HYB := Lib.hid hyB
        have HGA := Lib.hid (show grB yA.gr = true ∧ grB yB.gr = true from ⟨by rw [hgA]; exact gA.1, by rw [hgB]; exact gB.1⟩)
        have HSG := Lib.hid (show ∀ W : World, (Bag (rowsG (ys0 ++ [yA, yB]))).holds W → Calls Tryz.prog 48 #[.agg #[.int .i64 yA.n, yA.ev, yA.iv, yA.ov], .agg #[.int .i64 yB.n, yB.ev, yB.iv, yB.ov]] W (OwnG K W) from fun W h => by rw [← hK]; exact parGraphs_any yA.gr yB.gr yA.ev yA.iv yA.ov yB.ev yB.iv yB.ov W (rows_readT h (by simp)).1 (rows_readT h (by simp)).2.1 (rows_readT h (by simp)).2.2 (rows_readT h (by simp)).1 (rows_readT h (by simp)).2.1 (rows_readT h (by simp)).2.2 HGA.out.1 HGA.out.2)
        unfold OwnG grV at HSG
        clear hst hnd hty hgA hgB hoa halA halB halR gA gB hK hS3 hg0 hm hRl hm1 hm2 hlen hcap hyA hyB HLG hcn
        obtain ⟨xb, hxb⟩ : ∃ x, wr.heap.size + 1 = x := ⟨_, rfl⟩
        go_upto_region 13 with fail
        clear z0 z1 z2 q0 q1 q2 HSQ
        generalize (wr.alloc (.cells #[.int .i64 16, .int .i64 0, .string noS] 66)).alloc (.cells #[.int .i64 0, .slice none 0 0, .slice none 0 0, .slice none 0 0] 30) = w4 at *
        have HBM := Lib.hid fun (W1 : World) (L : List Asrt) (h : Sep W1 L) (h1 : OR graphE (.slice (some ⟨gg, 0, none⟩) m2 sc) (ys0 ++ [yA, yB]) ∈ L) => show ((W1.cell? ⟨gg, m * 4, none⟩ = some (.int .i64 yA.n) ∧ W1.cell? ⟨gg, m * 4 + 1, none⟩ = some yA.ev ∧ W1.cell? ⟨gg, m * 4 + 2, none⟩ = some yA.iv ∧ W1.cell? ⟨gg, m * 4 + 3, none⟩ = some yA.ov) ∧ (W1.cell? ⟨gg, m1 * 4, none⟩ = some (.int .i64 yB.n) ∧ W1.cell? ⟨gg, m1 * 4 + 1, none⟩ = some yB.ev ∧ W1.cell? ⟨gg, m1 * 4 + 2, none⟩ = some yB.iv ∧ W1.cell? ⟨gg, m1 * 4 + 3, none⟩ = some yB.ov)) from
          have hh : OwnR graphE 0 W1 _ _ := Sep.all h _ h1
          ⟨hh.graphC HLEN.out HMM.out.1 (HYA.out _), hh.graphC HLEN.out HMM.out.2.1 (HYB.out _)⟩
        have HSD := Lib.hid HS2.out.dr
        have X0 := Lib.hid (HBM.out _ _ HSD.out (by simp))
        refine AnyL.start (fun W1 => ((W1.cell? ⟨gg, m * 4, none⟩ = some (.int .i64 yA.n) ∧ W1.cell? ⟨gg, m * 4 + 1, none⟩ = some yA.ev ∧ W1.cell? ⟨gg, m * 4 + 2, none⟩ = some yA.iv ∧ W1.cell? ⟨gg, m * 4 + 3, none⟩ = some yA.ov) ∧ (W1.cell? ⟨gg, m1 * 4, none⟩ = some (.int .i64 yB.n) ∧ W1.cell? ⟨gg, m1 * 4 + 1, none⟩ = some yB.ev ∧ W1.cell? ⟨gg, m1 * 4 + 2, none⟩ = some yB.iv ∧ W1.cell? ⟨gg, m1 * 4 + 3, none⟩ = some yB.ov))) (fun _ => True) 99 (by kernel_rfl) ?_
        generalize w4.drew = w3 at *
        refine AnyL.take (i := 0) (v := ?vx10) (by rfl) (by kernel_rfl) (by kernel_rfl) (by kernel_rfl) rfl (by exact fun _ _ _ h => h) (by rfl) ?hyx10 (by exact ⟨X0.out, fun _ => trivial⟩) ?restx10
        case hyx10 => intro W hSW; (try dsimp only at hSW); first | (go_simp; done) | (go_simp; with_reducible rfl)
        try simp only [Act.put, List.setIfInBounds_toArray, List.set_cons_zero, List.set_cons_succ]
        refine AnyL.take (i := 1) (v := ?vx11) (by rfl) (by kernel_rfl) (by kernel_rfl) (by kernel_rfl) rfl (by exact fun _ _ _ h => h) (by rfl) ?hyx11 (by exact ⟨X0.out, fun _ => trivial⟩) ?restx11
        case hyx11 => intro W hSW; (try dsimp only at hSW); first | (go_simp; done) | (go_simp; with_reducible rfl)
        try simp only [Act.put, List.setIfInBounds_toArray, List.set_cons_zero, List.set_cons_succ]
        refine AnyL.take (i := 2) (v := ?vx12) (by rfl) (by kernel_rfl) (by kernel_rfl) (by kernel_rfl) rfl (by exact fun _ _ _ h => h) (by rfl) ?hyx12 (by exact ⟨X0.out, fun _ => trivial⟩) ?restx12
        case hyx12 => intro W hSW; (try dsimp only at hSW); first | (go_simp; done) | (go_simp; with_reducible rfl)
        try simp only [Act.put, List.setIfInBounds_toArray, List.set_cons_zero, List.set_cons_succ]
        refine AnyL.take (i := 3) (v := ?vx13) (by rfl) (by kernel_rfl) (by kernel_rfl) (by kernel_rfl) rfl (by exact fun _ _ _ h => h) (by rfl) ?hyx13 (by exact ⟨X0.out, fun _ => trivial⟩) ?restx13
        case hyx13 => intro W hSW; (try dsimp only at hSW); first | (go_simp; done) | (go_simp; with_reducible rfl)
        try simp only [Act.put, List.setIfInBounds_toArray, List.set_cons_zero, List.set_cons_succ]
        refine AnyL.take (i := 4) (v := ?vx14) (by rfl) (by kernel_rfl) (by kernel_rfl) (by kernel_rfl) rfl (by exact fun _ _ _ h => h) (by rfl) ?hyx14 (by exact ⟨X0.out, fun _ => trivial⟩) ?restx14
        case hyx14 => intro W hSW; (try dsimp only at hSW); first | (go_simp; done) | (go_simp; with_reducible rfl)
        try simp only [Act.put, List.setIfInBounds_toArray, List.set_cons_zero, List.set_cons_succ]
        refine AnyL.take (i := 5) (v := ?vx15) (by rfl) (by kernel_rfl) (by kernel_rfl) (by kernel_rfl) rfl (by exact fun _ _ _ h => h) (by rfl) ?hyx15 (by exact ⟨X0.out, fun _ => trivial⟩) ?restx15
        case hyx15 => intro W hSW; (try dsimp only at hSW); first | (go_simp; done) | (go_simp; with_reducible rfl)
        try simp only [Act.put, List.setIfInBounds_toArray, List.set_cons_zero, List.set_cons_succ]
        refine AnyL.take (i := 6) (v := ?vx16) (by rfl) (by kernel_rfl) (by kernel_rfl) (by kernel_rfl) rfl (by exact fun _ _ _ h => h) (by rfl) ?hyx16 (by exact ⟨X0.out, fun _ => trivial⟩) ?restx16
        case hyx16 => intro W hSW; (try dsimp only at hSW); first | (go_simp; done) | (go_simp; with_reducible rfl)
        try simp only [Act.put, List.setIfInBounds_toArray, List.set_cons_zero, List.set_cons_succ]
        refine AnyL.take (i := 7) (v := ?vx17) (by rfl) (by kernel_rfl) (by kernel_rfl) (by kernel_rfl) rfl (by exact fun _ _ _ h => h) (by rfl) ?hyx17 (by exact ⟨X0.out, fun _ => trivial⟩) ?restx17
        case hyx17 => intro W hSW; (try dsimp only at hSW); first | (go_simp; done) | (go_simp; with_reducible rfl)
        try simp only [Act.put, List.setIfInBounds_toArray, List.set_cons_zero, List.set_cons_succ]
        refine AnyL.take (i := 8) (v := ?vx18) (by rfl) (by kernel_rfl) (by kernel_rfl) (by kernel_rfl) rfl (by exact fun _ _ _ h => h) (by rfl) ?hyx18 (by exact ⟨X0.out, fun _ => trivial⟩) ?restx18
        case hyx18 => intro W hSW; (try dsimp only at hSW); first | (go_simp; done) | (go_simp; with_reducible rfl)
        try simp only [Act.put, List.setIfInBounds_toArray, List.set_cons_zero, List.set_cons_succ]
        refine AnyL.step (i := 9) (by kernel_rfl) (by rfl) (fun KK hK => ?_)
        go_simp
        have HCC := Lib.hid (HSG.out _ HSD.out.tl.tl.tl.hd)
        go_at_call 48
        with_reducible refine HCC.out.mono ?_
        rintro e w5 ⟨u0, xs, u1, u2, rfl, hx, hsg⟩
        obtain ⟨t0, v0, rfl⟩ := OE.shape hsg.hd
        obtain ⟨t1, v1, rfl⟩ := own_shape (show OwnInts 0 _ u1 K.i from hsg.tl.hd)
        obtain ⟨t2, v2, rfl⟩ := own_shape (show OwnInts 0 _ u2 K.o from hsg.tl.tl.hd)
        obtain ⟨q0, hq0⟩ : ∃ q, xs.length = q := ⟨_, rfl⟩
        obtain ⟨q1, hq1⟩ : ∃ q, K.i.length = q := ⟨_, rfl⟩
        obtain ⟨q2, hq2⟩ : ∃ q, K.o.length = q := ⟨_, rfl⟩
        rw [hq0, hq1, hq2] at hsg
        rw [hq0, hq1, hq2]
        have hq := HSD.out.graft3 hsg OE_own OI_own OI_own
        rw [hxb] at hq
        have HS5 := Lib.hid hq
        have HX := Lib.hid hx
        have X1 := Lib.hid (HBM.out _ _ hq (by simp))
        clear hq hx hsg hq0 hq1 hq2 HCC
        refine hK.out _ _ (by exact X1.out) (by exact fun _ => trivial) ?_
        clear hK KK
        try simp only [Act.put, List.setIfInBounds_toArray, List.set_cons_zero, List.set_cons_succ]
        have hz := Sep.blk (A := [_, _, _]) (B := [_]) HS5.out
        obtain ⟨k0, k1, k2, k3, k4, k5, k6, k7⟩ := gq4 hz.hd
        have hz2 := (((hz.setB 0 (.int .i64 K.n)).setB 1 (.slice t0 q0 v0)).setB 2 (.slice t1 q1 v1)).setB 3 (.slice t2 q2 v2)
        have HS6 := Lib.hid hz2
        have X5 := Lib.hid (HBM.out _ _ hz2 (by simp))
        clear hz hz2
        refine AnyL.step (i := 10) (by kernel_rfl) (by rfl) (fun KK hK => ?_)
        go_simp
        refine hK.out _ ((((w5.setCell ⟨xb, 0, none⟩ (.int .i64 K.n)).setCell ⟨xb, 1, none⟩ (.slice t0 q0 v0)).setCell ⟨xb, 2, none⟩ (.slice t1 q1 v1)).setCell ⟨xb, 3, none⟩ (.slice t2 q2 v2)) (by exact X5.out) (by exact fun _ => trivial) ?_
        clear hK KK
        try simp only [Act.put, List.setIfInBounds_toArray, List.set_cons_zero, List.set_cons_succ]
        refine AnyL.done (by kernel_rfl) ?_ _
        clear k0 k1 k2 k3 k4 k5 k6 k7
        generalize (((w5.setCell ⟨xb, 0, none⟩ (.int .i64 K.n)).setCell ⟨xb, 1, none⟩ (.slice t0 q0 v0)).setCell ⟨xb, 2, none⟩ (.slice t1 q1 v1)).setCell ⟨xb, 3, none⟩ (.slice t2 q2 v2) = w6 at *
        have ht1 := (Sep.blk (A := [_, _, _, _, _]) (B := [_]) HS6.out).cutR (k := m) HLEN.out.symm HMM.out.2.2
        have htk : (ys0 ++ [yA, yB]).take m = ys0 := by rw [← HM0.out, List.take_left]
        rw [htk] at ht1
        have hrg : rowsG (ys0 ++ [yA, yB]) = rowsG ys0 ++ rowsG [yA, yB] := by simp [rowsG]
        rw [hrg] at ht1
        have ht2 := Sep.cutRows (Sep.blk (A := [_, _, _, _, _, _]) (B := [_]) ht1)
        have HT := Lib.hid (Sep.blk (A := [_, _]) (B := [_, _, _, _]) ht2)
        have HT0 := Lib.hid (Sep.blk3 (X := [_, _, _, _]) (A := [_]) (B := [_]) HT.out)
        clear ht1 ht2 htk hrg HT HBM HSG
        have HT := HT0
        clear HT0
        go_upto_region 15 with fail
        obtain ⟨k0, k1, k2, k3, _⟩ := gq4 HT.out.hd
        have HIG := Lib.hid (isGraph_any (.slice t0 q0 v0) (.slice t1 q1 v1) (.slice t2 q2 v2) K w6 (by rw [← HX.out]; exact OE.read HT.out.tl.hd) (show OwnInts 0 w6 _ K.i from HT.out.tl.tl.hd).read (show OwnInts 0 w6 _ K.o from HT.out.tl.tl.tl.hd).read (HKL.out.1) (HKL.out.2.1) (HKL.out.2.2))
        unfold grV at HIG
        cases hgb : grB K
        · rw [hgb] at HIG
          obtain rfl : b = false := by
            rw [← HB.out]
            have hbad := prun_bad HP2.out (show ((Tr.par A B) :: S3).all Tr.gB = false from by
              have : ((Tr.par A B)).gB = false := by
                cases hq : ((Tr.par A B)).gB with
                | false => rfl
                | true =>
                  have := (Tr.g_ok (t := (Tr.par A B)) HOK.out hq).1
                  rw [HKG.out, hgb] at this; cases this
              rw [List.all_cons, this]; rfl) n [t] HLT.out HTT.out
            simpa using hbad
          go_wp2_with (
            go_at_call 50
            with_reducible refine HIG.out.mono ?_
            rintro e w9 ⟨rfl, hg⟩
            have hz0 := Sep.blk (A := [_, _, _, _, _, _, _]) (B := [_]) (HT.out.grown hg)
            obtain ⟨y0, y1, y2, y3, f0, f1, f2, f3⟩ := gq4 hz0.hd
            have hz1 := (((hz0.setB 0 (.int .i64 0)).setB 1 (.slice none 0 0)).setB 2 (.slice none 0 0)).setB 3 (.slice none 0 0)
            obtain ⟨l0, l1, l2, l3, _⟩ := gq4 hz1.hd
            have HKF := Lib.hid (show w.grownBy _ none from Sep.all hz1 (KeepA w) (by simp))
            clear hg hz0 hz1 k0 k1 k2 k3)
          refine bodyPost_ret_by (v := .tuple #[.agg #[.int .i64 0, .slice none 0 0, .slice none 0 0, .slice none 0 0], .bool false]) ?_ rfl (MadeR.zero HKF.out)
          simp [results, go_sem, *]
        · rw [hgb] at HIG
          go_upto_region 17 with (
            go_at_call 50
            with_reducible refine HIG.out.mono ?_
            rintro e w9 ⟨rfl, hg⟩
            have HT2 := Lib.hid (Sep.blk (A := [_, _, _, _]) (B := [_]) (HT.out.grown hg))
            clear hg k0 k1 k2 k3
            obtain ⟨k0, k1, k2, k3, _⟩ := gq4 HT2.out.tl.hd)
          go_wp2_with (
            at_builtin
            go_loud (
            refine app_R (E := graphE) (y := ⟨K.n, .slice t0 q0 v0, xs, .slice t1 q1 v1, K.i, .slice t2 q2 v2, K.o⟩) info_graph rfl (by decide) Tryz.underlying26 (graph_oneT _ _ _ _ _ _ _ _ _ _ _ _ _) rfl (.tmp 60) (.tmp 62) rfl rfl rfl rfl HT2.out HYS.out.2 ?_
            intro g5 c5 w10 h5
            rw [HYS.out.1] at h5
            try rw [HYS.out.1]
            have h6 := Sep.addRows (Sep.cutA (X := [_]) (A := [_]) h5)
            have h7 := Sep.cutA (X := [_, _]) (A := [_]) h6
            rw [← show rowsG (ys0 ++ [⟨K.n, .slice t0 q0 v0, xs, .slice t1 q1 v1, K.i, .slice t2 q2 v2, K.o⟩]) = rowsG ys0 ++ [OE (.slice t0 q0 v0) xs, OI (.slice t1 q1 v1) K.i, OI (.slice t2 q2 v2) K.o] from rowsG_snoc _ _] at h7
            have HS9 := Lib.hid (show Sep w10 [OR graphE (.slice (some ⟨g5, 0, none⟩) (m + 1) c5) (ys0 ++ [⟨K.n, .slice t0 q0 v0, xs, .slice t1 q1 v1, K.i, .slice t2 q2 v2, K.o⟩]), Bag (rowsG (ys0 ++ [⟨K.n, .slice t0 q0 v0, xs, .slice t1 q1 v1, K.i, .slice t2 q2 v2, K.o⟩])), BxA (w.heap.size + 1) #[.int .i64 0, .slice none 0 0, .slice none 0 0, .slice none 0 0] 30, BxA w.heap.size #[.slice (some ⟨nb, no, none⟩) n nc] 37, KeepA w] from h7)
            clear h5 h6 h7 k0 k1 k2 k3))
          go_roundw
          case rel => exact ⟨i + 1, (Tr.par A B) :: S3, ys0 ++ [⟨K.n, .slice t0 q0 v0, xs, .slice t1 q1 v1, K.i, .slice t2 q2 v2, K.o⟩], by have := HLT.out; omega, by go_num, HP2.out, (by rw [List.all_cons, HAL3.out, Bool.and_true]; exact HGT.out hgb), (by rw [gStk_push, ← HS3.out, HKG.out]; unfold grs; rw [List.map_append]; show _ ++ [(⟨K.n, eds xs, K.i, K.o⟩ : Gr)] = _; rw [HX.out]), HS9.out⟩
          case measure => have := HLT.out; simp [intOf]; omega
    · have hin : n = i := by omega
      subst hin
      have hkk : ¬ (n : Int) < (n : Int) := by omega
      obtain rfl : S = [t] := by have := HPR.out.symm.trans HTT.out; injection this
      obtain ⟨y, rfl, hgy⟩ : ∃ y, ys = [y] ∧ y.gr = t.g := by
        have h := HGS.out; have hl := HYL.out
        match ys, hl, h with
        | [y], _, h => exact ⟨y, rfl, by have := h; simp only [grs, gStk, List.map_cons, List.map_nil, List.reverse_cons, List.reverse_nil, List.nil_append, List.cons.injEq, and_true] at this; exact this⟩
      obtain rfl : b = true := by have h := HALL.out; rw [List.all_cons, Bool.and_eq_true] at h; rw [← HB.out]; exact h.1
      obtain rfl : KT = y.gr := by rw [hgy]; exact HKT.out.symm
      have hs := HSQ.out
      simp only [List.length_cons, List.length_nil, Nat.zero_add] at hs ⊢
      obtain ⟨gg, gcp, hge, _, _, hcap⟩ := OwnR.parts (show OwnR graphE 0 _ (.slice sa 1 sc) [y] from hs.hd) (by simp)
      injection hge with hge1 hgl hge2
      subst hge1 hge2
      clear hgl hcap
      obtain ⟨yn, ye, yx, yi, yis, yo, yos⟩ := y
      have hrt := rows_readT (show (Bag (rowsG [_])).holds wr from hs.tl.hd) (y := ⟨yn, ye, yx, yi, yis, yo, yos⟩) (by simp)
      obtain ⟨ea, el, ec, rfl⟩ : ∃ a l c, ye = .slice a l c := by obtain ⟨a, c, h⟩ := hrt.1.shape; exact ⟨a, _, c, h⟩
      obtain ⟨ia, il, ic, rfl⟩ : ∃ a l c, yi = .slice a l c := by obtain ⟨a, c, h⟩ := hrt.2.1.shape; exact ⟨a, _, c, h⟩
      obtain ⟨oa, ol, oc, rfl⟩ : ∃ a l c, yo = .slice a l c := by obtain ⟨a, c, h⟩ := hrt.2.2.shape; exact ⟨a, _, c, h⟩
      clear hrt
      obtain ⟨c0, c1, c2, c3⟩ := OwnR.graphC (show OwnR graphE 0 _ _ [_] from hs.hd) rfl (i := 0) (by simp) rfl
      simp only [Nat.zero_mul, Nat.zero_add] at c0 c1 c2 c3
      have hz := Sep.blk (A := [_, _]) (B := [_]) hs
      obtain ⟨k0, k1, k2, k3, k4, k5, k6, k7⟩ := gq4 hz.hd
      have hz2 := (((hz.setB 0 (.int .i64 yn)).setB 1 (.slice ea el ec)).setB 2 (.slice ia il ic)).setB 3 (.slice oa ol oc)
      obtain ⟨l0, l1, l2, l3, _⟩ := gq4 hz2.hd
      have hb := Sep.unbag (Sep.cutA (X := []) (A := [_, _]) hz2)
      have HSF := Lib.hid (Sep.cutA (X := [_, _, _]) (A := [_]) (show Sep _ ([OE _ yx, OI _ yis] ++ ([OI _ yos] ++ _)) from hb))
      clear hs hz hz2 hb hgy
      go_wp2_with fail
      refine bodyPost_ret_by (v := .tuple #[.agg #[.int .i64 yn, .slice ea el ec, .slice ia il ic, .slice oa ol oc], .bool true]) ?_ rfl ⟨_, yx, _, _, rfl, rfl, HSF.out⟩
      simp [results, go_sem, *]
end Go.Proofs.YtjagjhchnpmngaaGreatDoor

/-
  Leaves, in the reference: are they well made; how many wires they have. Conditions: none.
-/
namespace Go.Proofs.YtjagjhchnpmngaaGreatDoor
open Go.RowKit
set_option linter.unusedVariables false
set_option linter.unusedSimpArgs false
set_option maxRecDepth 100000

theorem leafS_name (k v : Int) (s : ByteArray) (w : World) (hs : s ≠ noS) : Calls Tryz.prog 82 #[.agg #[.int .i64 k, .int .i64 v, .string s]] w fun e w' => e = .returned (.bool false) ∧ w.grownBy w' none := by
  have hs0 := (Sep.start w).boxAt w.heap.size rfl #[.int .i64 k, .int .i64 v, .string s] 66
  obtain ⟨x0, x1, x2⟩ := bw3 hs0.hd
  have HKF := Lib.hid (show w.grownBy _ none from hs0.tl.hd)
  have hs1 := ba_ne hs
  clear hs0
  go_enter Tryz.func82, Tryz.ntmps82
  go_wp2_with fail
  go_ret
  exact ⟨rfl, HKF.out⟩
theorem leafS_out (k v : Int) (w : World) (hk : ¬ (1 ≤ k ∧ k ≤ 14)) : Calls Tryz.prog 82 #[.agg #[.int .i64 k, .int .i64 v, .string noS]] w fun e w' => e = .returned (.bool false) ∧ w.grownBy w' none := by
  have hs0 := (Sep.start w).boxAt w.heap.size rfl #[.int .i64 k, .int .i64 v, .string noS] 66
  obtain ⟨x0, x1, x2⟩ := bw3 hs0.hd
  have HKF := Lib.hid (show w.grownBy _ none from hs0.tl.hd)
  have HA := Lib.hid fun W => l1In_any k 1 14 W
  rw [decide_eq_false hk] at HA
  clear hs0 hk
  go_enter Tryz.func82, Tryz.ntmps82
  go_wp2_with (go_at_call 34; with_reducible refine (HA.out _).mono ?_; rintro e w3 ⟨rfl, rfl⟩)
  go_ret
  exact ⟨rfl, HKF.out⟩
theorem leafS_one (v : Int) (w : World) : Calls Tryz.prog 82 #[.agg #[.int .i64 1, .int .i64 v, .string noS]] w fun e w' => e = .returned (.bool (decide (0 ≤ v ∧ v ≤ 12))) ∧ w.grownBy w' none := by
  have hs0 := (Sep.start w).boxAt w.heap.size rfl #[.int .i64 1, .int .i64 v, .string noS] 66
  obtain ⟨x0, x1, x2⟩ := bw3 hs0.hd
  have HKF := Lib.hid (show w.grownBy _ none from hs0.tl.hd)
  have HA := Lib.hid fun W => l1In_any 1 1 14 W
  rw [decide_eq_true (show (1 : Int) ≤ 1 ∧ (1 : Int) ≤ 14 by omega)] at HA
  have HB := Lib.hid fun W => l1In_any v 0 12 W
  generalize decide (0 ≤ v ∧ v ≤ 12) = b at *
  clear hs0
  go_enter Tryz.func82, Tryz.ntmps82
  go_wp2_with (first
    | (go_at_call 34; with_reducible refine (HA.out _).mono ?_; rintro e w3 ⟨rfl, rfl⟩)
    | (go_at_call 34; with_reducible refine (HB.out _).mono ?_; rintro e w3 ⟨rfl, rfl⟩))
  go_ret
  exact ⟨rfl, HKF.out⟩
theorem leafS_two (v : Int) (w : World) : Calls Tryz.prog 82 #[.agg #[.int .i64 2, .int .i64 v, .string noS]] w fun e w' => e = .returned (.bool (decide (v = 0))) ∧ w.grownBy w' none := by
  have hs0 := (Sep.start w).boxAt w.heap.size rfl #[.int .i64 2, .int .i64 v, .string noS] 66
  obtain ⟨x0, x1, x2⟩ := bw3 hs0.hd
  have HKF := Lib.hid (show w.grownBy _ none from hs0.tl.hd)
  have HA := Lib.hid fun W => l1In_any 2 1 14 W
  rw [decide_eq_true (show (1 : Int) ≤ 2 ∧ (2 : Int) ≤ 14 by omega)] at HA
  have hd : (v == 0) = decide (v = 0) := by by_cases h : v = 0 <;> simp [h]
  generalize decide (v = 0) = b at *
  clear hs0
  go_enter Tryz.func82, Tryz.ntmps82
  go_wp2_with (go_at_call 34; with_reducible refine (HA.out _).mono ?_; rintro e w3 ⟨rfl, rfl⟩)
  go_ret
  exact ⟨rfl, HKF.out⟩
theorem leafS_any (n : Nd) (w : World) : Calls Tryz.prog 82 #[.agg #[.int .i64 n.k, .int .i64 n.v, .string n.s]] w fun e w' => e = .returned (.bool (lfB n)) ∧ w.grownBy w' none := by
  by_cases hs : n.s = noS
  · by_cases h1 : n.k = 1
    · rw [lfB_one hs h1, hs, h1]
      exact leafS_one n.v w
    · by_cases h2 : n.k = 2
      · rw [lfB_two hs h2, hs, h2]
        exact leafS_two n.v w
      · cases hk : inB n.k 3 14
        · rw [lfB_no h1 h2 hk, hs]
          exact leafS_out n.k n.v w (fun h => by
            have h3 : inB n.k 3 14 = true := inB_iff.2 (by omega)
            rw [hk] at h3; cases h3)
        · rw [lfB_gen hs hk, hs]
          exact tmLeaf_any n.k n.v w hk
  · rw [lfB_name hs]
    exact leafS_name n.k n.v n.s w hs
theorem kind_two (w : World) : Calls Tryz.prog 61 #[.int .i64 2] w fun e w' => e = .returned (.tuple #[.int .i64 2, .int .i64 2]) ∧ w' = w := by
  go_enter Tryz.func61, Tryz.ntmps61
  go_wp2_with fail
  refine bodyPost_ret_by (v := .tuple #[.int .i64 _, .int .i64 _]) ?_ rfl ⟨rfl, rfl⟩
  simp [results, go_sem, *]
theorem kind_name (w : World) : Calls Tryz.prog 61 #[.int .i64 17] w fun e w' => e = .returned (.tuple #[.int .i64 1, .int .i64 1]) ∧ w' = w := by
  go_enter Tryz.func61, Tryz.ntmps61
  go_wp2_with fail
  refine bodyPost_ret_by (v := .tuple #[.int .i64 _, .int .i64 _]) ?_ rfl ⟨rfl, rfl⟩
  simp [results, go_sem, *]
theorem ari_one (v : Int) (s : ByteArray) (w : World) : Calls Tryz.prog 83 #[.agg #[.int .i64 1, .int .i64 v, .string s]] w fun e w' => e = .returned (.tuple #[.int .i64 v, .int .i64 v]) ∧ w.grownBy w' none := by
  have hs0 := (Sep.start w).boxAt w.heap.size rfl #[.int .i64 1, .int .i64 v, .string s] 66
  obtain ⟨x0, x1, x2⟩ := bw3 hs0.hd
  have HS0 := Lib.hid hs0
  clear hs0
  go_enter Tryz.func83, Tryz.ntmps83
  go_upto_region 2 with fail
  generalize w.alloc (.cells #[.int .i64 1, .int .i64 v, .string s] 66) = w4 at *
  have X1 := Lib.hid x1
  refine AnyL.start (fun W1 => W1.cell? ⟨w.heap.size, 1, none⟩ = some (.int .i64 v)) (fun _ => True) 99 (by kernel_rfl) ?_
  have Y1 := Lib.hid (show w4.drew.cell? ⟨w.heap.size, 1, none⟩ = some (.int .i64 v) from X1.out)
  have HKD := Lib.hid (show w.grownBy w4.drew none from HS0.out.dr.tl.hd)
  generalize w4.drew = w5 at *
  refine AnyL.take (i := 0) (v := ?vx1) (by rfl) (by kernel_rfl) (by kernel_rfl) (by kernel_rfl) rfl (by exact fun _ _ _ h => h) (by rfl) ?hyx1 (by exact ⟨Y1.out, fun _ => trivial⟩) ?restx1
  case hyx1 => intro W hSW; (try dsimp only at hSW); first | (go_simp; done) | (go_simp; with_reducible rfl)
  try simp only [Act.put, List.setIfInBounds_toArray, List.set_cons_zero, List.set_cons_succ]
  refine AnyL.take (i := 1) (v := ?vx2) (by rfl) (by kernel_rfl) (by kernel_rfl) (by kernel_rfl) rfl (by exact fun _ _ _ h => h) (by rfl) ?hyx2 (by exact ⟨Y1.out, fun _ => trivial⟩) ?restx2
  case hyx2 => intro W hSW; (try dsimp only at hSW); first | (go_simp; done) | (go_simp; with_reducible rfl)
  try simp only [Act.put, List.setIfInBounds_toArray, List.set_cons_zero, List.set_cons_succ]
  refine AnyL.take (i := 2) (v := ?vx3) (by rfl) (by kernel_rfl) (by kernel_rfl) (by kernel_rfl) rfl (by exact fun _ _ _ h => h) (by rfl) ?hyx3 (by exact ⟨Y1.out, fun _ => trivial⟩) ?restx3
  case hyx3 => intro W hSW; (try dsimp only at hSW); first | (go_simp; done) | (go_simp; with_reducible rfl)
  try simp only [Act.put, List.setIfInBounds_toArray, List.set_cons_zero, List.set_cons_succ]
  refine AnyL.take (i := 3) (v := ?vx4) (by rfl) (by kernel_rfl) (by kernel_rfl) (by kernel_rfl) rfl (by exact fun _ _ _ h => h) (by rfl) ?hyx4 (by exact ⟨Y1.out, fun _ => trivial⟩) ?restx4
  case hyx4 => intro W hSW; (try dsimp only at hSW); first | (go_simp; done) | (go_simp; with_reducible rfl)
  try simp only [Act.put, List.setIfInBounds_toArray, List.set_cons_zero, List.set_cons_succ]
  refine AnyL.take (i := 4) (v := ?vx5) (by rfl) (by kernel_rfl) (by kernel_rfl) (by kernel_rfl) rfl (by exact fun _ _ _ h => h) (by rfl) ?hyx5 (by exact ⟨Y1.out, fun _ => trivial⟩) ?restx5
  case hyx5 => intro W hSW; (try dsimp only at hSW); first | (go_simp; done) | (go_simp; with_reducible rfl)
  try simp only [Act.put, List.setIfInBounds_toArray, List.set_cons_zero, List.set_cons_succ]
  refine AnyL.take (i := 5) (v := ?vx6) (by rfl) (by kernel_rfl) (by kernel_rfl) (by kernel_rfl) rfl (by exact fun _ _ _ h => h) (by rfl) ?hyx6 (by exact ⟨Y1.out, fun _ => trivial⟩) ?restx6
  case hyx6 => intro W hSW; (try dsimp only at hSW); first | (go_simp; done) | (go_simp; with_reducible rfl)
  try simp only [Act.put, List.setIfInBounds_toArray, List.set_cons_zero, List.set_cons_succ]
  refine AnyL.done (by kernel_rfl) ?_ _
  go_wp2_with fail
  refine bodyPost_ret_by (v := .tuple #[.int .i64 v, .int .i64 v]) ?_ rfl ⟨rfl, HKD.out⟩
  simp [results, go_sem, *]
/-- What the arity's call hands back. -/
theorem ari_other (k v p q : Int) (s : ByteArray) (w : World) (hk : k ≠ 1) (hc : ∀ W, Calls Tryz.prog 61 #[.int .i64 k] W fun e w' => e = .returned (.tuple #[.int .i64 p, .int .i64 q]) ∧ w' = W) : Calls Tryz.prog 83 #[.agg #[.int .i64 k, .int .i64 v, .string s]] w fun e w' => e = .returned (.tuple #[.int .i64 p, .int .i64 q]) ∧ w.grownBy w' none := by
  have hs0 := (Sep.start w).boxAt w.heap.size rfl #[.int .i64 k, .int .i64 v, .string s] 66
  obtain ⟨x0, x1, x2⟩ := bw3 hs0.hd
  have HKF := Lib.hid (show w.grownBy _ none from hs0.tl.hd)
  have HC := Lib.hid hc
  have hk1 : (k == 1) = false := by simpa using hk
  clear hs0 hk hc
  go_enter Tryz.func83, Tryz.ntmps83
  go_wp2_with (go_at_call 61; with_reducible refine (HC.out _).mono ?_; rintro e w3 ⟨rfl, rfl⟩)
  refine bodyPost_ret_by (v := .tuple #[.int .i64 p, .int .i64 q]) ?_ rfl ⟨rfl, HKF.out⟩
  simp [results, go_sem, *]
theorem ari_any (n : Nd) (w : World) (h : lfB n = true) : Calls Tryz.prog 83 #[.agg #[.int .i64 n.k, .int .i64 n.v, .string n.s]] w fun e w' => e = .returned (.tuple #[.int .i64 (lfTy n).1, .int .i64 (lfTy n).2]) ∧ w.grownBy w' none := by
  by_cases h1 : n.k = 1
  · rw [show lfTy n = (n.v, n.v) from if_pos h1, h1]
    exact ari_one n.v n.s w
  · by_cases h2 : n.k = 2
    · rw [show lfTy n = (2, 2) from (if_neg h1).trans (if_pos h2), h2]
      exact ari_other 2 n.v 2 2 n.s w (by decide) kind_two
    · have hk : inB n.k 3 14 = true := by
        unfold lfB lfV at h
        rw [if_neg h1, if_neg h2, Bool.and_eq_true, Bool.and_eq_true] at h
        exact h.2.1
      rw [lfTy_gen hk]
      exact ari_other n.k n.v _ _ n.s w h1 (fun W => tmKind_any n.k W hk)
theorem find_nil (s : ByteArray) (w : World) : Calls Tryz.prog 84 #[.slice none 0 0, .string s] w fun e w' => e = .returned (.int .i64 (-1)) ∧ w.grownBy w' none := by
  go_enter Tryz.func84, Tryz.ntmps84
  go_wp2_with fail
  go_loopw [5, 6, 9] (fun _ _ s9 wr => s9 = .int .i64 0 ∧ w.grownBy wr none) (fun _ _ _ _ => 0)
  case atStart => exact ⟨rfl, grownBy_refl _ _⟩
  case round =>
    obtain ⟨rfl, hg⟩ := hrel
    have HG := Lib.hid hg
    clear hg
    go_wp2_with fail
    go_ret
    exact ⟨rfl, HG.out⟩
end Go.Proofs.YtjagjhchnpmngaaGreatDoor

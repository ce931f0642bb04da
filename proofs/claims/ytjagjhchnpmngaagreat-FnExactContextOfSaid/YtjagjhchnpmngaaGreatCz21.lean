/-
 The graph of a term, in the program. Conditions: it is a term.
-/
import Derived.Test.YtjagjhchnpmngaaGreatCz05
import Derived.Test.YtjagjhchnpmngaaGreatCz04
import Derived.Test.YtjagjhchnpmngaaGreatCz03
import Derived.Test.YtjagjhchnpmngaaGreatCz02
import Derived.Test.YtjagjhchnpmngaaGreatCz01
import Derived.Test.YtjagjhchnpmngaaGreatCz00
import Derived.Test.YtjagjhchnpmngaaGreatCz18
import Derived.Test.YtjagjhchnpmngaaGreatCz19
import Derived.Test.YtjagjhchnpmngaaGreatCz20
import Derived.Test.YtjagjhchnpmngaaGreatCz06
set_option linter.unusedVariables false
set_option linter.unusedSimpArgs false
set_option maxRecDepth 100000
namespace Go.Proofs.YtjagjhchnpmngaaGreat
open Go.RowKit
theorem graph_oneT (n : Int) (a1 : Option Addr) (n1 c1 : Nat) (xs : List XE) (a2 : Option Addr) (n2 c2 : Nat) (is : List Int) (a3 : Option Addr) (n3 c3 : Nat) (os : List Int) :
 ∀ u ∈ graphE.cs ⟨n, .slice a1 n1 c1, xs, .slice a2 n2 c2, is, .slice a3 n3 c3, os⟩, u.oneCell' = true := by
 intro u hu
 simp only [graphE, graphC, List.mem_cons, List.not_mem_nil, or_false] at hu
 rcases hu with rfl | rfl | rfl | rfl <;> rfl
def MadeR (b : Bool) (K : Gr) (w : World) (e : Ending) (w' : World) : Prop :=
 ∃ u0 xs u1 u2, e = .returned (.tuple #[grV (if b = true then K else gr0).n u0 u1 u2, .bool b]) ∧ eds xs = (if b = true then K else gr0).es ∧ Sep w' [OE u0 xs, OI u1 (if b = true then K else gr0).i, OI u2 (if b = true then K else gr0).o, KeepA w]
theorem Sep.nilGT {w : World} {l : List Asrt} (h : Sep w l) : Sep w (OE nilS [] :: OI nilS [] :: OI nilS [] :: l) := Sep.bag (l := [OR edgeE nilS []]) (Sep.nilR edgeE h.nilI.nilI)
theorem MadeR.zero {K : Gr} {w w' : World} (h : w.grownBy w' none) : MadeR false K w (.returned (.tuple #[.agg #[.int .i64 0, .slice none 0 0, .slice none 0 0, .slice none 0 0], .bool false])) w' :=
 ⟨_, [], _, _, rfl, rfl, Sep.nilGT ((Sep.start w).grown h)⟩
def gStk (S : List Tr) : List Gr := (S.map Tr.g).reverse
theorem gStk_push (T : Tr) (S : List Tr) : gStk (T :: S) = gStk S ++ [T.g] := by simp [gStk]
theorem gStk_len (S : List Tr) : (gStk S).length = S.length := by simp [gStk]
theorem split2 {ys : List XG} {A B : Tr} {R : List Tr} (h : grs ys = gStk (B :: A :: R)) : ∃ ys0 yA yB, ys = ys0 ++ [yA, yB] ∧ grs ys0 = gStk R ∧ yA.gr = A.g ∧ yB.gr = B.g := by
 rw [gStk_push, gStk_push, List.append_assoc] at h
 unfold grs at h ⊢
 obtain ⟨ys0, t, rfl, h1, h2⟩ := List.map_eq_append_iff.1 h
 have hl : t.length = 2 := by have := congrArg List.length h2; simpa using this
 match t, hl, h2 with
 | [yA, yB], _, h2 =>
  simp only [List.map_cons, List.map_nil, List.singleton_append, List.cons.injEq, and_true] at h2
  exact ⟨ys0, yA, yB, rfl, h1, h2.1, h2.2⟩
theorem rows_readT {w : World} {ys : List XG} (h : (Bag (rowsG ys)).holds w) {y : XG} (hy : y ∈ ys) : RdE edgeE w y.ev y.gr.es ∧ IntsV w y.iv y.gr.i ∧ IntsV w y.ov y.gr.o := by
 have ha := Sep.all (show Sep w (rowsG ys) from h)
 have hm : ∀ A ∈ [OE y.ev y.xs, OI y.iv y.is, OI y.ov y.os], A.holds w := fun A hA => ha A (List.mem_flatMap.2 ⟨y, hy, hA⟩)
 exact ⟨OE.read (hm (OE y.ev y.xs) (by simp)), OwnInts.read (show OwnInts 0 w y.iv y.is from hm (OI y.iv y.is) (by simp)), OwnInts.read (show OwnInts 0 w y.ov y.os from hm (OI y.ov y.os) (by simp))⟩
theorem Sep.cutRows {w : World} {A B l : List Asrt} (h : Sep w (Bag (A ++ B) :: l)) : Sep w (Bag A :: l) := by
 have h1 := Sep.unbag h
 rw [List.append_assoc] at h1
 exact Sep.bag (Sep.cutA h1)
theorem Sep.addRows {w : World} {X P Q R : Asrt} {A l : List Asrt} (h : Sep w (X :: P :: Q :: R :: Bag A :: l)) : Sep w (X :: Bag (A ++ [P, Q, R]) :: l) := by
 have h1 : Sep w (Bag A :: P :: Q :: R :: X :: l) := Sep.blk3 (X := [_]) (A := [_]) (B := [_, _, _]) (Sep.blk (A := [_, _, _, _]) (B := [_]) h)
 have h2 : Sep w ((A ++ [P, Q, R]) ++ (X :: l)) := by
  have := Sep.unbag h1
  rw [List.append_assoc]
  exact this
 exact (Sep.bag h2).s2
theorem OwnR.graphC {w : World} {g n c : Nat} {ys : List XG} (h : OwnR graphE 0 w (.slice (some ⟨g, 0, none⟩) n c) ys) (hn : n = ys.length) {i : Nat} {y : XG} (hi : i < ys.length) (hy : ys[i] = y) :
 w.cell? ⟨g, i * 4, none⟩ = some (.int .i64 y.n) ∧ w.cell? ⟨g, i * 4 + 1, none⟩ = some y.ev ∧ w.cell? ⟨g, i * 4 + 2, none⟩ = some y.iv ∧ w.cell? ⟨g, i * 4 + 3, none⟩ = some y.ov := by
 subst hy
 exact ⟨OwnR.cell h hn hi (j := 0) (by decide), OwnR.cell h hn hi (j := 1) (by decide), OwnR.cell h hn hi (j := 2) (by decide), OwnR.cell h hn hi (j := 3) (by decide)⟩
set_option maxHeartbeats 16000000 in
theorem graphOf_any (nv : Value) (ns : List Nd) (t : Tr) (w : World) (hn : RdR nodeE w nv ns) (ht : prun ns ns.length = some [t]) (h1 : 1 ≤ ns.length) (h4 : ns.length ≤ 400) :
 Calls Tryz.prog 109 #[.agg #[nv]] w (MadeR t.gB t.g w) := by
 have HN := qd hn
 obtain ⟨na, nc, rfl⟩ := hn.shape
 obtain ⟨n, hnl⟩ : ∃ n, ns.length = n := ⟨_, rfl⟩
 have HNL := qd hnl
 rw [hnl] at ht h1 h4 ⊢
 have HTT := qd ht
 obtain ⟨b, hb⟩ : ∃ b, t.gB = b := ⟨_, rfl⟩
 obtain ⟨KT, hkt⟩ : ∃ K, t.g = K := ⟨_, rfl⟩
 rw [hb, hkt]
 have HB := qd hb; have HKT := qd hkt
 clear hn hnl ht hb hkt
 have HLG := qd fun (nd : Nd) (h : lfB nd = true) W => leafGraph_any nd W h
 have hs0 := ((Sep.start w).boxAt w.heap.size rfl #[.slice na n nc] 44).boxAt (w.heap.size + 1) (by simp) #[.int .i64 0, .slice none 0 0, .slice none 0 0, .slice none 0 0] 38
 have HS0 := qd hs0
 have x0 := bw1 hs0.tl.hd
 clear hs0
 have HS1 := qd (show Sep ((w.alloc _ |>.alloc _).alloc (.cells #[] 38)) [OR graphE (.slice (some ⟨w.heap.size + 1 + 1, 0, none⟩) 0 0) [], Bag (rowsG []), BxA (w.heap.size + 1) #[.int .i64 0, .slice none 0 0, .slice none 0 0, .slice none 0 0] 38, BxA w.heap.size #[.slice na n nc] 44, KeepA w] from (Sep.bag (l := []) (r := [_, _, _, _]) (Sep.emptyRT graphE HS0.out (w.heap.size + 1 + 1) (by simp))).s2)
 go_enter Tryz.func109, Tryz.ntmps109
 go_upto_region 3 with fail
 clear x0
 go_loopw [4, 6, 7, 8, 13] (fun s4 _ _ _ s13 wr => ∃ (i : Nat) (S : List Tr) (ys : List XG), i ≤ n ∧ s13 = .int .i64 i ∧ prun ns i = some S ∧ S.all Tr.gB = true ∧ grs ys = gStk S ∧ Sep wr [OR graphE s4 ys, Bag (rowsG ys), BxA (w.heap.size + 1) #[.int .i64 0, .slice none 0 0, .slice none 0 0, .slice none 0 0] 38, BxA w.heap.size #[.slice na n nc] 44, KeepA w]) (fun _ _ _ _ s13 _ => n - (intOf s13).toNat)
 case atStart => exact ⟨0, [], [], by omega, rfl, rfl, rfl, rfl, HS1.out⟩
 case round =>
  obtain ⟨i, S, ys, hi, rfl, hpr, hall, hgs, hs⟩ := hrel
  obtain ⟨sa, sc, rfl⟩ := OwnR.shape (show OwnR graphE 0 wr _ ys from hs.hd)
  have hyl : ys.length = S.length := by rw [← gStk_len, ← hgs, grs_len]
  have HYL := qd hyl
  rw [hyl] at hs ⊢
  have HSQ := qd hs; have HPR := qd hpr; have HALL := qd hall; have HGS := qd hgs
  have hcn := prun_cnt i S hpr
  clear hs hpr hall hgs hyl HS1
  by_cases hlt : i < n
  ·have hke : i < ns.length := by rw [HNL.out]; exact hlt
   have hji : (i : Int) < (n : Int) := by omega
   have HKE := qd hke
   have HLT := qd hlt
   obtain ⟨nb, no, rfl, _, q0, q1, q2⟩ := (HN.out.carry HSQ.out.tl.tl.tl.tl.hd).node rfl rfl hke
   obtain ⟨y, hy⟩ : ∃ y, ns.getD i nd0 = y := ⟨_, rfl⟩
   have HY := qd hy
   rw [hy] at q0 q1 q2
   clear hy hke
   obtain ⟨k, v, s⟩ := y
   simp only at q0 q1 q2
   have hs2 := (HSQ.out.boxAt wr.heap.size rfl #[.int .i64 k, .int .i64 v, .string s] 145).boxAt (wr.heap.size + 1) (by simp) #[.int .i64 0, .slice none 0 0, .slice none 0 0, .slice none 0 0] 38
   have HS2 := qd hs2
   obtain ⟨z0, z1, z2⟩ := bw3 hs2.tl.hd
   clear hs2
   obtain ⟨S2, hS2⟩ : ∃ S2, prun ns (i + 1) = some S2 := prun_back HTT.out (by omega)
   have HP2 := qd hS2
   have hst := prun_succ (ns := ns) HPR.out
   rw [hS2, HY.out] at hst
   clear hS2
   rcases pstep_cases hst.symm with ⟨hl1, hop, rfl⟩ | ⟨A, B, R, rfl, hnd, hty, rfl⟩ | ⟨A, B, R, rfl, hnd, hty, rfl⟩
   ·simp only at hop
    have h15 : (k == 15) = false := by simp; omega
    have h16 : (k == 16) = false := by simp; omega
    have HLL := qd fun W => HLG.out ⟨k, v, s⟩ hl1 W
    obtain ⟨K, hK⟩ : ∃ K, leafG ⟨k, v, s⟩ = K := ⟨_, rfl⟩
    rw [hK] at HLL
    have HKG := qd (show (Tr.leaf ⟨k, v, s⟩).g = K from hK)
    have HGT := qd (show grB K = true → (Tr.leaf ⟨k, v, s⟩).gB = true from fun _ => rfl)
    have HOK := qd (show (Tr.leaf ⟨k, v, s⟩).Ok from hl1)
    have HKL := qd (show K.es.length ≤ 2000000 ∧ K.i.length ≤ 2000000 ∧ K.o.length ≤ 2000000 from by
     obtain ⟨m, _, _, a1, a2, a3, _⟩ := grB_n (leafG_ok hl1).1
     rw [hK] at a1 a2 a3
     exact ⟨by omega, by omega, by omega⟩)
    unfold OwnG grV at HLL
    obtain ⟨S3, hS3⟩ : ∃ S3, S = S3 := ⟨_, rfl⟩
    have HS3 := qd (show grs ys = gStk S3 from by rw [← hS3]; exact HGS.out)
    have HAL3 := qd (show S3.all Tr.gB = true from by rw [← hS3]; exact HALL.out)
    rw [hS3] at HP2
    have hs5 : S.length ≤ 400 := by omega
    have HYS := qd (show ys.length + 1 = S.length + 1 ∧ ys.length ≤ 10000000 from by have := HYL.out; omega)
    clear hst hl1 hop hK hS3 HLG
    obtain ⟨ys0, hys⟩ : ∃ y0, y0 = ys := ⟨_, rfl⟩
    subst hys
    obtain ⟨xb, hxb⟩ : ∃ x, wr.heap.size + 1 = x := ⟨_, rfl⟩
    go_upto_region 15 with (
     go_at_call 142
     with_reducible refine (HLL.out _).mono ?_
     rintro e w5 ⟨u0, xs, u1, u2, rfl, hx, hsg⟩
     obtain ⟨t0, v0, rfl⟩ := OE.shape hsg.hd
     obtain ⟨t1, v1, rfl⟩ := own_shape (show OwnInts 0 _ u1 K.i from hsg.tl.hd)
     obtain ⟨t2, v2, rfl⟩ := own_shape (show OwnInts 0 _ u2 K.o from hsg.tl.tl.hd)
     obtain ⟨q0, hq0⟩ : ∃ q, xs.length = q := ⟨_, rfl⟩
     obtain ⟨q1, hq1⟩ : ∃ q, K.i.length = q := ⟨_, rfl⟩
     obtain ⟨q2, hq2⟩ : ∃ q, K.o.length = q := ⟨_, rfl⟩
     rw [hq0, hq1, hq2] at hsg
     rw [hq0, hq1, hq2]
     have hq := HS2.out.graft3 hsg OE_own OI_own OI_own
     rw [hxb] at hq
     have hz := Sep.blk (A := [_, _, _]) (B := [_]) hq
     obtain ⟨k0, k1, k2, k3, k4, k5, k6, k7⟩ := gq4 hz.hd
     have hz2 := (((hz.setB 0 (.int .i64 K.n)).setB 1 (.slice t0 q0 v0)).setB 2 (.slice t1 q1 v1)).setB 3 (.slice t2 q2 v2)
     obtain ⟨l0, l1, l2, l3, _⟩ := gq4 hz2.hd
     have HT := qd (Sep.blk3 (X := [_, _, _, _]) (A := [_]) (B := [_, _]) hz2)
     have HX := qd hx
     try rw [hxb]
     have HT := qd (Sep.blk3 (X := [_, _, _, _]) (A := [_]) (B := [_, _]) hz2)
     have HX := qd hx
     clear hq hz hz2 hsg hx z0 z1 z2 hq0 hq1 hq2)
    generalize (((w5.setCell ⟨xb, 0, none⟩ (.int .i64 K.n)).setCell ⟨xb, 1, none⟩ (.slice t0 q0 v0)).setCell ⟨xb, 2, none⟩ (.slice t1 q1 v1)).setCell ⟨xb, 3, none⟩ (.slice t2 q2 v2) = w6 at *
    clear k0 k1 k2 k3 k4 k5 k6 k7 l0 l1 l2 l3
    obtain ⟨k0, k1, k2, k3, _⟩ := gq4 HT.out.hd
    have HIG := qd (isGraph_any (.slice t0 q0 v0) (.slice t1 q1 v1) (.slice t2 q2 v2) K w6 (by rw [← HX.out]; exact OE.read HT.out.tl.hd) (show OwnInts 0 w6 _ K.i from HT.out.tl.tl.hd).read (show OwnInts 0 w6 _ K.o from HT.out.tl.tl.tl.hd).read (HKL.out.1) (HKL.out.2.1) (HKL.out.2.2))
    unfold grV at HIG
    cases hgb : grB K
    ·rw [hgb] at HIG
     obtain rfl : b = false := by
      rw [← HB.out]
      have hbad := prun_bad HP2.out (show ((Tr.leaf ⟨k, v, s⟩) :: S3).all Tr.gB = false from by
       have : ((Tr.leaf ⟨k, v, s⟩)).gB = false := by
        cases hq : ((Tr.leaf ⟨k, v, s⟩)).gB with
        | false => rfl
        | true =>
         have := (Tr.g_ok (t := (Tr.leaf ⟨k, v, s⟩)) HOK.out hq).1
         rw [HKG.out, hgb] at this; cases this
       rw [List.all_cons, this]; rfl) n [t] HLT.out HTT.out
      simpa using hbad
     go_wp2_with (
      go_at_call 42
      with_reducible refine HIG.out.mono ?_
      rintro e w9 ⟨rfl, hg⟩
      have hz0 := Sep.blk (A := [_, _, _, _, _, _, _]) (B := [_]) (HT.out.grown hg)
      obtain ⟨y0, y1, y2, y3, f0, f1, f2, f3⟩ := gq4 hz0.hd
      have hz1 := (((hz0.setB 0 (.int .i64 0)).setB 1 (.slice none 0 0)).setB 2 (.slice none 0 0)).setB 3 (.slice none 0 0)
      obtain ⟨l0, l1, l2, l3, _⟩ := gq4 hz1.hd
      have HKF := qd (show w.grownBy _ none from Sep.all hz1 (KeepA w) (by simp))
      clear hg hz0 hz1 k0 k1 k2 k3)
     refine bodyPost_ret_by (v := .tuple #[.agg #[.int .i64 0, .slice none 0 0, .slice none 0 0, .slice none 0 0], .bool false]) ?_ rfl (MadeR.zero HKF.out)
     simp [results, go_sem, *]
    ·rw [hgb] at HIG
     go_upto_region 17 with (
      go_at_call 42
      with_reducible refine HIG.out.mono ?_
      rintro e w9 ⟨rfl, hg⟩
      have HT2 := qd (Sep.blk (A := [_, _, _, _]) (B := [_]) (HT.out.grown hg))
      clear hg k0 k1 k2 k3
      obtain ⟨k0, k1, k2, k3, _⟩ := gq4 HT2.out.tl.hd)
     go_wp2_with (
      at_builtin
      go_loud (
      refine app_R (E := graphE) (y := ⟨K.n, .slice t0 q0 v0, xs, .slice t1 q1 v1, K.i, .slice t2 q2 v2, K.o⟩) info_graph rfl (by decide) Tryz.underlying177 (graph_oneT _ _ _ _ _ _ _ _ _ _ _ _ _) rfl (.tmp 60) (.tmp 62) rfl rfl rfl rfl HT2.out HYS.out.2 ?_
      intro g5 c5 w10 h5
      rw [HYS.out.1] at h5
      try rw [HYS.out.1]
      have h6 := Sep.addRows (Sep.cutA (X := [_]) (A := [_]) h5)
      have h7 := Sep.cutA (X := [_, _]) (A := [_]) h6
      rw [← show rowsG (ys0 ++ [⟨K.n, .slice t0 q0 v0, xs, .slice t1 q1 v1, K.i, .slice t2 q2 v2, K.o⟩]) = rowsG ys0 ++ [OE (.slice t0 q0 v0) xs, OI (.slice t1 q1 v1) K.i, OI (.slice t2 q2 v2) K.o] from rowsG_snoc _ _] at h7
      have HS9 := qd (show Sep w10 [OR graphE (.slice (some ⟨g5, 0, none⟩) (S.length + 1) c5) (ys0 ++ [⟨K.n, .slice t0 q0 v0, xs, .slice t1 q1 v1, K.i, .slice t2 q2 v2, K.o⟩]), Bag (rowsG (ys0 ++ [⟨K.n, .slice t0 q0 v0, xs, .slice t1 q1 v1, K.i, .slice t2 q2 v2, K.o⟩])), BxA (w.heap.size + 1) #[.int .i64 0, .slice none 0 0, .slice none 0 0, .slice none 0 0] 38, BxA w.heap.size #[.slice (some ⟨nb, no, none⟩) n nc] 44, KeepA w] from h7)
      clear h5 h6 h7 k0 k1 k2 k3))
     go_roundw
     case rel => exact ⟨i + 1, (Tr.leaf ⟨k, v, s⟩) :: S3, ys0 ++ [⟨K.n, .slice t0 q0 v0, xs, .slice t1 q1 v1, K.i, .slice t2 q2 v2, K.o⟩], by have := HLT.out; omega, by go_num, HP2.out, (by rw [List.all_cons, HAL3.out, Bool.and_true]; exact HGT.out hgb), (by rw [gStk_push, ← HS3.out, HKG.out]; unfold grs; rw [List.map_append]; show _ ++ [(⟨K.n, eds xs, K.i, K.o⟩ : Gr)] = _; rw [HX.out]), HS9.out⟩
     case measure => have := HLT.out; simp [intOf]; omega
   ·obtain ⟨rfl, rfl, rfl⟩ : k = 15 ∧ v = 0 ∧ s = noS := by injection hnd with a b c; exact ⟨a, b, c⟩
    obtain ⟨ys0, yA, yB, rfl, hg0, hgA, hgB⟩ := split2 HGS.out
    have hoa : A.Ok ∧ B.Ok ∧ (Tr.seq A B).Ok := by
     have hi1 := prun_inv i _ (by rw [HNL.out]; omega) HPR.out
     exact ⟨hi1.ok A (by simp), hi1.ok B (by simp), hi1.ok A (by simp), hi1.ok B (by simp), hty⟩
    have hal := HALL.out
    simp only [List.all_cons, Bool.and_eq_true] at hal
    obtain ⟨halB, halA, halR⟩ := hal
    have gA := Tr.g_ok hoa.1 halA
    have gB := Tr.g_ok hoa.2.1 halB
    have hfit : yA.gr.o.length = yB.gr.i.length := by rw [hgA, hgB]; exact Tr.seq_fit hoa.2.2 halA halB
    obtain ⟨K, hK⟩ : ∃ K, seqG yA.gr yB.gr = K := ⟨_, rfl⟩
    have HKG := qd (show (Tr.seq A B).g = K from by show seqG A.g B.g = K; rw [← hgA, ← hgB]; exact hK)
    have HGT := qd (show grB K = true → (Tr.seq A B).gB = true from fun h => by simp only [Tr.gB, Bool.and_eq_true]; refine ⟨halA, halB, ?_⟩; have := HKG.out; simp only [Tr.g] at this; rw [this]; exact h)
    have HOK := qd hoa.2.2
    have HKL := qd (show K.es.length ≤ 2000000 ∧ K.i.length ≤ 2000000 ∧ K.o.length ≤ 2000000 from by
     rw [← hK, hgA, hgB]
     obtain ⟨m1, _, _, a1, a2, a3, _⟩ := grB_n gA.1
     obtain ⟨m2, _, _, b1, b2, b3, _⟩ := grB_n gB.1
     refine ⟨?_, by rw [(seq_lens _ _).1]; omega, by rw [(seq_lens _ _).2]; omega⟩
     show ((A.g.es ++ B.g.es.map _).map _).length ≤ _
     rw [List.length_map, List.length_append, List.length_map]; omega)
    obtain ⟨S3, hS3⟩ : ∃ S3, R = S3 := ⟨_, rfl⟩
    have HS3 := qd (show grs ys0 = gStk S3 from by rw [← hS3]; exact hg0)
    have HAL3 := qd (show S3.all Tr.gB = true from by rw [← hS3]; exact halR)
    rw [hS3] at HP2
    obtain ⟨m, hm⟩ : ∃ m, ys0.length = m := ⟨_, rfl⟩
    have hRl : R.length = m := by rw [← hm, ← grs_len, hg0, gStk_len]
    have HM0 := qd hm
    simp only [List.length_cons] at HS2 hcn ⊢
    rw [hRl] at HS2 hcn ⊢
    have HYS := qd (show ys0.length + 1 = m + 1 ∧ ys0.length ≤ 10000000 from by omega)
    obtain ⟨m1, hm1⟩ : ∃ x, m + 1 = x := ⟨_, rfl⟩
    rw [hm1] at HS2 hcn ⊢
    obtain ⟨m2, hm2⟩ : ∃ x, m1 + 1 = x := ⟨_, rfl⟩
    rw [hm2] at HS2 hcn ⊢
    have hlen : m2 = (ys0 ++ [yA, yB]).length := by rw [List.length_append]; simp only [List.length_cons, List.length_nil]; omega
    obtain ⟨gg, gcp, hge, _, _, hcap⟩ := OwnR.parts (show OwnR graphE 0 _ (.slice sa m2 sc) (ys0 ++ [yA, yB]) from HS2.out.tl.tl.hd) (by rw [← hlen]; omega)
    injection hge with hge1 hgl hge2
    subst hge1 hge2
    rw [← hlen] at hcap
    clear hgl
    have hwa : IntKind.i64.wrap ((m2 : Int) - 1) = (m1 : Int) := by rw [wrap_id (by omega) (by omega)]; omega
    have hwb : IntKind.i64.wrap ((m1 : Int) - 1) = (m : Int) := by rw [wrap_id (by omega) (by omega)]; omega
    have hb1 : (m : Int) < (m2 : Int) := by omega
    have hb2 : (m1 : Int) < (m2 : Int) := by omega
    have hms : m ≤ sc := by omega
    have HLEN := qd hlen
    have HMM := qd (show m < (ys0 ++ [yA, yB]).length ∧ m1 < (ys0 ++ [yA, yB]).length ∧ m ≤ m2 from by rw [← hlen]; omega)
    have hyA : ∀ h, (ys0 ++ [yA, yB])[m]'h = yA := fun h => by rw [List.getElem_append_right (by omega)]; simp [hm]
    have hyB : ∀ h, (ys0 ++ [yA, yB])[m1]'h = yB := fun h => by rw [List.getElem_append_right (by omega)]; simp [hm, ← hm1]
    have HYA := qd hyA; have HYB := qd hyB
    have HGA := qd (show grB yA.gr = true ∧ grB yB.gr = true from ⟨by rw [hgA]; exact gA.1, by rw [hgB]; exact gB.1⟩)
    have HSG := qd (show ∀ W : World, (Bag (rowsG (ys0 ++ [yA, yB]))).holds W → Calls Tryz.prog 140 #[.agg #[.int .i64 yA.n, yA.ev, yA.iv, yA.ov], .agg #[.int .i64 yB.n, yB.ev, yB.iv, yB.ov]] W (OwnG K W) from fun W h => by rw [← hK]; exact seqGraphs_any yA.gr yB.gr yA.ev yA.iv yA.ov yB.ev yB.iv yB.ov W (rows_readT h (by simp)).1 (rows_readT h (by simp)).2.1 (rows_readT h (by simp)).2.2 (rows_readT h (by simp)).1 (rows_readT h (by simp)).2.1 (rows_readT h (by simp)).2.2 HGA.out.1 HGA.out.2 hfit)
    unfold OwnG grV at HSG
    clear hst hnd hty hgA hgB hoa halA halB halR gA gB hK hS3 hg0 hm hRl hm1 hm2 hlen hcap hyA hyB HLG hcn hfit
    obtain ⟨xb, hxb⟩ : ∃ x, wr.heap.size + 1 = x := ⟨_, rfl⟩
    go_upto_region 10 with fail
    clear z0 z1 z2 q0 q1 q2 HSQ
    generalize (wr.alloc (.cells #[.int .i64 15, .int .i64 0, .string noS] 145)).alloc (.cells #[.int .i64 0, .slice none 0 0, .slice none 0 0, .slice none 0 0] 38) = w4 at *
    have HBM := qd fun (W1 : World) (L : List Asrt) (h : Sep W1 L) (h1 : OR graphE (.slice (some ⟨gg, 0, none⟩) m2 sc) (ys0 ++ [yA, yB]) ∈ L) => show ((W1.cell? ⟨gg, m * 4, none⟩ = some (.int .i64 yA.n) ∧ W1.cell? ⟨gg, m * 4 + 1, none⟩ = some yA.ev ∧ W1.cell? ⟨gg, m * 4 + 2, none⟩ = some yA.iv ∧ W1.cell? ⟨gg, m * 4 + 3, none⟩ = some yA.ov) ∧ (W1.cell? ⟨gg, m1 * 4, none⟩ = some (.int .i64 yB.n) ∧ W1.cell? ⟨gg, m1 * 4 + 1, none⟩ = some yB.ev ∧ W1.cell? ⟨gg, m1 * 4 + 2, none⟩ = some yB.iv ∧ W1.cell? ⟨gg, m1 * 4 + 3, none⟩ = some yB.ov)) from
     have hh : OwnR graphE 0 W1 _ _ := Sep.all h _ h1
     ⟨hh.graphC HLEN.out HMM.out.1 (HYA.out _), hh.graphC HLEN.out HMM.out.2.1 (HYB.out _)⟩
    have HSD := qd HS2.out.dr
    have X0 := qd (HBM.out _ _ HSD.out (by simp))
    refine AnyL.start (fun W1 => ((W1.cell? ⟨gg, m * 4, none⟩ = some (.int .i64 yA.n) ∧ W1.cell? ⟨gg, m * 4 + 1, none⟩ = some yA.ev ∧ W1.cell? ⟨gg, m * 4 + 2, none⟩ = some yA.iv ∧ W1.cell? ⟨gg, m * 4 + 3, none⟩ = some yA.ov) ∧ (W1.cell? ⟨gg, m1 * 4, none⟩ = some (.int .i64 yB.n) ∧ W1.cell? ⟨gg, m1 * 4 + 1, none⟩ = some yB.ev ∧ W1.cell? ⟨gg, m1 * 4 + 2, none⟩ = some yB.iv ∧ W1.cell? ⟨gg, m1 * 4 + 3, none⟩ = some yB.ov))) (fun _ => True) 99 (by kernel_rfl) ?_
    generalize w4.drew = w3 at *
    refine AnyL.tT 0 (by exact X0.out) ?_
    refine AnyL.tT 1 (by exact X0.out) ?_
    refine AnyL.tT 2 (by exact X0.out) ?_
    refine AnyL.tT 3 (by exact X0.out) ?_
    refine AnyL.tT 4 (by exact X0.out) ?_
    refine AnyL.tT 5 (by exact X0.out) ?_
    refine AnyL.tT 6 (by exact X0.out) ?_
    refine AnyL.tT 7 (by exact X0.out) ?_
    refine AnyL.tT 8 (by exact X0.out) ?_
    refine AnyL.step (i := 9) (by kernel_rfl) (by rfl) (fun KK hK => ?_)
    go_simp
    have HCC := qd (HSG.out _ HSD.out.tl.tl.tl.hd)
    go_at_call 140
    with_reducible refine HCC.out.mono ?_
    rintro e w5 ⟨u0, xs, u1, u2, rfl, hx, hsg⟩
    obtain ⟨t0, v0, rfl⟩ := OE.shape hsg.hd
    obtain ⟨t1, v1, rfl⟩ := own_shape (show OwnInts 0 _ u1 K.i from hsg.tl.hd)
    obtain ⟨t2, v2, rfl⟩ := own_shape (show OwnInts 0 _ u2 K.o from hsg.tl.tl.hd)
    obtain ⟨q0, hq0⟩ : ∃ q, xs.length = q := ⟨_, rfl⟩
    obtain ⟨q1, hq1⟩ : ∃ q, K.i.length = q := ⟨_, rfl⟩
    obtain ⟨q2, hq2⟩ : ∃ q, K.o.length = q := ⟨_, rfl⟩
    rw [hq0, hq1, hq2] at hsg
    rw [hq0, hq1, hq2]
    have hq := HSD.out.graft3 hsg OE_own OI_own OI_own
    rw [hxb] at hq
    have HS5 := qd hq
    have HX := qd hx
    have X1 := qd (HBM.out _ _ hq (by simp))
    clear hq hx hsg hq0 hq1 hq2 HCC
    refine hK.out _ _ (by exact X1.out) (by exact fun _ => trivial) ?_
    clear hK KK
    try simp only [Act.put, List.setIfInBounds_toArray, List.set_cons_zero, List.set_cons_succ]
    have hz := Sep.blk (A := [_, _, _]) (B := [_]) HS5.out
    obtain ⟨k0, k1, k2, k3, k4, k5, k6, k7⟩ := gq4 hz.hd
    have hz2 := (((hz.setB 0 (.int .i64 K.n)).setB 1 (.slice t0 q0 v0)).setB 2 (.slice t1 q1 v1)).setB 3 (.slice t2 q2 v2)
    have HS6 := qd hz2
    have X5 := qd (HBM.out _ _ hz2 (by simp))
    clear hz hz2
    refine AnyL.step (i := 10) (by kernel_rfl) (by rfl) (fun KK hK => ?_)
    go_simp
    refine hK.out _ ((((w5.setCell ⟨xb, 0, none⟩ (.int .i64 K.n)).setCell ⟨xb, 1, none⟩ (.slice t0 q0 v0)).setCell ⟨xb, 2, none⟩ (.slice t1 q1 v1)).setCell ⟨xb, 3, none⟩ (.slice t2 q2 v2)) (by exact X5.out) (by exact fun _ => trivial) ?_
    clear hK KK
    try simp only [Act.put, List.setIfInBounds_toArray, List.set_cons_zero, List.set_cons_succ]
    refine AnyL.done (by kernel_rfl) ?_ _
    clear k0 k1 k2 k3 k4 k5 k6 k7
    generalize (((w5.setCell ⟨xb, 0, none⟩ (.int .i64 K.n)).setCell ⟨xb, 1, none⟩ (.slice t0 q0 v0)).setCell ⟨xb, 2, none⟩ (.slice t1 q1 v1)).setCell ⟨xb, 3, none⟩ (.slice t2 q2 v2) = w6 at *
    have ht1 := (Sep.blk (A := [_, _, _, _, _]) (B := [_]) HS6.out).cutR (k := m) HLEN.out.symm HMM.out.2.2
    have htk : (ys0 ++ [yA, yB]).take m = ys0 := by rw [← HM0.out, List.take_left]
    rw [htk] at ht1
    have hrg : rowsG (ys0 ++ [yA, yB]) = rowsG ys0 ++ rowsG [yA, yB] := by simp [rowsG]
    rw [hrg] at ht1
    have ht2 := Sep.cutRows (Sep.blk (A := [_, _, _, _, _, _]) (B := [_]) ht1)
    have HT := qd (Sep.blk (A := [_, _]) (B := [_, _, _, _]) ht2)
    have HT0 := qd (Sep.blk3 (X := [_, _, _, _]) (A := [_]) (B := [_]) HT.out)
    clear ht1 ht2 htk hrg HT HBM HSG
    have HT := HT0
    clear HT0
    go_upto_region 15 with fail
    obtain ⟨k0, k1, k2, k3, _⟩ := gq4 HT.out.hd
    have HIG := qd (isGraph_any (.slice t0 q0 v0) (.slice t1 q1 v1) (.slice t2 q2 v2) K w6 (by rw [← HX.out]; exact OE.read HT.out.tl.hd) (show OwnInts 0 w6 _ K.i from HT.out.tl.tl.hd).read (show OwnInts 0 w6 _ K.o from HT.out.tl.tl.tl.hd).read (HKL.out.1) (HKL.out.2.1) (HKL.out.2.2))
    unfold grV at HIG
    cases hgb : grB K
    ·rw [hgb] at HIG
     obtain rfl : b = false := by
      rw [← HB.out]
      have hbad := prun_bad HP2.out (show ((Tr.seq A B) :: S3).all Tr.gB = false from by
       have : ((Tr.seq A B)).gB = false := by
        cases hq : ((Tr.seq A B)).gB with
        | false => rfl
        | true =>
         have := (Tr.g_ok (t := (Tr.seq A B)) HOK.out hq).1
         rw [HKG.out, hgb] at this; cases this
       rw [List.all_cons, this]; rfl) n [t] HLT.out HTT.out
      simpa using hbad
     go_wp2_with (
      go_at_call 42
      with_reducible refine HIG.out.mono ?_
      rintro e w9 ⟨rfl, hg⟩
      have hz0 := Sep.blk (A := [_, _, _, _, _, _, _]) (B := [_]) (HT.out.grown hg)
      obtain ⟨y0, y1, y2, y3, f0, f1, f2, f3⟩ := gq4 hz0.hd
      have hz1 := (((hz0.setB 0 (.int .i64 0)).setB 1 (.slice none 0 0)).setB 2 (.slice none 0 0)).setB 3 (.slice none 0 0)
      obtain ⟨l0, l1, l2, l3, _⟩ := gq4 hz1.hd
      have HKF := qd (show w.grownBy _ none from Sep.all hz1 (KeepA w) (by simp))
      clear hg hz0 hz1 k0 k1 k2 k3)
     refine bodyPost_ret_by (v := .tuple #[.agg #[.int .i64 0, .slice none 0 0, .slice none 0 0, .slice none 0 0], .bool false]) ?_ rfl (MadeR.zero HKF.out)
     simp [results, go_sem, *]
    ·rw [hgb] at HIG
     go_upto_region 17 with (
      go_at_call 42
      with_reducible refine HIG.out.mono ?_
      rintro e w9 ⟨rfl, hg⟩
      have HT2 := qd (Sep.blk (A := [_, _, _, _]) (B := [_]) (HT.out.grown hg))
      clear hg k0 k1 k2 k3
      obtain ⟨k0, k1, k2, k3, _⟩ := gq4 HT2.out.tl.hd)
     go_wp2_with (
      at_builtin
      go_loud (
      refine app_R (E := graphE) (y := ⟨K.n, .slice t0 q0 v0, xs, .slice t1 q1 v1, K.i, .slice t2 q2 v2, K.o⟩) info_graph rfl (by decide) Tryz.underlying177 (graph_oneT _ _ _ _ _ _ _ _ _ _ _ _ _) rfl (.tmp 60) (.tmp 62) rfl rfl rfl rfl HT2.out HYS.out.2 ?_
      intro g5 c5 w10 h5
      rw [HYS.out.1] at h5
      try rw [HYS.out.1]
      have h6 := Sep.addRows (Sep.cutA (X := [_]) (A := [_]) h5)
      have h7 := Sep.cutA (X := [_, _]) (A := [_]) h6
      rw [← show rowsG (ys0 ++ [⟨K.n, .slice t0 q0 v0, xs, .slice t1 q1 v1, K.i, .slice t2 q2 v2, K.o⟩]) = rowsG ys0 ++ [OE (.slice t0 q0 v0) xs, OI (.slice t1 q1 v1) K.i, OI (.slice t2 q2 v2) K.o] from rowsG_snoc _ _] at h7
      have HS9 := qd (show Sep w10 [OR graphE (.slice (some ⟨g5, 0, none⟩) (m + 1) c5) (ys0 ++ [⟨K.n, .slice t0 q0 v0, xs, .slice t1 q1 v1, K.i, .slice t2 q2 v2, K.o⟩]), Bag (rowsG (ys0 ++ [⟨K.n, .slice t0 q0 v0, xs, .slice t1 q1 v1, K.i, .slice t2 q2 v2, K.o⟩])), BxA (w.heap.size + 1) #[.int .i64 0, .slice none 0 0, .slice none 0 0, .slice none 0 0] 38, BxA w.heap.size #[.slice (some ⟨nb, no, none⟩) n nc] 44, KeepA w] from h7)
      clear h5 h6 h7 k0 k1 k2 k3))
     go_roundw
     case rel => exact ⟨i + 1, (Tr.seq A B) :: S3, ys0 ++ [⟨K.n, .slice t0 q0 v0, xs, .slice t1 q1 v1, K.i, .slice t2 q2 v2, K.o⟩], by have := HLT.out; omega, by go_num, HP2.out, (by rw [List.all_cons, HAL3.out, Bool.and_true]; exact HGT.out hgb), (by rw [gStk_push, ← HS3.out, HKG.out]; unfold grs; rw [List.map_append]; show _ ++ [(⟨K.n, eds xs, K.i, K.o⟩ : Gr)] = _; rw [HX.out]), HS9.out⟩
     case measure => have := HLT.out; simp [intOf]; omega
   ·obtain ⟨rfl, rfl, rfl⟩ : k = 16 ∧ v = 0 ∧ s = noS := by injection hnd with a b c; exact ⟨a, b, c⟩
    obtain ⟨ys0, yA, yB, rfl, hg0, hgA, hgB⟩ := split2 HGS.out
    have hoa : A.Ok ∧ B.Ok ∧ (Tr.par A B).Ok := by
     have hi1 := prun_inv i _ (by rw [HNL.out]; omega) HPR.out
     exact ⟨hi1.ok A (by simp), hi1.ok B (by simp), hi1.ok A (by simp), hi1.ok B (by simp), hty⟩
    have hal := HALL.out
    simp only [List.all_cons, Bool.and_eq_true] at hal
    obtain ⟨halB, halA, halR⟩ := hal
    have gA := Tr.g_ok hoa.1 halA
    have gB := Tr.g_ok hoa.2.1 halB
    skip
    obtain ⟨K, hK⟩ : ∃ K, parG yA.gr yB.gr = K := ⟨_, rfl⟩
    have HKG := qd (show (Tr.par A B).g = K from by show parG A.g B.g = K; rw [← hgA, ← hgB]; exact hK)
    have HGT := qd (show grB K = true → (Tr.par A B).gB = true from fun h => by simp only [Tr.gB, Bool.and_eq_true]; refine ⟨halA, halB, ?_⟩; have := HKG.out; simp only [Tr.g] at this; rw [this]; exact h)
    have HOK := qd hoa.2.2
    have HKL := qd (show K.es.length ≤ 2000000 ∧ K.i.length ≤ 2000000 ∧ K.o.length ≤ 2000000 from by
     rw [← hK, hgA, hgB]
     obtain ⟨m1, _, _, a1, a2, a3, _⟩ := grB_n gA.1
     obtain ⟨m2, _, _, b1, b2, b3, _⟩ := grB_n gB.1
     refine ⟨?_, by rw [(par_lens _ _).1]; omega, by rw [(par_lens _ _).2]; omega⟩
     show (A.g.es ++ B.g.es.map _).length ≤ _
     rw [List.length_append, List.length_map]; omega)
    obtain ⟨S3, hS3⟩ : ∃ S3, R = S3 := ⟨_, rfl⟩
    have HS3 := qd (show grs ys0 = gStk S3 from by rw [← hS3]; exact hg0)
    have HAL3 := qd (show S3.all Tr.gB = true from by rw [← hS3]; exact halR)
    rw [hS3] at HP2
    obtain ⟨m, hm⟩ : ∃ m, ys0.length = m := ⟨_, rfl⟩
    have hRl : R.length = m := by rw [← hm, ← grs_len, hg0, gStk_len]
    have HM0 := qd hm
    simp only [List.length_cons] at HS2 hcn ⊢
    rw [hRl] at HS2 hcn ⊢
    have HYS := qd (show ys0.length + 1 = m + 1 ∧ ys0.length ≤ 10000000 from by omega)
    obtain ⟨m1, hm1⟩ : ∃ x, m + 1 = x := ⟨_, rfl⟩
    rw [hm1] at HS2 hcn ⊢
    obtain ⟨m2, hm2⟩ : ∃ x, m1 + 1 = x := ⟨_, rfl⟩
    rw [hm2] at HS2 hcn ⊢
    have hlen : m2 = (ys0 ++ [yA, yB]).length := by rw [List.length_append]; simp only [List.length_cons, List.length_nil]; omega
    obtain ⟨gg, gcp, hge, _, _, hcap⟩ := OwnR.parts (show OwnR graphE 0 _ (.slice sa m2 sc) (ys0 ++ [yA, yB]) from HS2.out.tl.tl.hd) (by rw [← hlen]; omega)
    injection hge with hge1 hgl hge2
    subst hge1 hge2
    rw [← hlen] at hcap
    clear hgl
    have hwa : IntKind.i64.wrap ((m2 : Int) - 1) = (m1 : Int) := by rw [wrap_id (by omega) (by omega)]; omega
    have hwb : IntKind.i64.wrap ((m1 : Int) - 1) = (m : Int) := by rw [wrap_id (by omega) (by omega)]; omega
    have hb1 : (m : Int) < (m2 : Int) := by omega
    have hb2 : (m1 : Int) < (m2 : Int) := by omega
    have hms : m ≤ sc := by omega
    have HLEN := qd hlen
    have HMM := qd (show m < (ys0 ++ [yA, yB]).length ∧ m1 < (ys0 ++ [yA, yB]).length ∧ m ≤ m2 from by rw [← hlen]; omega)
    have hyA : ∀ h, (ys0 ++ [yA, yB])[m]'h = yA := fun h => by rw [List.getElem_append_right (by omega)]; simp [hm]
    have hyB : ∀ h, (ys0 ++ [yA, yB])[m1]'h = yB := fun h => by rw [List.getElem_append_right (by omega)]; simp [hm, ← hm1]
    have HYA := qd hyA; have HYB := qd hyB
    have HGA := qd (show grB yA.gr = true ∧ grB yB.gr = true from ⟨by rw [hgA]; exact gA.1, by rw [hgB]; exact gB.1⟩)
    have HSG := qd (show ∀ W : World, (Bag (rowsG (ys0 ++ [yA, yB]))).holds W → Calls Tryz.prog 141 #[.agg #[.int .i64 yA.n, yA.ev, yA.iv, yA.ov], .agg #[.int .i64 yB.n, yB.ev, yB.iv, yB.ov]] W (OwnG K W) from fun W h => by rw [← hK]; exact parGraphs_any yA.gr yB.gr yA.ev yA.iv yA.ov yB.ev yB.iv yB.ov W (rows_readT h (by simp)).1 (rows_readT h (by simp)).2.1 (rows_readT h (by simp)).2.2 (rows_readT h (by simp)).1 (rows_readT h (by simp)).2.1 (rows_readT h (by simp)).2.2 HGA.out.1 HGA.out.2)
    unfold OwnG grV at HSG
    clear hst hnd hty hgA hgB hoa halA halB halR gA gB hK hS3 hg0 hm hRl hm1 hm2 hlen hcap hyA hyB HLG hcn
    obtain ⟨xb, hxb⟩ : ∃ x, wr.heap.size + 1 = x := ⟨_, rfl⟩
    go_upto_region 13 with fail
    clear z0 z1 z2 q0 q1 q2 HSQ
    generalize (wr.alloc (.cells #[.int .i64 16, .int .i64 0, .string noS] 145)).alloc (.cells #[.int .i64 0, .slice none 0 0, .slice none 0 0, .slice none 0 0] 38) = w4 at *
    have HBM := qd fun (W1 : World) (L : List Asrt) (h : Sep W1 L) (h1 : OR graphE (.slice (some ⟨gg, 0, none⟩) m2 sc) (ys0 ++ [yA, yB]) ∈ L) => show ((W1.cell? ⟨gg, m * 4, none⟩ = some (.int .i64 yA.n) ∧ W1.cell? ⟨gg, m * 4 + 1, none⟩ = some yA.ev ∧ W1.cell? ⟨gg, m * 4 + 2, none⟩ = some yA.iv ∧ W1.cell? ⟨gg, m * 4 + 3, none⟩ = some yA.ov) ∧ (W1.cell? ⟨gg, m1 * 4, none⟩ = some (.int .i64 yB.n) ∧ W1.cell? ⟨gg, m1 * 4 + 1, none⟩ = some yB.ev ∧ W1.cell? ⟨gg, m1 * 4 + 2, none⟩ = some yB.iv ∧ W1.cell? ⟨gg, m1 * 4 + 3, none⟩ = some yB.ov)) from
     have hh : OwnR graphE 0 W1 _ _ := Sep.all h _ h1
     ⟨hh.graphC HLEN.out HMM.out.1 (HYA.out _), hh.graphC HLEN.out HMM.out.2.1 (HYB.out _)⟩
    have HSD := qd HS2.out.dr
    have X0 := qd (HBM.out _ _ HSD.out (by simp))
    refine AnyL.start (fun W1 => ((W1.cell? ⟨gg, m * 4, none⟩ = some (.int .i64 yA.n) ∧ W1.cell? ⟨gg, m * 4 + 1, none⟩ = some yA.ev ∧ W1.cell? ⟨gg, m * 4 + 2, none⟩ = some yA.iv ∧ W1.cell? ⟨gg, m * 4 + 3, none⟩ = some yA.ov) ∧ (W1.cell? ⟨gg, m1 * 4, none⟩ = some (.int .i64 yB.n) ∧ W1.cell? ⟨gg, m1 * 4 + 1, none⟩ = some yB.ev ∧ W1.cell? ⟨gg, m1 * 4 + 2, none⟩ = some yB.iv ∧ W1.cell? ⟨gg, m1 * 4 + 3, none⟩ = some yB.ov))) (fun _ => True) 99 (by kernel_rfl) ?_
    generalize w4.drew = w3 at *
    refine AnyL.tT 0 (by exact X0.out) ?_
    refine AnyL.tT 1 (by exact X0.out) ?_
    refine AnyL.tT 2 (by exact X0.out) ?_
    refine AnyL.tT 3 (by exact X0.out) ?_
    refine AnyL.tT 4 (by exact X0.out) ?_
    refine AnyL.tT 5 (by exact X0.out) ?_
    refine AnyL.tT 6 (by exact X0.out) ?_
    refine AnyL.tT 7 (by exact X0.out) ?_
    refine AnyL.tT 8 (by exact X0.out) ?_
    refine AnyL.step (i := 9) (by kernel_rfl) (by rfl) (fun KK hK => ?_)
    go_simp
    have HCC := qd (HSG.out _ HSD.out.tl.tl.tl.hd)
    go_at_call 141
    with_reducible refine HCC.out.mono ?_
    rintro e w5 ⟨u0, xs, u1, u2, rfl, hx, hsg⟩
    obtain ⟨t0, v0, rfl⟩ := OE.shape hsg.hd
    obtain ⟨t1, v1, rfl⟩ := own_shape (show OwnInts 0 _ u1 K.i from hsg.tl.hd)
    obtain ⟨t2, v2, rfl⟩ := own_shape (show OwnInts 0 _ u2 K.o from hsg.tl.tl.hd)
    obtain ⟨q0, hq0⟩ : ∃ q, xs.length = q := ⟨_, rfl⟩
    obtain ⟨q1, hq1⟩ : ∃ q, K.i.length = q := ⟨_, rfl⟩
    obtain ⟨q2, hq2⟩ : ∃ q, K.o.length = q := ⟨_, rfl⟩
    rw [hq0, hq1, hq2] at hsg
    rw [hq0, hq1, hq2]
    have hq := HSD.out.graft3 hsg OE_own OI_own OI_own
    rw [hxb] at hq
    have HS5 := qd hq
    have HX := qd hx
    have X1 := qd (HBM.out _ _ hq (by simp))
    clear hq hx hsg hq0 hq1 hq2 HCC
    refine hK.out _ _ (by exact X1.out) (by exact fun _ => trivial) ?_
    clear hK KK
    try simp only [Act.put, List.setIfInBounds_toArray, List.set_cons_zero, List.set_cons_succ]
    have hz := Sep.blk (A := [_, _, _]) (B := [_]) HS5.out
    obtain ⟨k0, k1, k2, k3, k4, k5, k6, k7⟩ := gq4 hz.hd
    have hz2 := (((hz.setB 0 (.int .i64 K.n)).setB 1 (.slice t0 q0 v0)).setB 2 (.slice t1 q1 v1)).setB 3 (.slice t2 q2 v2)
    have HS6 := qd hz2
    have X5 := qd (HBM.out _ _ hz2 (by simp))
    clear hz hz2
    refine AnyL.step (i := 10) (by kernel_rfl) (by rfl) (fun KK hK => ?_)
    go_simp
    refine hK.out _ ((((w5.setCell ⟨xb, 0, none⟩ (.int .i64 K.n)).setCell ⟨xb, 1, none⟩ (.slice t0 q0 v0)).setCell ⟨xb, 2, none⟩ (.slice t1 q1 v1)).setCell ⟨xb, 3, none⟩ (.slice t2 q2 v2)) (by exact X5.out) (by exact fun _ => trivial) ?_
    clear hK KK
    try simp only [Act.put, List.setIfInBounds_toArray, List.set_cons_zero, List.set_cons_succ]
    refine AnyL.done (by kernel_rfl) ?_ _
    clear k0 k1 k2 k3 k4 k5 k6 k7
    generalize (((w5.setCell ⟨xb, 0, none⟩ (.int .i64 K.n)).setCell ⟨xb, 1, none⟩ (.slice t0 q0 v0)).setCell ⟨xb, 2, none⟩ (.slice t1 q1 v1)).setCell ⟨xb, 3, none⟩ (.slice t2 q2 v2) = w6 at *
    have ht1 := (Sep.blk (A := [_, _, _, _, _]) (B := [_]) HS6.out).cutR (k := m) HLEN.out.symm HMM.out.2.2
    have htk : (ys0 ++ [yA, yB]).take m = ys0 := by rw [← HM0.out, List.take_left]
    rw [htk] at ht1
    have hrg : rowsG (ys0 ++ [yA, yB]) = rowsG ys0 ++ rowsG [yA, yB] := by simp [rowsG]
    rw [hrg] at ht1
    have ht2 := Sep.cutRows (Sep.blk (A := [_, _, _, _, _, _]) (B := [_]) ht1)
    have HT := qd (Sep.blk (A := [_, _]) (B := [_, _, _, _]) ht2)
    have HT0 := qd (Sep.blk3 (X := [_, _, _, _]) (A := [_]) (B := [_]) HT.out)
    clear ht1 ht2 htk hrg HT HBM HSG
    have HT := HT0
    clear HT0
    go_upto_region 15 with fail
    obtain ⟨k0, k1, k2, k3, _⟩ := gq4 HT.out.hd
    have HIG := qd (isGraph_any (.slice t0 q0 v0) (.slice t1 q1 v1) (.slice t2 q2 v2) K w6 (by rw [← HX.out]; exact OE.read HT.out.tl.hd) (show OwnInts 0 w6 _ K.i from HT.out.tl.tl.hd).read (show OwnInts 0 w6 _ K.o from HT.out.tl.tl.tl.hd).read (HKL.out.1) (HKL.out.2.1) (HKL.out.2.2))
    unfold grV at HIG
    cases hgb : grB K
    ·rw [hgb] at HIG
     obtain rfl : b = false := by
      rw [← HB.out]
      have hbad := prun_bad HP2.out (show ((Tr.par A B) :: S3).all Tr.gB = false from by
       have : ((Tr.par A B)).gB = false := by
        cases hq : ((Tr.par A B)).gB with
        | false => rfl
        | true =>
         have := (Tr.g_ok (t := (Tr.par A B)) HOK.out hq).1
         rw [HKG.out, hgb] at this; cases this
       rw [List.all_cons, this]; rfl) n [t] HLT.out HTT.out
      simpa using hbad
     go_wp2_with (
      go_at_call 42
      with_reducible refine HIG.out.mono ?_
      rintro e w9 ⟨rfl, hg⟩
      have hz0 := Sep.blk (A := [_, _, _, _, _, _, _]) (B := [_]) (HT.out.grown hg)
      obtain ⟨y0, y1, y2, y3, f0, f1, f2, f3⟩ := gq4 hz0.hd
      have hz1 := (((hz0.setB 0 (.int .i64 0)).setB 1 (.slice none 0 0)).setB 2 (.slice none 0 0)).setB 3 (.slice none 0 0)
      obtain ⟨l0, l1, l2, l3, _⟩ := gq4 hz1.hd
      have HKF := qd (show w.grownBy _ none from Sep.all hz1 (KeepA w) (by simp))
      clear hg hz0 hz1 k0 k1 k2 k3)
     refine bodyPost_ret_by (v := .tuple #[.agg #[.int .i64 0, .slice none 0 0, .slice none 0 0, .slice none 0 0], .bool false]) ?_ rfl (MadeR.zero HKF.out)
     simp [results, go_sem, *]
    ·rw [hgb] at HIG
     go_upto_region 17 with (
      go_at_call 42
      with_reducible refine HIG.out.mono ?_
      rintro e w9 ⟨rfl, hg⟩
      have HT2 := qd (Sep.blk (A := [_, _, _, _]) (B := [_]) (HT.out.grown hg))
      clear hg k0 k1 k2 k3
      obtain ⟨k0, k1, k2, k3, _⟩ := gq4 HT2.out.tl.hd)
     go_wp2_with (
      at_builtin
      go_loud (
      refine app_R (E := graphE) (y := ⟨K.n, .slice t0 q0 v0, xs, .slice t1 q1 v1, K.i, .slice t2 q2 v2, K.o⟩) info_graph rfl (by decide) Tryz.underlying177 (graph_oneT _ _ _ _ _ _ _ _ _ _ _ _ _) rfl (.tmp 60) (.tmp 62) rfl rfl rfl rfl HT2.out HYS.out.2 ?_
      intro g5 c5 w10 h5
      rw [HYS.out.1] at h5
      try rw [HYS.out.1]
      have h6 := Sep.addRows (Sep.cutA (X := [_]) (A := [_]) h5)
      have h7 := Sep.cutA (X := [_, _]) (A := [_]) h6
      rw [← show rowsG (ys0 ++ [⟨K.n, .slice t0 q0 v0, xs, .slice t1 q1 v1, K.i, .slice t2 q2 v2, K.o⟩]) = rowsG ys0 ++ [OE (.slice t0 q0 v0) xs, OI (.slice t1 q1 v1) K.i, OI (.slice t2 q2 v2) K.o] from rowsG_snoc _ _] at h7
      have HS9 := qd (show Sep w10 [OR graphE (.slice (some ⟨g5, 0, none⟩) (m + 1) c5) (ys0 ++ [⟨K.n, .slice t0 q0 v0, xs, .slice t1 q1 v1, K.i, .slice t2 q2 v2, K.o⟩]), Bag (rowsG (ys0 ++ [⟨K.n, .slice t0 q0 v0, xs, .slice t1 q1 v1, K.i, .slice t2 q2 v2, K.o⟩])), BxA (w.heap.size + 1) #[.int .i64 0, .slice none 0 0, .slice none 0 0, .slice none 0 0] 38, BxA w.heap.size #[.slice (some ⟨nb, no, none⟩) n nc] 44, KeepA w] from h7)
      clear h5 h6 h7 k0 k1 k2 k3))
     go_roundw
     case rel => exact ⟨i + 1, (Tr.par A B) :: S3, ys0 ++ [⟨K.n, .slice t0 q0 v0, xs, .slice t1 q1 v1, K.i, .slice t2 q2 v2, K.o⟩], by have := HLT.out; omega, by go_num, HP2.out, (by rw [List.all_cons, HAL3.out, Bool.and_true]; exact HGT.out hgb), (by rw [gStk_push, ← HS3.out, HKG.out]; unfold grs; rw [List.map_append]; show _ ++ [(⟨K.n, eds xs, K.i, K.o⟩ : Gr)] = _; rw [HX.out]), HS9.out⟩
     case measure => have := HLT.out; simp [intOf]; omega
  ·have hin : n = i := by omega
   subst hin
   have hkk : ¬ (n : Int) < (n : Int) := by omega
   obtain rfl : S = [t] := by have := HPR.out.symm.trans HTT.out; injection this
   obtain ⟨y, rfl, hgy⟩ : ∃ y, ys = [y] ∧ y.gr = t.g := by
    have h := HGS.out; have hl := HYL.out
    match ys, hl, h with
    | [y], _, h => exact ⟨y, rfl, by have := h; simp only [grs, gStk, List.map_cons, List.map_nil, List.reverse_cons, List.reverse_nil, List.nil_append, List.cons.injEq, and_true] at this; exact this⟩
   obtain rfl : b = true := by have h := HALL.out; rw [List.all_cons, Bool.and_eq_true] at h; rw [← HB.out]; exact h.1
   obtain rfl : KT = y.gr := by rw [hgy]; exact HKT.out.symm
   have hs := HSQ.out
   simp only [List.length_cons, List.length_nil, Nat.zero_add] at hs ⊢
   obtain ⟨gg, gcp, hge, _, _, hcap⟩ := OwnR.parts (show OwnR graphE 0 _ (.slice sa 1 sc) [y] from hs.hd) (by simp)
   injection hge with hge1 hgl hge2
   subst hge1 hge2
   clear hgl hcap
   obtain ⟨yn, ye, yx, yi, yis, yo, yos⟩ := y
   have hrt := rows_readT (show (Bag (rowsG [_])).holds wr from hs.tl.hd) (y := ⟨yn, ye, yx, yi, yis, yo, yos⟩) (by simp)
   obtain ⟨ea, el, ec, rfl⟩ : ∃ a l c, ye = .slice a l c := by obtain ⟨a, c, h⟩ := hrt.1.shape; exact ⟨a, _, c, h⟩
   obtain ⟨ia, il, ic, rfl⟩ : ∃ a l c, yi = .slice a l c := by obtain ⟨a, c, h⟩ := hrt.2.1.shape; exact ⟨a, _, c, h⟩
   obtain ⟨oa, ol, oc, rfl⟩ : ∃ a l c, yo = .slice a l c := by obtain ⟨a, c, h⟩ := hrt.2.2.shape; exact ⟨a, _, c, h⟩
   clear hrt
   obtain ⟨c0, c1, c2, c3⟩ := OwnR.graphC (show OwnR graphE 0 _ _ [_] from hs.hd) rfl (i := 0) (by simp) rfl
   simp only [Nat.zero_mul, Nat.zero_add] at c0 c1 c2 c3
   have hz := Sep.blk (A := [_, _]) (B := [_]) hs
   obtain ⟨k0, k1, k2, k3, k4, k5, k6, k7⟩ := gq4 hz.hd
   have hz2 := (((hz.setB 0 (.int .i64 yn)).setB 1 (.slice ea el ec)).setB 2 (.slice ia il ic)).setB 3 (.slice oa ol oc)
   obtain ⟨l0, l1, l2, l3, _⟩ := gq4 hz2.hd
   have hb := Sep.unbag (Sep.cutA (X := []) (A := [_, _]) hz2)
   have HSF := qd (Sep.cutA (X := [_, _, _]) (A := [_]) (show Sep _ ([OE _ yx, OI _ yis] ++ ([OI _ yos] ++ _)) from hb))
   clear hs hz hz2 hb hgy
   go_wp2_with fail
   refine bodyPost_ret_by (v := .tuple #[.agg #[.int .i64 yn, .slice ea el ec, .slice ia il ic, .slice oa ol oc], .bool true]) ?_ rfl ⟨_, yx, _, _, rfl, rfl, HSF.out⟩
   simp [results, go_sem, *]
end Go.Proofs.YtjagjhchnpmngaaGreat

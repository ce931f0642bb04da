/-
  HistoryOf in the program. Conditions: the table of small primes holds what its text lays; lengths are small.
-/
import Derived.Test.YtlpgjnjhhgjkmaaDoorHg02
import Derived.Test.YtlpgjnjhhgjkmaaDoorHg00
import Derived.Test.YtlpgjnjhhgjkmaaDoorBa06
namespace Go.Proofs.YtlpgjnjhhgjkmaaDoor
open Go.RowKit
set_option linter.unusedVariables false
set_option maxRecDepth 100000

def hist (s : Se) : List Gr := s.past ++ [s.now] ++ s.fut.reverse
/-- What HistoryOf hands back. -/
def HistR (s : Se) (w : World) (e : Ending) (w' : World) : Prop :=
  ∃ v ys, e = .returned (.tuple #[v, .bool (sesB s)]) ∧ grs ys = (if sesB s = true then hist s else []) ∧ Sep w' [OG v ys, KeepA w]
theorem Sep.unbagMid {w : World} {l1 m r : List Asrt} (h : Sep w (l1 ++ Bag m :: r)) : Sep w (l1 ++ (m ++ r)) := by
  have h1 : Sep w (Bag m :: (l1 ++ r)) := Sep.perm List.perm_middle h
  have h2 : Sep w (m ++ (l1 ++ r)) := Sep.unbag h1
  exact Sep.perm (by rw [← List.append_assoc, ← List.append_assoc]; exact List.perm_append_comm.append_right r) h2
theorem perm_open (G F N P l : List Asrt) (f p : Asrt) : (G ++ ((f :: F) ++ (N ++ ((p :: P) ++ l)))).Perm (G ++ (p :: f :: ((P ++ (N ++ F)) ++ l))) := by
  refine List.Perm.append_left G ?_
  have h1 : (f :: (F ++ N) ++ (p :: (P ++ l))).Perm (p :: (f :: (F ++ N) ++ (P ++ l))) := List.perm_middle
  have h2 : (f :: F ++ (N ++ (p :: P ++ l))) = (f :: (F ++ N) ++ (p :: (P ++ l))) := by simp
  rw [h2]
  refine h1.trans (List.Perm.cons p ?_)
  show (f :: ((F ++ N) ++ (P ++ l))).Perm (f :: ((P ++ (N ++ F)) ++ l))
  refine List.Perm.cons f ?_
  rw [← List.append_assoc]
  refine List.Perm.append_right l ?_
  have h3 : (F ++ N ++ P).Perm (P ++ (F ++ N)) := List.perm_append_comm
  exact h3.trans (List.Perm.append_left P List.perm_append_comm)
/-- An own session's lists apart: the list before, the list behind, the rows of both and of the graph now, the goal. -/
theorem OSe.opened {w : World} {x : SeX} {l : List Asrt} (h : Sep w (OSe x :: l)) :
    Sep w (OR graphE x.pv x.past :: OR graphE x.fv x.fut :: Bag (rowsG x.past ++ (partsG x.now ++ rowsG x.fut)) :: Bag (partsG x.goal) :: l) := by
  have h1 : Sep w (partsS x ++ l) := Sep.unbag h
  unfold partsS at h1
  have h2 : Sep w (partsG x.goal ++ (OG x.fv x.fut :: (partsG x.now ++ (OG x.pv x.past :: l)))) := by simpa using h1
  have h3 := Sep.unbagMid (m := OR graphE x.fv x.fut :: rowsG x.fut) h2
  have h4 : Sep w ((partsG x.goal ++ ((OR graphE x.fv x.fut :: rowsG x.fut) ++ partsG x.now)) ++ (OG x.pv x.past :: l)) := by simpa using h3
  have h5 := Sep.unbagMid (m := OR graphE x.pv x.past :: rowsG x.past) h4
  have h6 : Sep w (partsG x.goal ++ ((OR graphE x.fv x.fut :: rowsG x.fut) ++ (partsG x.now ++ ((OR graphE x.pv x.past :: rowsG x.past) ++ l)))) := by simpa using h5
  have h7 := Sep.perm (perm_open _ _ _ _ _ _ _) h6
  have h8 := Sep.bag (l := partsG x.goal) h7
  generalize rowsG x.past ++ (partsG x.now ++ rowsG x.fut) = R at *
  have h9 : Sep w (R ++ (Bag (partsG x.goal) :: OR graphE x.pv x.past :: OR graphE x.fv x.fut :: l)) := Sep.perm (by
    have := (List.perm_append_comm (l₁ := [Bag (partsG x.goal), OR graphE x.pv x.past, OR graphE x.fv x.fut]) (l₂ := R)).append_right l
    simpa using this) h8
  exact (Sep.bag h9).s3.s4.s2
theorem rowsG_perm {a b : List XG} (p : a.Perm b) : (rowsG a).Perm (rowsG b) := by
  induction p with
  | nil => exact List.Perm.refl _
  | cons x _ ih => exact List.Perm.append_left _ ih
  | swap x y l =>
    show ([OE y.ev y.xs, OI y.iv y.is, OI y.ov y.os] ++ ([OE x.ev x.xs, OI x.iv x.is, OI x.ov x.os] ++ rowsG l)).Perm ([OE x.ev x.xs, OI x.iv x.is, OI x.ov x.os] ++ ([OE y.ev y.xs, OI y.iv y.is, OI y.ov y.os] ++ rowsG l))
    rw [← List.append_assoc, ← List.append_assoc]
    exact List.perm_append_comm.append_right _
  | trans _ _ h1 h2 => exact h1.trans h2
theorem rowsG_app (a b : List XG) : rowsG (a ++ b) = rowsG a ++ rowsG b := by unfold rowsG; rw [List.flatMap_append]
theorem hist_close {w : World} {x : SeX} {v : Value} {l : List Asrt} (h : Sep w (OR graphE v (x.past ++ [x.now] ++ x.fut.reverse) :: Bag (rowsG x.past ++ (partsG x.now ++ rowsG x.fut)) :: l)) :
    Sep w (OG v (x.past ++ [x.now] ++ x.fut.reverse) :: l) := by
  refine Sep.bagPerm (List.Perm.cons _ ?_) h.intoBag
  rw [rowsG_app, rowsG_app, List.append_assoc]
  refine List.Perm.append_left _ (List.Perm.append_left _ (rowsG_perm (List.reverse_perm _).symm))
theorem hist_grs (x : SeX) : grs (x.past ++ [x.now] ++ x.fut.reverse) = hist x.se := by
  unfold hist grs SeX.se grs
  simp [List.map_reverse]
theorem OG.nil {w : World} : Sep w [OG nilS [], KeepA w] := Sep.bag (l := [OR graphE nilS []]) ((Sep.start w).nilR graphE)
/-- The values of a graph that can be read are slices. -/
theorem xg_shape {w : World} {y : XG} (h1 : RdE edgeE w y.ev y.gr.es) (h2 : IntsV w y.iv y.gr.i) (h3 : IntsV w y.ov y.gr.o) : ∃ (a1 a2 a3 : Option Addr) (n1 c1 n2 c2 n3 c3 : Nat), y.ev = .slice a1 n1 c1 ∧ y.iv = .slice a2 n2 c2 ∧ y.ov = .slice a3 n3 c3 := by
  obtain ⟨a1, c1, e1⟩ := h1.shape
  obtain ⟨a2, c2, e2⟩ := h2.shape
  obtain ⟨a3, c3, e3⟩ := h3.shape
  exact ⟨a1, a2, a3, _, c1, _, c2, _, c3, e1, e2, e3⟩
theorem OG.shapes {w : World} {v : Value} {ys : List XG} (h : (OG v ys).holds w) : ∀ y ∈ ys, ∃ (a1 a2 a3 : Option Addr) (n1 c1 n2 c2 n3 c3 : Nat), y.ev = .slice a1 n1 c1 ∧ y.iv = .slice a2 n2 c2 ∧ y.ov = .slice a3 n3 c3 := by
  intro y hy
  have ha := Sep.all (show Sep w (OR graphE v ys :: rowsG ys) from h)
  have hm : ∀ A ∈ [OE y.ev y.xs, OI y.iv y.is, OI y.ov y.os], A.holds w := fun A hA => ha A (List.mem_cons_of_mem _ (List.mem_flatMap.2 ⟨y, hy, hA⟩))
  exact xg_shape (OE.read (hm (OE y.ev y.xs) (by simp))) (OwnInts.read (show OwnInts 0 w y.iv y.is from hm (OI y.iv y.is) (by simp))) (OwnInts.read (show OwnInts 0 w y.ov y.os from hm (OI y.ov y.os) (by simp)))
theorem drop_rev {α : Type} {l : List α} {j : Nat} (d : α) (hj : j < l.length) : (l.drop j).reverse = (l.drop (j + 1)).reverse ++ [l.getD j d] := by
  rw [List.drop_eq_getElem_cons hj, List.reverse_cons, List.getD_eq_getElem?_getD, List.getElem?_eq_getElem hj]
  rfl
theorem graph_one' (n : Int) (xs : List XE) (a1 : Option Addr) (n1 c1 : Nat) (a2 : Option Addr) (n2 c2 : Nat) (is : List Int) (a3 : Option Addr) (n3 c3 : Nat) (os : List Int) :
    ∀ u ∈ graphE.cs ⟨n, .slice a1 n1 c1, xs, .slice a2 n2 c2, is, .slice a3 n3 c3, os⟩, u.oneCell' = true := graph_one _ _ _ _ _ _ _ _ _ _ _ _ _
set_option maxHeartbeats 8000000 in
theorem iHistory_any (s : Se) (pv e1 i1 o1 fv e2 i2 o2 : Value) (w : World) (ht : Tab w) (hr : RdSe graphE edgeE w s pv e1 i1 o1 fv e2 i2 o2) (hsm : SmS s) :
    Calls Tryd.prog 11 #[seV s.p s.k s.l pv s.now.n e1 i1 o1 fv s.goal.n e2 i2 o2] w (HistR s w) := by
  have HIS := Lib.hid fun W (h : w.grownBy W none) => isSession_any s _ _ _ _ _ _ _ _ W (ht.grown h) (hr.carry h) hsm
  have HCP := Lib.hid fun (hb : sesB s = true) W (h : w.grownBy W none) => scopy_any s _ _ _ _ _ _ _ _ W (hr.carry h) hb
  have HV := Lib.hid fun (hb : sesB s = true) (X : SeX) (h : X.se = s) => show X.past.length ≤ 30 ∧ X.fut.length ≤ 30 from by
    obtain ⟨_, h1, h2⟩ := ses_valid hb
    subst h
    simp only [SeX.se, grs_len] at h1 h2
    exact ⟨h1, h2⟩
  obtain ⟨pa, pc, rfl⟩ := hr.past.shape
  obtain ⟨a1, c1, rfl⟩ := hr.es1.shape
  obtain ⟨a2, c2, rfl⟩ := hr.is1.shape
  obtain ⟨a3, c3, rfl⟩ := hr.os1.shape
  obtain ⟨fa, fc, rfl⟩ := hr.fut.shape
  obtain ⟨b1, d1, rfl⟩ := hr.es2.shape
  obtain ⟨b2, d2, rfl⟩ := hr.is2.shape
  obtain ⟨b3, d3, rfl⟩ := hr.os2.shape
  clear hr hsm ht
  unfold seV at *
  unfold HistR
  have HS0 := Lib.hid ((Sep.start w).box #[.int .i64 s.p, .int .i64 s.k, .int .i64 s.l, .slice pa s.past.length pc, .int .i64 s.now.n, .slice a1 s.now.es.length c1, .slice a2 s.now.i.length c2, .slice a3 s.now.o.length c3, .slice fa s.fut.length fc, .int .i64 s.goal.n, .slice b1 s.goal.es.length d1, .slice b2 s.goal.i.length d2, .slice b3 s.goal.o.length d3] 36)
  have HK0 := Lib.hid (show w.grownBy _ none from HS0.out.tl.hd)
  generalize s.past.length = pn at *
  generalize s.now.es.length = n1 at *
  generalize s.now.i.length = n2 at *
  generalize s.now.o.length = n3 at *
  generalize s.fut.length = fn at *
  generalize s.goal.es.length = m1 at *
  generalize s.goal.i.length = m2 at *
  generalize s.goal.o.length = m3 at *
  cases hb : sesB s
  · rw [hb] at HIS
    clear hb HCP HV
    go_enter Tryd.func11, Tryd.ntmps11
    go_wp2_with (
      go_at_call 21
      with_reducible refine (HIS.out _ HK0.out).mono ?_
      rintro e w2 ⟨rfl, hg⟩
      have HK2 := Lib.hid (grownBy_trans HK0.out hg)
      clear hg)
    refine bodyPost_ret_by (v := .tuple #[.slice none 0 0, .bool false]) ?_ rfl ⟨_, rfl, [], rfl, ?_⟩
    · simp [results, go_sem, *]
    · have h := (OG.nil (w := w)).grown HK2.out
      exact h
  · rw [hb] at HIS
    have HC := Lib.hid (HCP.out hb)
    have HL := Lib.hid (HV.out hb)
    clear hb HCP HV
    rw [if_pos rfl]
    go_enter Tryd.func11, Tryd.ntmps11
    go_upto_region 4 with (first
      | (go_at_call 21
         with_reducible refine (HIS.out _ HK0.out).mono ?_
         rintro e w2 ⟨rfl, hg⟩
         have hs2 := HS0.out.grown hg
         obtain ⟨x0, x1, x2, x3, x4, x5, x6, x7, x8, x9, xa, xb, xc⟩ := bq13 hs2.hd
         have HS2 := Lib.hid hs2
         have HK2 := Lib.hid (show w.grownBy w2 none from hs2.tl.hd)
         clear hg hs2)
      | (go_at_call 25
         with_reducible refine (HC.out _ HK2.out).mono ?_
         rintro e w3 ⟨X, rfl, hX, hsg⟩
         have hr3 := OSe.read hsg.hd
         have hfsh := OG.shapes (show (OG X.fv X.fut).holds w3 from (Sep.all (show Sep w3 (partsS X) from hsg.hd)) _ (by unfold partsS; simp))
         have HLL := Lib.hid (HL.out X hX)
         have HGR := Lib.hid (show grs (X.past ++ [X.now] ++ X.fut.reverse) = hist s from by rw [← hX]; exact hist_grs X)
         have HFS := Lib.hid hfsh
         have hs3 := OSe.opened (HS2.out.graft1 hsg OSe_own)
         obtain ⟨p, k, l, pv, past, now, fv, fut, goal⟩ := X
         obtain ⟨nn, nev, nxs, niv, nis, nov, nos⟩ := now
         obtain ⟨gn, gev, gxs, giv, gis, gov, gos⟩ := goal
         obtain ⟨qa, qc, hpv⟩ := hr3.past.shape
         obtain ⟨h1, j1, he1⟩ := hr3.es1.shape
         obtain ⟨h2, j2, he2⟩ := hr3.is1.shape
         obtain ⟨h3, j3, he3⟩ := hr3.os1.shape
         obtain ⟨ra, rc, hfv⟩ := hr3.fut.shape
         obtain ⟨u1, v1, he4⟩ := hr3.es2.shape
         obtain ⟨u2, v2, he5⟩ := hr3.is2.shape
         obtain ⟨u3, v3, he6⟩ := hr3.os2.shape
         simp only [sxV, seV, SeX.se, XG.gr, eds_len, grs_len] at *
         subst hpv he1 he2 he3 hfv he4 he5 he6
         have hs4 := hs3.box #[.int .i64 p, .int .i64 k, .int .i64 l, .slice qa past.length qc, .int .i64 nn, .slice h1 nxs.length j1, .slice h2 nis.length j2, .slice h3 nos.length j3, .slice ra fut.length rc, .int .i64 gn, .slice u1 gxs.length v1, .slice u2 gis.length v2, .slice u3 gos.length v3] 36
         obtain ⟨y0, y1, y2, y3, y4, y5, y6, y7, y8, y9, ya, yb, yc⟩ := bq13 hs4.hd
         have HS4 := Lib.hid hs4
         clear hsg hs3 hs4 hr3 hX hfsh))
    obtain ⟨hpl, hfl⟩ := HLL.out
    have HPL := Lib.hid hpl; have HFL := Lib.hid hfl
    have hwr : IntKind.i64.wrap ((fut.length : Int) - 1) = (fut.length : Int) - 1 := by rw [IntKind.wrap_i64]; omega
    clear hpl hfl x0 x1 x2 x3 x4 x5 x6 x7 x8 x9 xa xb xc
    go_wp2_with (
      refine app_RB (E := graphE) (y := ⟨nn, .slice h1 nxs.length j1, nxs, .slice h2 nis.length j2, nis, .slice h3 nos.length j3, nos⟩) info_graph rfl (by decide) Tryd.underlying31 (graph_one _ _ _ _ _ _ _ _ _ _ _ _ _) rfl (.tmp 13) (.tmp 16) rfl rfl rfl (by simp) rfl HS4.out.s2 (by have := HPL.out; omega) ?_
      intro g c w4 h4
      obtain ⟨y0, y1, y2, y3, y4, y5, y6, y7, y8, y9, ya, yb, yc⟩ := bq13 h4.tl.hd
      have HS5 := Lib.hid h4
      clear h4)
    obtain ⟨ob, hob⟩ : ∃ ob, ob = w3.heap.size := ⟨_, rfl⟩
    rw [← hob] at HS5
    simp only [← hob]
    clear hob
    go_loopw [5, 6] (fun ov i wr => ∃ j : Nat, j ≤ fut.length ∧ i = .int .i64 ((j : Int) - 1) ∧ Sep wr [OR graphE ov (past ++ [(⟨nn, .slice h1 nxs.length j1, nxs, .slice h2 nis.length j2, nis, .slice h3 nos.length j3, nos⟩ : XG)] ++ (fut.drop j).reverse), BxA ob #[.int .i64 p, .int .i64 k, .int .i64 l, .slice qa past.length qc, .int .i64 nn, .slice h1 nxs.length j1, .slice h2 nis.length j2, .slice h3 nos.length j3, .slice ra fut.length rc, .int .i64 gn, .slice u1 gxs.length v1, .slice u2 gis.length v2, .slice u3 gos.length v3] 36, OR graphE (.slice ra fut.length rc) fut, Bag (rowsG past ++ (partsG ⟨nn, .slice h1 nxs.length j1, nxs, .slice h2 nis.length j2, nis, .slice h3 nos.length j3, nos⟩ ++ rowsG fut)), Bag (partsG ⟨gn, .slice u1 gxs.length v1, gxs, .slice u2 gis.length v2, gis, .slice u3 gos.length v3, gos⟩), BxA w.heap.size #[.int .i64 s.p, .int .i64 s.k, .int .i64 s.l, .slice pa pn pc, .int .i64 s.now.n, .slice a1 n1 c1, .slice a2 n2 c2, .slice a3 n3 c3, .slice fa fn fc, .int .i64 s.goal.n, .slice b1 m1 d1, .slice b2 m2 d2, .slice b3 m3 d3] 36, KeepA w]) (fun _ i _ => (intOf i + 1).toNat)
    case atStart => exact ⟨fut.length, Nat.le_refl _, rfl, by simpa using HS5.out⟩
    case round =>
      obtain ⟨j, hj, rfl, hs⟩ := hrel
      have HYL := Lib.hid (show (past ++ [(⟨nn, .slice h1 nxs.length j1, nxs, .slice h2 nis.length j2, nis, .slice h3 nos.length j3, nos⟩ : XG)] ++ (fut.drop j).reverse).length ≤ 100 by have := HPL.out; have := HFL.out; simp; omega)
      have HSX := Lib.hid hs
      clear hs HS5 y0 y1 y2 y3 y4 y5 y6 y7 y8 y9 ya yb yc
      cases j with
      | zero =>
        have hs := HSX.out
        rw [List.drop_zero] at hs
        have h1 := hist_close (x := ⟨p, k, l, .slice qa past.length qc, past, ⟨nn, .slice h1 nxs.length j1, nxs, .slice h2 nis.length j2, nis, .slice h3 nos.length j3, nos⟩, .slice ra fut.length rc, fut, ⟨gn, .slice u1 gxs.length v1, gxs, .slice u2 gis.length v2, gis, .slice u3 gos.length v3, gos⟩⟩) (hs.under (fun h => h.tl.tl) (by simp +contextual))
        have HF := Lib.hid (h1.under (fun h => h.tl.tl) (by simp +contextual))
        obtain ⟨va, vc, rfl⟩ := OG.shape HF.out.hd
        have hneg : ¬ (0 : Int) ≤ ((0 : Nat) : Int) - 1 := by omega
        clear hs h1 hwr
        go_wp2
        refine bodyPost_ret_by (v := .tuple #[.slice va _ vc, .bool true]) ?_ rfl ⟨_, rfl, _, HGR.out, HF.out⟩
        simp [results, go_sem, *]
      | succ q =>
        rw [show (((q + 1 : Nat) : Int) - 1) = (q : Int) by omega]
        have hwr2 : IntKind.i64.wrap ((q : Int) - 1) = (q : Int) - 1 := by have := HFL.out; rw [IntKind.wrap_i64]; omega
        obtain ⟨xb, xc, hv, _, _, _⟩ := OwnR.parts (show OwnR graphE 0 wr (.slice ra fut.length rc) fut from HSX.out.tl.tl.hd) (by omega)
        cases hv
        have hql : q < fut.length := hj
        obtain ⟨z0, z1, z2, z3⟩ := graph_cells (show OwnR graphE 0 wr _ fut from HSX.out.tl.tl.hd) rfl hql
        obtain ⟨t1, t2, t3, f1, g1, f2, g2, f3, g3, e1, e2, e3⟩ := HFS.out _ (getD_mem (d := xg0) hql)
        have HDR := Lib.hid (drop_rev xg0 hql)
        generalize fut.getD q xg0 = y at *
        obtain ⟨yn, yev, yxs, yiv, yis, yov, yos⟩ := y
        simp only at z0 z1 z2 z3 e1 e2 e3
        subst e1 e2 e3
        obtain ⟨y0, y1, y2, y3, y4, y5, y6, y7, y8, y9, ya, yb, yc⟩ := bq13 HSX.out.tl.hd
        have HYC := Lib.hid (show past ++ [(⟨nn, .slice h1 nxs.length j1, nxs, .slice h2 nis.length j2, nis, .slice h3 nos.length j3, nos⟩ : XG)] ++ (fut.drop q).reverse = (past ++ [(⟨nn, .slice h1 nxs.length j1, nxs, .slice h2 nis.length j2, nis, .slice h3 nos.length j3, nos⟩ : XG)] ++ (fut.drop (q + 1)).reverse) ++ [⟨yn, .slice t1 f1 g1, yxs, .slice t2 f2 g2, yis, .slice t3 f3 g3, yos⟩] by rw [HDR.out]; simp)
        obtain ⟨ys, hys⟩ : ∃ ys, ys = past ++ [(⟨nn, .slice h1 nxs.length j1, nxs, .slice h2 nis.length j2, nis, .slice h3 nos.length j3, nos⟩ : XG)] ++ (fut.drop (q + 1)).reverse := ⟨_, rfl⟩
        rw [← hys] at HYC HYL HSX
        obtain ⟨oa, oc, rfl⟩ := OwnR.shape (show OwnR graphE 0 wr u5 ys from HSX.out.hd)
        clear hys hwr
        go_wp2_with (
          refine app_RB (E := graphE) (y := ⟨yn, .slice t1 f1 g1, yxs, .slice t2 f2 g2, yis, .slice t3 f3 g3, yos⟩) info_graph rfl (by decide) Tryd.underlying31 (graph_one' _ _ _ _ _ _ _ _ _ _ _ _ _) rfl (.tmp 26) (.tmp 32) rfl rfl rfl rfl rfl HSX.out (by have := HYL.out; omega) ?_
          intro g c w5 h5
          rw [← HYC.out] at h5
          have HS6 := Lib.hid h5
          clear h5)
        go_roundw
        case rel => exact ⟨q, by omega, by go_num, HS6.out⟩
        case measure => simp [intOf]
end Go.Proofs.YtlpgjnjhhgjkmaaDoor

/-
  Is it a session, in the reference. Conditions: lengths are small.
-/
namespace Go.Proofs.YtlpgjnjhhgjkmaaDoor
open Go.RowKit
set_option linter.unusedVariables false
set_option maxRecDepth 100000

theorem snB_eq (s : Se) (g : Gr) : snB s g = (ovB s.p g && (monB g && (decide (g.i.length = s.now.i.length) && decide (g.o.length = s.now.o.length)))) := rfl
set_option maxHeartbeats 2000000 in
theorem snGraph_any (s : Se) (pv e1 i1 o1 fv e2 i2 o2 ev iv ov : Value) (y : Gr) (w : World) (hr : RdSe graphE edgeE w s pv e1 i1 o1 fv e2 i2 o2) (he : RdE edgeE w ev y.es) (hi : IntsV w iv y.i) (ho : IntsV w ov y.o) (hsm : Sm y) :
    Calls Tryd.prog 34 #[seV s.p s.k s.l pv s.now.n e1 i1 o1 fv s.goal.n e2 i2 o2, grV y.n ev iv ov] w fun e w' => e = .returned (.bool (snB s y)) ∧ w.grownBy w' none := by
  have HOV := Lib.hid fun W (h : w.grownBy W none) => hgGood_any s.p ev iv ov y W (he.carry h) (hi.carry h) (ho.carry h) (by have := hsm.es; omega) (by have := hsm.i; omega) (by have := hsm.o; omega)
  have HMO := Lib.hid fun (hg : grB y = true) W (h : w.grownBy W none) => hgMono_any ev iv ov y W (he.carry h) (hi.carry h) (ho.carry h) hg
  unfold grV at *
  obtain ⟨pa, pc, rfl⟩ := hr.past.shape
  obtain ⟨a1, c1, rfl⟩ := hr.es1.shape
  obtain ⟨a2, c2, rfl⟩ := hr.is1.shape
  obtain ⟨a3, c3, rfl⟩ := hr.os1.shape
  obtain ⟨fa, fc, rfl⟩ := hr.fut.shape
  obtain ⟨b1, d1, rfl⟩ := hr.es2.shape
  obtain ⟨b2, d2, rfl⟩ := hr.is2.shape
  obtain ⟨b3, d3, rfl⟩ := hr.os2.shape
  obtain ⟨t1, r1, rfl⟩ := he.shape
  obtain ⟨t2, r2, rfl⟩ := hi.shape
  obtain ⟨t3, r3, rfl⟩ := ho.shape
  clear hr he hi ho hsm
  have hgr : ovB s.p y = true → grB y = true := by unfold ovB; intro h; simp only [Bool.and_eq_true] at h; exact h.2.1
  have HS := Lib.hid (snB_eq s y)
  unfold seV
  have hs0 := ((Sep.start w).box #[.int .i64 s.p, .int .i64 s.k, .int .i64 s.l, .slice pa s.past.length pc, .int .i64 s.now.n, .slice a1 s.now.es.length c1, .slice a2 s.now.i.length c2, .slice a3 s.now.o.length c3, .slice fa s.fut.length fc, .int .i64 s.goal.n, .slice b1 s.goal.es.length d1, .slice b2 s.goal.i.length d2, .slice b3 s.goal.o.length d3] 36).box #[.int .i64 y.n, .slice t1 y.es.length r1, .slice t2 y.i.length r2, .slice t3 y.o.length r3] 34
  have e1 : (w.alloc (.cells #[.int .i64 s.p, .int .i64 s.k, .int .i64 s.l, .slice pa s.past.length pc, .int .i64 s.now.n, .slice a1 s.now.es.length c1, .slice a2 s.now.i.length c2, .slice a3 s.now.o.length c3, .slice fa s.fut.length fc, .int .i64 s.goal.n, .slice b1 s.goal.es.length d1, .slice b2 s.goal.i.length d2, .slice b3 s.goal.o.length d3] 36)).heap.size = w.heap.size + 1 := by simp
  rw [e1] at hs0
  have HS0 := Lib.hid hs0
  have HK0 := Lib.hid (show w.grownBy _ none from hs0.tl.tl.hd)
  clear hs0 e1
  generalize s.past.length = pn at *
  generalize s.fut.length = fn at *
  generalize s.now.es.length = n1 at *
  generalize s.now.i.length = n2 at *
  generalize s.now.o.length = n3 at *
  generalize s.goal.es.length = m1 at *
  generalize s.goal.i.length = m2 at *
  generalize s.goal.o.length = m3 at *
  cases hov : ovB s.p y
  · rw [hov] at HOV
    have HR := Lib.hid (show snB s y = false by rw [HS.out, hov]; rfl)
    clear hov hgr
    generalize y.es.length = l1 at *
    generalize y.i.length = l2 at *
    generalize y.o.length = l3 at *
    generalize y.n = yn at *
    go_enter Tryd.func34, Tryd.ntmps34
    go_wp2_with (
      go_at_call 49
      with_reducible refine (HOV.out _ HK0.out).mono ?_
      rintro e w6 ⟨rfl, hg⟩
      have HK6 := Lib.hid (grownBy_trans HK0.out hg)
      clear hg)
    go_ret
    exact ⟨by rw [HR.out]; try rfl, HK6.out⟩
  · rw [hov] at HOV
    have HM1 := Lib.hid (HMO.out (hgr hov))
    have HS2 := Lib.hid (show snB s y = (monB y && (decide (y.i.length = n2) && decide (y.o.length = n3))) by rw [HS.out, hov]; rfl)
    clear hov hgr HMO
    cases hmb : monB y
    · rw [hmb] at HM1
      have HR := Lib.hid (show snB s y = false by rw [HS2.out, hmb]; rfl)
      clear hmb
      generalize y.es.length = l1 at *
      generalize y.i.length = l2 at *
      generalize y.o.length = l3 at *
      generalize y.n = yn at *
      go_enter Tryd.func34, Tryd.ntmps34
      go_wp2_with (first
        | (go_at_call 49
           with_reducible refine (HOV.out _ HK0.out).mono ?_
           rintro e w6 ⟨rfl, hg⟩
           have hs6 := HS0.out.grown hg
           obtain ⟨v0, v1, v2, v3, v4, v5, v6, v7, v8, v9, va, vb, vc⟩ := bq13 hs6.tl.hd
           obtain ⟨u0, u1, u2, u3, _⟩ := bq4 hs6.hd
           have HSC := Lib.hid hs6
           have HK6 := Lib.hid (show w.grownBy _ none from hs6.tl.tl.hd)
           clear hg hs6)
        | (go_at_call 50
           with_reducible refine (HM1.out _ HK6.out).mono ?_
           rintro e w7 ⟨rfl, hg⟩
           have hs7 := HSC.out.grown hg
           obtain ⟨v0, v1, v2, v3, v4, v5, v6, v7, v8, v9, va, vb, vc⟩ := bq13 hs7.tl.hd
           obtain ⟨u0, u1, u2, u3, _⟩ := bq4 hs7.hd
           have HK7 := Lib.hid (show w.grownBy _ none from hs7.tl.tl.hd)
           clear hg hs7))
      go_ret
      exact ⟨by rw [HR.out]; try rfl, HK7.out⟩
    · rw [hmb] at HM1
      have HS3 := Lib.hid (show snB s y = (decide (y.i.length = n2) && decide (y.o.length = n3)) by rw [HS2.out, hmb]; rfl)
      clear hmb
      generalize y.es.length = l1 at *
      generalize y.i.length = l2 at *
      generalize y.o.length = l3 at *
      generalize y.n = yn at *
      by_cases hl2 : l2 = n2
      · subst hl2
        have f2 : ((l2 : Int) == (l2 : Int)) = true := by simp
        obtain ⟨d, hd⟩ : ∃ d, d = decide (l3 = n3) := ⟨_, rfl⟩
        have f3 : ((l3 : Int) == (n3 : Int)) = d := by
          rw [hd]
          by_cases h : l3 = n3
          · rw [decide_eq_true h, h]; simp
          · rw [decide_eq_false h, beq_eq_false_iff_ne]; omega
        have HR := Lib.hid (show snB s y = d by rw [HS3.out, ← hd]; simp)
        clear hd
        go_enter Tryd.func34, Tryd.ntmps34
        go_wp2_with (first
          | (go_at_call 49
             with_reducible refine (HOV.out _ HK0.out).mono ?_
             rintro e w6 ⟨rfl, hg⟩
             have hs6 := HS0.out.grown hg
             obtain ⟨v0, v1, v2, v3, v4, v5, v6, v7, v8, v9, va, vb, vc⟩ := bq13 hs6.tl.hd
             obtain ⟨u0, u1, u2, u3, _⟩ := bq4 hs6.hd
             have HSC := Lib.hid hs6
             have HK6 := Lib.hid (show w.grownBy _ none from hs6.tl.tl.hd)
             clear hg hs6)
          | (go_at_call 50
             with_reducible refine (HM1.out _ HK6.out).mono ?_
             rintro e w7 ⟨rfl, hg⟩
             have hs7 := HSC.out.grown hg
             obtain ⟨v0, v1, v2, v3, v4, v5, v6, v7, v8, v9, va, vb, vc⟩ := bq13 hs7.tl.hd
             obtain ⟨u0, u1, u2, u3, _⟩ := bq4 hs7.hd
             have HK7 := Lib.hid (show w.grownBy _ none from hs7.tl.tl.hd)
             clear hg hs7))
        go_ret
        exact ⟨by rw [HR.out]; try rfl, HK7.out⟩
      · have HR := Lib.hid (show snB s y = false by rw [HS3.out, decide_eq_false hl2]; rfl)
        have f2 : ((l2 : Int) == (n2 : Int)) = false := by rw [beq_eq_false_iff_ne]; omega
        go_enter Tryd.func34, Tryd.ntmps34
        go_wp2_with (first
          | (go_at_call 49
             with_reducible refine (HOV.out _ HK0.out).mono ?_
             rintro e w6 ⟨rfl, hg⟩
             have hs6 := HS0.out.grown hg
             obtain ⟨v0, v1, v2, v3, v4, v5, v6, v7, v8, v9, va, vb, vc⟩ := bq13 hs6.tl.hd
             obtain ⟨u0, u1, u2, u3, _⟩ := bq4 hs6.hd
             have HSC := Lib.hid hs6
             have HK6 := Lib.hid (show w.grownBy _ none from hs6.tl.tl.hd)
             clear hg hs6)
          | (go_at_call 50
             with_reducible refine (HM1.out _ HK6.out).mono ?_
             rintro e w7 ⟨rfl, hg⟩
             have hs7 := HSC.out.grown hg
             obtain ⟨v0, v1, v2, v3, v4, v5, v6, v7, v8, v9, va, vb, vc⟩ := bq13 hs7.tl.hd
             obtain ⟨u0, u1, u2, u3, _⟩ := bq4 hs7.hd
             have HK7 := Lib.hid (show w.grownBy _ none from hs7.tl.tl.hd)
             clear hg hs7))
        go_ret
        exact ⟨by rw [HR.out]; try rfl, HK7.out⟩
theorem sesB_spec (s : Se) : sesB s = ((fldB s.p && (elB s.p s.k && elB s.p s.l)) && (snB s s.now && (snB s s.goal && (decide (s.past.length + s.fut.length ≤ 30) && (s.past.all (snB s) && s.fut.all (snB s)))))) := by
  unfold sesB allG
  simp only [List.all_cons, List.all_nil, List.all_append, Bool.and_true]
  generalize (fldB s.p && (elB s.p s.k && elB s.p s.l)) = a
  generalize snB s s.now = b
  generalize snB s s.goal = c
  generalize decide (s.past.length + s.fut.length ≤ 30) = d
  cases a <;> cases b <;> cases c <;> cases d <;> rfl
set_option maxHeartbeats 4000000 in
theorem snGood_any (s : Se) (pv e1 i1 o1 fv e2 i2 o2 : Value) (w : World) (hr : RdSe graphE edgeE w s pv e1 i1 o1 fv e2 i2 o2) (hsm : SmS s) :
    Calls Tryd.prog 18 #[seV s.p s.k s.l pv s.now.n e1 i1 o1 fv s.goal.n e2 i2 o2] w fun e w' => e = .returned (.bool (sesB s)) ∧ w.grownBy w' none := by
  have HSG := Lib.hid fun (y : Gr) ev iv ov W (h : w.grownBy W none) (he : RdE edgeE W ev y.es) (hi : IntsV W iv y.i) (ho : IntsV W ov y.o) (hy : Sm y) => snGraph_any s _ _ _ _ _ _ _ _ ev iv ov y W (hr.carry h) he hi ho hy
  have HN := Lib.hid fun W (h : w.grownBy W none) => snGraph_any s _ _ _ _ _ _ _ _ _ _ _ s.now W (hr.carry h) (hr.es1.carry h) (hr.is1.carry h) (hr.os1.carry h) hsm.now
  have HG := Lib.hid fun W (h : w.grownBy W none) => snGraph_any s _ _ _ _ _ _ _ _ _ _ _ s.goal W (hr.carry h) (hr.es2.carry h) (hr.is2.carry h) (hr.os2.carry h) hsm.goal
  have HFT := Lib.hid fun W => fdTwo_any s.p s.k s.l W
  have HVP := Lib.hid hr.past; have HVF := Lib.hid hr.fut
  have HSP := Lib.hid hsm.past; have HSF := Lib.hid hsm.fut
  have hpl := hsm.pl
  have hfl := hsm.fl
  obtain ⟨pa, pc, rfl⟩ := hr.past.shape
  obtain ⟨a1, c1, rfl⟩ := hr.es1.shape
  obtain ⟨a2, c2, rfl⟩ := hr.is1.shape
  obtain ⟨a3, c3, rfl⟩ := hr.os1.shape
  obtain ⟨fa, fc, rfl⟩ := hr.fut.shape
  obtain ⟨b1, d1, rfl⟩ := hr.es2.shape
  obtain ⟨b2, d2, rfl⟩ := hr.is2.shape
  obtain ⟨b3, d3, rfl⟩ := hr.os2.shape
  clear hr hsm
  have HSB := Lib.hid (sesB_spec s)
  unfold seV grV at *
  have HS0 := Lib.hid ((Sep.start w).box #[.int .i64 s.p, .int .i64 s.k, .int .i64 s.l, .slice pa s.past.length pc, .int .i64 s.now.n, .slice a1 s.now.es.length c1, .slice a2 s.now.i.length c2, .slice a3 s.now.o.length c3, .slice fa s.fut.length fc, .int .i64 s.goal.n, .slice b1 s.goal.es.length d1, .slice b2 s.goal.i.length d2, .slice b3 s.goal.o.length d3] 36)
  have HK0 := Lib.hid (show w.grownBy _ none from HS0.out.tl.hd)
  have HG0 := Lib.hid (grownBy_refl w none)
  generalize hpn : s.past.length = pn at *
  generalize hfn : s.fut.length = fn at *
  generalize s.now.es.length = n1 at *
  generalize s.now.i.length = n2 at *
  generalize s.now.o.length = n3 at *
  generalize s.goal.es.length = m1 at *
  generalize s.goal.i.length = m2 at *
  generalize s.goal.o.length = m3 at *
  have HPN := Lib.hid hpn; have HFN := Lib.hid hfn
  clear hpn hfn
  cases h0 : (fldB s.p && (elB s.p s.k && elB s.p s.l))
  · rw [h0] at HFT
    have HR := Lib.hid (show sesB s = false by rw [HSB.out, h0]; rfl)
    clear h0
    go_enter Tryd.func18, Tryd.ntmps18
    go_wp2_with (go_at_call 33; with_reducible refine (HFT.out _).mono ?_; rintro e w3 ⟨rfl, rfl⟩)
    go_ret
    exact ⟨by rw [HR.out]; try rfl, HK0.out⟩
  · rw [h0] at HFT
    have H0 := Lib.hid h0
    clear h0
    cases h1 : snB s s.now
    · rw [h1] at HN
      have HR := Lib.hid (show sesB s = false by rw [HSB.out, h1]; simp)
      clear h1
      go_enter Tryd.func18, Tryd.ntmps18
      go_wp2_with (first
        | (go_at_call 33; with_reducible refine (HFT.out _).mono ?_; rintro e w3 ⟨rfl, rfl⟩)
        | (go_at_call 34
           with_reducible refine (HN.out _ HK0.out).mono ?_
           rintro e w4 ⟨rfl, hg⟩
           have HK4 := Lib.hid (grownBy_trans HK0.out hg)
           clear hg))
      go_ret
      exact ⟨by rw [HR.out]; try rfl, HK4.out⟩
    · rw [h1] at HN
      have H1 := Lib.hid h1
      clear h1
      cases h2 : snB s s.goal
      · rw [h2] at HG
        have HR := Lib.hid (show sesB s = false by rw [HSB.out, h2]; simp)
        clear h2
        go_enter Tryd.func18, Tryd.ntmps18
        go_wp2_with (first
          | (go_at_call 33; with_reducible refine (HFT.out _).mono ?_; rintro e w3 ⟨rfl, rfl⟩)
          | (go_at_call 34
             with_reducible refine (HN.out _ HK0.out).mono ?_
             rintro e w4 ⟨rfl, hg⟩
             have hs4 := HS0.out.grown hg
             obtain ⟨x0, x1, x2, x3, x4, x5, x6, x7, x8, x9, xa, xb, xc⟩ := bq13 hs4.hd
             have HS4 := Lib.hid hs4
             have HK4 := Lib.hid (show w.grownBy _ none from hs4.tl.hd)
             clear hg hs4)
          | (go_at_call 34
             with_reducible refine (HG.out _ HK4.out).mono ?_
             rintro e w5 ⟨rfl, hg⟩
             have hs5 := HS4.out.grown hg
             obtain ⟨v0, v1, v2, v3, v4, v5, v6, v7, v8, v9, va, vb, vc⟩ := bq13 hs5.hd
             have HS5 := Lib.hid hs5
             have HK5 := Lib.hid (show w.grownBy _ none from hs5.tl.hd)
             clear hg hs5))
        go_ret
        exact ⟨by rw [HR.out]; try rfl, HK5.out⟩
      · rw [h2] at HG
        have H2 := Lib.hid h2
        clear h2
        have hwr : IntKind.i64.wrap ((pn : Int) + (fn : Int)) = (pn : Int) + (fn : Int) := by rw [IntKind.wrap_i64]; omega
        by_cases hq : (30 : Int) < (pn : Int) + (fn : Int)
        · have HR := Lib.hid (show sesB s = false by rw [HSB.out, decide_eq_false (by omega : ¬ pn + fn ≤ 30)]; simp)
          go_enter Tryd.func18, Tryd.ntmps18
          go_wp2_with (first
            | (go_at_call 33; with_reducible refine (HFT.out _).mono ?_; rintro e w3 ⟨rfl, rfl⟩)
            | (go_at_call 34
               with_reducible refine (HN.out _ HK0.out).mono ?_
               rintro e w4 ⟨rfl, hg⟩
               have hs4 := HS0.out.grown hg
               obtain ⟨x0, x1, x2, x3, x4, x5, x6, x7, x8, x9, xa, xb, xc⟩ := bq13 hs4.hd
               have HS4 := Lib.hid hs4
               have HK4 := Lib.hid (show w.grownBy _ none from hs4.tl.hd)
               clear hg hs4)
            | (go_at_call 34
               with_reducible refine (HG.out _ HK4.out).mono ?_
               rintro e w5 ⟨rfl, hg⟩
               have hs5 := HS4.out.grown hg
               obtain ⟨v0, v1, v2, v3, v4, v5, v6, v7, v8, v9, va, vb, vc⟩ := bq13 hs5.hd
               have HS5 := Lib.hid hs5
               have HK5 := Lib.hid (show w.grownBy _ none from hs5.tl.hd)
               clear hg hs5))
          go_ret
          exact ⟨by rw [HR.out]; try rfl, HK5.out⟩
        · have hsum : pn + fn ≤ 30 := by omega
          have HR := Lib.hid (show sesB s = (s.past.all (snB s) && s.fut.all (snB s)) by rw [HSB.out, H0.out, H1.out, H2.out, decide_eq_true hsum]; rfl)
          go_enter Tryd.func18, Tryd.ntmps18
          go_wp2_with (first
            | (go_at_call 33; with_reducible refine (HFT.out _).mono ?_; rintro e w3 ⟨rfl, rfl⟩)
            | (go_at_call 34
               with_reducible refine (HN.out _ HK0.out).mono ?_
               rintro e w4 ⟨rfl, hg⟩
               have hs4 := HS0.out.grown hg
               obtain ⟨x0, x1, x2, x3, x4, x5, x6, x7, x8, x9, xa, xb, xc⟩ := bq13 hs4.hd
               have HS4 := Lib.hid hs4
               have HK4 := Lib.hid (show w.grownBy _ none from hs4.tl.hd)
               clear hg hs4)
            | (go_at_call 34
               with_reducible refine (HG.out _ HK4.out).mono ?_
               rintro e w5 ⟨rfl, hg⟩
               have hs5 := HS4.out.grown hg
               obtain ⟨v0, v1, v2, v3, v4, v5, v6, v7, v8, v9, va, vb, vc⟩ := bq13 hs5.hd
               have HS5 := Lib.hid hs5
               have HK5 := Lib.hid (show w.grownBy _ none from hs5.tl.hd)
               clear hg hs5))
          clear v0 v1 v2 v3 v4 v5 v6 v7 v8 v9 va vb vc x0 x1 x2 x3 x4 x5 x6 x7 x8 x9 xa xb xc
          have HSW := Lib.hid HS5.out
          obtain ⟨z0, z1, z2, z3, z4, z5, z6, z7, z8, z9, za, zb, zc⟩ := bq13 HS5.out.hd
          go_loopw [4, 42] (fun _ i wx => ∃ k : Nat, k ≤ pn ∧ i = .int .i64 k ∧ (s.past.take k).all (snB s) = true ∧ w5.grownBy wx none) (fun _ i _ => pn - (intOf i).toNat)
          case atStart => exact ⟨0, by omega, rfl, by simp, grownBy_refl _ _⟩
          case round =>
            obtain ⟨k, hk, rfl, ha, hg⟩ := hrel
            have HA := Lib.hid ha; have HGG := Lib.hid hg
            clear ha hg z0 z1 z2 z3 z4 z5 z6 z7 z8 z9 za zb zc
            have hsw := HSW.out.grown HGG.out
            by_cases hlt : k < pn
            · have hke : k < s.past.length := by rw [HPN.out]; exact hlt
              obtain ⟨gb, go, ev, iv, ov, rfl, hat⟩ := HVP.out.atK rfl rfl hke
              obtain ⟨⟨q0, q1, q2, q3⟩, he, hi, ho⟩ := hat wr hsw.tl.hd
              have HTK := Lib.hid (snall_take (s := s) hke)
              have HBD := Lib.hid (snall_bad (s := s) hke)
              have hSM := HSP.out _ (getD_mem (d := gr00) hke)
              generalize s.past.getD k gr00 = y at *
              have HC := Lib.hid fun W (h : wr.grownBy W none) => HSG.out y ev iv ov W (grownBy_trans hsw.tl.hd h) (he.carry h) (hi.carry h) (ho.carry h) hSM
              obtain ⟨t1, r1, rfl⟩ := he.shape
              obtain ⟨t2, r2, rfl⟩ := hi.shape
              obtain ⟨t3, r3, rfl⟩ := ho.shape
              have hsb := (hsw.box #[.int .i64 y.n, .slice t1 y.es.length r1, .slice t2 y.i.length r2, .slice t3 y.o.length r3] 34).s2
              obtain ⟨z0, z1, z2, z3, z4, z5, z6, z7, z8, z9, za, zb, zc⟩ := bq13 hsb.hd
              have HGB := Lib.hid (gr1 wr (.cells #[.int .i64 y.n, .slice t1 y.es.length r1, .slice t2 y.i.length r2, .slice t3 y.o.length r3] 34))
              have HKB := Lib.hid (show w.grownBy _ none from hsb.tl.tl.hd)
              clear he hi ho hat hke hsw hsb hSM
              generalize y.es.length = l1 at *
              generalize y.i.length = l2 at *
              generalize y.o.length = l3 at *
              generalize y.n = yn at *
              cases hb : snB s y
              · rw [hb] at HC
                have HR2 := Lib.hid (show sesB s = false by rw [HR.out, HBD.out hb]; try simp)
                clear hb
                go_wp2_with (
                  go_at_call 34
                  with_reducible refine (HC.out _ HGB.out).mono ?_
                  rintro e w6 ⟨rfl, hg⟩
                  have HK6 := Lib.hid (grownBy_trans HKB.out hg)
                  clear hg)
                go_ret
                exact ⟨by rw [HR2.out]; try rfl, HK6.out⟩
              · rw [hb] at HC
                have HN3 := Lib.hid (show (s.past.take (k + 1)).all (snB s) = true by rw [HTK.out, HA.out, hb]; rfl)
                clear hb
                go_wp2_with (
                  go_at_call 34
                  with_reducible refine (HC.out _ HGB.out).mono ?_
                  rintro e w6 ⟨rfl, hg⟩
                  have HG6 := Lib.hid (grownBy_trans HGG.out (grownBy_trans HGB.out hg))
                  clear hg)
                go_roundw
                case rel => exact ⟨k + 1, by omega, by go_num, HN3.out, HG6.out⟩
                case measure => simp [intOf]; omega
            · have hkn : k = pn := by omega
              subst hkn
              have ha := HA.out
              rw [List.take_of_length_le (by rw [HPN.out]; exact Nat.le_refl _)] at ha
              have HR3 := Lib.hid (show sesB s = s.fut.all (snB s) by rw [HR.out, ha]; rfl)
              clear HR
              have HR := HR3
              have HS6 := Lib.hid hsw
              obtain ⟨z0, z1, z2, z3, z4, z5, z6, z7, z8, z9, za, zb, zc⟩ := bq13 hsw.hd
              clear ha hlt hsw HSW HGG HA
              go_wp2_with fail
              have HSW := HS6
              clear HS6 HR3
              go_loopw [6, 54] (fun _ i wx => ∃ k : Nat, k ≤ fn ∧ i = .int .i64 k ∧ (s.fut.take k).all (snB s) = true ∧ wr.grownBy wx none) (fun _ i _ => fn - (intOf i).toNat)
              case atStart => exact ⟨0, by omega, rfl, by simp, grownBy_refl _ _⟩
              case round =>
                obtain ⟨k, hk, rfl, ha, hg⟩ := hrel
                have HA := Lib.hid ha; have HGG := Lib.hid hg
                clear ha hg z0 z1 z2 z3 z4 z5 z6 z7 z8 z9 za zb zc
                have hsw := HSW.out.grown HGG.out
                by_cases hlt : k < fn
                · have hke : k < s.fut.length := by rw [HFN.out]; exact hlt
                  obtain ⟨gb, go, ev, iv, ov, rfl, hat⟩ := HVF.out.atK rfl rfl hke
                  obtain ⟨⟨q0, q1, q2, q3⟩, he, hi, ho⟩ := hat wr hsw.tl.hd
                  have HTK := Lib.hid (snall_take (s := s) hke)
                  have HBD := Lib.hid (snall_bad (s := s) hke)
                  have hSM := HSF.out _ (getD_mem (d := gr00) hke)
                  generalize s.fut.getD k gr00 = y at *
                  have HC := Lib.hid fun W (h : wr.grownBy W none) => HSG.out y ev iv ov W (grownBy_trans hsw.tl.hd h) (he.carry h) (hi.carry h) (ho.carry h) hSM
                  obtain ⟨t1, r1, rfl⟩ := he.shape
                  obtain ⟨t2, r2, rfl⟩ := hi.shape
                  obtain ⟨t3, r3, rfl⟩ := ho.shape
                  have hsb := (hsw.box #[.int .i64 y.n, .slice t1 y.es.length r1, .slice t2 y.i.length r2, .slice t3 y.o.length r3] 34).s2
                  obtain ⟨z0, z1, z2, z3, z4, z5, z6, z7, z8, z9, za, zb, zc⟩ := bq13 hsb.hd
                  have HGB := Lib.hid (gr1 wr (.cells #[.int .i64 y.n, .slice t1 y.es.length r1, .slice t2 y.i.length r2, .slice t3 y.o.length r3] 34))
                  have HKB := Lib.hid (show w.grownBy _ none from hsb.tl.tl.hd)
                  clear he hi ho hat hke hsw hsb hSM
                  generalize y.es.length = l1 at *
                  generalize y.i.length = l2 at *
                  generalize y.o.length = l3 at *
                  generalize y.n = yn at *
                  cases hb : snB s y
                  · rw [hb] at HC
                    have HR2 := Lib.hid (show sesB s = false by rw [HR.out, HBD.out hb]; try simp)
                    clear hb
                    go_wp2_with (
                      go_at_call 34
                      with_reducible refine (HC.out _ HGB.out).mono ?_
                      rintro e w6 ⟨rfl, hg⟩
                      have HK6 := Lib.hid (grownBy_trans HKB.out hg)
                      clear hg)
                    go_ret
                    exact ⟨by rw [HR2.out]; try rfl, HK6.out⟩
                  · rw [hb] at HC
                    have HN3 := Lib.hid (show (s.fut.take (k + 1)).all (snB s) = true by rw [HTK.out, HA.out, hb]; rfl)
                    clear hb
                    go_wp2_with (
                      go_at_call 34
                      with_reducible refine (HC.out _ HGB.out).mono ?_
                      rintro e w6 ⟨rfl, hg⟩
                      have HG6 := Lib.hid (grownBy_trans HGG.out (grownBy_trans HGB.out hg))
                      clear hg)
                    go_roundw
                    case rel => exact ⟨k + 1, by omega, by go_num, HN3.out, HG6.out⟩
                    case measure => simp [intOf]; omega
                · have hkn : k = fn := by omega
                  subst hkn
                  have ha := HA.out
                  rw [List.take_of_length_le (by rw [HFN.out]; exact Nat.le_refl _)] at ha
                  have HR3 := Lib.hid (show sesB s = true by rw [HR.out, ha]; try rfl)
                  have HKF := Lib.hid (show w.grownBy wr none from hsw.tl.hd)
                  clear ha hlt hsw
                  go_wp2
                  go_ret
                  exact ⟨by rw [HR3.out]; try rfl, HKF.out⟩
end Go.Proofs.YtlpgjnjhhgjkmaaDoor

/-
  HistoryOf in the reference. Conditions: lengths are small.
-/
namespace Go.Proofs.YtlpgjnjhhgjkmaaDoor
open Go.RowKit
set_option linter.unusedVariables false
set_option maxRecDepth 100000

set_option maxHeartbeats 8000000 in
theorem sHistory_any (s : Se) (pv e1 i1 o1 fv e2 i2 o2 : Value) (w : World) (hr : RdSe graphE edgeE w s pv e1 i1 o1 fv e2 i2 o2) (hsm : SmS s) :
    Calls Tryd.prog 10 #[seV s.p s.k s.l pv s.now.n e1 i1 o1 fv s.goal.n e2 i2 o2] w (HistR s w) := by
  have HIS := Lib.hid fun W (h : w.grownBy W none) => snGood_any s _ _ _ _ _ _ _ _ W (hr.carry h) hsm
  have HSG := Lib.hid fun (hb : sesB s = true) W (h : w.grownBy W none) => snGraphs_any pv s.past W (hr.past.carry h) (fun g hg => (ses_valid hb).1 g (by unfold allG; simp [hg])) (by have := (ses_valid hb).2.1; omega)
  have HON := Lib.hid fun (hb : sesB s = true) W (h : w.grownBy W none) => hgOwn_any e1 i1 o1 s.now W (hr.es1.carry h) (hr.is1.carry h) (hr.os1.carry h) ((ses_valid hb).1 _ (by unfold allG; simp))
  have HGF := Lib.hid fun (hb : sesB s = true) (g : Gr) (hg : g ∈ s.fut) => (ses_valid hb).1 g (by unfold allG; simp [hg])
  have HLL := Lib.hid fun (hb : sesB s = true) => (ses_valid hb).2
  have HVF := Lib.hid hr.fut
  obtain ⟨pa, pc, rfl⟩ := hr.past.shape
  obtain ⟨a1, c1, rfl⟩ := hr.es1.shape
  obtain ⟨a2, c2, rfl⟩ := hr.is1.shape
  obtain ⟨a3, c3, rfl⟩ := hr.os1.shape
  obtain ⟨fa, fc, rfl⟩ := hr.fut.shape
  obtain ⟨b1, d1, rfl⟩ := hr.es2.shape
  obtain ⟨b2, d2, rfl⟩ := hr.is2.shape
  obtain ⟨b3, d3, rfl⟩ := hr.os2.shape
  clear hr hsm
  unfold OwnG at HON
  unfold seV grV at *
  unfold HistR
  have HS0 := Lib.hid ((Sep.start w).box #[.int .i64 s.p, .int .i64 s.k, .int .i64 s.l, .slice pa s.past.length pc, .int .i64 s.now.n, .slice a1 s.now.es.length c1, .slice a2 s.now.i.length c2, .slice a3 s.now.o.length c3, .slice fa s.fut.length fc, .int .i64 s.goal.n, .slice b1 s.goal.es.length d1, .slice b2 s.goal.i.length d2, .slice b3 s.goal.o.length d3] 36)
  have HK0 := Lib.hid (show w.grownBy _ none from HS0.out.tl.hd)
  generalize hpn : s.past.length = pn at *
  generalize hfn : s.fut.length = fn at *
  generalize s.now.es.length = n1 at *
  generalize s.now.i.length = n2 at *
  generalize s.now.o.length = n3 at *
  generalize s.goal.es.length = m1 at *
  generalize s.goal.i.length = m2 at *
  generalize s.goal.o.length = m3 at *
  have HPN := Lib.hid hpn; have HFN := Lib.hid hfn
  clear hpn hfn
  cases hb : sesB s
  · rw [hb] at HIS
    clear hb HSG HON HGF HLL
    go_enter Tryd.func10, Tryd.ntmps10
    go_wp2_with (
      go_at_call 18
      with_reducible refine (HIS.out _ HK0.out).mono ?_
      rintro e w2 ⟨rfl, hg⟩
      have HK2 := Lib.hid (grownBy_trans HK0.out hg)
      clear hg)
    refine bodyPost_ret_by (v := .tuple #[.slice none 0 0, .bool false]) ?_ rfl ⟨_, rfl, [], rfl, ?_⟩
    · simp [results, go_sem, *]
    · have h := (OG.nil (w := w)).grown HK2.out
      exact h
  · rw [hb] at HIS
    have HSG1 := Lib.hid (HSG.out hb); have HON1 := Lib.hid (HON.out hb); have HGF1 := Lib.hid (HGF.out hb)
    obtain ⟨hl1, hl2⟩ := HLL.out hb
    have HPL := Lib.hid hl1; have HFL := Lib.hid hl2
    have hwr : IntKind.i64.wrap ((fn : Int) - 1) = (fn : Int) - 1 := by rw [IntKind.wrap_i64]; omega
    clear hb HSG HON HGF HLL hl1 hl2
    rw [if_pos rfl]
    go_enter Tryd.func10, Tryd.ntmps10
    go_upto_region 3 with (
      go_at_call 18
      with_reducible refine (HIS.out _ HK0.out).mono ?_
      rintro e w2 ⟨rfl, hg⟩
      have HS2 := Lib.hid (HS0.out.grown hg)
      have HK2 := Lib.hid (show w.grownBy w2 none from HS2.out.tl.hd)
      clear hg)
    have HSD := Lib.hid HS2.out.dr
    have HKD := Lib.hid (show w.grownBy _ none from HSD.out.tl.hd)
    have SX := Lib.hid fun (W : World) (l : List Asrt) (h : Sep W (BxA w.heap.size #[.int .i64 s.p, .int .i64 s.k, .int .i64 s.l, .slice pa pn pc, .int .i64 s.now.n, .slice a1 n1 c1, .slice a2 n2 c2, .slice a3 n3 c3, .slice fa fn fc, .int .i64 s.goal.n, .slice b1 m1 d1, .slice b2 m2 d2, .slice b3 m3 d3] 36 :: l)) =>
      show (W.cell? ⟨w.heap.size, 3, none⟩ = some (.slice pa pn pc) ∧ W.cell? ⟨w.heap.size, 4, none⟩ = some (.int .i64 s.now.n) ∧ W.cell? ⟨w.heap.size, 5, none⟩ = some (.slice a1 n1 c1) ∧ W.cell? ⟨w.heap.size, 6, none⟩ = some (.slice a2 n2 c2) ∧ W.cell? ⟨w.heap.size, 7, none⟩ = some (.slice a3 n3 c3)) from by
        obtain ⟨x0, x1, x2, x3, x4, x5, x6, x7, x8, x9, xa, xb, xc⟩ := bq13 h.hd
        exact ⟨x3, x4, x5, x6, x7⟩
    have X0 := Lib.hid (SX.out _ _ HSD.out)
    refine AnyL.start (fun w' => w'.cell? ⟨w.heap.size, 3, none⟩ = some (.slice pa pn pc) ∧ w'.cell? ⟨w.heap.size, 4, none⟩ = some (.int .i64 s.now.n) ∧ w'.cell? ⟨w.heap.size, 5, none⟩ = some (.slice a1 n1 c1) ∧ w'.cell? ⟨w.heap.size, 6, none⟩ = some (.slice a2 n2 c2) ∧ w'.cell? ⟨w.heap.size, 7, none⟩ = some (.slice a3 n3 c3)) (fun _ => True) 99 (by kernel_rfl) ?_
    refine AnyL.take (i := 0) (v := ?vx1) (by rfl) (by kernel_rfl) (by kernel_rfl) (by kernel_rfl) rfl (by exact fun _ _ _ h => h) (by rfl) ?hyx1 (by exact ⟨X0.out, fun _ => trivial⟩) ?restx1
    case hyx1 => intro W hSW; (try dsimp only at hSW); first | (go_simp; done) | (go_simp; with_reducible rfl)
    try simp only [Act.put, List.setIfInBounds_toArray, List.set_cons_zero, List.set_cons_succ]
    refine AnyL.take (i := 1) (v := ?vx2) (by rfl) (by kernel_rfl) (by kernel_rfl) (by kernel_rfl) rfl (by exact fun _ _ _ h => h) (by rfl) ?hyx2 (by exact ⟨X0.out, fun _ => trivial⟩) ?restx2
    case hyx2 => intro W hSW; (try dsimp only at hSW); first | (go_simp; done) | (go_simp; with_reducible rfl)
    try simp only [Act.put, List.setIfInBounds_toArray, List.set_cons_zero, List.set_cons_succ]
    refine AnyL.take (i := 3) (v := ?vx3) (by rfl) (by kernel_rfl) (by kernel_rfl) (by kernel_rfl) rfl (by exact fun _ _ _ h => h) (by rfl) ?hyx3 (by exact ⟨X0.out, fun _ => trivial⟩) ?restx3
    case hyx3 => intro W hSW; (try dsimp only at hSW); first | (go_simp; done) | (go_simp; with_reducible rfl)
    try simp only [Act.put, List.setIfInBounds_toArray, List.set_cons_zero, List.set_cons_succ]
    refine AnyL.take (i := 4) (v := ?vx4) (by rfl) (by kernel_rfl) (by kernel_rfl) (by kernel_rfl) rfl (by exact fun _ _ _ h => h) (by rfl) ?hyx4 (by exact ⟨X0.out, fun _ => trivial⟩) ?restx4
    case hyx4 => intro W hSW; (try dsimp only at hSW); first | (go_simp; done) | (go_simp; with_reducible rfl)
    try simp only [Act.put, List.setIfInBounds_toArray, List.set_cons_zero, List.set_cons_succ]
    refine AnyL.step (i := 2) (by kernel_rfl) (by rfl) (fun K hK => ?_)
    go_simp
    go_at_call 23
    with_reducible refine (HSG1.out _ HKD.out).mono ?_
    rintro e w3 ⟨u, ps, rfl, hps, hsg⟩
    have HPS := Lib.hid hps
    have HPL2 := Lib.hid (show ps.length = pn from by rw [← HPN.out, ← hps, grs_len])
    obtain ⟨ua, uc, rfl⟩ := OG.shape hsg.hd
    have HS3 := Lib.hid (HSD.out.graft1 hsg OG_own).outBag
    have X3 := Lib.hid (SX.out _ _ HS3.out.tl.tl)
    have HK3 := Lib.hid (show w.grownBy _ none from HS3.out.tl.tl.tl.hd)
    clear hsg hps
    refine hK.out _ _ (by exact X3.out) (by exact fun _ => trivial) ?_
    clear hK K
    try simp only [Act.put, List.setIfInBounds_toArray, List.set_cons_zero, List.set_cons_succ]
    refine AnyL.step (i := 5) (by kernel_rfl) (by rfl) (fun K hK => ?_)
    go_simp
    go_at_call 24
    with_reducible refine (HON1.out _ HK3.out).mono ?_
    rintro e w4 ⟨u0, xs, u1, u2, rfl, hxs, hsg⟩
    have HXS := Lib.hid hxs
    obtain ⟨s0, r0, rfl⟩ := OE.shape hsg.hd
    obtain ⟨s1, r1, rfl⟩ := own_shape hsg.tl.hd
    obtain ⟨s2, r2, rfl⟩ := own_shape hsg.tl.tl.hd
    have HS4 := Lib.hid (HS3.out.graft3 hsg OE_own OI_own OI_own).s4
    have X4 := Lib.hid (SX.out _ _ HS4.out.tl.tl.tl.tl.tl)
    have Y4 := Lib.hid fun ob => SX.out _ _ (HS4.out.al ob).tl.tl.tl.tl.tl
    clear hsg hxs
    refine hK.out _ _ (by exact X4.out) (by exact fun _ => trivial) ?_
    clear hK K
    try simp only [Act.put, List.setIfInBounds_toArray, List.set_cons_zero, List.set_cons_succ]
    refine AnyL.step (i := 6) (by kernel_rfl) (by rfl) (fun K hK => ?_)
    go_simp
    refine hK.out _ _ (by exact Y4.out _) (by exact fun _ => trivial) ?_
    clear hK K
    try simp only [Act.put, List.setIfInBounds_toArray, List.set_cons_zero, List.set_cons_succ]
    refine AnyL.step (i := 7) (by kernel_rfl) (by rfl) (fun K hK => ?_)
    refine step_app_RG (E := graphE) (y := ⟨s.now.n, .slice s0 xs.length r0, xs, .slice s1 s.now.i.length r1, s.now.i, .slice s2 s.now.o.length r2, s.now.o⟩) info_graph rfl (by decide) Tryd.underlying31 (graph_one _ _ _ _ _ _ _ _ _ _ _ _ _) rfl (.tmp 11) (.tmp 15) rfl rfl rfl rfl rfl HS4.out (by have := HPL.out; have := HPL2.out; omega) ?_
    intro g c w5 h5
    have X5 := Lib.hid (SX.out _ _ h5.tl.tl.tl.tl.tl)
    have h6 := h5.bagThree
    rw [← rowsG_snoc ps ⟨s.now.n, .slice s0 xs.length r0, xs, .slice s1 s.now.i.length r1, s.now.i, .slice s2 s.now.o.length r2, s.now.o⟩] at h6
    have HS6 := Lib.hid h6
    clear h5 h6
    refine hK.out _ _ (by exact X5.out) (by exact fun _ => trivial) ?_
    clear hK K
    try simp only [Act.put, List.setIfInBounds_toArray, List.set_cons_zero, List.set_cons_succ]
    refine AnyL.take (i := 8) (v := ?vx5) (by rfl) (by kernel_rfl) (by kernel_rfl) (by kernel_rfl) rfl (by exact fun _ _ _ h => h) (by rfl) ?hyx5 (by exact ⟨X5.out, fun _ => trivial⟩) ?restx5
    case hyx5 => intro W hSW; (try dsimp only at hSW); first | (go_simp; done) | (go_simp; with_reducible rfl)
    try simp only [Act.put, List.setIfInBounds_toArray, List.set_cons_zero, List.set_cons_succ]
    refine AnyL.done (by kernel_rfl) ?_ _
    obtain ⟨y0, y1, y2, y3, y4, y5, y6, y7, y8, y9, ya, yb, yc⟩ := bq13 HS6.out.tl.tl.hd
    have HG0 := Lib.hid (show grs (ps ++ [(⟨s.now.n, .slice s0 xs.length r0, xs, .slice s1 s.now.i.length r1, s.now.i, .slice s2 s.now.o.length r2, s.now.o⟩ : XG)]) = s.past ++ [s.now] ++ (s.fut.drop fn).reverse from by
      rw [grs_snoc, HPS.out, List.drop_of_length_le (by rw [HFN.out]; exact Nat.le_refl _)]
      unfold XG.gr
      rw [HXS.out]
      simp)
    have HL0 := Lib.hid (show (ps ++ [(⟨s.now.n, .slice s0 xs.length r0, xs, .slice s1 s.now.i.length r1, s.now.i, .slice s2 s.now.o.length r2, s.now.o⟩ : XG)]).length = pn + 1 + (fn - fn) from by simp [HPL2.out])
    obtain ⟨zs, hzs⟩ : ∃ zs, zs = ps ++ [(⟨s.now.n, .slice s0 xs.length r0, xs, .slice s1 s.now.i.length r1, s.now.i, .slice s2 s.now.o.length r2, s.now.o⟩ : XG)] := ⟨_, rfl⟩
    have hz1 := HL0.out
    rw [← hzs] at HG0 HL0 HS6 hz1
    clear X0 X3 X4 X5 Y4 HS3 HS4 HSD SX hzs
    go_wp2_with fail
    go_loopw [4, 5] (fun ov i wr => ∃ (j : Nat) (ys : List XG), j ≤ fn ∧ i = .int .i64 ((j : Int) - 1) ∧ grs ys = s.past ++ [s.now] ++ (s.fut.drop j).reverse ∧ ys.length = pn + 1 + (fn - j) ∧ Sep wr [OR graphE ov ys, Bag (rowsG ys), BxA w.heap.size #[.int .i64 s.p, .int .i64 s.k, .int .i64 s.l, .slice pa pn pc, .int .i64 s.now.n, .slice a1 n1 c1, .slice a2 n2 c2, .slice a3 n3 c3, .slice fa fn fc, .int .i64 s.goal.n, .slice b1 m1 d1, .slice b2 m2 d2, .slice b3 m3 d3] 36, KeepA w]) (fun _ i _ => (intOf i + 1).toNat)
    case atStart => exact ⟨fn, zs, Nat.le_refl _, rfl, HG0.out, HL0.out, by have := HS6.out; simpa [HPL2.out, hz1] using this⟩
    case round =>
      obtain ⟨j, ys, hj, rfl, hyg, hyl, hs⟩ := hrel
      have HSX := Lib.hid hs; have HYG := Lib.hid hyg; have HYL := Lib.hid hyl
      clear hs HS6 y0 y1 y2 y3 y4 y5 y6 y7 y8 y9 ya yb yc hyg hyl hz1
      cases j with
      | zero =>
        have hyg := HYG.out
        rw [List.drop_zero] at hyg
        have HGR := Lib.hid (show grs ys = hist s from hyg)
        have HF := Lib.hid ((HSX.out.intoBag).drop2)
        obtain ⟨va, vc, rfl⟩ := OG.shape (show (OG u4 ys).holds wr from HF.out.hd)
        have hneg : ¬ (0 : Int) ≤ ((0 : Nat) : Int) - 1 := by omega
        clear hyg hwr
        go_wp2
        refine bodyPost_ret_by (v := .tuple #[.slice va _ vc, .bool true]) ?_ rfl ⟨_, rfl, _, HGR.out, HF.out⟩
        simp [results, go_sem, *]
      | succ q =>
        rw [show (((q + 1 : Nat) : Int) - 1) = (q : Int) by omega]
        have hwr2 : IntKind.i64.wrap ((q : Int) - 1) = (q : Int) - 1 := by have := HFL.out; rw [IntKind.wrap_i64]; omega
        have hql : q < s.fut.length := by rw [HFN.out]; exact hj
        obtain ⟨gb, go, ev, iv, ov, rfl, hat⟩ := HVF.out.atK rfl rfl hql
        obtain ⟨⟨z0, z1, z2, z3⟩, he, hi, ho⟩ := hat wr HSX.out.tl.tl.tl.hd
        have HDR := Lib.hid (drop_rev gr00 hql)
        have HGY := Lib.hid (HGF1.out _ (getD_mem (d := gr00) hql))
        generalize s.fut.getD q gr00 = y at *
        obtain ⟨t1, f1, rfl⟩ := he.shape
        obtain ⟨t2, f2, rfl⟩ := hi.shape
        obtain ⟨t3, f3, rfl⟩ := ho.shape
        have HC := Lib.hid (hgOwn_any _ _ _ y wr he hi ho HGY.out)
        unfold OwnG grV at HC
        obtain ⟨yn, ye, yi, yo⟩ := y
        simp only at z0 z1 z2 z3 HC HDR
        generalize ye.length = l1 at *
        generalize hl2 : yi.length = l2 at *
        generalize hl3 : yo.length = l3 at *
        obtain ⟨y0, y1, y2, y3, y4, y5, y6, y7, y8, y9, ya, yb, yc⟩ := bq13 HSX.out.tl.tl.hd
        obtain ⟨oa, oc, hov⟩ := OwnR.shape (show OwnR graphE 0 wr u4 ys from HSX.out.hd)
        subst hov
        have HYB := Lib.hid (show ys.length ≤ 100 by have h1 := HYL.out; have h2 := HPL.out; have h3 := HFL.out; omega)
        clear he hi ho hat hql hwr hl2 hl3
        go_wp2_with (first
          | (go_at_call 24
             with_reducible refine HC.out.mono ?_
             rintro e w5 ⟨g0, gxs, g1, g2, rfl, hxs, hsg⟩
             have HGX := Lib.hid hxs
             obtain ⟨k0, k0', rfl⟩ := OE.shape hsg.hd
             obtain ⟨k1, k1', rfl⟩ := own_shape (show OwnInts 0 w5 g1 yi from hsg.tl.hd)
             obtain ⟨k2, k2', rfl⟩ := own_shape (show OwnInts 0 w5 g2 yo from hsg.tl.tl.hd)
             have HS7 := Lib.hid (HSX.out.graft3 hsg OE_own OI_own OI_own).s4
             clear hsg hxs)
          | (refine app_RB (E := graphE) (y := ⟨yn, .slice k0 gxs.length k0', gxs, .slice k1 yi.length k1', yi, .slice k2 yo.length k2', yo⟩) info_graph rfl (by decide) Tryd.underlying31 (graph_one _ _ _ _ _ _ _ _ _ _ _ _ _) rfl (.tmp 25) (.tmp 32) rfl rfl rfl rfl rfl HS7.out (by have := HYB.out; omega) ?_
             intro g c w6 h6
             have h7 := h6.bagThree
             rw [← rowsG_snoc ys ⟨yn, .slice k0 gxs.length k0', gxs, .slice k1 yi.length k1', yi, .slice k2 yo.length k2', yo⟩] at h7
             have HS8 := Lib.hid h7
             clear h6 h7))
        go_roundw
        case rel => exact ⟨q, ys ++ [(⟨yn, .slice k0 gxs.length k0', gxs, .slice k1 yi.length k1', yi, .slice k2 yo.length k2', yo⟩ : XG)], by omega, by go_num, by rw [grs_snoc, HYG.out, HDR.out]; unfold XG.gr; rw [HGX.out]; simp, by have h1 := HYL.out; have h3 := hj; rw [List.length_append, h1]; simp; omega, HS8.out⟩
        case measure => simp [intOf]
end Go.Proofs.YtlpgjnjhhgjkmaaDoor

/-
  Lists of graphs marked. Conditions: lengths are small.
-/
namespace Go.Proofs.YtlpgjnjhhgjkmaaDoor
open Go.RowKit
set_option linter.unusedVariables false
set_option maxRecDepth 100000

def wG (g : Gr) : Nat := 1 + wEs g.es + g.i.length + g.o.length
def wGs : List Gr → Nat
  | [] => 0
  | g :: gs => wG g + wGs gs
def mkG (k : Int) (g : Gr) : Gr := ⟨k, mkEs (k + 1) g.es, cntI (k + 1 + wEs g.es) g.i.length, cntI (k + 1 + wEs g.es + g.i.length) g.o.length⟩
def mkGl (k : Int) : List Gr → List Gr
  | [] => []
  | g :: gs => mkG k g :: mkGl (k + wG g) gs
def mkY (k : Int) (y : XG) : XG := ⟨k, y.ev, mkXs (k + 1) y.xs, y.iv, cntI (k + 1 + wEs (eds y.xs)) y.is.length, y.ov, cntI (k + 1 + wEs (eds y.xs) + y.is.length) y.os.length⟩
def mkYs (k : Int) : List XG → List XG
  | [] => []
  | y :: ys => mkY k y :: mkYs (k + wG y.gr) ys
theorem mkYs_len (k : Int) (ys : List XG) : (mkYs k ys).length = ys.length := by
  induction ys generalizing k with
  | nil => rfl
  | cons x xs ih => simp only [mkYs, List.length_cons, ih]
theorem mkGl_len (k : Int) (ys : List Gr) : (mkGl k ys).length = ys.length := by
  induction ys generalizing k with
  | nil => rfl
  | cons x xs ih => simp only [mkGl, List.length_cons, ih]
theorem grs_mk (k : Int) (ys : List XG) : grs (mkYs k ys) = mkGl k (grs ys) := by
  induction ys generalizing k with
  | nil => rfl
  | cons y ys ih =>
    show (mkY k y).gr :: grs (mkYs (k + wG y.gr) ys) = mkG k y.gr :: mkGl (k + wG y.gr) (grs ys)
    rw [ih]
    unfold mkY mkG XG.gr
    simp only [eds_mk]
theorem mkYs_snoc (k : Int) (A : List XG) (y : XG) : mkYs k (A ++ [y]) = mkYs k A ++ [mkY (k + wGs (grs A)) y] := by
  induction A generalizing k with
  | nil => simp [mkYs, grs, wGs]
  | cons a A ih =>
    show mkY k a :: mkYs (k + wG a.gr) (A ++ [y]) = _
    rw [ih]
    show _ = mkY k a :: (mkYs (k + wG a.gr) A ++ [mkY (k + ((wG a.gr + wGs (grs A) : Nat) : Int)) y])
    rw [show k + ((wG a.gr + wGs (grs A) : Nat) : Int) = k + (wG a.gr : Int) + (wGs (grs A) : Int) by omega]
theorem wGs_app (A B : List Gr) : wGs (A ++ B) = wGs A + wGs B := by
  induction A with
  | nil => simp [wGs]
  | cons a A ih => simp only [List.cons_append, wGs, ih]; omega
theorem wGs_take (gs : List Gr) (k : Nat) (hk : k < gs.length) : wGs (gs.take (k + 1)) = wGs (gs.take k) + wG (gs.getD k gr00) := by
  rw [List.take_succ_eq_append_getElem hk, wGs_app, List.getD_eq_getElem?_getD, List.getElem?_eq_getElem hk]
  simp [wGs]
theorem wGs_le (gs : List Gr) (k : Nat) : wGs (gs.take k) ≤ wGs gs := by
  induction gs generalizing k with
  | nil => simp
  | cons e es ih =>
    cases k with
    | zero => simp [wGs]
    | succ k =>
      have := ih k
      simp only [List.take_succ_cons, wGs]
      omega
/-- A graph of small lengths. -/
def smW (g : Gr) : Prop := totEs g.es ≤ 2000000 ∧ g.i.length ≤ 2000000 ∧ g.o.length ≤ 2000000
theorem mkGl_at (k : Int) (gs : List Gr) (j : Nat) (hj : j < gs.length) : (mkGl k gs).getD j gr00 = mkG (k + wGs (gs.take j)) (gs.getD j gr00) := by
  induction gs generalizing k j with
  | nil => simp at hj
  | cons g gs ih =>
    cases j with
    | zero => simp [mkGl, wGs]
    | succ j =>
      show (mkGl (k + wG g) gs).getD j gr00 = _
      rw [ih (k + wG g) j (by simpa using hj)]
      simp only [List.take_succ_cons, wGs, List.getD_cons_succ]
      rw [show k + ((wG g + wGs (gs.take j) : Nat) : Int) = k + (wG g : Int) + (wGs (gs.take j) : Int) by omega]
theorem grs_snoc' (ys : List XG) (y : XG) : grs (ys ++ [y]) = grs ys ++ [y.gr] := by simp [grs]
def eds_gr (n : Int) (xs : List XE) (is os : List Int) : Gr := ⟨n, eds xs, is, os⟩
/-- The list's own cells do not tell what the edges and the lists of a graph hold. -/
theorem OwnR_swap {w : World} {v : Value} {l : List Asrt} {k q q1 q2 q3 : Int} {A R : List XG} {y : XG} (h : Sep w (OR graphE v (mkYs k A ++ (⟨q, y.ev, y.xs, y.iv, y.is, y.ov, y.os⟩ : XG) :: R) :: l)) :
    Sep w (OR graphE v (mkYs k A ++ (⟨q, y.ev, mkXs q1 y.xs, y.iv, cntI q2 y.is.length, y.ov, cntI q3 y.os.length⟩ : XG) :: R) :: l) := by
  refine h.upd' (Only.refl _ _) ?_ fun k hk => Or.inl hk
  have h1 : OwnR graphE 0 w v (mkYs k A ++ (⟨q, y.ev, y.xs, y.iv, y.is, y.ov, y.os⟩ : XG) :: R) := h.hd
  show OwnR graphE 0 w v _
  unfold OwnR at h1 ⊢
  rw [List.length_append, List.length_cons, List.flatMap_append, List.flatMap_cons] at h1 ⊢
  exact h1
theorem rowsG_cons (y : XG) (ys : List XG) : rowsG (y :: ys) = OE y.ev y.xs :: OI y.iv y.is :: OI y.ov y.os :: rowsG ys := by simp [rowsG]
theorem Sep.outBag3 {w : World} {A B C : Asrt} {L r : List Asrt} (h : Sep w (Bag (A :: B :: C :: L) :: r)) : Sep w (A :: B :: C :: Bag L :: r) :=
  h.outBag.s2.outBag.s2.outBag.s4.s4.s2
set_option maxHeartbeats 4000000 in
theorem markGraphS_any (a : Option Addr) (n c : Nat) (ys : List XG) (k : Int) (w : World) (l : List Asrt) (hs : Sep w (OG (.slice a n c) ys :: l)) (hn : n = ys.length) (hl : wGs (grs ys) ≤ 4000000) (ht : ∀ g ∈ grs ys, smW g) (h0 : 0 ≤ k) (h1 : k ≤ 30000000) :
    Calls Tryd.prog 14 #[.slice a n c, .int .i64 k] w fun e w' => e = .returned (.int .i64 (k + wGs (grs ys))) ∧ Sep w' (OG (.slice a n c) (mkYs k ys) :: l) := by
  have HS := Lib.hid hs.outBag; have HL := Lib.hid hn.symm; have HT := Lib.hid ht
  have hn2 : n ≤ 4000000 := by
    have : ∀ ys : List XG, ys.length ≤ wGs (grs ys) := by
      intro ys
      induction ys with
      | nil => simp
      | cons y ys ih =>
        show ys.length + 1 ≤ wG y.gr + wGs (grs ys)
        unfold wG
        omega
    have := this ys
    omega
  clear hs hn ht
  go_enter Tryd.func14, Tryd.ntmps14
  go_wp2
  go_loopw [1, 5] (fun kv i wr => ∃ (j : Nat) (A R : List XG) (q : Int), j ≤ n ∧ i = .int .i64 j ∧ ys = A ++ R ∧ A.length = j ∧ kv = .int .i64 q ∧ q = k + wGs (grs A) ∧ Sep wr (OR graphE (.slice a n c) (mkYs k A ++ R) :: Bag (rowsG (mkYs k A)) :: Bag (rowsG R) :: l)) (fun _ i _ => n - (intOf i).toNat)
  case atStart => exact ⟨0, [], ys, k, by omega, rfl, rfl, rfl, rfl, by simp [grs, wGs], by simpa [mkYs, rowsG] using HS.out.noBag.s2⟩
  case round =>
    obtain ⟨j, A, R, q, hj, rfl, hx, hA, rfl, hq, hs⟩ := hrel
    have HQ := Lib.hid hq
    have HSX := Lib.hid hs; have HX := Lib.hid hx; have HA := Lib.hid hA
    have hwl : wGs (grs A) + wGs (grs R) = wGs (grs ys) := by rw [hx]; unfold grs; rw [List.map_append, wGs_app]
    clear hs hx hA HS
    by_cases hlt : j < n
    · have hRl : 0 < R.length := by
        have h1 := HL.out
        rw [HX.out, List.length_append, HA.out] at h1
        omega
      obtain ⟨y, R', rfl⟩ : ∃ y R', R = y :: R' := by
        cases R with
        | nil => simp at hRl
        | cons y R' => exact ⟨y, R', rfl⟩
      have hll : n = (mkYs k A ++ y :: R').length := by
        have h1 := HL.out
        rw [HX.out, List.length_append] at h1
        rw [List.length_append, mkYs_len]
        omega
      have hjl : j < (mkYs k A ++ y :: R').length := by rw [← hll]; exact hlt
      obtain ⟨g, cap, he, _, _, _⟩ := OwnR.parts (show OwnR graphE 0 wr (.slice a n c) (mkYs k A ++ y :: R') from HSX.out.hd) (by omega)
      rw [← hll] at he
      cases he
      have hgE : (mkYs k A ++ y :: R')[j] = y := by
        rw [List.getElem_append_right (by rw [mkYs_len, HA.out]; exact Nat.le_refl _)]
        simp [mkYs_len, HA.out]
      have hget : (mkYs k A ++ y :: R').getD j xg0 = y := by
        rw [List.getD_eq_getElem?_getD, List.getElem?_eq_getElem hjl]
        exact hgE
      have hwy : wG y.gr ≤ wGs (grs ys) := by
        rw [← hwl]
        show _ ≤ _ + (wG y.gr + wGs (grs R'))
        omega
      have hty := HT.out y.gr (by rw [HX.out]; unfold grs; simp)
      have hwA : wGs (grs A) + wG y.gr ≤ 4000000 := by
        have : wGs (grs A) + (wG y.gr + wGs (grs R')) = wGs (grs ys) := hwl
        omega
      unfold wG XG.gr at hwy hwA
      unfold smW XG.gr at hty
      simp only at hwy hty hwA
      obtain ⟨q1, e1⟩ : ∃ q1, q1 = q + 1 := ⟨_, rfl⟩
      obtain ⟨q2, e2⟩ : ∃ q2, q2 = q1 + (wEs (eds y.xs) : Int) := ⟨_, rfl⟩
      obtain ⟨q3, e3⟩ : ∃ q3, q3 = q2 + (y.is.length : Int) := ⟨_, rfl⟩
      obtain ⟨q4, e4⟩ : ∃ q4, q4 = q3 + (y.os.length : Int) := ⟨_, rfl⟩
      have hq0 : 0 ≤ q := by omega
      have hq1 : q ≤ 34000000 := by omega
      have hw : wrap64 (q + 1) = q1 := (wrap64_id (by omega) (by omega)).trans e1.symm
      have h1' := HSX.out.s3
      rw [rowsG_cons] at h1'
      have h2 := h1'.outBag3
      obtain ⟨i1, d1, hev⟩ := OE.shape h2.hd
      obtain ⟨i2, d2, hiv⟩ := own_shape (show OwnInts 0 wr y.iv y.is from h2.tl.hd)
      obtain ⟨i3, d3, hov⟩ := own_shape (show OwnInts 0 wr y.ov y.os from h2.tl.tl.hd)
      have h3 := show Sep (wr.setCell ⟨g, j * 4, none⟩ (.int .i64 q)) _ from HSX.out.setR (E := graphE) hll (i := j) (j := 0) (y := ⟨q, y.ev, y.xs, y.iv, y.is, y.ov, y.os⟩) (u := .int .i64 q) hjl (by decide) (by rw [hgE]; rfl)
      rw [List.set_append_right _ _ (by rw [mkYs_len, HA.out]; exact Nat.le_refl _), mkYs_len, HA.out, Nat.sub_self, List.set_cons_zero] at h3
      obtain ⟨f0, f1, f2, f3⟩ := graph_free HSX.out.hd hll j
      obtain ⟨p0, p1, p2, p3⟩ := graph_cells HSX.out.hd hll hjl
      rw [hget] at p0 p1 p2 p3
      have hll2 : n = (mkYs k A ++ (⟨q, y.ev, y.xs, y.iv, y.is, y.ov, y.os⟩ : XG) :: R').length := by rw [hll]; simp
      have hge2 : (mkYs k A ++ (⟨q, y.ev, y.xs, y.iv, y.is, y.ov, y.os⟩ : XG) :: R').getD j xg0 = ⟨q, y.ev, y.xs, y.iv, y.is, y.ov, y.os⟩ := by
        rw [List.getD_eq_getElem?_getD, List.getElem?_append_right (by rw [mkYs_len, HA.out]; exact Nat.le_refl _), mkYs_len, HA.out, Nat.sub_self]
        rfl
      have HC := Lib.hid fun W l' (h : Sep W (OR graphE (.slice (some ⟨g, 0, none⟩) n c) (mkYs k A ++ (⟨q, y.ev, y.xs, y.iv, y.is, y.ov, y.os⟩ : XG) :: R') :: l')) => graph_cells h.hd hll2 (i := j) (by rw [← hll2]; exact hlt)
      rw [hge2] at HC
      rw [rowsG_cons] at h3
      have h4 := h3.s3.outBag3
      have HQ4 := Lib.hid (show q4 = k + (wGs (grs (A ++ [y])) : Int) by
        rw [grs_snoc', wGs_app]
        simp only [wGs, wG, XG.gr]
        omega)
      have hmy : mkY q y = ⟨q, y.ev, mkXs q1 y.xs, y.iv, cntI q2 y.is.length, y.ov, cntI q3 y.os.length⟩ := by
        unfold mkY
        rw [show q + 1 + (wEs (eds y.xs) : Int) + (y.is.length : Int) = q3 by omega, show q + 1 + (wEs (eds y.xs) : Int) = q2 by omega, show q + 1 = q1 by omega]
      have HEND := Lib.hid (show mkYs k (A ++ [y]) = mkYs k A ++ [⟨q, y.ev, mkXs q1 y.xs, y.iv, cntI q2 y.is.length, y.ov, cntI q3 y.os.length⟩] by rw [mkYs_snoc, ← hq, hmy])
      have HXN := Lib.hid (show ys = (A ++ [y]) ++ R' by rw [HX.out]; simp)
      have HAL := Lib.hid (show (A ++ [y]).length = j + 1 by rw [List.length_append, HA.out]; rfl)
      have HSET := Lib.hid fun W l' (h : Sep W (OR graphE (.slice (some ⟨g, 0, none⟩) n c) (mkYs k A ++ (⟨q, y.ev, y.xs, y.iv, y.is, y.ov, y.os⟩ : XG) :: R') :: l')) => OwnR_swap (k := k) (A := A) (R := R') (q := q) (y := y) (q1 := q1) (q2 := q2) (q3 := q3) h
      have HS3 := Lib.hid h4
      clear h1' h2 h3 h4 hmy hge2 hll hjl hget hgE hll2 hwl hwy
      obtain ⟨yn, yev, yxs, yiv, yis, yov, yos⟩ := y
      simp only at hev hiv hov p0 p1 p2 p3 HC HS3 e2 e3 e4 hwA hty HEND HQ4 HXN HAL HSET
      subst hev hiv hov
      have HM1 := Lib.hid fun W l (h : Sep W (OE (.slice i1 yxs.length d1) yxs :: l)) => markEdgeS_any i1 yxs.length d1 yxs q1 W l h rfl (by omega) hty.1 (by omega) (by omega)
      have HM2 := Lib.hid fun W l (h : Sep W (OI (.slice i2 yis.length d2) yis :: l)) => markIntS_any i2 yis.length d2 yis q2 W l h rfl hty.2.1 (by omega) (by omega)
      have HM3 := Lib.hid fun W l (h : Sep W (OI (.slice i3 yos.length d3) yos :: l)) => markIntS_any i3 yos.length d3 yos q3 W l h rfl hty.2.2 (by omega) (by omega)
      rw [← e2] at HM1
      rw [← e3] at HM2
      rw [← e4] at HM3
      have HMA := Lib.hid (HM1.out _ _ HS3.out)
      obtain ⟨u0, u1, u2, u3⟩ := HC.out _ _ (show Sep _ (OR graphE _ _ :: _) from HS3.out.s5)
      clear e1 e2 e3 e4 hq hwA hq0 hq1 HM1 HS3 HSX hty
      generalize yis.length = m1 at *
      generalize yos.length = m2 at *
      generalize yxs.length = m0 at *
      go_wp2_with (first
        | (go_at_call 27
           with_reducible refine HMA.out.mono ?_
           rintro e w5 ⟨rfl, hs5⟩
           obtain ⟨v0, v1, v2, v3⟩ := HC.out _ _ (show Sep w5 (OR graphE _ _ :: _) from hs5.s5)
           have HS5 := Lib.hid hs5.s2
           clear hs5)
        | (go_at_call 28
           with_reducible refine (HM2.out _ _ HS5.out).mono ?_
           rintro e w6 ⟨rfl, hs6⟩
           obtain ⟨t0, t1, t2, t3⟩ := HC.out _ _ (show Sep w6 (OR graphE _ _ :: _) from hs6.s5)
           have HS6 := Lib.hid hs6.s3
           clear hs6)
        | (go_at_call 28
           with_reducible refine (HM3.out _ _ HS6.out).mono ?_
           rintro e w7 ⟨rfl, hs7⟩
           have h8 := hs7.s2.s3.s5
           have h9 := h8.under (fun h => h.under (fun h => h.under (fun h => h.under Sep.s2 (by simp +contextual)) (by simp +contextual)) (by simp +contextual)) (by simp +contextual)
           have HS7 := Lib.hid (HSET.out _ _ h9.bagThree)
           clear hs7 h8 h9))
      go_roundw
      case rel =>
        have h := HS7.out
        refine ⟨j + 1, _, R', q4, by omega, by go_num, HXN.out, HAL.out, rfl, HQ4.out, ?_⟩
        rw [HEND.out, rowsG_snoc, List.append_assoc]
        exact h
      case measure => simp [intOf]; omega
    · have hjn : j = n := by omega
      subst hjn
      have hR : R = [] := by
        have h1 := HL.out
        rw [HX.out, List.length_append, HA.out] at h1
        exact List.length_eq_zero_iff.1 (by omega)
      subst hR
      have hxa : ys = A := by rw [HX.out, List.append_nil]
      have hs := HSX.out
      rw [List.append_nil] at hs
      have hs2 := (hs.under (fun h => h.drop2) (by simp +contextual)).intoBag
      rw [← hxa] at hs2 hq
      have HF := Lib.hid hs2
      have HQF := Lib.hid hq
      clear hs hs2 hq hxa hlt hwl HQ
      go_wp2
      go_ret
      exact ⟨by rw [HQF.out]; rfl, HF.out⟩
end Go.Proofs.YtlpgjnjhhgjkmaaDoor

/-
  Lists of graphs whose marks are held; sessions marked. Conditions: lengths are small.
-/
namespace Go.Proofs.YtlpgjnjhhgjkmaaDoor
open Go.RowKit
set_option linter.unusedVariables false
set_option maxRecDepth 100000

set_option maxHeartbeats 2000000 in
theorem heldGraphS_any (v : Value) (gs : List Gr) (k : Int) (w : World) (hv : RdGs graphE edgeE w v (mkGl k gs)) (hl : wGs gs ≤ 4000000) (ht : ∀ g ∈ gs, smW g) (h0 : 0 ≤ k) (h1 : k ≤ 30000000) :
    Calls Tryd.prog 15 #[v, .int .i64 k] w fun e w' => e = .returned (.int .i64 (k + wGs gs)) ∧ w.grownBy w' none := by
  have HV := Lib.hid hv; have HT := Lib.hid ht
  obtain ⟨a, c, rfl⟩ := hv.shape
  rw [mkGl_len] at *
  clear hv ht
  have hn2 : gs.length ≤ 4000000 := by
    have : ∀ gs : List Gr, gs.length ≤ wGs gs := by
      intro gs
      induction gs with
      | nil => simp
      | cons y ys ih =>
        show ys.length + 1 ≤ wG y + wGs ys
        unfold wG
        omega
    have := this gs
    omega
  generalize hn : gs.length = n at *
  have HN := Lib.hid hn
  clear hn
  go_enter Tryd.func15, Tryd.ntmps15
  go_wp2
  go_loopw [1, 5] (fun kv i wr => ∃ (j : Nat) (q : Int), j ≤ n ∧ i = .int .i64 j ∧ kv = .int .i64 q ∧ q = k + wGs (gs.take j) ∧ w.grownBy wr none) (fun _ i _ => n - (intOf i).toNat)
  case atStart => exact ⟨0, k, by omega, rfl, rfl, by simp [wGs], grownBy_refl _ _⟩
  case round =>
    obtain ⟨j, q, hj, rfl, rfl, hq, hg⟩ := hrel
    have HG := Lib.hid hg; have HQ := Lib.hid hq
    clear hg
    by_cases hlt : j < n
    · have hje : j < gs.length := by rw [HN.out]; exact hlt
      obtain ⟨b, o, ev, iv, ov, rfl, hat⟩ := HV.out.atK rfl rfl (i := j) (by rw [mkGl_len]; exact hje)
      rw [mkGl_at k gs j hje, ← hq] at hat
      have HTK := Lib.hid (wGs_take gs j hje)
      have hle := wGs_le gs (j + 1)
      have hty := HT.out _ (getD_mem (d := gr00) hje)
      rw [HTK.out] at hle
      generalize gs.getD j gr00 = y at *
      obtain ⟨yn, ye, yi, yo⟩ := y
      unfold wG at hle HTK
      unfold smW at hty
      unfold mkG at hat
      simp only at hat hle HTK hty
      obtain ⟨q1, e1⟩ : ∃ q1, q1 = q + 1 := ⟨_, rfl⟩
      obtain ⟨q2, e2⟩ : ∃ q2, q2 = q1 + (wEs ye : Int) := ⟨_, rfl⟩
      obtain ⟨q3, e3⟩ : ∃ q3, q3 = q2 + (yi.length : Int) := ⟨_, rfl⟩
      obtain ⟨q4, e4⟩ : ∃ q4, q4 = q3 + (yo.length : Int) := ⟨_, rfl⟩
      rw [show q + 1 + (wEs ye : Int) = q2 by omega, show q + 1 = q1 by omega, ← e3] at hat
      have hq0 : 0 ≤ q := by omega
      have hq54 : q ≤ 34000000 := by omega
      have hw : wrap64 (q + 1) = q1 := (wrap64_id (by omega) (by omega)).trans e1.symm
      obtain ⟨⟨p0, p1, p2, p3⟩, he, hi, ho⟩ := hat wr HG.out
      obtain ⟨i0, d0, rfl⟩ := he.shape
      obtain ⟨i1, d1, rfl⟩ := hi.shape
      obtain ⟨i2, d2, rfl⟩ := ho.shape
      rw [mkEs_len] at *
      rw [cntI_len] at *
      rw [cntI_len] at *
      have HA := Lib.hid (heldEdgeS_any _ ye q1 wr he (by omega) hty.1 (by omega) (by omega))
      have HB := Lib.hid fun W (h : w.grownBy W none) => heldIntS_any i1 yi.length d1 q2 W (hat W h).2.2.1 hty.2.1 (by omega) (by omega)
      have HC := Lib.hid fun W (h : w.grownBy W none) => heldIntS_any i2 yo.length d2 q3 W (hat W h).2.2.2 hty.2.2 (by omega) (by omega)
      have HAT := Lib.hid fun W (h : w.grownBy W none) => (hat W h).1
      rw [← e2] at HA
      rw [← e3] at HB
      rw [← e4] at HC
      have HQ4 := Lib.hid (show q4 = k + (wGs (gs.take (j + 1)) : Int) by have := HTK.out; omega)
      have hn0 : (q != q) = false := by simp
      have hq20 : ¬ q2 < 0 := by omega
      have hq30 : ¬ q3 < 0 := by omega
      have hq40 : ¬ q4 < 0 := by omega
      clear he hi ho hat HTK hle hty e1 e2 e3 e4 hq0 hq54 hje hq
      generalize yi.length = m1 at *
      generalize yo.length = m2 at *
      generalize ye.length = m0 at *
      go_wp2_with (first
        | (go_at_call 29
           with_reducible refine HA.out.mono ?_
           rintro e w4 ⟨rfl, hg⟩
           have HG4 := Lib.hid (grownBy_trans HG.out hg)
           obtain ⟨v0, v1, v2, v3⟩ := HAT.out _ HG4.out
           clear hg)
        | (go_at_call 30; with_reducible refine (HB.out _ HG4.out).mono ?_; rintro e w5 ⟨rfl, rfl⟩)
        | (go_at_call 30; with_reducible refine (HC.out _ HG4.out).mono ?_; rintro e w6 ⟨rfl, rfl⟩))
      go_roundw
      case rel => exact ⟨j + 1, q4, by omega, by go_num, rfl, HQ4.out, HG4.out⟩
      case measure => simp [intOf]; omega
    · have hjn : j = n := by omega
      subst hjn
      rw [List.take_of_length_le (by rw [HN.out]; exact Nat.le_refl _)] at hq
      have HQF := Lib.hid hq
      clear hq HQ
      go_wp2
      go_ret
      exact ⟨by rw [HQF.out]; rfl, HG.out⟩
theorem wGs_tot (gs : List Gr) : wGs gs ≤ gs.length + 2 * totGs gs := by
  induction gs with
  | nil => simp [wGs]
  | cons g gs ih =>
    have := wEs_tot g.es
    simp only [wGs, wG, totGs, totG, List.length_cons]
    omega
theorem SmW.of {g : Gr} (h : totG g ≤ 1048576) : smW g := by
  unfold totG at h
  unfold smW
  omega
set_option maxHeartbeats 1000000 in
theorem markGraph_any' (u0 u1 u2 : Value) (xs : List XE) (g : Gr) (k : Int) (w : World) (l : List Asrt) (hs : Sep w (OE u0 xs :: OI u1 g.i :: OI u2 g.o :: l)) (hx : eds xs = g.es) (hl : totG g ≤ 1048576) (h0 : 0 ≤ k) (h1 : k ≤ 30000000) :
    Calls Tryd.prog 26 #[grV g.n u0 u1 u2, .int .i64 k] w fun e w' => e = .returned (.int .i64 (k + wEs g.es + g.i.length + g.o.length)) ∧ Sep w' (OE u0 (mkXs k xs) :: OI u1 (cntI (k + wEs g.es) g.i.length) :: OI u2 (cntI (k + wEs g.es + g.i.length) g.o.length) :: l) := by
  have hw := wEs_tot g.es
  unfold totG at hl
  obtain ⟨a0, c0, rfl⟩ := OE.shape hs.hd
  obtain ⟨a1, c1, rfl⟩ := own_shape (show OwnInts 0 w u1 g.i from hs.tl.hd)
  obtain ⟨a2, c2, rfl⟩ := own_shape (show OwnInts 0 w u2 g.o from hs.tl.tl.hd)
  obtain ⟨q, hq⟩ : ∃ q, q = k + (wEs g.es : Int) := ⟨_, rfl⟩
  obtain ⟨q2, hq2⟩ : ∃ q2, q2 = q + (g.i.length : Int) := ⟨_, rfl⟩
  have HE := Lib.hid fun W l (h : Sep W (OE (.slice a0 xs.length c0) xs :: l)) => markEdgeS_any a0 xs.length c0 xs k W l h rfl (by rw [hx]; omega) (by rw [hx]; omega) h0 (by omega)
  have HI := Lib.hid fun W l (h : Sep W (OI (.slice a1 g.i.length c1) g.i :: l)) => markIntS_any a1 g.i.length c1 g.i q W l h rfl (by omega) (by omega) (by omega)
  have HO := Lib.hid fun W l (h : Sep W (OI (.slice a2 g.o.length c2) g.o :: l)) => markIntS_any a2 g.o.length c2 g.o q2 W l h rfl (by omega) (by omega) (by omega)
  rw [hx, ← hq] at HE
  rw [← hq2] at HI
  rw [← hq, ← hq2]
  unfold grV
  have hs0 := hs.box #[.int .i64 g.n, .slice a0 xs.length c0, .slice a1 g.i.length c1, .slice a2 g.o.length c2] 34
  have HS0 := Lib.hid hs0.s2
  clear hs hs0 hq hq2 hw hx hl
  generalize g.i.length = n1 at *
  generalize g.o.length = n2 at *
  generalize xs.length = n0 at *
  go_enter Tryd.func26, Tryd.ntmps26
  go_wp2_with (first
    | (go_at_call 27
       with_reducible refine (HE.out _ _ HS0.out).mono ?_
       rintro e w4 ⟨rfl, hs⟩
       obtain ⟨x0, x1, x2, x3, _⟩ := bq4 hs.tl.hd
       have HS1 := Lib.hid hs.s3
       clear hs)
    | (go_at_call 28
       with_reducible refine (HI.out _ _ HS1.out).mono ?_
       rintro e w6 ⟨rfl, hs⟩
       obtain ⟨x0, x1, x2, x3, _⟩ := bq4 hs.tl.tl.hd
       have HS2 := Lib.hid hs.s4
       clear hs)
    | (go_at_call 28
       with_reducible refine (HO.out _ _ HS2.out).mono ?_
       rintro e w7 ⟨rfl, hs⟩
       have HS3 := Lib.hid (show Sep w7 (OE _ _ :: OI _ _ :: OI _ _ :: l) from hs.s3.under (fun h => h.s2.under (fun h => h.under (fun h => h.tl) (by simp +contextual)) (by simp +contextual)) (by simp +contextual))
       clear hs))
  go_ret
  exact ⟨rfl, HS3.out⟩
/-- Parts let go. -/
theorem Sep.dropN {w : World} {l : List Asrt} : ∀ (r : List Asrt), Sep w (r ++ l) → Sep w l
  | [], h => h
  | A :: r, h => Sep.dropN r h.tl
set_option maxHeartbeats 2000000 in
theorem markSession_any (x : SeX) (w : World) (l : List Asrt) (hs : Sep w (OSe x :: l)) (hl : totS x.se ≤ 1048576) :
    Calls Tryd.prog 13 #[sxV x, .int .i64 1] w fun e w' => ∃ r : Int, e = .returned (.int .i64 r) ∧ 0 ≤ r ∧ Sep w' l := by
  obtain ⟨p, k, lv, pv, past, now, fv, fut, goal⟩ := x
  obtain ⟨nn, nev, nxs, niv, nis, nov, nos⟩ := now
  obtain ⟨gn, gev, gxs, giv, gis, gov, gos⟩ := goal
  unfold totS SeX.se at hl
  simp only at hl
  have t1 := wGs_tot (grs past)
  have t2 := wGs_tot (grs fut)
  have hp1 : ∀ g ∈ grs past, smW g := fun g hg => SmW.of (by have := totGs_mem hg; omega)
  have hp2 : ∀ g ∈ grs fut, smW g := fun g hg => SmW.of (by have := totGs_mem hg; omega)
  rw [grs_len] at hl t1 t2
  have hr := OSe.read hs.hd
  obtain ⟨qa, qc, hpv⟩ := hr.past.shape
  obtain ⟨h1, j1, he1⟩ := hr.es1.shape
  obtain ⟨h2, j2, he2⟩ := hr.is1.shape
  obtain ⟨h3, j3, he3⟩ := hr.os1.shape
  obtain ⟨ra, rc, hfv⟩ := hr.fut.shape
  obtain ⟨u1, v1, he4⟩ := hr.es2.shape
  obtain ⟨u2, v2, he5⟩ := hr.is2.shape
  obtain ⟨u3, v3, he6⟩ := hr.os2.shape
  unfold sxV seV
  simp only [SeX.se, XG.gr, eds_len, grs_len] at *
  subst hpv he1 he2 he3 hfv he4 he5 he6
  have ha : Sep w (partsS ⟨p, k, lv, .slice qa past.length qc, past, ⟨nn, .slice h1 nxs.length j1, nxs, .slice h2 nis.length j2, nis, .slice h3 nos.length j3, nos⟩, .slice ra fut.length rc, fut, ⟨gn, .slice u1 gxs.length v1, gxs, .slice u2 gis.length v2, gis, .slice u3 gos.length v3, gos⟩⟩ ++ l) := Sep.unbag hs
  have hb : Sep w (OG (.slice qa past.length qc) past :: OE (.slice h1 nxs.length j1) nxs :: OI (.slice h2 nis.length j2) nis :: OI (.slice h3 nos.length j3) nos :: OG (.slice ra fut.length rc) fut :: OE (.slice u1 gxs.length v1) gxs :: OI (.slice u2 gis.length v2) gis :: OI (.slice u3 gos.length v3) gos :: l) := by
    refine Sep.perm ?_ ha
    unfold partsS partsG
    show ([OE (.slice u1 gxs.length v1) gxs, OI (.slice u2 gis.length v2) gis, OI (.slice u3 gos.length v3) gos, OG (.slice ra fut.length rc) fut, OE (.slice h1 nxs.length j1) nxs, OI (.slice h2 nis.length j2) nis, OI (.slice h3 nos.length j3) nos, OG (.slice qa past.length qc) past] ++ l).Perm
      ([OG (.slice qa past.length qc) past, OE (.slice h1 nxs.length j1) nxs, OI (.slice h2 nis.length j2) nis, OI (.slice h3 nos.length j3) nos, OG (.slice ra fut.length rc) fut, OE (.slice u1 gxs.length v1) gxs, OI (.slice u2 gis.length v2) gis, OI (.slice u3 gos.length v3) gos] ++ l)
    refine List.Perm.append_right l ?_
    have e1 : ∀ (a b c d e f g h : Asrt), ([a, b, c, d, e, f, g, h] : List Asrt).Perm [h, e, f, g, d, a, b, c] := by
      intro a b c d e f g h
      have s1 : ([a, b, c] ++ [d, e, f, g, h] : List Asrt).Perm ([d, e, f, g, h] ++ [a, b, c]) := List.perm_append_comm
      have s2 : ([d] ++ [e, f, g, h] : List Asrt).Perm ([e, f, g, h] ++ [d]) := List.perm_append_comm
      have s3 : ([e, f, g] ++ [h] : List Asrt).Perm ([h] ++ [e, f, g]) := List.perm_append_comm
      exact (s1.trans ((s2.trans (s3.append_right [d])).append_right [a, b, c]))
    exact e1 _ _ _ _ _ _ _ _
  obtain ⟨q1, f1⟩ : ∃ q, q = 1 + (wGs (grs past) : Int) := ⟨_, rfl⟩
  have hw1 := wEs_tot (eds nxs)
  have hw2 := wEs_tot (eds gxs)
  unfold totG at hl
  simp only at hl
  have HA := Lib.hid fun W l (h : Sep W (OG (.slice qa past.length qc) past :: l)) => markGraphS_any qa past.length qc past 1 W l h rfl (by omega) hp1 (by decide) (by decide)
  rw [← f1] at HA
  have HB := Lib.hid fun W l (h : Sep W (OE (.slice h1 nxs.length j1) nxs :: OI (.slice h2 nis.length j2) nis :: OI (.slice h3 nos.length j3) nos :: l)) => markGraph_any' (.slice h1 nxs.length j1) (.slice h2 nis.length j2) (.slice h3 nos.length j3) nxs ⟨nn, eds nxs, nis, nos⟩ q1 W l h rfl (by unfold totG; simp only; omega) (by omega) (by omega)
  obtain ⟨q2, f2⟩ : ∃ q, q = q1 + (wEs (eds nxs) : Int) + (nis.length : Int) + (nos.length : Int) := ⟨_, rfl⟩
  rw [show q1 + (wEs (Gr.es ⟨nn, eds nxs, nis, nos⟩) : Int) + ((Gr.i ⟨nn, eds nxs, nis, nos⟩).length : Int) + ((Gr.o ⟨nn, eds nxs, nis, nos⟩).length : Int) = q2 from f2.symm] at HB
  obtain ⟨q3, f3⟩ : ∃ q, q = q2 + (wGs (grs fut) : Int) := ⟨_, rfl⟩
  have HC := Lib.hid fun W l (h : Sep W (OG (.slice ra fut.length rc) fut :: l)) => markGraphS_any ra fut.length rc fut q2 W l h rfl (by omega) hp2 (by omega) (by omega)
  rw [← f3] at HC
  have HD := Lib.hid fun W l (h : Sep W (OE (.slice u1 gxs.length v1) gxs :: OI (.slice u2 gis.length v2) gis :: OI (.slice u3 gos.length v3) gos :: l)) => markGraph_any' (.slice u1 gxs.length v1) (.slice u2 gis.length v2) (.slice u3 gos.length v3) gxs ⟨gn, eds gxs, gis, gos⟩ q3 W l h rfl (by unfold totG; simp only; omega) (by omega) (by omega)
  obtain ⟨q4, f4⟩ : ∃ q, q = q3 + (wEs (eds gxs) : Int) + (gis.length : Int) + (gos.length : Int) := ⟨_, rfl⟩
  rw [show q3 + (wEs (Gr.es ⟨gn, eds gxs, gis, gos⟩) : Int) + ((Gr.i ⟨gn, eds gxs, gis, gos⟩).length : Int) + ((Gr.o ⟨gn, eds gxs, gis, gos⟩).length : Int) = q4 from f4.symm] at HD
  have HR := Lib.hid (show 0 ≤ q4 by omega)
  unfold grV at HB HD
  have hs0 := hb.box #[.int .i64 p, .int .i64 k, .int .i64 lv, .slice qa past.length qc, .int .i64 nn, .slice h1 nxs.length j1, .slice h2 nis.length j2, .slice h3 nos.length j3, .slice ra fut.length rc, .int .i64 gn, .slice u1 gxs.length v1, .slice u2 gis.length v2, .slice u3 gos.length v3] 36
  have HS0 := Lib.hid hs0.s2
  clear hs ha hb hs0 hr t1 t2 hp1 hp2 hl f1 f2 f3 f4 hw1 hw2
  generalize past.length = n1 at *
  generalize fut.length = n2 at *
  generalize nxs.length = n3 at *
  generalize nis.length = n4 at *
  generalize nos.length = n5 at *
  generalize gxs.length = n6 at *
  generalize gis.length = n7 at *
  generalize gos.length = n8 at *
  go_enter Tryd.func13, Tryd.ntmps13
  go_wp2_with (first
    | (go_at_call 14
       with_reducible refine (HA.out _ _ HS0.out).mono ?_
       rintro e w3 ⟨rfl, h⟩
       obtain ⟨x0, x1, x2, x3, x4, x5, x6, x7, x8, x9, xa, xb, xc⟩ := bq13 h.tl.hd
       have HS1 := Lib.hid (show Sep w3 (OE _ _ :: OI _ _ :: OI _ _ :: BxA w.heap.size _ _ :: OG _ _ :: _) from h.tl.s4.s4.s4)
       clear h)
    | (go_at_call 26
       with_reducible refine (HB.out _ _ HS1.out).mono ?_
       rintro e w4 ⟨rfl, h⟩
       obtain ⟨x0, x1, x2, x3, x4, x5, x6, x7, x8, x9, xa, xb, xc⟩ := bq13 h.tl.tl.tl.hd
       have HS2 := Lib.hid (show Sep w4 (OG _ _ :: BxA w.heap.size _ _ :: _) from h.tl.tl.tl.s2)
       clear h)
    | (go_at_call 14
       with_reducible refine (HC.out _ _ HS2.out).mono ?_
       rintro e w5 ⟨rfl, h⟩
       obtain ⟨x0, x1, x2, x3, x4, x5, x6, x7, x8, x9, xa, xb, xc⟩ := bq13 h.tl.hd
       have HS3 := Lib.hid (show Sep w5 (OE _ _ :: OI _ _ :: OI _ _ :: BxA w.heap.size _ _ :: _) from h.tl.s4.s4.s4)
       clear h)
    | (go_at_call 26
       with_reducible refine (HD.out _ _ HS3.out).mono ?_
       rintro e w6 ⟨rfl, h⟩
       have HS4 := Lib.hid h.tl.tl.tl.tl
       clear h))
  go_ret
  exact ⟨_, rfl, HR.out, HS4.out⟩
end Go.Proofs.YtlpgjnjhhgjkmaaDoor

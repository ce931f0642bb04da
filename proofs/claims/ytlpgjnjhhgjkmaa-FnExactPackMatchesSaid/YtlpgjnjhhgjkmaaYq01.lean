/-
  How matches and the search's state lie in memory; a wire gets its image; what is noted is taken back. Conditions: the numbers are in range.
-/
import Derived.Test.YtlpgjnjhhgjkmaaYq00
import Derived.Test.YtlpgjnjhhgjkmaaBa00
import Derived.Test.YtlpgjnjhhgjkmaaBa06
namespace Go.Proofs.Ytlpgjnjhhgjkmaa
open Go.RowKit
set_option linter.unusedVariables false
set_option maxRecDepth 100000

/-- A match with the two slices that hold it. -/
structure XM where
  W : List Int
  E : List Int
  wv : Value
  ev : Value
def matchC (x : XM) : List Value := [x.wv, x.ev]
def matchE : Lay XM := ⟨37, 2, matchC, fun _ => rfl, by decide⟩
def XM.mt (x : XM) : Mt := ⟨x.W, x.E⟩
def mts (xs : List XM) : List Mt := xs.map XM.mt
def rowsM (xs : List XM) : List Asrt := xs.flatMap fun x => [OI x.wv x.W, OI x.ev x.E]
theorem rowsM_snoc (xs : List XM) (x : XM) : rowsM (xs ++ [x]) = rowsM xs ++ [OI x.wv x.W, OI x.ev x.E] := by
  unfold rowsM
  rw [List.flatMap_append]
  simp
/-- The search's state: the two graphs, the images of wires and edges, which are taken, what is done with a match. -/
def KC (gn : Int) (ge gi go : Value) (pn : Int) (pe pi po wv ev tv fv : Value) : Array Value := #[.int .i64 gn, ge, gi, go, .int .i64 pn, pe, pi, po, wv, ev, tv, fv]
theorem bq12 {w : World} {k : Nat} {x0 x1 x2 x3 x4 x5 x6 x7 x8 x9 xa xb : Value} {t : TypeId} (h : w.heap[k]? = some (.cells #[x0, x1, x2, x3, x4, x5, x6, x7, x8, x9, xa, xb] t (0, 0))) :
    w.cell? ⟨k, 0, none⟩ = some x0 ∧ w.cell? ⟨k, 1, none⟩ = some x1 ∧ w.cell? ⟨k, 4, none⟩ = some x4 ∧ w.cell? ⟨k, 5, none⟩ = some x5 ∧ w.cell? ⟨k, 8, none⟩ = some x8 ∧ w.cell? ⟨k, 9, none⟩ = some x9 ∧ w.cell? ⟨k, 10, none⟩ = some xa ∧ w.cell? ⟨k, 11, none⟩ = some xb :=
  ⟨cell_of_row w k 0 _ _ _ h, cell_of_row w k 1 _ _ _ h, cell_of_row w k 4 _ _ _ h, cell_of_row w k 5 _ _ _ h, cell_of_row w k 8 _ _ _ h, cell_of_row w k 9 _ _ _ h, cell_of_row w k 10 _ _ _ h, cell_of_row w k 11 _ _ _ h⟩
theorem bq1 {w : World} {k : Nat} {x : Value} {t : TypeId} (h : w.heap[k]? = some (.cells #[x] t (0, 0))) : w.cell? ⟨k, 0, none⟩ = some x ∧ w.frozen? ⟨k, 0, none⟩ = false :=
  ⟨cell_of_row w k 0 _ _ _ h, frozen_of_row w k 0 _ _ h⟩
section
variable (gn : Int) (ge gi go : Value) (pn : Int) (pe pi po : Value) (kb wb cw tb ct n tn : Nat) (ev fv : Value)
def WV : Value := .slice (some ⟨wb, 0, none⟩) n cw
def TV : Value := .slice (some ⟨tb, 0, none⟩) tn ct
/-- What the search holds. -/
def Srch (W : List Int) (r : List Asrt) : List Asrt :=
  OI (.slice (some ⟨wb, 0, none⟩) n cw) W :: OR boolE (.slice (some ⟨tb, 0, none⟩) tn ct) (mrk tn W) :: BxA kb (KC gn ge gi go pn pe pi po (.slice (some ⟨wb, 0, none⟩) n cw) ev (.slice (some ⟨tb, 0, none⟩) tn ct) fv) 92 :: r
end
/-- What set hands back; S: the search's parts for the images of the wires and the notes. -/
def SetR (S : List Int → Value → List Int → List Asrt) (W : List Int) (nv : Value) (N : List Int) (v im : Nat) (e : Ending) (w' : World) : Prop :=
  (e = .returned (.bool false) ∧ setL W v im = none ∧ Sep w' (S W nv N)) ∨
  ∃ W' nv', e = .returned (.bool true) ∧ setL W v im = some W' ∧ Sep w' (S W' nv' (if 0 ≤ W.getD v 0 then N else N ++ [(v : Int)]))
set_option maxHeartbeats 2000000 in
theorem set_any (gn : Int) (ge gi go : Value) (pn : Int) (pe pi po : Value) (kb wb cw tb ct n tn : Nat) (ev fv : Value) (W : List Int) (nb : Nat) (nv : Value) (N : List Int) (v im : Nat) (w : World) (l : List Asrt) (hW : W.length = n) (hv : v < n) (him : im < tn) (hN : N.length ≤ 1000000)
    (hs : Sep w (Srch gn ge gi go pn pe pi po kb wb cw tb ct n tn ev fv W (BxA nb #[nv] 23 :: OI nv N :: l))) :
    Calls Try.prog 91 #[.pointer (some ⟨kb, 0, none⟩), .int .i64 v, .int .i64 im, .pointer (some ⟨nb, 0, none⟩)] w (SetR (fun W nv N => Srch gn ge gi go pn pe pi po kb wb cw tb ct n tn ev fv W (BxA nb #[nv] 23 :: OI nv N :: l)) W nv N v im) := by
  have HS := Lib.hid hs
  have HW := Lib.hid hW.symm
  obtain ⟨_, _, _, _, k8, _, k10, _⟩ := bq12 (show w.heap[kb]? = some (.cells (KC gn ge gi go pn pe pi po (.slice (some ⟨wb, 0, none⟩) n cw) ev (.slice (some ⟨tb, 0, none⟩) tn ct) fv) 92 (0, 0)) from hs.tl.tl.hd)
  have c0 : w.cell? ⟨wb, v, none⟩ = some (.int .i64 (W.getD v 0)) := by
    rw [(show OwnInts 0 w _ W from hs.hd).cell HW.out (j := v) (by rw [hW]; exact hv), List.getD_eq_getElem?_getD, List.getElem?_eq_getElem (by rw [hW]; exact hv)]; rfl
  have c1 : w.cell? ⟨tb, im, none⟩ = some (.bool (decide ((im : Int) ∈ W))) := by
    rw [bool_cell (show OwnR boolE 0 w _ (mrk tn W) from hs.tl.hd) (mrk_len tn W).symm him, mrk_at him]
  have f0 : w.frozen? ⟨wb, v, none⟩ = false := (show OwnInts 0 w _ W from hs.hd).free HW.out v
  have hvi : (v : Int) < (n : Int) := by omega
  have himi : (im : Int) < (tn : Int) := by omega
  by_cases h0 : 0 ≤ W.getD v 0
  · have hset : setL W v im = if W.getD v 0 = (im : Int) then some W else none := by unfold setL; rw [if_pos h0]
    have HSET := Lib.hid hset
    have HN := Lib.hid (show (if 0 ≤ W.getD v 0 then N else N ++ [(v : Int)]) = N from if_pos h0)
    clear hs hW hN hset
    generalize hx : W.getD v 0 = x at c0 h0 HSET
    have HX := Lib.hid hx
    clear hx
    by_cases he : x = (im : Int)
    · subst he
      have heq : ((im : Int) == (im : Int)) = true := by simp
      go_enter Try.func91, Try.ntmps91
      go_wp2
      go_ret
      exact Or.inr ⟨W, nv, rfl, by have := HSET.out; simpa using this, by have := HN.out; simp only at this ⊢; rw [this]; exact HS.out⟩
    · have heq : (x == (im : Int)) = false := by simpa using he
      have HE := Lib.hid he
      clear he
      go_enter Try.func91, Try.ntmps91
      go_wp2
      go_ret
      exact Or.inl ⟨rfl, by rw [HSET.out]; exact if_neg HE.out, HS.out⟩
  · by_cases hm : (im : Int) ∈ W
    · have hset : setL W v im = none := by unfold setL; rw [if_neg h0, if_pos hm]
      rw [decide_eq_true hm] at c1
      have HSET := Lib.hid hset
      clear hs hW hN hset hm
      generalize W.getD v 0 = x at *
      go_enter Try.func91, Try.ntmps91
      go_wp2
      go_ret
      exact Or.inl ⟨rfl, HSET.out, HS.out⟩
    · have hset : setL W v im = some (W.set v (im : Int)) := by unfold setL; rw [if_neg h0, if_neg hm]
      rw [decide_eq_false hm] at c1
      have HSET := Lib.hid hset
      have HNN := Lib.hid (show (if 0 ≤ W.getD v 0 then N else N ++ [(v : Int)]) = N ++ [(v : Int)] from if_neg h0)
      have hmk := mrk_set (n := tn) (W := W) (w := v) (v := im) (by rw [hW]; exact hv) (by omega) him
      have g1 : w.frozen? ⟨tb, im, none⟩ = false := bool_free (show OwnR boolE 0 w _ (mrk tn W) from hs.tl.hd) (mrk_len tn W).symm im
      have hsa := hs.setI HW.out v (im : Int)
      have hsb := hsa.s2.setBo (mrk_len tn W).symm (i := im) him true
      rw [← hmk] at hsb
      have HSA := Lib.hid hsa
      have HSB := Lib.hid hsb.s2.dr
      have HNL := Lib.hid hN
      have HMB := Lib.hid (decide_eq_false hm)
      have X0 := Lib.hid (And.intro k8 k10)
      have HSD := Lib.hid hs.dr
      have SX := Lib.hid fun (W' : World) (A B : Asrt) (r : List Asrt) (h : Sep W' (A :: B :: BxA kb (KC gn ge gi go pn pe pi po (.slice (some ⟨wb, 0, none⟩) n cw) ev (.slice (some ⟨tb, 0, none⟩) tn ct) fv) 92 :: r)) =>
        show W'.cell? ⟨kb, 8, none⟩ = some (.slice (some ⟨wb, 0, none⟩) n cw) ∧ W'.cell? ⟨kb, 10, none⟩ = some (.slice (some ⟨tb, 0, none⟩) tn ct) from by
          have := bq12 (show W'.heap[kb]? = some (.cells (KC gn ge gi go pn pe pi po (.slice (some ⟨wb, 0, none⟩) n cw) ev (.slice (some ⟨tb, 0, none⟩) tn ct) fv) 92 (0, 0)) from h.tl.tl.hd)
          exact ⟨this.2.2.2.2.1, this.2.2.2.2.2.2.1⟩
      have c2 : w.cell? ⟨wb, v, none⟩ = some (.int .i64 (W.getD v 0)) := c0
      clear hs hW hN hset hm hmk hsa hsb
      go_enter Try.func91, Try.ntmps91
      go_upto_region 5 with fail
      clear k8 k10
      have d0 : w.drew.cell? ⟨wb, v, none⟩ = some (.int .i64 (W.getD v 0)) := c0
      have d1 : w.drew.frozen? ⟨wb, v, none⟩ = false := f0
      have d2 : w.drew.cell? ⟨tb, im, none⟩ = some (.bool false) := c1
      have d3 : w.drew.frozen? ⟨tb, im, none⟩ = false := g1
      have hsa := HSA.out
      have e2 : (w.setCell ⟨wb, v, none⟩ (.int .i64 im)).cell? ⟨tb, im, none⟩ = some (.bool false) := by rw [bool_cell (show OwnR boolE 0 _ _ (mrk tn W) from hsa.tl.hd) (mrk_len tn W).symm (by omega), mrk_at (by omega)]; exact congrArg (fun b => some (Value.bool b)) HMB.out
      have e3 : (w.setCell ⟨wb, v, none⟩ (.int .i64 im)).frozen? ⟨tb, im, none⟩ = false := bool_free (show OwnR boolE 0 _ _ (mrk tn W) from hsa.tl.hd) (mrk_len tn W).symm im
      clear hsa
      refine AnyL.start (fun w' => w'.cell? ⟨kb, 8, none⟩ = some (.slice (some ⟨wb, 0, none⟩) n cw) ∧ w'.cell? ⟨kb, 10, none⟩ = some (.slice (some ⟨tb, 0, none⟩) tn ct)) (fun _ => True) 99 (by kernel_rfl) ?_
      refine AnyL.take (i := 0) (v := ?vx1) (by rfl) (by kernel_rfl) (by kernel_rfl) (by kernel_rfl) rfl (by exact fun _ _ _ h => h) (by rfl) ?hyx1 (by exact ⟨X0.out, fun _ => trivial⟩) ?restx1
      case hyx1 => intro W hSW; (try dsimp only at hSW); first | (go_simp; done) | (go_simp; with_reducible rfl)
      try simp only [Act.put, List.setIfInBounds_toArray, List.set_cons_zero, List.set_cons_succ]
      refine AnyL.take (i := 1) (v := ?vx2) (by rfl) (by kernel_rfl) (by kernel_rfl) (by kernel_rfl) rfl (by exact fun _ _ _ h => h) (by rfl) ?hyx2 (by exact ⟨X0.out, fun _ => trivial⟩) ?restx2
      case hyx2 => intro W hSW; (try dsimp only at hSW); first | (go_simp; done) | (go_simp; with_reducible rfl)
      try simp only [Act.put, List.setIfInBounds_toArray, List.set_cons_zero, List.set_cons_succ]
      refine AnyL.take (i := 2) (v := ?vx3) (by rfl) (by kernel_rfl) (by kernel_rfl) (by kernel_rfl) rfl (by exact fun _ _ _ h => h) (by rfl) ?hyx3 (by exact ⟨X0.out, fun _ => trivial⟩) ?restx3
      case hyx3 => intro W hSW; (try dsimp only at hSW); first | (go_simp; done) | (go_simp; with_reducible rfl)
      try simp only [Act.put, List.setIfInBounds_toArray, List.set_cons_zero, List.set_cons_succ]
      refine AnyL.take (i := 3) (v := ?vx4) (by rfl) (by kernel_rfl) (by kernel_rfl) (by kernel_rfl) rfl (by exact fun _ _ _ h => h) (by rfl) ?hyx4 (by exact ⟨X0.out, fun _ => trivial⟩) ?restx4
      case hyx4 => intro W hSW; (try dsimp only at hSW); first | (go_simp; done) | (go_simp; with_reducible rfl)
      try simp only [Act.put, List.setIfInBounds_toArray, List.set_cons_zero, List.set_cons_succ]
      refine AnyL.take (i := 4) (v := ?vx5) (by rfl) (by kernel_rfl) (by kernel_rfl) (by kernel_rfl) rfl (by exact fun _ _ _ h => h) (by rfl) ?hyx5 (by exact ⟨X0.out, fun _ => trivial⟩) ?restx5
      case hyx5 => intro W hSW; (try dsimp only at hSW); first | (go_simp; done) | (go_simp; with_reducible rfl)
      try simp only [Act.put, List.setIfInBounds_toArray, List.set_cons_zero, List.set_cons_succ]
      refine AnyL.take (i := 5) (v := ?vx6) (by rfl) (by kernel_rfl) (by kernel_rfl) (by kernel_rfl) rfl (by exact fun _ _ _ h => h) (by rfl) ?hyx6 (by exact ⟨X0.out, fun _ => trivial⟩) ?restx6
      case hyx6 => intro W hSW; (try dsimp only at hSW); first | (go_simp; done) | (go_simp; with_reducible rfl)
      try simp only [Act.put, List.setIfInBounds_toArray, List.set_cons_zero, List.set_cons_succ]
      refine AnyL.take (i := 6) (v := ?vx7) (by rfl) (by kernel_rfl) (by kernel_rfl) (by kernel_rfl) rfl (by exact fun _ _ _ h => h) (by rfl) ?hyx7 (by exact ⟨X0.out, fun _ => trivial⟩) ?restx7
      case hyx7 => intro W hSW; (try dsimp only at hSW); first | (go_simp; done) | (go_simp; with_reducible rfl)
      try simp only [Act.put, List.setIfInBounds_toArray, List.set_cons_zero, List.set_cons_succ]
      refine AnyL.take (i := 7) (v := ?vx8) (by rfl) (by kernel_rfl) (by kernel_rfl) (by kernel_rfl) rfl (by exact fun _ _ _ h => h) (by rfl) ?hyx8 (by exact ⟨X0.out, fun _ => trivial⟩) ?restx8
      case hyx8 => intro W hSW; (try dsimp only at hSW); first | (go_simp; done) | (go_simp; with_reducible rfl)
      try simp only [Act.put, List.setIfInBounds_toArray, List.set_cons_zero, List.set_cons_succ]
      refine AnyL.take (i := 8) (v := ?vx9) (by rfl) (by kernel_rfl) (by kernel_rfl) (by kernel_rfl) rfl (by exact fun _ _ _ h => h) (by rfl) ?hyx9 (by exact ⟨X0.out, fun _ => trivial⟩) ?restx9
      case hyx9 => intro W hSW; (try dsimp only at hSW); first | (go_simp; done) | (go_simp; with_reducible rfl)
      try simp only [Act.put, List.setIfInBounds_toArray, List.set_cons_zero, List.set_cons_succ]
      refine AnyL.take (i := 9) (v := ?vx10) (by rfl) (by kernel_rfl) (by kernel_rfl) (by kernel_rfl) rfl (by exact fun _ _ _ h => h) (by rfl) ?hyx10 (by exact ⟨X0.out, fun _ => trivial⟩) ?restx10
      case hyx10 => intro W hSW; (try dsimp only at hSW); first | (go_simp; done) | (go_simp; with_reducible rfl)
      try simp only [Act.put, List.setIfInBounds_toArray, List.set_cons_zero, List.set_cons_succ]
      refine AnyL.take (i := 10) (v := ?vx11) (by rfl) (by kernel_rfl) (by kernel_rfl) (by kernel_rfl) rfl (by exact fun _ _ _ h => h) (by rfl) ?hyx11 (by exact ⟨X0.out, fun _ => trivial⟩) ?restx11
      case hyx11 => intro W hSW; (try dsimp only at hSW); first | (go_simp; done) | (go_simp; with_reducible rfl)
      try simp only [Act.put, List.setIfInBounds_toArray, List.set_cons_zero, List.set_cons_succ]
      refine AnyL.take (i := 11) (v := ?vx12) (by rfl) (by kernel_rfl) (by kernel_rfl) (by kernel_rfl) rfl (by exact fun _ _ _ h => h) (by rfl) ?hyx12 (by exact ⟨X0.out, fun _ => trivial⟩) ?restx12
      case hyx12 => intro W hSW; (try dsimp only at hSW); first | (go_simp; done) | (go_simp; with_reducible rfl)
      try simp only [Act.put, List.setIfInBounds_toArray, List.set_cons_zero, List.set_cons_succ]
      refine AnyL.step (i := 12) (by kernel_rfl) (by rfl) (fun K hK => ?_)
      go_simp
      refine hK.out _ _ (by exact SX.out _ _ _ _ HSA.out.dr) (by exact fun _ => trivial) ?_
      clear hK K
      try simp only [Act.put, List.setIfInBounds_toArray, List.set_cons_zero, List.set_cons_succ]
      refine AnyL.take (i := 13) (v := ?vx13) (by rfl) (by kernel_rfl) (by kernel_rfl) (by kernel_rfl) rfl (by exact fun _ _ _ h => h) (by rfl) ?hyx13 (by exact ⟨SX.out _ _ _ _ HSA.out.dr, fun _ => trivial⟩) ?restx13
      case hyx13 => intro W hSW; (try dsimp only at hSW); first | (go_simp; done) | (go_simp; with_reducible rfl)
      try simp only [Act.put, List.setIfInBounds_toArray, List.set_cons_zero, List.set_cons_succ]
      refine AnyL.step (i := 14) (by kernel_rfl) (by rfl) (fun K hK => ?_)
      go_simp
      refine hK.out _ _ (by exact SX.out _ _ _ _ HSB.out) (by exact fun _ => trivial) ?_
      clear hK K
      try simp only [Act.put, List.setIfInBounds_toArray, List.set_cons_zero, List.set_cons_succ]
      refine AnyL.done (by kernel_rfl) ?_ _
      have hsb := HSB.out
      clear c0 c1 f0 g1 c2 d0 d1 d2 d3 e2 e3 HSA X0 HSD HS
      generalize ((w.setCell ⟨wb, v, none⟩ (.int .i64 im)).setCell ⟨tb, im, none⟩ (.bool true)).drew = w7 at *
      obtain ⟨b0, b1⟩ := bq1 hsb.tl.tl.tl.hd
      have hq := Sep.s5 hsb
      have HQ := Lib.hid hq
      clear hsb hq HSB
      go_wp2_with (
        at_builtin
        refine app_intS rfl _ _ rfl rfl rfl HQ.out (by have := HNL.out; omega) ?_
        intro g2 c2 w8 h8
        have hr := h8.s5
        obtain ⟨m0, m1⟩ := bq1 hr.hd
        have HR := Lib.hid (hr.setB 0 (.slice (some ⟨g2, 0, none⟩) (N.length + 1) c2))
        clear h8 hr)
      go_ret
      refine Or.inr ⟨W.set v (im : Int), .slice (some ⟨g2, 0, none⟩) (N.length + 1) c2, rfl, HSET.out, ?_⟩
      have hnn := HNN.out
      simp only at hnn ⊢
      rw [hnn]
      exact HR.out.s5.s5.s5
end Go.Proofs.Ytlpgjnjhhgjkmaa

/-
  What is noted is taken back. Conditions: the numbers are in range.
-/
namespace Go.Proofs.Ytlpgjnjhhgjkmaa
open Go.RowKit
set_option linter.unusedVariables false
set_option maxRecDepth 100000

theorem own_at {w : World} {g n cap B j : Nat} {zs : List Int} (h : OwnInts B w (.slice (some ⟨g, 0, none⟩) n cap) zs) (hn : n = zs.length) (hj : j < n) : w.cell? ⟨g, j, none⟩ = some (.int .i64 (zs.getD j 0)) := by
  rw [h.cell hn (j := j) (by omega), List.getD_eq_getElem?_getD, List.getElem?_eq_getElem (by omega)]; rfl
theorem inj_unsL {N : List Int} : ∀ {W : List Int}, InjL W → (∀ x ∈ N, 0 ≤ x ∧ x < (W.length : Int)) → InjL (unsL W N) := by
  induction N with
  | nil => intro W h _; exact h
  | cons x N ih =>
    intro W h hr
    have hx := hr x (by simp)
    exact ih (inj_uns h (w := x.toNat) (by omega)) (fun y hy => by rw [List.length_set]; exact hr y (by simp [hy]))
theorem nodup_take {N : List Int} (h : N.Nodup) {k : Nat} (hk : k < N.length) : N.getD k 0 ∉ N.take k := by
  intro hm
  obtain ⟨i, hi, he⟩ := mem_gd.1 hm
  rw [List.length_take] at hi
  rw [List.getD_eq_getElem?_getD, List.getElem?_take, if_pos (by omega), List.getElem?_eq_getElem (by omega), List.getD_eq_getElem?_getD, List.getElem?_eq_getElem hk] at he
  have := (List.getElem_inj h).1 he
  omega
set_option maxHeartbeats 2000000 in
theorem undo_any (gn : Int) (ge gi go : Value) (pn : Int) (pe pi po : Value) (kb wb cw tb ct n tn : Nat) (ev fv : Value) (W : List Int) (nv : Value) (N : List Int) (w : World) (l : List Asrt) (hW : W.length = n) (hi : InjL W) (hd : N.Nodup)
    (hr : ∀ x ∈ N, (0 ≤ x ∧ x < (n : Int)) ∧ 0 ≤ W.getD x.toNat 0 ∧ W.getD x.toNat 0 < (tn : Int)) (hN : N.length ≤ 1000000)
    (hs : Sep w (Srch gn ge gi go pn pe pi po kb wb cw tb ct n tn ev fv W (OI nv N :: l))) :
    Calls Try.prog 92 #[.pointer (some ⟨kb, 0, none⟩), nv] w fun e w' => e = .returned (.tuple #[]) ∧ Sep w' (Srch gn ge gi go pn pe pi po kb wb cw tb ct n tn ev fv (unsL W N) (OI nv N :: l)) := by
  obtain ⟨na, nc, rfl⟩ := own_shape (show OwnInts 0 w nv N from hs.tl.tl.tl.hd)
  have HS := Lib.hid hs; have HW := Lib.hid hW; have HI := Lib.hid hi; have HD := Lib.hid hd; have HR := Lib.hid hr
  have HNE := Lib.hid (show N.take N.length = N from List.take_length)
  generalize hnl : N.length = m at *
  have HM := Lib.hid hnl
  clear hs hW hi hd hr hnl
  go_enter Try.func92, Try.ntmps92
  go_wp2
  go_loopw [5, 8] (fun _ i wr => ∃ k : Nat, k ≤ m ∧ i = .int .i64 k ∧ Sep wr (Srch gn ge gi go pn pe pi po kb wb cw tb ct n tn ev fv (unsL W (N.take k)) (OI (.slice na m nc) N :: l))) (fun _ i _ => m - (intOf i).toNat)
  case atStart => exact ⟨0, by omega, rfl, HS.out⟩
  case round =>
    obtain ⟨k, hk, rfl, hsr⟩ := hrel
    have HSR := Lib.hid hsr
    clear HS
    by_cases hlt : k < m
    · have hkN : k < N.length := by rw [HM.out]; exact hlt
      obtain ⟨b1, o1, hna, _, hc1⟩ := (OwnInts.read (show OwnInts 0 wr _ N from hsr.tl.tl.tl.hd)).atD (i := k) hkN
      subst hna
      have hx := HR.out _ (getD_mem' hkN)
      obtain ⟨v, hv⟩ := Int.eq_ofNat_of_zero_le hx.1.1
      obtain ⟨im, him⟩ := Int.eq_ofNat_of_zero_le hx.2.1
      have hvn : v < n := by omega
      have himt : im < tn := by omega
      have hul : (unsL W (N.take k)).length = n := by rw [unsL_len]; exact HW.out
      have hrt : ∀ x ∈ N.take k, 0 ≤ x ∧ x < (W.length : Int) := fun x hx => by rw [HW.out]; exact (HR.out x (List.mem_of_mem_take hx)).1
      have hnt := nodup_take HD.out hkN
      have hget : (unsL W (N.take k)).getD v 0 = (im : Int) := by
        rw [unsL_get hrt, if_neg (by rw [← hv]; exact hnt), ← him, hv]
        rfl
      have hinj := inj_unsL (N := N.take k) HI.out hrt
      have hnx : unsL W (N.take (k + 1)) = (unsL W (N.take k)).set v (-1) := by
        rw [List.take_succ_eq_append_getElem hkN, unsL_snoc]
        have e : N[k] = (v : Int) := by rw [← hv, List.getD_eq_getElem?_getD, List.getElem?_eq_getElem hkN]; rfl
        rw [e, Int.toNat_natCast]
      have hmk := mrk_uns (n := tn) hinj (w := v) (v := im) (by rw [hul]; exact hvn) hget himt
      rw [← hnx] at hmk
      rw [hv] at hc1
      have HNX := Lib.hid hnx.symm
      have HUV := Lib.hid hget
      generalize hU : unsL W (N.take k) = U at *
      have HUL := Lib.hid hul.symm
      obtain ⟨_, _, _, _, k8, _, k10, _⟩ := bq12 (show wr.heap[kb]? = some (.cells (KC gn ge gi go pn pe pi po (.slice (some ⟨wb, 0, none⟩) n cw) ev (.slice (some ⟨tb, 0, none⟩) tn ct) fv) 92 (0, 0)) from hsr.tl.tl.hd)
      have c0 : wr.cell? ⟨wb, v, none⟩ = some (.int .i64 im) := by rw [own_at (show OwnInts 0 wr _ U from hsr.hd) HUL.out hvn, hget]
      have f0 : wr.frozen? ⟨wb, v, none⟩ = false := (show OwnInts 0 wr _ U from hsr.hd).free HUL.out v
      have c1 : wr.cell? ⟨tb, im, none⟩ = some (.bool ((mrk tn U).getD im false)) := bool_cell (show OwnR boolE 0 wr _ (mrk tn U) from hsr.tl.hd) (mrk_len tn U).symm himt
      have g1 : wr.frozen? ⟨tb, im, none⟩ = false := bool_free (show OwnR boolE 0 wr _ (mrk tn U) from hsr.tl.hd) (mrk_len tn U).symm im
      have hsa := hsr.s2.setBo (mrk_len tn U).symm (i := im) himt false
      rw [← hmk] at hsa
      have HSA := Lib.hid hsa.s2.dr
      have X0 := Lib.hid (show wr.drew.cell? ⟨kb, 8, none⟩ = some (.slice (some ⟨wb, 0, none⟩) n cw) ∧ wr.drew.cell? ⟨kb, 10, none⟩ = some (.slice (some ⟨tb, 0, none⟩) tn ct) ∧ wr.drew.cell? ⟨wb, v, none⟩ = some (.int .i64 im) from ⟨k8, k10, c0⟩)
      have hvi : (v : Int) < (n : Int) := by omega
      have himi : (im : Int) < (tn : Int) := by omega
      have hki : (k : Int) < (m : Int) := by omega
      generalize (mrk tn U).getD im false = old at *
      clear hx hv him hrt hnt hget hinj hnx hmk hul hsr hsa hkN
      go_upto_region 3 with fail
      clear hc1 k8 k10 c0 f0
      refine AnyL.start (fun w' => w'.cell? ⟨kb, 8, none⟩ = some (.slice (some ⟨wb, 0, none⟩) n cw) ∧ w'.cell? ⟨kb, 10, none⟩ = some (.slice (some ⟨tb, 0, none⟩) tn ct) ∧ w'.cell? ⟨wb, v, none⟩ = some (.int .i64 im)) (fun _ => True) 99 (by kernel_rfl) ?_
      refine AnyL.take (i := 0) (v := ?vx1) (by rfl) (by kernel_rfl) (by kernel_rfl) (by kernel_rfl) rfl (by exact fun _ _ _ h => h) (by rfl) ?hyx1 (by exact ⟨X0.out, fun _ => trivial⟩) ?restx1
      case hyx1 => intro W hSW; (try dsimp only at hSW); first | (go_simp; done) | (go_simp; with_reducible rfl)
      try simp only [Act.put, List.setIfInBounds_toArray, List.set_cons_zero, List.set_cons_succ]
      refine AnyL.take (i := 1) (v := ?vx2) (by rfl) (by kernel_rfl) (by kernel_rfl) (by kernel_rfl) rfl (by exact fun _ _ _ h => h) (by rfl) ?hyx2 (by exact ⟨X0.out, fun _ => trivial⟩) ?restx2
      case hyx2 => intro W hSW; (try dsimp only at hSW); first | (go_simp; done) | (go_simp; with_reducible rfl)
      try simp only [Act.put, List.setIfInBounds_toArray, List.set_cons_zero, List.set_cons_succ]
      refine AnyL.take (i := 2) (v := ?vx3) (by rfl) (by kernel_rfl) (by kernel_rfl) (by kernel_rfl) rfl (by exact fun _ _ _ h => h) (by rfl) ?hyx3 (by exact ⟨X0.out, fun _ => trivial⟩) ?restx3
      case hyx3 => intro W hSW; (try dsimp only at hSW); first | (go_simp; done) | (go_simp; with_reducible rfl)
      try simp only [Act.put, List.setIfInBounds_toArray, List.set_cons_zero, List.set_cons_succ]
      refine AnyL.take (i := 3) (v := ?vx4) (by rfl) (by kernel_rfl) (by kernel_rfl) (by kernel_rfl) rfl (by exact fun _ _ _ h => h) (by rfl) ?hyx4 (by exact ⟨X0.out, fun _ => trivial⟩) ?restx4
      case hyx4 => intro W hSW; (try dsimp only at hSW); first | (go_simp; done) | (go_simp; with_reducible rfl)
      try simp only [Act.put, List.setIfInBounds_toArray, List.set_cons_zero, List.set_cons_succ]
      refine AnyL.take (i := 4) (v := ?vx5) (by rfl) (by kernel_rfl) (by kernel_rfl) (by kernel_rfl) rfl (by exact fun _ _ _ h => h) (by rfl) ?hyx5 (by exact ⟨X0.out, fun _ => trivial⟩) ?restx5
      case hyx5 => intro W hSW; (try dsimp only at hSW); first | (go_simp; done) | (go_simp; with_reducible rfl)
      try simp only [Act.put, List.setIfInBounds_toArray, List.set_cons_zero, List.set_cons_succ]
      refine AnyL.take (i := 5) (v := ?vx6) (by rfl) (by kernel_rfl) (by kernel_rfl) (by kernel_rfl) rfl (by exact fun _ _ _ h => h) (by rfl) ?hyx6 (by exact ⟨X0.out, fun _ => trivial⟩) ?restx6
      case hyx6 => intro W hSW; (try dsimp only at hSW); first | (go_simp; done) | (go_simp; with_reducible rfl)
      try simp only [Act.put, List.setIfInBounds_toArray, List.set_cons_zero, List.set_cons_succ]
      refine AnyL.take (i := 6) (v := ?vx7) (by rfl) (by kernel_rfl) (by kernel_rfl) (by kernel_rfl) rfl (by exact fun _ _ _ h => h) (by rfl) ?hyx7 (by exact ⟨X0.out, fun _ => trivial⟩) ?restx7
      case hyx7 => intro W hSW; (try dsimp only at hSW); first | (go_simp; done) | (go_simp; with_reducible rfl)
      try simp only [Act.put, List.setIfInBounds_toArray, List.set_cons_zero, List.set_cons_succ]
      refine AnyL.take (i := 7) (v := ?vx8) (by rfl) (by kernel_rfl) (by kernel_rfl) (by kernel_rfl) rfl (by exact fun _ _ _ h => h) (by rfl) ?hyx8 (by exact ⟨X0.out, fun _ => trivial⟩) ?restx8
      case hyx8 => intro W hSW; (try dsimp only at hSW); first | (go_simp; done) | (go_simp; with_reducible rfl)
      try simp only [Act.put, List.setIfInBounds_toArray, List.set_cons_zero, List.set_cons_succ]
      refine AnyL.take (i := 8) (v := ?vx9) (by rfl) (by kernel_rfl) (by kernel_rfl) (by kernel_rfl) rfl (by exact fun _ _ _ h => h) (by rfl) ?hyx9 (by exact ⟨X0.out, fun _ => trivial⟩) ?restx9
      case hyx9 => intro W hSW; (try dsimp only at hSW); first | (go_simp; done) | (go_simp; with_reducible rfl)
      try simp only [Act.put, List.setIfInBounds_toArray, List.set_cons_zero, List.set_cons_succ]
      refine AnyL.take (i := 9) (v := ?vx10) (by rfl) (by kernel_rfl) (by kernel_rfl) (by kernel_rfl) rfl (by exact fun _ _ _ h => h) (by rfl) ?hyx10 (by exact ⟨X0.out, fun _ => trivial⟩) ?restx10
      case hyx10 => intro W hSW; (try dsimp only at hSW); first | (go_simp; done) | (go_simp; with_reducible rfl)
      try simp only [Act.put, List.setIfInBounds_toArray, List.set_cons_zero, List.set_cons_succ]
      refine AnyL.take (i := 10) (v := ?vx11) (by rfl) (by kernel_rfl) (by kernel_rfl) (by kernel_rfl) rfl (by exact fun _ _ _ h => h) (by rfl) ?hyx11 (by exact ⟨X0.out, fun _ => trivial⟩) ?restx11
      case hyx11 => intro W hSW; (try dsimp only at hSW); first | (go_simp; done) | (go_simp; with_reducible rfl)
      try simp only [Act.put, List.setIfInBounds_toArray, List.set_cons_zero, List.set_cons_succ]
      refine AnyL.take (i := 11) (v := ?vx12) (by rfl) (by kernel_rfl) (by kernel_rfl) (by kernel_rfl) rfl (by exact fun _ _ _ h => h) (by rfl) ?hyx12 (by exact ⟨X0.out, fun _ => trivial⟩) ?restx12
      case hyx12 => intro W hSW; (try dsimp only at hSW); first | (go_simp; done) | (go_simp; with_reducible rfl)
      try simp only [Act.put, List.setIfInBounds_toArray, List.set_cons_zero, List.set_cons_succ]
      have hsa := HSA.out
      obtain ⟨_, _, _, _, k8, _, k10, _⟩ := bq12 (show ((wr.setCell ⟨tb, im, none⟩ (.bool false)).drew).heap[kb]? = some (.cells (KC gn ge gi go pn pe pi po (.slice (some ⟨wb, 0, none⟩) n cw) ev (.slice (some ⟨tb, 0, none⟩) tn ct) fv) 92 (0, 0)) from hsa.tl.tl.hd)
      have X1 := Lib.hid (show ((wr.setCell ⟨tb, im, none⟩ (.bool false)).drew).cell? ⟨wb, v, none⟩ = some (.int .i64 im) from by rw [own_at (show OwnInts 0 _ _ U from hsa.hd) HUL.out hvn, HUV.out])
      have X2 := Lib.hid (And.intro k8 (And.intro k10 X1.out))
      clear hsa
      refine AnyL.step (i := 12) (by kernel_rfl) (by rfl) (fun K hK => ?_)
      go_simp
      refine hK.out _ _ (by exact X2.out) (by exact fun _ => trivial) ?_
      clear hK K
      try simp only [Act.put, List.setIfInBounds_toArray, List.set_cons_zero, List.set_cons_succ]
      refine AnyL.done (by kernel_rfl) ?_ _
      clear c1 g1 X0 X1 X2
      generalize (wr.setCell ⟨tb, im, none⟩ (.bool false)).drew = w7 at *
      have hsb := HSA.out
      have c0 : w7.cell? ⟨wb, v, none⟩ = some (.int .i64 im) := by rw [own_at (show OwnInts 0 w7 _ U from hsb.hd) HUL.out hvn, HUV.out]
      have f0 : w7.frozen? ⟨wb, v, none⟩ = false := (show OwnInts 0 w7 _ U from hsb.hd).free HUL.out v
      have hsc := hsb.setI HUL.out v (-1)
      rw [HNX.out] at hsc
      have HSC := Lib.hid hsc
      clear hsb hsc
      go_wp2_with fail
      go_roundw
      case rel => exact ⟨k + 1, by omega, by go_num, HSC.out⟩
      case measure => simp [intOf]; omega
    · have hkm : k = m := by omega
      subst hkm
      have hse := HSR.out
      rw [HNE.out] at hse
      have HSE := Lib.hid hse
      clear hse hsr HSR
      go_wp2
      refine bodyPost_end (results_none rfl _ _ _) rfl ?_
      exact ⟨rfl, HSE.out⟩
end Go.Proofs.Ytlpgjnjhhgjkmaa

/-
  What is done with a match; the search for the images of the wires that are left. Conditions: the part that is given is consistent.
-/
namespace Go.Proofs.Ytlpgjnjhhgjkmaa
open Go.RowKit
set_option linter.unusedVariables false
set_option maxRecDepth 100000

theorem pre_filter {α : Type} {c : α → Int} : ∀ {l : List α}, l.Pairwise (fun a b => c a ≤ c b) → ∀ f : Int, ∃ R, l = l.filter (fun x => decide (c x < f)) ++ R
  | [], _, _ => ⟨[], rfl⟩
  | a :: l, h, f => by
    rw [List.pairwise_cons] at h
    by_cases ha : c a < f
    · obtain ⟨R, hR⟩ := pre_filter h.2 f
      refine ⟨R, ?_⟩
      rw [List.filter_cons_of_pos (by simpa using ha), List.cons_append, ← hR]
    · refine ⟨a :: l, ?_⟩
      have h0 : (a :: l).filter (fun x => decide (c x < f)) = [] := List.filter_eq_nil_iff.2 fun x hx => by
        rcases List.mem_cons.1 hx with rfl | hx
        · simpa using ha
        · have := h.1 x hx; simp; omega
      rw [h0]
      rfl
/-- The list is full: what comes behind does not count. -/
theorem full_stop {α : Type} {A B C : List α} {m : Nat} (h : ¬ ((A ++ B).take m).length < m) : (A ++ (B ++ C)).take m = (A ++ B).take m := by
  rw [List.length_take] at h
  rw [← List.append_assoc, List.take_append_of_le_length (by omega)]
theorem not_full {α : Type} {A B : List α} {m : Nat} (h : ((A ++ B).take m).length < m) : (A ++ B).take m = A ++ B := by
  rw [List.length_take] at h
  exact List.take_of_length_le (by omega)
theorem mts_len (xs : List XM) : (mts xs).length = xs.length := by simp [mts]
theorem mts_snoc (xs : List XM) (x : XM) : mts (xs ++ [x]) = mts xs ++ [x.mt] := by simp [mts]
theorem info_match : (Try.prog.info? matchE.ty).map (fun i => (i.zero, i.size, i.bytes)) = some (some (.agg #[.slice none 0 0, .slice none 0 0]), matchE.sz, 48) := by kernel_rfl
theorem match_one (W E : List Int) (a1 : Option Addr) (n1 c1 : Nat) (a2 : Option Addr) (n2 c2 : Nat) : ∀ u ∈ matchE.cs ⟨W, E, .slice a1 n1 c1, .slice a2 n2 c2⟩, u.oneCell' = true := by
  intro u hu
  simp only [matchE, matchC, List.mem_cons, List.not_mem_nil, or_false] at hu
  rcases hu with rfl | rfl <;> rfl
/-- What has been found so far, in its variable, and how many are wanted. -/
def Fnd (ob mb most : Nat) (outv : Value) (xs : List XM) (r : List Asrt) : List Asrt :=
  OR matchE outv xs :: Bag (rowsM xs) :: BxA ob #[outv] 43 :: BxA mb #[.int .i64 most] 3 :: r
theorem app_Rq {α : Type} {E : Lay α} {ops : Array Oper} {rest : List Oper} {o : Oper} {a : Act} {Q : Exit → Act → World → Prop} {w : World} {v : Value} {xs : List α} {l : List Asrt} {y : α} {t : TypeId} {z : Value} {bytes q : Nat}
    (hinfo : (Try.prog.info? E.ty).map (fun i => (i.zero, i.size, i.bytes)) = some (some z, E.sz, bytes)) (hzs : z.cells.size = E.sz) (hby : bytes ≤ 10000) (ht : Try.prog.underlying t = some (.slice E.ty)) (hone : ∀ u ∈ E.cs y, u.oneCell' = true)
    (hgd : o.guard = none) (s x : Operand) (ho : o.op = .call { callee := .builtin .append, args := #[s, x], argTypes := #[t, t] })
    (hs : a.eval s = v) (hx : a.eval x = .slice (some ⟨q, 0, none⟩) 1 1) (hq : q = w.heap.size) {cs : Array Value} (hcs : cs.toList = E.cs y) (H : Sep w (OR E v xs :: l)) (hl : xs.length ≤ 10000000)
    (h : ∀ g cap w', Sep w' (OR E (.slice (some ⟨g, 0, none⟩) (xs.length + 1) cap) (xs ++ [y]) :: l) → wpList Try.prog ops Q rest (a.put o.dst (.slice (some ⟨g, 0, none⟩) (xs.length + 1) cap)) w') :
    wpList Try.prog ops Q (o :: rest) a (w.alloc (.cells cs E.ty)) := by
  subst hq
  exact app_R hinfo hzs hby ht hone hgd s x ho hs hx hcs H hl h
set_option maxHeartbeats 2000000 in
theorem found_any (ob mb most : Nat) (outv : Value) (xs : List XM) (W E : List Int) (a1 : Option Addr) (n1 c1 : Nat) (a2 : Option Addr) (n2 c2 : Nat) (w : World) (l : List Asrt) (hl : xs.length < most) (hm : most ≤ 1000)
    (hs : Sep w (OI (.slice a1 n1 c1) W :: OI (.slice a2 n2 c2) E :: Fnd ob mb most outv xs l)) :
    Calls Try.prog 67 #[.agg #[.slice a1 n1 c1, .slice a2 n2 c2], .pointer (some ⟨ob, 0, none⟩), .pointer (some ⟨mb, 0, none⟩)] w fun e w' => ∃ outv', e = .returned (.bool (decide (xs.length + 1 < most))) ∧
      Sep w' (Fnd ob mb most outv' (xs ++ [⟨W, E, .slice a1 n1 c1, .slice a2 n2 c2⟩]) l) := by
  obtain ⟨oa, oc, hov⟩ := OwnR.shape (show OwnR matchE 0 w outv xs from hs.tl.tl.hd)
  subst hov
  have hs1 := hs.box #[.slice a1 n1 c1, .slice a2 n2 c2] 37
  have p0 := cell_of_row _ _ 0 _ _ _ (show (w.alloc (.cells #[.slice a1 n1 c1, .slice a2 n2 c2] 37)).heap[w.heap.size]? = some (.cells #[.slice a1 n1 c1, .slice a2 n2 c2] 37 (0, 0)) from hs1.hd)
  have p1 := cell_of_row _ _ 1 _ _ _ (show (w.alloc (.cells #[.slice a1 n1 c1, .slice a2 n2 c2] 37)).heap[w.heap.size]? = some (.cells #[.slice a1 n1 c1, .slice a2 n2 c2] 37 (0, 0)) from hs1.hd)
  simp only [List.getElem?_toArray, List.getElem?_cons_zero, List.getElem?_cons_succ] at p0 p1
  obtain ⟨b0, b1⟩ := bq1 hs1.tl.tl.tl.tl.tl.hd
  obtain ⟨m0, m1⟩ := bq1 hs1.tl.tl.tl.tl.tl.tl.hd
  have HS := Lib.hid (hs1.tl.s3)
  have HL := Lib.hid (show xs.length ≤ 10000000 by omega)
  have hnn : decide (((xs.length + 1 : Nat) : Int) < (most : Int)) = decide (xs.length + 1 < most) := by congr 1; rw [eq_iff_iff]; omega
  clear hs hs1
  generalize hxl : xs.length = n0 at *
  have HXL := Lib.hid hxl
  clear hxl
  go_enter Try.func67, Try.ntmps67
  go_wp2_with (
    at_builtin
    go_loud (
      (refine app_Rq (E := matchE) (y := ⟨W, E, .slice a1 n1 c1, .slice a2 n2 c2⟩) info_match rfl (by decide) Try.underlying43 (match_one _ _ _ _ _ _ _ _) rfl (.tmp 5) (.tmp 7) rfl rfl rfl (by simp) rfl HS.out (by rw [HXL.out]; exact HL.out) ?_)
      intro g1 c3 w3 h3
      rw [HXL.out]
      rw [HXL.out] at h3
      have h4 := Sep.bagTwo h3
      rw [show rowsM xs ++ [OI (.slice a1 n1 c1) W, OI (.slice a2 n2 c2) E] = rowsM (xs ++ [⟨W, E, .slice a1 n1 c1, .slice a2 n2 c2⟩]) from (rowsM_snoc xs ⟨W, E, .slice a1 n1 c1, .slice a2 n2 c2⟩).symm] at h4
      obtain ⟨q0, q1⟩ := bq1 h4.tl.tl.hd
      have h5 := h4.s3.setB 0 (.slice (some ⟨g1, 0, none⟩) (n0 + 1) c3)
      obtain ⟨r0, r1⟩ := bq1 h5.tl.tl.tl.hd
      obtain ⟨t0, t1⟩ := bq1 (x := .slice (some ⟨g1, 0, none⟩) (n0 + 1) c3) (t := 43) h5.hd
      have HS3 := Lib.hid h5.s3.s3
      clear h3 h4 h5))
  refine bodyPost_ret_by (v := .bool (decide (n0 + 1 < most))) ?_ rfl ⟨_, rfl, HS3.out⟩
  simp [results, go_sem, *]
  omega

theorem Sep.blk {w : World} {A B r : List Asrt} (h : Sep w (A ++ (B ++ r))) : Sep w (B ++ (A ++ r)) :=
  Sep.perm (by rw [← List.append_assoc, ← List.append_assoc]; exact List.Perm.append_right r List.perm_append_comm) h
theorem Sep.cut2 {w : World} {X r : List Asrt} {A B : Asrt} (h : Sep w (X ++ (A :: B :: r))) : Sep w (X ++ r) :=
  (Sep.blk (A := X) (B := [A, B]) (r := r) h).tl.tl
theorem Sep.blk3 {w : World} {X A B r : List Asrt} (h : Sep w (X ++ (A ++ (B ++ r)))) : Sep w (X ++ (B ++ (A ++ r))) :=
  Sep.perm (List.Perm.append_left X (by rw [← List.append_assoc, ← List.append_assoc]; exact List.Perm.append_right r List.perm_append_comm)) h
/-- What the search hands back; P: what is given, S: the search's parts. -/
def FoundR (g p : Gr) (P : Mt) (most : Nat) (xs : List XM) (S : Value → List XM → List Asrt) (e : Ending) (w' : World) : Prop :=
  ∃ outv' xs', e = .returned (.bool (decide (xs'.length < most))) ∧ mts xs' = (mts xs ++ extL g p P).take most ∧ Sep w' (S outv' xs')
def negs (W : List Int) : Nat := W.countP fun x => decide (x < 0)
theorem negs_set {W : List Int} {w : Nat} {v : Int} (hw : w < W.length) (h0 : W.getD w 0 < 0) (hv : 0 ≤ v) : negs (W.set w v) + 1 = negs W := by
  unfold negs
  rw [List.countP_set hw]
  have e : W[w] < 0 := by
    rw [List.getD_eq_getElem?_getD, List.getElem?_eq_getElem hw] at h0
    exact h0
  have hp : 0 < W.countP fun x => decide (x < 0) := List.countP_pos_iff.2 ⟨W[w], List.getElem_mem hw, by simpa using e⟩
  simp only [decide_eq_true e, if_true, decide_eq_false (show ¬ v < 0 by omega), Bool.false_eq_true, if_false]
  omega
theorem negs_zero {W : List Int} (h : negs W = 0) : ∀ x ∈ W, 0 ≤ x := by
  unfold negs at h
  rw [List.countP_eq_zero] at h
  intro x hx
  have := h x hx
  simp at this
  exact this
def FV (ob mb : Nat) : Value := .func (.func 67) #[] #[.pointer (some ⟨ob, 0, none⟩), .pointer (some ⟨mb, 0, none⟩)]
set_option maxHeartbeats 4000000 in
theorem rest_end (g p : Gr) (hfine : Fine g p) (hpn : p.n ≤ 1000) (ge gi go pe pi po : Value) (kb wb cw tb ct eb ce ob mb most : Nat) (hm : most ≤ 1000) (Es : List Int) (W : List Int) (outv : Value) (xs : List XM) (w : World) (l : List Asrt) (hneg : (-1 : Int) ∉ W) (hP : Prt g p W Es p.es.length) (hx : xs.length < most)
    (hpe : p.es.length ≤ 1000)
    (hs : Sep w (Srch g.n ge gi go p.n pe pi po kb wb cw tb ct p.n.toNat g.n.toNat (.slice (some ⟨eb, 0, none⟩) p.es.length ce) (FV ob mb) W (OI (.slice (some ⟨eb, 0, none⟩) p.es.length ce) Es :: Fnd ob mb most outv xs l))) :
    Calls Try.prog 89 #[.pointer (some ⟨kb, 0, none⟩)] w
      (FoundR g p ⟨W, Es⟩ most xs (fun outv xs => Srch g.n ge gi go p.n pe pi po kb wb cw tb ct p.n.toNat g.n.toNat (.slice (some ⟨eb, 0, none⟩) p.es.length ce) (FV ob mb) W (OI (.slice (some ⟨eb, 0, none⟩) p.es.length ce) Es :: Fnd ob mb most outv xs l))) := by
  have hwh := ext_whole (hP.whole hneg)
  have hWl := hP.lw
  have hEl := hP.le
  have hi := index_no _ W (-1) w (OwnInts.read (show OwnInts 0 w _ W from hs.hd)) (by omega) hneg
  obtain ⟨_, _, _, _, k8, k9, _, k11⟩ := bq12 (show w.heap[kb]? = some (.cells (KC g.n ge gi go p.n pe pi po (.slice (some ⟨wb, 0, none⟩) p.n.toNat cw) (.slice (some ⟨eb, 0, none⟩) p.es.length ce) (.slice (some ⟨tb, 0, none⟩) g.n.toNat ct) (FV ob mb)) 92 (0, 0)) from hs.tl.tl.hd)
  unfold FoundR
  rw [hwh]
  have HCW := Lib.hid fun W' (h : Sep W' (Srch g.n ge gi go p.n pe pi po kb wb cw tb ct p.n.toNat g.n.toNat (.slice (some ⟨eb, 0, none⟩) p.es.length ce) (FV ob mb) W (OI (.slice (some ⟨eb, 0, none⟩) p.es.length ce) Es :: Fnd ob mb most outv xs l))) =>
    clone_full _ W W' (OwnInts.read (show OwnInts 0 W' _ W from h.hd)) (by omega)
  have HCE := Lib.hid fun W' A (h : Sep W' (A :: Srch g.n ge gi go p.n pe pi po kb wb cw tb ct p.n.toNat g.n.toNat (.slice (some ⟨eb, 0, none⟩) p.es.length ce) (FV ob mb) W (OI (.slice (some ⟨eb, 0, none⟩) p.es.length ce) Es :: Fnd ob mb most outv xs l))) =>
    clone_full _ Es W' (OwnInts.read (show OwnInts 0 W' _ Es from h.tl.tl.tl.tl.hd)) (by omega)
  have HFD := Lib.hid fun W' a1 n1 c1 a2 n2 c2 r (h : Sep W' (OI (.slice a1 n1 c1) W :: OI (.slice a2 n2 c2) Es :: Fnd ob mb most outv xs r)) => found_any ob mb most outv xs W Es a1 n1 c1 a2 n2 c2 W' r hx hm h
  have HI := Lib.hid hi
  have HS := Lib.hid hs
  have HX := Lib.hid hx
  have HWL := Lib.hid hWl; have HEL := Lib.hid hEl
  have HKW := Lib.hid fun W' r (h : Sep W' (Srch g.n ge gi go p.n pe pi po kb wb cw tb ct p.n.toNat g.n.toNat (.slice (some ⟨eb, 0, none⟩) p.es.length ce) (FV ob mb) W r)) => show W'.cell? ⟨kb, 8, none⟩ = some (.slice (some ⟨wb, 0, none⟩) p.n.toNat cw) ∧ W'.cell? ⟨kb, 9, none⟩ = some (.slice (some ⟨eb, 0, none⟩) p.es.length ce) ∧ W'.cell? ⟨kb, 11, none⟩ = some (.func (.func 67) #[] #[.pointer (some ⟨ob, 0, none⟩), .pointer (some ⟨mb, 0, none⟩)]) from by
    have := bq12 (show W'.heap[kb]? = some (.cells (KC g.n ge gi go p.n pe pi po (.slice (some ⟨wb, 0, none⟩) p.n.toNat cw) (.slice (some ⟨eb, 0, none⟩) p.es.length ce) (.slice (some ⟨tb, 0, none⟩) g.n.toNat ct) (FV ob mb)) 92 (0, 0)) from h.tl.tl.hd)
    exact ⟨this.2.2.2.2.1, this.2.2.2.2.2.1, this.2.2.2.2.2.2.2⟩
  clear hfine hpn hm hneg hP hx hpe hs hwh hi
  rw [hEl, hWl] at *
  go_enter Try.func89, Try.ntmps89
  go_upto_region 3 with (
    go_at_call 74
    with_reducible refine HI.out.mono ?_
    rintro e w2 ⟨rfl, hg⟩
    have HS2 := Lib.hid (HS.out.grown hg)
    clear hg)
  have X0 := Lib.hid (HKW.out _ _ HS2.out.dr)
  clear k8 k9 k11
  refine AnyL.start (fun w' => w'.cell? ⟨kb, 8, none⟩ = some (.slice (some ⟨wb, 0, none⟩) p.n.toNat cw) ∧ w'.cell? ⟨kb, 9, none⟩ = some (.slice (some ⟨eb, 0, none⟩) p.es.length ce) ∧ w'.cell? ⟨kb, 11, none⟩ = some (.func (.func 67) #[] #[.pointer (some ⟨ob, 0, none⟩), .pointer (some ⟨mb, 0, none⟩)])) (fun _ => True) 99 (by kernel_rfl) ?_
  refine AnyL.take (i := 0) (v := ?vx1) (by rfl) (by kernel_rfl) (by kernel_rfl) (by kernel_rfl) rfl (by exact fun _ _ _ h => h) (by rfl) ?hyx1 (by exact ⟨X0.out, fun _ => trivial⟩) ?restx1
  case hyx1 => intro W hSW; (try dsimp only at hSW); first | (go_simp; done) | (go_simp; with_reducible rfl)
  try simp only [Act.put, List.setIfInBounds_toArray, List.set_cons_zero, List.set_cons_succ]
  refine AnyL.take (i := 1) (v := ?vx2) (by rfl) (by kernel_rfl) (by kernel_rfl) (by kernel_rfl) rfl (by exact fun _ _ _ h => h) (by rfl) ?hyx2 (by exact ⟨X0.out, fun _ => trivial⟩) ?restx2
  case hyx2 => intro W hSW; (try dsimp only at hSW); first | (go_simp; done) | (go_simp; with_reducible rfl)
  try simp only [Act.put, List.setIfInBounds_toArray, List.set_cons_zero, List.set_cons_succ]
  refine AnyL.take (i := 2) (v := ?vx3) (by rfl) (by kernel_rfl) (by kernel_rfl) (by kernel_rfl) rfl (by exact fun _ _ _ h => h) (by rfl) ?hyx3 (by exact ⟨X0.out, fun _ => trivial⟩) ?restx3
  case hyx3 => intro W hSW; (try dsimp only at hSW); first | (go_simp; done) | (go_simp; with_reducible rfl)
  try simp only [Act.put, List.setIfInBounds_toArray, List.set_cons_zero, List.set_cons_succ]
  refine AnyL.take (i := 3) (v := ?vx4) (by rfl) (by kernel_rfl) (by kernel_rfl) (by kernel_rfl) rfl (by exact fun _ _ _ h => h) (by rfl) ?hyx4 (by exact ⟨X0.out, fun _ => trivial⟩) ?restx4
  case hyx4 => intro W hSW; (try dsimp only at hSW); first | (go_simp; done) | (go_simp; with_reducible rfl)
  try simp only [Act.put, List.setIfInBounds_toArray, List.set_cons_zero, List.set_cons_succ]
  refine AnyL.take (i := 4) (v := ?vx5) (by rfl) (by kernel_rfl) (by kernel_rfl) (by kernel_rfl) rfl (by exact fun _ _ _ h => h) (by rfl) ?hyx5 (by exact ⟨X0.out, fun _ => trivial⟩) ?restx5
  case hyx5 => intro W hSW; (try dsimp only at hSW); first | (go_simp; done) | (go_simp; with_reducible rfl)
  try simp only [Act.put, List.setIfInBounds_toArray, List.set_cons_zero, List.set_cons_succ]
  refine AnyL.take (i := 5) (v := ?vx6) (by rfl) (by kernel_rfl) (by kernel_rfl) (by kernel_rfl) rfl (by exact fun _ _ _ h => h) (by rfl) ?hyx6 (by exact ⟨X0.out, fun _ => trivial⟩) ?restx6
  case hyx6 => intro W hSW; (try dsimp only at hSW); first | (go_simp; done) | (go_simp; with_reducible rfl)
  try simp only [Act.put, List.setIfInBounds_toArray, List.set_cons_zero, List.set_cons_succ]
  refine AnyL.take (i := 6) (v := ?vx7) (by rfl) (by kernel_rfl) (by kernel_rfl) (by kernel_rfl) rfl (by exact fun _ _ _ h => h) (by rfl) ?hyx7 (by exact ⟨X0.out, fun _ => trivial⟩) ?restx7
  case hyx7 => intro W hSW; (try dsimp only at hSW); first | (go_simp; done) | (go_simp; with_reducible rfl)
  try simp only [Act.put, List.setIfInBounds_toArray, List.set_cons_zero, List.set_cons_succ]
  refine AnyL.take (i := 7) (v := ?vx8) (by rfl) (by kernel_rfl) (by kernel_rfl) (by kernel_rfl) rfl (by exact fun _ _ _ h => h) (by rfl) ?hyx8 (by exact ⟨X0.out, fun _ => trivial⟩) ?restx8
  case hyx8 => intro W hSW; (try dsimp only at hSW); first | (go_simp; done) | (go_simp; with_reducible rfl)
  try simp only [Act.put, List.setIfInBounds_toArray, List.set_cons_zero, List.set_cons_succ]
  refine AnyL.take (i := 9) (v := ?vx9) (by rfl) (by kernel_rfl) (by kernel_rfl) (by kernel_rfl) rfl (by exact fun _ _ _ h => h) (by rfl) ?hyx9 (by exact ⟨X0.out, fun _ => trivial⟩) ?restx9
  case hyx9 => intro W hSW; (try dsimp only at hSW); first | (go_simp; done) | (go_simp; with_reducible rfl)
  try simp only [Act.put, List.setIfInBounds_toArray, List.set_cons_zero, List.set_cons_succ]
  refine AnyL.take (i := 10) (v := ?vx10) (by rfl) (by kernel_rfl) (by kernel_rfl) (by kernel_rfl) rfl (by exact fun _ _ _ h => h) (by rfl) ?hyx10 (by exact ⟨X0.out, fun _ => trivial⟩) ?restx10
  case hyx10 => intro W hSW; (try dsimp only at hSW); first | (go_simp; done) | (go_simp; with_reducible rfl)
  try simp only [Act.put, List.setIfInBounds_toArray, List.set_cons_zero, List.set_cons_succ]
  refine AnyL.take (i := 11) (v := ?vx11) (by rfl) (by kernel_rfl) (by kernel_rfl) (by kernel_rfl) rfl (by exact fun _ _ _ h => h) (by rfl) ?hyx11 (by exact ⟨X0.out, fun _ => trivial⟩) ?restx11
  case hyx11 => intro W hSW; (try dsimp only at hSW); first | (go_simp; done) | (go_simp; with_reducible rfl)
  try simp only [Act.put, List.setIfInBounds_toArray, List.set_cons_zero, List.set_cons_succ]
  refine AnyL.take (i := 12) (v := ?vx12) (by rfl) (by kernel_rfl) (by kernel_rfl) (by kernel_rfl) rfl (by exact fun _ _ _ h => h) (by rfl) ?hyx12 (by exact ⟨X0.out, fun _ => trivial⟩) ?restx12
  case hyx12 => intro W hSW; (try dsimp only at hSW); first | (go_simp; done) | (go_simp; with_reducible rfl)
  try simp only [Act.put, List.setIfInBounds_toArray, List.set_cons_zero, List.set_cons_succ]
  refine AnyL.step (i := 8) (by kernel_rfl) (by rfl) (fun K hK => ?_)
  go_simp
  go_at_call 103
  with_reducible refine (HCW.out _ HS2.out.dr).mono ?_
  rintro e w3 ⟨a1, c1, rfl, hsg⟩
  have HS3 := Lib.hid (HS2.out.dr.graft1 hsg OI_own)
  clear hsg
  refine hK.out _ _ (by exact HKW.out _ _ HS3.out.tl) (by exact fun _ => trivial) ?_
  clear hK K
  try simp only [Act.put, List.setIfInBounds_toArray, List.set_cons_zero, List.set_cons_succ]
  refine AnyL.step (i := 13) (by kernel_rfl) (by rfl) (fun K hK => ?_)
  go_simp
  go_at_call 103
  with_reducible refine (HCE.out _ _ HS3.out).mono ?_
  rintro e w4 ⟨a2, c2, rfl, hsg⟩
  have HS4 := Lib.hid (HS3.out.graft1 hsg OI_own)
  have HFF := Lib.hid (HFD.out _ _ _ _ _ _ _ _ (Sep.blk3 (X := [_, _]) (A := [_, _, _, _]) (B := [_, _, _, _]) HS4.out.s2))
  clear hsg
  refine hK.out _ _ (by exact HKW.out _ _ HS4.out.tl.tl) (by exact fun _ => trivial) ?_
  clear hK K
  try simp only [Act.put, List.setIfInBounds_toArray, List.set_cons_zero, List.set_cons_succ]
  refine AnyL.take (i := 14) (v := ?vx13) (by rfl) (by kernel_rfl) (by kernel_rfl) (by kernel_rfl) rfl (by exact fun _ _ _ h => h) (by rfl) ?hyx13 (by exact ⟨HKW.out _ _ HS4.out.tl.tl, fun _ => trivial⟩) ?restx13
  case hyx13 => intro W hSW; (try dsimp only at hSW); first | (go_simp; done) | (go_simp; with_reducible rfl)
  try simp only [Act.put, List.setIfInBounds_toArray, List.set_cons_zero, List.set_cons_succ]
  refine AnyL.step (i := 15) (by kernel_rfl) (by rfl) (fun K hK => ?_)
  go_simp
  go_at_call 67
  with_reducible refine HFF.out.mono ?_
  rintro e w5 ⟨outv2, rfl, hs5⟩
  have HS5 := Lib.hid (Sep.blk (A := [_, _, _, _]) (B := [_, _, _, _]) hs5)
  clear hs5
  refine hK.out _ _ (by exact HKW.out _ _ HS5.out) (by exact fun _ => trivial) ?_
  clear hK K
  try simp only [Act.put, List.setIfInBounds_toArray, List.set_cons_zero, List.set_cons_succ]
  refine AnyL.take (i := 16) (v := ?vx14) (by rfl) (by kernel_rfl) (by kernel_rfl) (by kernel_rfl) rfl (by exact fun _ _ _ h => h) (by rfl) ?hyx14 (by exact ⟨HKW.out _ _ HS5.out, fun _ => trivial⟩) ?restx14
  case hyx14 => intro W hSW; (try dsimp only at hSW); first | (go_simp; done) | (go_simp; with_reducible rfl)
  try simp only [Act.put, List.setIfInBounds_toArray, List.set_cons_zero, List.set_cons_succ]
  refine AnyL.done (by kernel_rfl) ?_ _
  clear X0 HS HS2 HS3 HS4 HFF HCW HCE HKW HI HFD
  go_wp2_with fail
  refine bodyPost_ret_by (v := .bool (decide (xs.length + 1 < most))) ?_ rfl ⟨outv2, xs ++ [(⟨W, Es, .slice a1 p.n.toNat c1, .slice a2 p.es.length c2⟩ : XM)], by rw [List.length_append]; rfl, ?_, HS5.out⟩
  · simp [results, go_sem, *]
  · rw [mts_snoc, List.take_of_length_le (by rw [List.length_append, mts_len]; exact HX.out)]
    rfl
set_option maxHeartbeats 4000000 in
theorem rest_any (g p : Gr) (hfine : Fine g p) (hgb : g.n ≤ 1000) (hpn : p.n ≤ 1000) (hpe : p.es.length ≤ 1000) (ge gi go pe pi po : Value) (kb wb cw tb ct eb ce ob mb most : Nat) (hm : most ≤ 1000) (Es : List Int) : ∀ (d : Nat) (W : List Int) (outv : Value) (xs : List XM) (w : World) (l : List Asrt), negs W ≤ d → Prt g p W Es p.es.length → xs.length < most →
    Sep w (Srch g.n ge gi go p.n pe pi po kb wb cw tb ct p.n.toNat g.n.toNat (.slice (some ⟨eb, 0, none⟩) p.es.length ce) (FV ob mb) W (OI (.slice (some ⟨eb, 0, none⟩) p.es.length ce) Es :: Fnd ob mb most outv xs l)) →
    Calls Try.prog 89 #[.pointer (some ⟨kb, 0, none⟩)] w
      (FoundR g p ⟨W, Es⟩ most xs (fun outv xs => Srch g.n ge gi go p.n pe pi po kb wb cw tb ct p.n.toNat g.n.toNat (.slice (some ⟨eb, 0, none⟩) p.es.length ce) (FV ob mb) W (OI (.slice (some ⟨eb, 0, none⟩) p.es.length ce) Es :: Fnd ob mb most outv xs l))) := by
  intro d
  induction d with
  | zero => exact fun W outv xs w l hd hP hx hs => rest_end g p hfine hpn ge gi go pe pi po kb wb cw tb ct eb ce ob mb most hm Es W outv xs w l (fun h => by have := negs_zero (by omega) _ h; omega) hP hx hpe hs
  | succ d ih =>
    intro W outv xs w l hd hP hx hs
    by_cases hneg : (-1 : Int) ∈ W
    · skip
      obtain ⟨m, hm1, hm2, hm3⟩ := first_idx hneg
      have hWl := hP.lw
      have hEl := hP.le
      have hmn : m < p.n.toNat := by omega
      have hge : ∀ i, i < m → 0 ≤ W.getD i (-1) := fun i hi => by
        rw [gd_gd (by omega) (-1) 0]
        rcases hP.rw _ (getD_mem' (zs := W) (k := i) (by omega)) with h | h
        · exact absurd h (hm3 i hi)
        · exact h.1
      have hgE : ∀ i, i < p.es.length → 0 ≤ Es.getD i (-1) := fun i hi => by rw [gd_gd (by omega) (-1) 0]; exact (hP.re i hi).1
      have hi := index_any _ W (-1) m w (OwnInts.read (show OwnInts 0 w _ W from hs.hd)) (by omega) hm1 hm2 hm3
      have HKW := Lib.hid fun W' U r (h : Sep W' (Srch g.n ge gi go p.n pe pi po kb wb cw tb ct p.n.toNat g.n.toNat (.slice (some ⟨eb, 0, none⟩) p.es.length ce) (FV ob mb) U r)) => show W'.cell? ⟨kb, 0, none⟩ = some (.int .i64 g.n) ∧ W'.cell? ⟨kb, 8, none⟩ = some (.slice (some ⟨wb, 0, none⟩) p.n.toNat cw) from by
        have := bq12 (show W'.heap[kb]? = some (.cells (KC g.n ge gi go p.n pe pi po (.slice (some ⟨wb, 0, none⟩) p.n.toNat cw) (.slice (some ⟨eb, 0, none⟩) p.es.length ce) (.slice (some ⟨tb, 0, none⟩) g.n.toNat ct) (FV ob mb)) 92 (0, 0)) from h.tl.tl.hd)
        exact ⟨this.1, this.2.2.2.2.1⟩
      obtain ⟨k0, k8⟩ := HKW.out _ _ _ hs
      have hcut0 := cutW_zero (g := g) (p := p) (P := ⟨W, Es⟩) hmn
      have hcutA := cutW_all (g := g) (p := p) (P := ⟨W, Es⟩) hmn
      obtain ⟨gnn, hgn⟩ : ∃ gnn : Nat, g.n = (gnn : Int) := Int.eq_ofNat_of_zero_le hfine.ng
      have HCUT := Lib.hid fun (v : Nat) (hv : (v : Int) < g.n) (hin : (v : Int) ∈ W) => cutW_none (g := g) (p := p) (P := ⟨W, Es⟩) (f := (v : Int)) hmn hgE hge fun M hM hX => hP.wire_none hm1 hm2 (by omega) hin hM hX
      have HCUS := Lib.hid fun (v : Nat) (hv : (v : Int) < g.n) (hin : (v : Int) ∉ W) => cutW_some (g := g) (p := p) (P := ⟨W, Es⟩) (P' := ⟨W.set m (v : Int), Es⟩) (f := (v : Int)) hmn hgE hge (hP.wire hm1 hm2 hv hin).2
      have HPRE := Lib.hid fun f : Int => pre_filter (ext_sorted_W (g := g) (p := p) (P := ⟨W, Es⟩) hmn hgE hge) f
      have HIH := Lib.hid fun (v : Nat) outv xs w' l' (hv : (v : Int) < g.n) (hin : (v : Int) ∉ W) (hx : xs.length < most) (h : Sep w' (Srch g.n ge gi go p.n pe pi po kb wb cw tb ct p.n.toNat g.n.toNat (.slice (some ⟨eb, 0, none⟩) p.es.length ce) (FV ob mb) (W.set m (v : Int)) (OI (.slice (some ⟨eb, 0, none⟩) p.es.length ce) Es :: Fnd ob mb most outv xs l'))) => ih (W.set m (v : Int)) outv xs w' l' (by have := negs_set (W := W) (w := m) (v := (v : Int)) hm1 (by omega) (by omega); omega) (hP.wire hm1 hm2 hv hin).1 hx h
      have HSN := Lib.hid fun (v nb : Nat) nv w' r (hv : v < gnn) (hin : (v : Int) ∈ W) (h : Sep w' (Srch g.n ge gi go p.n pe pi po kb wb cw tb ct p.n.toNat g.n.toNat (.slice (some ⟨eb, 0, none⟩) p.es.length ce) (FV ob mb) W (BxA nb #[nv] 23 :: OI nv [] :: r))) =>
        show Calls Try.prog 91 #[.pointer (some ⟨kb, 0, none⟩), .int .i64 m, .int .i64 v, .pointer (some ⟨nb, 0, none⟩)] w' fun e w2 => e = .returned (.bool false) ∧ Sep w2 (Srch g.n ge gi go p.n pe pi po kb wb cw tb ct p.n.toNat g.n.toNat (.slice (some ⟨eb, 0, none⟩) p.es.length ce) (FV ob mb) W (BxA nb #[nv] 23 :: OI nv [] :: r)) from by
          refine (set_any g.n ge gi go p.n pe pi po kb wb cw tb ct p.n.toNat g.n.toNat (.slice (some ⟨eb, 0, none⟩) p.es.length ce) (FV ob mb) W nb nv [] m v w' r hWl hmn (by omega) (by simp) h).mono ?_
          rintro e w2 (⟨rfl, _, h2⟩ | ⟨W', nv', _, h2, _⟩)
          · exact ⟨rfl, h2⟩
          · unfold setL at h2
            rw [if_neg (by omega), if_pos hin] at h2
            cases h2
      have HSY := Lib.hid fun (v nb : Nat) nv w' r (hv : v < gnn) (hin : (v : Int) ∉ W) (h : Sep w' (Srch g.n ge gi go p.n pe pi po kb wb cw tb ct p.n.toNat g.n.toNat (.slice (some ⟨eb, 0, none⟩) p.es.length ce) (FV ob mb) W (BxA nb #[nv] 23 :: OI nv [] :: r))) =>
        show Calls Try.prog 91 #[.pointer (some ⟨kb, 0, none⟩), .int .i64 m, .int .i64 v, .pointer (some ⟨nb, 0, none⟩)] w' fun e w2 => e = .returned (.bool true) ∧ ∃ nv', Sep w2 (Srch g.n ge gi go p.n pe pi po kb wb cw tb ct p.n.toNat g.n.toNat (.slice (some ⟨eb, 0, none⟩) p.es.length ce) (FV ob mb) (W.set m (v : Int)) (BxA nb #[nv'] 23 :: OI nv' [(m : Int)] :: r)) from by
          refine (set_any g.n ge gi go p.n pe pi po kb wb cw tb ct p.n.toNat g.n.toNat (.slice (some ⟨eb, 0, none⟩) p.es.length ce) (FV ob mb) W nb nv [] m v w' r hWl hmn (by omega) (by simp) h).mono ?_
          rintro e w2 (⟨_, h2, _⟩ | ⟨W', nv', rfl, h2, h3⟩)
          · unfold setL at h2
            rw [if_neg (by omega), if_neg hin] at h2
            cases h2
          · unfold setL at h2
            rw [if_neg (by omega), if_neg hin] at h2
            obtain rfl := Option.some.inj h2
            rw [if_neg (by omega)] at h3
            exact ⟨rfl, nv', h3⟩
      have HUND := Lib.hid fun (v : Nat) nv w' r (hv : v < gnn) (hin : (v : Int) ∉ W) (h : Sep w' (Srch g.n ge gi go p.n pe pi po kb wb cw tb ct p.n.toNat g.n.toNat (.slice (some ⟨eb, 0, none⟩) p.es.length ce) (FV ob mb) (W.set m (v : Int)) (OI nv [(m : Int)] :: r))) =>
        show Calls Try.prog 92 #[.pointer (some ⟨kb, 0, none⟩), nv] w' fun e w2 => e = .returned (.tuple #[]) ∧ Sep w2 (Srch g.n ge gi go p.n pe pi po kb wb cw tb ct p.n.toNat g.n.toNat (.slice (some ⟨eb, 0, none⟩) p.es.length ce) (FV ob mb) W (OI nv [(m : Int)] :: r)) from by
          have hb : Back W (W.set m (v : Int)) [(m : Int)] := (Back.start W).set hm1 hm2 (by omega)
          have := undo_any g.n ge gi go p.n pe pi po kb wb cw tb ct p.n.toNat g.n.toNat (.slice (some ⟨eb, 0, none⟩) p.es.length ce) (FV ob mb) (W.set m (v : Int)) nv [(m : Int)] w' r (by rw [List.length_set]; exact hWl) (setL_inj (by unfold setL; rw [if_neg (by omega), if_neg hin]) hm1 hP.inj) (by simp) (fun x hx => by
            rw [List.mem_singleton.1 hx, Int.toNat_natCast, gd_set hm1, if_pos rfl]
            omega) (by simp) h
          rw [hb.uns] at this
          exact this
      have HC0 := Lib.hid hcut0; have HCA := Lib.hid hcutA
      have HI := Lib.hid hi
      have HS := Lib.hid hs
      have HX := Lib.hid hx
      have HW2 := Lib.hid hm2
      have hmneg : ¬ (m : Int) < 0 := by omega
      unfold FoundR
      clear hfine hpn hpe hm hP hs hi hx hWl hEl hm1 hm2 hm3 hge hgE ih hd hneg hcut0 hcutA
      have hgl : gnn ≤ 1000 := by omega
      have HGN := Lib.hid hgn
      rw [hgn] at k0
      clear hgn
      go_enter Try.func89, Try.ntmps89
      go_wp2_with (
        go_at_call 74
        with_reducible refine HI.out.mono ?_
        rintro e w2 ⟨rfl, hg⟩
        have hs2 := HS.out.grown hg
        obtain ⟨q0, q8⟩ := HKW.out _ _ _ hs2
        rw [HGN.out] at q0
        have HS2 := Lib.hid hs2
        clear hg hs2)
      clear k0 k8 q0 q8
      go_loopw [4, 5, 6, 35] (fun _ _ _ i wr => ∃ (v : Nat) (outv' : Value) (xs' : List XM), v ≤ gnn ∧ i = .int .i64 v ∧ xs'.length < most ∧ mts xs' = mts xs ++ cutW g p ⟨W, Es⟩ m (v : Int) ∧ Sep wr (Srch g.n ge gi go p.n pe pi po kb wb cw tb ct p.n.toNat g.n.toNat (.slice (some ⟨eb, 0, none⟩) p.es.length ce) (FV ob mb) W (OI (.slice (some ⟨eb, 0, none⟩) p.es.length ce) Es :: Fnd ob mb most outv' xs' l))) (fun _ _ _ i _ => gnn - (intOf i).toNat)
      case atStart => exact ⟨0, outv, xs, by omega, rfl, HX.out, by rw [show ((0 : Nat) : Int) = 0 from rfl, HC0.out, List.append_nil], HS2.out⟩
      case round =>
        obtain ⟨v, outv1, xs1, hv, rfl, hx1, hmt, hsr⟩ := hrel
        have HX1 := Lib.hid hx1; have HMT := Lib.hid hmt; have HSR := Lib.hid hsr
        clear hx1 hmt HS HS2 HI
        by_cases hlt : v < gnn
        · have hvg : (v : Int) < g.n := by rw [HGN.out]; omega
          have hs7 := Sep.blk (A := [_, _]) (B := [_, _, _]) (hsr.emptyI.box #[.slice (some ⟨wr.heap.size, 0, none⟩) 0 0] 23)
          have e1 : (wr.alloc (.cells #[] 3)).heap.size = wr.heap.size + 1 := by simp
          rw [e1] at hs7
          have HS7 := Lib.hid hs7
          have HVG := Lib.hid hvg
          clear hsr hs7 e1 hvg HSR
          by_cases hin : (v : Int) ∈ W
          · have HSETN := Lib.hid (HSN.out v _ _ _ _ hlt hin HS7.out)
            have HNX := Lib.hid (HCUT.out v HVG.out hin)
            clear hin
            go_wp2_with (
              go_at_call 91
              with_reducible refine HSETN.out.mono ?_
              rintro e w3 ⟨rfl, hs3⟩
              have HS3 := Lib.hid (Sep.blk3 (X := [_, _, _]) (A := [_, _]) (B := []) hs3)
              clear hs3)
            go_roundw
            case rel => exact ⟨v + 1, outv1, xs1, by omega, by go_num, HX1.out, by rw [show ((v + 1 : Nat) : Int) = (v : Int) + 1 by omega, HNX.out]; exact HMT.out, Sep.cut2 (X := [_, _, _]) HS3.out⟩
            case measure => simp [intOf]; omega
          · have HSETY := Lib.hid (HSY.out v _ _ _ _ hlt hin HS7.out)
            have HNX := Lib.hid (HCUS.out v HVG.out hin)
            have HIN := Lib.hid hin
            clear hin
            go_wp2_with (
              go_at_call 91
              with_reducible refine HSETY.out.mono ?_
              rintro e w3 ⟨rfl, nv', hs3⟩
              have HIH3 := Lib.hid (HIH.out v outv1 xs1 w3 _ HVG.out HIN.out HX1.out (Sep.blk3 (X := [_, _, _]) (A := [_, _]) (B := [_, _, _, _, _]) hs3))
              unfold FoundR at HIH3
              clear hs3)
            with_reducible refine HIH3.out.mono ?_
            rintro e w4 ⟨outv2, xs2, rfl, hm2, hs4⟩
            have hs5 := Sep.blk3 (X := [_, _, _]) (A := [_, _, _, _, _]) (B := [_, _]) hs4
            obtain ⟨nb0, _⟩ := bq1 hs5.tl.tl.tl.hd
            have HU := Lib.hid (HUND.out v _ w4 _ hlt HIN.out (Sep.blk3 (X := [_, _, _]) (A := [_]) (B := [_]) hs5))
            have HM2 := Lib.hid hm2
            clear hs4 hs5 hm2 HIH3 HSETY HIH HUND HSY HSN
            by_cases hfu : xs2.length < most
            · have HFU := Lib.hid hfu
              rw [decide_eq_true hfu]
              clear hfu
              go_wp2_with (
                go_at_call 92
                with_reducible refine HU.out.mono ?_
                rintro e w5 ⟨rfl, hs5⟩
                have HS5 := Lib.hid hs5
                clear hs5)
              go_roundw
              case rel =>
                refine ⟨v + 1, outv2, xs2, by omega, by go_num, HFU.out, ?_, Sep.cut2 (X := [_, _, _]) HS5.out⟩
                have h0 := HM2.out
                rw [not_full (by rw [← h0, mts_len]; exact HFU.out)] at h0
                rw [h0, HMT.out, show ((v + 1 : Nat) : Int) = (v : Int) + 1 by omega, HNX.out, List.append_assoc]
              case measure => simp [intOf]; omega
            · have HFU := Lib.hid hfu
              rw [decide_eq_false hfu]
              clear hfu
              go_wp2_with (
                go_at_call 92
                with_reducible refine HU.out.mono ?_
                rintro e w5 ⟨rfl, hs5⟩
                have HS5 := Lib.hid hs5
                clear hs5)
              go_ret
              refine ⟨outv2, xs2, by rw [decide_eq_false HFU.out]; rfl, ?_, Sep.cut2 (X := [_, _, _]) HS5.out⟩
              have h0 := HM2.out
              obtain ⟨R, hR⟩ := HPRE.out ((v : Int) + 1)
              have hR' : extL g p ⟨W, Es⟩ = cutW g p ⟨W, Es⟩ m ((v : Int) + 1) ++ R := hR
              rw [HMT.out, List.append_assoc, ← HNX.out] at h0
              rw [hR', h0, full_stop (by rw [← h0, mts_len]; exact HFU.out)]
        · have hvn : v = gnn := by omega
          subst hvn
          have hfin : mts xs1 = (mts xs ++ extL g p ⟨W, Es⟩).take most := by
            have h0 := HMT.out
            rw [← HGN.out, HCA.out] at h0
            rw [← h0, List.take_of_length_le (by rw [mts_len]; exact Nat.le_of_lt HX1.out)]
          have hbo : decide (xs1.length < most) = true := decide_eq_true HX1.out
          have HF := Lib.hid hfin; have HBO := Lib.hid hbo
          clear hfin hbo hsr
          go_wp2
          go_ret
          exact ⟨outv1, xs1, by rw [HBO.out]; rfl, HF.out, HSR.out⟩
    · exact rest_end g p hfine hpn ge gi go pe pi po kb wb cw tb ct eb ce ob mb most hm Es W outv xs w l hneg hP hx hpe hs
end Go.Proofs.Ytlpgjnjhhgjkmaa

/-
 How much a graph takes of a budget; own copies of edges and graphs. Conditions: lengths are small.
-/
import Derived.Test.YtjagjhchnpmngaaGreatCz00
import Derived.Test.YtjagjhchnpmngaaGreatCz02
import Derived.Test.YtjagjhchnpmngaaGreatCz01
import Derived.BigQuiet
import Derived.Shelf.Abstract
set_option linter.unusedVariables false
set_option linter.unusedSimpArgs false
set_option maxRecDepth 100000
namespace Go.Proofs.YtjagjhchnpmngaaGreat
open Go.RowKit
theorem info_edge : (Tryz.prog.info? edgeE.ty).map (fun i => (i.zero, i.size, i.bytes)) = some (some (.agg #[.int .i64 0, .int .i64 0, .slice none 0 0, .slice none 0 0]), edgeE.sz, 64) := by kernel_rfl
theorem zeroEdge_cells : (Value.agg #[.int .i64 0, .int .i64 0, .slice none 0 0, .slice none 0 0]).cells.toList = edgeE.cs xe0 := rfl
theorem edge_cells {w : World} {g n cap B : Nat} {xs : List XE} (h : OwnR edgeE B w (.slice (some ⟨g, 0, none⟩) n cap) xs) (hn : n = xs.length) {i : Nat} (hi : i < xs.length) :
 w.cell? ⟨g, i * 4, none⟩ = some (.int .i64 (xs.getD i xe0).ed.k) ∧ w.cell? ⟨g, i * 4 + 1, none⟩ = some (.int .i64 (xs.getD i xe0).ed.v) ∧
  w.cell? ⟨g, i * 4 + 2, none⟩ = some (xs.getD i xe0).iv ∧ w.cell? ⟨g, i * 4 + 3, none⟩ = some (xs.getD i xe0).ov := by
 have e : xs.getD i xe0 = xs[i] := by rw [List.getD_eq_getElem?_getD, List.getElem?_eq_getElem hi]; rfl
 rw [e]
 have hc := fun j hj => h.cell hn (i := i) (j := j) hi hj
 exact ⟨hc 0 (by decide), hc 1 (by decide), hc 2 (by decide), hc 3 (by decide)⟩
theorem edge_free {w : World} {g n cap B : Nat} {xs : List XE} (h : OwnR edgeE B w (.slice (some ⟨g, 0, none⟩) n cap) xs) (hn : n = xs.length) (i : Nat) :
 w.frozen? ⟨g, i * 4, none⟩ = false ∧ w.frozen? ⟨g, i * 4 + 1, none⟩ = false ∧ w.frozen? ⟨g, i * 4 + 2, none⟩ = false ∧ w.frozen? ⟨g, i * 4 + 3, none⟩ = false :=
 ⟨h.free hn _, h.free hn _, h.free hn _, h.free hn _⟩
theorem Sep.setX {w : World} {g n cap : Nat} {xs : List XE} {l : List Asrt} (h : Sep w (OR edgeE (.slice (some ⟨g, 0, none⟩) n cap) xs :: l)) (hn : n = xs.length) {i : Nat} (hi : i < xs.length) (y : XE) :
 Sep ((((w.setCell ⟨g, i * 4, none⟩ (.int .i64 y.ed.k)).setCell ⟨g, i * 4 + 1, none⟩ (.int .i64 y.ed.v)).setCell ⟨g, i * 4 + 2, none⟩ y.iv).setCell ⟨g, i * 4 + 3, none⟩ y.ov)
  (OR edgeE (.slice (some ⟨g, 0, none⟩) n cap) (xs.set i y) :: l) := by
 have h1 := h.setR (E := edgeE) hn (i := i) (j := 0) (y := ⟨⟨y.ed.k, xs[i].ed.v, [], []⟩, xs[i].iv, xs[i].ov⟩) (u := .int .i64 y.ed.k) hi (by decide) rfl
 have h2 := h1.setR (E := edgeE) (by simpa using hn) (i := i) (j := 1) (y := ⟨⟨y.ed.k, y.ed.v, [], []⟩, xs[i].iv, xs[i].ov⟩) (u := .int .i64 y.ed.v) (by simpa using hi) (by decide) (by simp [edgeE, edgeC])
 have h3 := h2.setR (E := edgeE) (by simpa using hn) (i := i) (j := 2) (y := ⟨⟨y.ed.k, y.ed.v, [], []⟩, y.iv, xs[i].ov⟩) (u := y.iv) (by simpa using hi) (by decide) (by simp [edgeE, edgeC])
 have h4 := h3.setR (E := edgeE) (by simpa using hn) (i := i) (j := 3) (y := y) (u := y.ov) (by simpa using hi) (by decide) (by simp [edgeE, edgeC])
 simp only [List.set_set] at h4
 exact h4
def okG (g : Gr) : Prop := g.es.length ≤ 9223372036854775807 ∧ (∀ e ∈ g.es, okEd e) ∧ g.i.length ≤ 9223372036854775807 ∧ g.o.length ≤ 9223372036854775807
theorem szGraph_any (n : Int) (ev iv ov : Value) (g : Gr) (left : Int) (w : World) (he : RdE argEdE w ev g.es) (hi : IntsV w iv g.i) (ho : IntsV w ov g.o) (h0 : 0 ≤ left) (h1 : left ≤ 1048576) (hok : okG g) :
 Calls Tryz.prog 6 #[grV n ev iv ov, .int .i64 left] w fun x w' => x = .returned (.int .i64 (lft left (totG g))) ∧ w.grownBy w' none := by
 obtain ⟨ea, ec, rfl⟩ := he.shape
 obtain ⟨ia, ic, rfl⟩ := hi.shape
 obtain ⟨oa, oc, rfl⟩ := ho.shape
 obtain ⟨hk1, hk2, hk3, hk4⟩ := hok
 have HA := qd fun W (h : w.grownBy W none) => szEdgeS_any ea g.es.length ec g.es left W (he.carry h) rfl h0 h1 hk1 hk2
 unfold totG grV
 clear he hi ho hk2
 generalize g.es.length + totEs g.es = t1 at *
 generalize g.es.length = t0 at *
 generalize g.i.length = n1 at *
 generalize g.o.length = n2 at *
 have HK := qd fun o => gr1 w o
 by_cases h : left - t1 < 0
 ·rw [show lft left (t1 + n1 + n2) = -1 by unfold lft; rw [if_pos (by omega)]]
  rw [show lft left t1 = -1 by unfold lft; rw [if_pos h]] at HA
  go_enter Tryz.func6, Tryz.ntmps6
  go_wp2_with (
   go_at_call 26
   with_reducible refine (HA.out _ (HK.out _)).mono ?_
   rintro e w2 ⟨rfl, hg2⟩
   have HG2 := qd (grownBy_trans (HK.out _) hg2)
   clear hg2)
  go_ret
  exact ⟨rfl, HG2.out⟩
 ·rw [show lft left t1 = left - t1 by unfold lft; rw [if_neg h]] at HA
  obtain ⟨m, hm⟩ : ∃ m, m = left - (t1 : Int) := ⟨_, rfl⟩
  rw [← hm] at HA
  have hm0 : ¬ m < 0 := by omega
  have HC := qd fun W => szIntS_any ia n1 ic m W (by omega) (by omega) hk3
  by_cases h' : m - n1 < 0
  ·rw [if_pos h'] at HC
   rw [show lft left (t1 + n1 + n2) = -1 by unfold lft; rw [if_pos (by omega)]]
   clear hm h h'
   have HS := qd ((Sep.start w).box #[.int .i64 n, .slice ea t0 ec, .slice ia n1 ic, .slice oa n2 oc] 25)
   go_enter Tryz.func6, Tryz.ntmps6
   go_wp2_with (first
    |(go_at_call 26
      with_reducible refine (HA.out _ (HK.out _)).mono ?_
      rintro e w2 ⟨rfl, hg2⟩
      have hs2 := HS.out.grown hg2
      have HG2 := qd (show w.grownBy w2 none from hs2.tl.hd)
      obtain ⟨x0, x1, x2, x3, _⟩ := bq4 hs2.hd
      clear hg2 hs2)
    |(go_at_call 27; with_reducible refine (HC.out _).mono ?_; rintro e w' ⟨rfl, rfl⟩))
   go_ret
   exact ⟨rfl, HG2.out⟩
  ·rw [if_neg h'] at HC
   obtain ⟨m2, hm2⟩ : ∃ m2, m2 = m - (n1 : Int) := ⟨_, rfl⟩
   rw [← hm2] at HC
   have hm20 : ¬ m2 < 0 := by omega
   have HD := qd fun W => szIntS_any oa n2 oc m2 W (by omega) (by omega) hk4
   by_cases h2 : m2 - n2 < 0
   ·rw [if_pos h2] at HD
    rw [show lft left (t1 + n1 + n2) = -1 by unfold lft; rw [if_pos (by omega)]]
    clear hm h h' hm2 h2
    have HS := qd ((Sep.start w).box #[.int .i64 n, .slice ea t0 ec, .slice ia n1 ic, .slice oa n2 oc] 25)
    go_enter Tryz.func6, Tryz.ntmps6
    go_wp2_with (first
     |(go_at_call 26
       with_reducible refine (HA.out _ (HK.out _)).mono ?_
       rintro e w2 ⟨rfl, hg2⟩
       have hs2 := HS.out.grown hg2
       have HG2 := qd (show w.grownBy w2 none from hs2.tl.hd)
       obtain ⟨x0, x1, x2, x3, _⟩ := bq4 hs2.hd
       clear hg2 hs2)
     |(go_at_call 27; with_reducible refine (HC.out _).mono ?_; rintro e w' ⟨rfl, rfl⟩)
     |(go_at_call 27; with_reducible refine (HD.out _).mono ?_; rintro e w' ⟨rfl, rfl⟩))
    go_ret
    exact ⟨rfl, HG2.out⟩
   ·rw [if_neg h2] at HD
    rw [show lft left (t1 + n1 + n2) = m2 - n2 by unfold lft; rw [if_neg (by omega)]; omega]
    obtain ⟨m3, hm3⟩ : ∃ m3, m3 = m2 - (n2 : Int) := ⟨_, rfl⟩
    rw [← hm3] at HD ⊢
    have hm30 : ¬ m3 < 0 := by omega
    clear hm h h' hm2 h2 hm3
    have HS := qd ((Sep.start w).box #[.int .i64 n, .slice ea t0 ec, .slice ia n1 ic, .slice oa n2 oc] 25)
    go_enter Tryz.func6, Tryz.ntmps6
    go_wp2_with (first
     |(go_at_call 26
       with_reducible refine (HA.out _ (HK.out _)).mono ?_
       rintro e w2 ⟨rfl, hg2⟩
       have hs2 := HS.out.grown hg2
       have HG2 := qd (show w.grownBy w2 none from hs2.tl.hd)
       obtain ⟨x0, x1, x2, x3, _⟩ := bq4 hs2.hd
       clear hg2 hs2)
     |(go_at_call 27; with_reducible refine (HC.out _).mono ?_; rintro e w' ⟨rfl, rfl⟩)
     |(go_at_call 27; with_reducible refine (HD.out _).mono ?_; rintro e w' ⟨rfl, rfl⟩))
    go_ret
    exact ⟨rfl, HG2.out⟩
theorem isGenerator_any (k : Int) (w : World) : Calls Tryz.prog 114 #[.int .i64 k] w fun e w' => e = .returned (.bool (inB k 3 14)) ∧ w' = w := by
 have HW := qd fun W => within_any k 3 14 W
 rw [show decide (3 ≤ k ∧ k ≤ 14) = inB k 3 14 from rfl] at HW
 generalize inB k 3 14 = b at *
 go_enter Tryz.func114, Tryz.ntmps114
 go_wp2_with (go_at_call 84; with_reducible refine (HW.out _).mono ?_; rintro e w3 ⟨rfl, rfl⟩)
 go_ret
 exact ⟨rfl, rfl⟩
def hvB (k : Int) : Bool := decide (k = 7 ∨ k = 13)
theorem hasValue_any (k : Int) (w : World) : Calls Tryz.prog 144 #[.int .i64 k] w fun e w' => e = .returned (.bool (hvB k)) ∧ w' = w := by
 by_cases h7 : k = 7
 ·subst h7
  go_enter Tryz.func144, Tryz.ntmps144
  go_wp2
  go_ret
  exact ⟨rfl, rfl⟩
 ·have e7 : (k == 7) = false := by simpa using h7
  by_cases h13 : k = 13
  ·subst h13
   go_enter Tryz.func144, Tryz.ntmps144
   go_wp2
   go_ret
   exact ⟨rfl, rfl⟩
  ·have e13 : (k == 13) = false := by simpa using h13
   have hv : hvB k = false := decide_eq_false (by omega)
   rw [hv]
   clear h7 h13 hv
   go_enter Tryz.func144, Tryz.ntmps144
   go_wp2
   go_ret
   exact ⟨rfl, rfl⟩
theorem valB_hv (k v : Int) : valB k v = if hvB k = true then inB v 0 96 else decide (v = 0) := by
 unfold valB hvB
 by_cases h : k = 7 ∨ k = 13 <;> simp [h]
theorem isGeneratorValue_any (k v : Int) (w : World) : Calls Tryz.prog 115 #[.int .i64 k, .int .i64 v] w fun e w' => e = .returned (.bool (valB k v)) ∧ w' = w := by
 have HH := qd fun W => hasValue_any k W
 have HW := qd fun W => within_any v 0 96 W
 rw [show decide (0 ≤ v ∧ v ≤ 96) = inB v 0 96 from rfl] at HW
 rw [valB_hv]
 cases hb : hvB k
 ·rw [hb] at HH
  clear hb
  by_cases hv : v = 0
  ·subst hv
   go_enter Tryz.func115, Tryz.ntmps115
   go_wp2_with (go_at_call 144; with_reducible refine (HH.out _).mono ?_; rintro e w3 ⟨rfl, rfl⟩)
   go_ret
   exact ⟨rfl, rfl⟩
  ·have ev : (v == 0) = false := by simpa using hv
   have hd : decide (v = 0) = false := decide_eq_false hv
   rw [hd]
   clear hv hd
   go_enter Tryz.func115, Tryz.ntmps115
   go_wp2_with (go_at_call 144; with_reducible refine (HH.out _).mono ?_; rintro e w3 ⟨rfl, rfl⟩)
   go_ret
   exact ⟨rfl, rfl⟩
 ·rw [hb] at HH
  clear hb
  rw [if_pos rfl]
  generalize inB v 0 96 = b at *
  go_enter Tryz.func115, Tryz.ntmps115
  go_wp2_with (first
   |(go_at_call 144; with_reducible refine (HH.out _).mono ?_; rintro e w3 ⟨rfl, rfl⟩)
   |(go_at_call 84; with_reducible refine (HW.out _).mono ?_; rintro e w3 ⟨rfl, rfl⟩))
  go_ret
  exact ⟨rfl, rfl⟩
set_option maxHeartbeats 2000000 in
theorem generatorWires_any (k : Int) (w : World) (h : inB k 3 14 = true) : Calls Tryz.prog 116 #[.int .i64 k] w fun e w' => e = .returned (.agg #[.int .i64 (edW k).1, .int .i64 (edW k).2]) ∧ w.grownBy w' none := by
 rw [inB_iff] at h
 have hk : k = 3 ∨ k = 4 ∨ k = 5 ∨ k = 6 ∨ k = 7 ∨ k = 8 ∨ k = 9 ∨ k = 10 ∨ k = 11 ∨ k = 12 ∨ k = 13 ∨ k = 14 := by omega
 clear h
 rcases hk with rfl | rfl | rfl | rfl | rfl | rfl | rfl | rfl | rfl | rfl | rfl | rfl
 all_goals
  go_enter Tryz.func116, Tryz.ntmps116
  go_wp2_with fail
  refine bodyPost_ret_by (v := .agg #[.int .i64 _, .int .i64 _]) ?_ rfl ⟨rfl, ?_⟩
  ·simp [results, go_sem, *, edW]
  ·first
    | exact gr3 _ _ _ _
    | exact gr2 _ _ _
set_option maxHeartbeats 4000000 in
theorem isEdge_any (k v : Int) (iv ov : Value) (is os : List Int) (w : World) (hi : IntsV w iv is) (ho : IntsV w ov os) :
 Calls Tryz.prog 85 #[.agg #[.int .i64 k, .int .i64 v, iv, ov]] w fun e w' => e = .returned (.bool (edB ⟨k, v, is, os⟩)) ∧ w.grownBy w' none := by
 obtain ⟨a1, c1, rfl⟩ := hi.shape
 obtain ⟨a2, c2, rfl⟩ := ho.shape
 clear hi ho
 have HA := qd fun W => isGenerator_any k W
 have HB := qd fun W => isGeneratorValue_any k v W
 have HS0 := qd ((Sep.start w).box #[.int .i64 k, .int .i64 v, .slice a1 is.length c1, .slice a2 os.length c2] 104)
 have HK0 := qd (show w.grownBy _ none from HS0.out.tl.hd)
 have hed : edB ⟨k, v, is, os⟩ = (inB k 3 14 && (valB k v && decide ((is.length, os.length) = edW k))) := by unfold edB; rw [Bool.and_assoc]
 rw [hed]
 clear hed
 generalize is.length = n1 at *
 generalize os.length = n2 at *
 cases h1 : inB k 3 14
 ·rw [h1] at HA
  clear h1
  go_enter Tryz.func85, Tryz.ntmps85
  go_wp2_with (go_at_call 114; with_reducible refine (HA.out _).mono ?_; rintro e w3 ⟨rfl, rfl⟩)
  go_ret
  exact ⟨rfl, HK0.out⟩
 ·rw [h1] at HA
  have HC := qd fun W => generatorWires_any k W h1
  clear h1
  cases h2 : valB k v
  ·rw [h2] at HB
   clear h2
   go_enter Tryz.func85, Tryz.ntmps85
   go_wp2_with (first
    |(go_at_call 114; with_reducible refine (HA.out _).mono ?_; rintro e w3 ⟨rfl, rfl⟩)
    |(go_at_call 115; with_reducible refine (HB.out _).mono ?_; rintro e w3 ⟨rfl, rfl⟩))
   go_ret
   exact ⟨rfl, HK0.out⟩
  ·rw [h2] at HB
   clear h2
   generalize edW k = ew at *
   obtain ⟨e1, e2⟩ := ew
   simp only at HC
   have hcmp : ∀ W, (binOp .eql 149 (.agg #[.int .i64 e1, .int .i64 e2]) (.agg #[.int .i64 n1, .int .i64 n2])).run Tryz.prog W = .ok (.bool (decide ((n1, n2) = (e1, e2)))) W := by
    intro W
    by_cases a : n1 = e1 <;> by_cases b : n2 = e2
    ·subst a b; simp [go_sem]
    ·have b' : ¬ (e2 : Int) = n2 := by omega
     simp [go_sem, a, b, b']
    ·have a' : ¬ (e1 : Int) = n1 := by omega
     simp [go_sem, a, b, a']
    ·have a' : ¬ (e1 : Int) = n1 := by omega
     simp [go_sem, a, b, a']
   generalize decide ((n1, n2) = (e1, e2)) = d at *
   go_enter Tryz.func85, Tryz.ntmps85
   go_upto_region 3 with (first
    |(go_at_call 114; with_reducible refine (HA.out _).mono ?_; rintro e w3 ⟨rfl, rfl⟩)
    |(go_at_call 115; with_reducible refine (HB.out _).mono ?_; rintro e w3 ⟨rfl, rfl⟩))
   have hs1 := HS0.out.dr
   obtain ⟨x0, x1, x2, x3, _⟩ := bq4 hs1.hd
   have HS1 := qd hs1
   clear hs1
   go_region_law (
    (try go_simp)
    go_at_call 116
    with_reducible refine (HC.out _).mono ?_
    rintro e w5 ⟨rfl, hg5⟩
    have hs5 := HS1.out.grown hg5
    obtain ⟨y0, y1, y2, y3, _⟩ := bq4 hs5.hd
    have HK5 := qd (show w.grownBy w5 none from hs5.tl.hd)
    clear hg5 hs5)
   all_goals
    go_wp2_with fail
    go_ret
    exact ⟨(by simp only [Bool.true_and]; rfl), HK5.out⟩
theorem tmKind_any (k : Int) (w : World) (h : inB k 3 14 = true) : Calls Tryz.prog 120 #[.int .i64 k] w fun e w' => e = .returned (.tuple #[.int .i64 (edW k).1, .int .i64 (edW k).2]) ∧ w' = w := by
 rw [inB_iff] at h
 have hk : k = 3 ∨ k = 4 ∨ k = 5 ∨ k = 6 ∨ k = 7 ∨ k = 8 ∨ k = 9 ∨ k = 10 ∨ k = 11 ∨ k = 12 ∨ k = 13 ∨ k = 14 := by omega
 clear h
 rcases hk with rfl | rfl | rfl | rfl | rfl | rfl | rfl | rfl | rfl | rfl | rfl | rfl
 all_goals
  go_enter Tryz.func120, Tryz.ntmps120
  go_wp2_with fail
  refine bodyPost_ret_by (v := .tuple #[.int .i64 _, .int .i64 _]) ?_ rfl ⟨rfl, rfl⟩
  simp [results, go_sem, *, edW]
theorem tmLeaf_any (k v : Int) (w : World) (h : inB k 3 14 = true) : Calls Tryz.prog 119 #[.agg #[.int .i64 k, .int .i64 v, .string ⟨#[]⟩]] w fun e w' => e = .returned (.bool (valB k v)) ∧ w.grownBy w' none := by
 have hk := inB_iff.1 h
 have HA := qd fun W => l1In_any k 1 14 W
 rw [decide_eq_true (show 1 ≤ k ∧ k ≤ 14 by omega)] at HA
 have HB := qd fun W => l1In_any v 0 96 W
 rw [show decide (0 ≤ v ∧ v ≤ 96) = inB v 0 96 from rfl] at HB
 have e1 : (k == 1) = false := by simp; omega
 rw [valB_hv]
 by_cases h7 : k = 7
 ·subst h7
  rw [show hvB 7 = true from rfl, if_pos rfl]
  generalize inB v 0 96 = b at *
  clear h hk
  go_enter Tryz.func119, Tryz.ntmps119
  go_wp2_with (first
   |(go_at_call 91; with_reducible refine (HA.out _).mono ?_; rintro e w3 ⟨rfl, rfl⟩)
   |(go_at_call 91; with_reducible refine (HB.out _).mono ?_; rintro e w3 ⟨rfl, rfl⟩))
  go_ret
  exact ⟨rfl, gr1 _ _⟩
 ·have e7 : (k == 7) = false := by simpa using h7
  by_cases h13 : k = 13
  ·subst h13
   rw [show hvB 13 = true from rfl, if_pos rfl]
   generalize inB v 0 96 = b at *
   clear h hk
   go_enter Tryz.func119, Tryz.ntmps119
   go_wp2_with (first
    |(go_at_call 91; with_reducible refine (HA.out _).mono ?_; rintro e w3 ⟨rfl, rfl⟩)
    |(go_at_call 91; with_reducible refine (HB.out _).mono ?_; rintro e w3 ⟨rfl, rfl⟩))
   go_ret
   exact ⟨rfl, gr1 _ _⟩
  ·have e13 : (k == 13) = false := by simpa using h13
   rw [show hvB k = false from decide_eq_false (by omega), if_neg (by simp)]
   clear h hk h7 h13
   by_cases hv : v = 0
   ·subst hv
    go_enter Tryz.func119, Tryz.ntmps119
    go_wp2_with (go_at_call 91; with_reducible refine (HA.out _).mono ?_; rintro e w3 ⟨rfl, rfl⟩)
    go_ret
    exact ⟨rfl, gr1 _ _⟩
   ·have ev : (v == 0) = false := by simpa using hv
    rw [decide_eq_false hv]
    clear hv
    go_enter Tryz.func119, Tryz.ntmps119
    go_wp2_with (go_at_call 91; with_reducible refine (HA.out _).mono ?_; rintro e w3 ⟨rfl, rfl⟩)
    go_ret
    exact ⟨rfl, gr1 _ _⟩
theorem l1All_rng (n : Int) (v : Value) (zs : List Int) (w : World) (hv : IntsV w v zs) (hl : zs.length ≤ 1000000) : Calls Tryz.prog 92 #[v, .int .i64 0, .int .i64 (n - 1)] w fun e w' => e = .returned (.bool (rngB n zs)) ∧ w = w' :=
 l1All_any 0 (n - 1) v zs w hv hl
set_option maxHeartbeats 4000000 in
theorem hgEdge_any (n : Int) (iv ov : Value) (x : Ed) (w : World) (hi : IntsV w iv x.i) (ho : IntsV w ov x.o) (hn0 : 0 ≤ n) (hn1 : n ≤ 100) :
 Calls Tryz.prog 93 #[.agg #[.int .i64 x.k, .int .i64 x.v, iv, ov], .int .i64 n] w fun e w' => e = .returned (.bool (edB x && (rngB n x.i && rngB n x.o))) ∧ w.grownBy w' none := by
 obtain ⟨k, v, is, os⟩ := x
 simp only at hi ho ⊢
 have HI := qd hi; have HO := qd ho
 obtain ⟨a1, c1, rfl⟩ := hi.shape
 obtain ⟨a2, c2, rfl⟩ := ho.shape
 clear hi ho
 have HA := qd fun W => l1In_any k 3 14 W
 rw [show decide (3 ≤ k ∧ k ≤ 14) = inB k 3 14 from rfl] at HA
 have HS0 := qd ((Sep.start w).box #[.int .i64 k, .int .i64 v, .slice a1 is.length c1, .slice a2 os.length c2] 104)
 have HK0 := qd (show w.grownBy _ none from HS0.out.tl.hd)
 have hed : edB ⟨k, v, is, os⟩ = (inB k 3 14 && (valB k v && decide ((is.length, os.length) = edW k))) := by unfold edB; rw [Bool.and_assoc]
 rw [hed]
 have hwr : IntKind.i64.wrap (n - 1) = n - 1 := by rw [IntKind.wrap_i64]; omega
 clear hed
 cases h1 : inB k 3 14
 ·rw [h1] at HA
  rw [Bool.false_and, Bool.false_and]
  clear h1
  generalize is.length = n1 at *
  generalize os.length = n2 at *
  go_enter Tryz.func93, Tryz.ntmps93
  go_wp2_with (go_at_call 91; with_reducible refine (HA.out _).mono ?_; rintro e w3 ⟨rfl, rfl⟩)
  go_ret
  exact ⟨rfl, HK0.out⟩
 ·rw [h1] at HA
  rw [Bool.true_and]
  have HB := qd fun W => tmLeaf_any k v W h1
  have HC := qd fun W => tmKind_any k W h1
  clear h1
  cases h2 : valB k v
  ·rw [h2] at HB
   rw [Bool.false_and, Bool.false_and]
   clear h2
   generalize is.length = n1 at *
   generalize os.length = n2 at *
   go_enter Tryz.func93, Tryz.ntmps93
   go_wp2_with (first
    |(go_at_call 91; with_reducible refine (HA.out _).mono ?_; rintro e w3 ⟨rfl, rfl⟩)
    |(go_at_call 119
      with_reducible refine (HB.out _).mono ?_
      rintro e w4 ⟨rfl, hg4⟩
      have HK4 := qd (grownBy_trans HK0.out hg4)
      clear hg4))
   go_ret
   exact ⟨rfl, HK4.out⟩
  ·rw [h2] at HB
   rw [Bool.true_and]
   clear h2
   have hew : (edW k).1 ≤ 2 ∧ (edW k).2 ≤ 2 := by unfold edW; (repeat' split) <;> simp
   generalize edW k = ew at *
   obtain ⟨m1, m2⟩ := ew
   simp only at HC hew
   by_cases hn1' : is.length = m1
   ·by_cases hn2' : os.length = m2
    ·rw [decide_eq_true (show (is.length, os.length) = (m1, m2) by rw [hn1', hn2']), Bool.true_and]
     have HAI := qd fun W (h : w.grownBy W none) => l1All_rng n _ is W (HI.out.carry h) (by omega)
     have HAO := qd fun W (h : w.grownBy W none) => l1All_rng n _ os W (HO.out.carry h) (by omega)
     rw [hn1', hn2'] at HS0 HK0 ⊢
     rw [hn1'] at HAI
     rw [hn2'] at HAO
     clear hew hn1' hn2'
     cases hb1 : rngB n is
     ·rw [hb1] at HAI
      clear hb1
      go_enter Tryz.func93, Tryz.ntmps93
      go_wp2_with (first
       |(go_at_call 91; with_reducible refine (HA.out _).mono ?_; rintro e w3 ⟨rfl, rfl⟩)
       |(go_at_call 119
         with_reducible refine (HB.out _).mono ?_
         rintro e w4 ⟨rfl, hg4⟩
         have hs4 := HS0.out.grown hg4
         have HK4 := qd (grownBy_trans HK0.out hg4)
         obtain ⟨x0, x1, x2, x3, _⟩ := bq4 hs4.hd
         clear hg4 hs4)
       |(go_at_call 120; with_reducible refine (HC.out _).mono ?_; rintro e w3 ⟨rfl, rfl⟩)
       |(go_at_call 92; with_reducible refine (HAI.out _ HK4.out).mono ?_; rintro e w3 ⟨rfl, rfl⟩))
      go_ret
      exact ⟨rfl, HK4.out⟩
     ·rw [hb1] at HAI
      rw [Bool.true_and]
      generalize rngB n os = b2 at *
      clear hb1
      go_enter Tryz.func93, Tryz.ntmps93
      go_wp2_with (first
       |(go_at_call 91; with_reducible refine (HA.out _).mono ?_; rintro e w3 ⟨rfl, rfl⟩)
       |(go_at_call 119
         with_reducible refine (HB.out _).mono ?_
         rintro e w4 ⟨rfl, hg4⟩
         have hs4 := HS0.out.grown hg4
         have HK4 := qd (grownBy_trans HK0.out hg4)
         obtain ⟨x0, x1, x2, x3, _⟩ := bq4 hs4.hd
         clear hg4 hs4)
       |(go_at_call 120; with_reducible refine (HC.out _).mono ?_; rintro e w3 ⟨rfl, rfl⟩)
       |(go_at_call 92; with_reducible refine (HAI.out _ HK4.out).mono ?_; rintro e w3 ⟨rfl, rfl⟩)
       |(go_at_call 92; with_reducible refine (HAO.out _ HK4.out).mono ?_; rintro e w3 ⟨rfl, rfl⟩))
      go_ret
      exact ⟨rfl, HK4.out⟩
    ·rw [decide_eq_false (show ¬ (is.length, os.length) = (m1, m2) by simp [hn2']), Bool.false_and]
     have hb2 : ((os.length : Int) == (m2 : Int)) = false := by rw [beq_eq_false_iff_ne]; omega
     have hb1 : ((is.length : Int) == (m1 : Int)) = true := by rw [beq_iff_eq]; omega
     clear hew hn1' hn2' HI HO
     generalize is.length = n1 at *
     generalize os.length = n2 at *
     go_enter Tryz.func93, Tryz.ntmps93
     go_wp2_with (first
      |(go_at_call 91; with_reducible refine (HA.out _).mono ?_; rintro e w3 ⟨rfl, rfl⟩)
      |(go_at_call 119
        with_reducible refine (HB.out _).mono ?_
        rintro e w4 ⟨rfl, hg4⟩
        have hs4 := HS0.out.grown hg4
        have HK4 := qd (grownBy_trans HK0.out hg4)
        obtain ⟨x0, x1, x2, x3, _⟩ := bq4 hs4.hd
        clear hg4 hs4)
      |(go_at_call 120; with_reducible refine (HC.out _).mono ?_; rintro e w3 ⟨rfl, rfl⟩))
     go_ret
     exact ⟨rfl, HK4.out⟩
   ·rw [decide_eq_false (show ¬ (is.length, os.length) = (m1, m2) by simp [hn1']), Bool.false_and]
    have hb1 : ((is.length : Int) == (m1 : Int)) = false := by rw [beq_eq_false_iff_ne]; omega
    clear hew hn1' HI HO
    generalize is.length = n1 at *
    generalize os.length = n2 at *
    go_enter Tryz.func93, Tryz.ntmps93
    go_wp2_with (first
     |(go_at_call 91; with_reducible refine (HA.out _).mono ?_; rintro e w3 ⟨rfl, rfl⟩)
     |(go_at_call 119
       with_reducible refine (HB.out _).mono ?_
       rintro e w4 ⟨rfl, hg4⟩
       have hs4 := HS0.out.grown hg4
       have HK4 := qd (grownBy_trans HK0.out hg4)
       obtain ⟨x0, x1, x2, x3, _⟩ := bq4 hs4.hd
       clear hg4 hs4)
     |(go_at_call 120; with_reducible refine (HC.out _).mono ?_; rintro e w3 ⟨rfl, rfl⟩))
    go_ret
    exact ⟨rfl, HK4.out⟩
theorem RdE.atK {E : Lay XE} (h1 : E.sz = 4) (h2 : E.cs = edgeC) {w : World} {a : Option Addr} {n c : Nat} {es : List Ed} (h : RdE E w (.slice a n c) es) {i : Nat} (hi : i < es.length) :
 ∃ b o iv ov, a = some ⟨b, o, none⟩ ∧ ∀ W, w.grownBy W none → (W.cell? ⟨b, o + i * 4, none⟩ = some (.int .i64 (es.getD i e0).k) ∧ W.cell? ⟨b, o + i * 4 + 1, none⟩ = some (.int .i64 (es.getD i e0).v) ∧
  W.cell? ⟨b, o + i * 4 + 2, none⟩ = some iv ∧ W.cell? ⟨b, o + i * 4 + 3, none⟩ = some ov) ∧ IntsV W iv (es.getD i e0).i ∧ IntsV W ov (es.getD i e0).o := by
 obtain ⟨b, o, iv, ov, ha, hb, q0, q1, q2, q3, hi', ho⟩ := h.at h1 h2 hi
 refine ⟨b, o, iv, ov, ha, fun W hg => ⟨⟨?_, ?_, ?_, ?_⟩, hi'.carry hg, ho.carry hg⟩⟩
 ·exact (World.cell?_of_block (a := ⟨b, o + i * 4, none⟩) (hg.block b hb (by simp))).trans q0
 ·exact (World.cell?_of_block (a := ⟨b, o + i * 4 + 1, none⟩) (hg.block b hb (by simp))).trans q1
 ·exact (World.cell?_of_block (a := ⟨b, o + i * 4 + 2, none⟩) (hg.block b hb (by simp))).trans q2
 ·exact (World.cell?_of_block (a := ⟨b, o + i * 4 + 3, none⟩) (hg.block b hb (by simp))).trans q3
def VisFn (g : FuncId) (lb : Array Value) (A : List Int → Asrt) : Prop :=
 ∀ (P x : List Int) (v : Value) (w0 W : World) (l : List Asrt), Sep W (A P :: KeepA w0 :: l) → IntsV w0 v x → x.length ≤ 1000000 → Calls Tryz.prog g (#[v] ++ lb) W fun e w' => e = .returned (.tuple #[]) ∧ Sep w' (A (P ++ x) :: KeepA w0 :: l)
theorem wiresE_take (es : List Ed) (k : Nat) (hk : k < es.length) : wiresE (es.take (k + 1)) = wiresE (es.take k) ++ ((es.getD k e0).i ++ (es.getD k e0).o) := by
 unfold wiresE
 rw [List.take_succ_eq_append_getElem hk, List.flatMap_append, List.getD_eq_getElem?_getD, List.getElem?_eq_getElem hk]
 simp
set_option maxHeartbeats 2000000 in
theorem lists_any (g : FuncId) (lb : Array Value) (eg : ∀ args w, (callFunc g args).run Tryz.prog w = .ok (.enter g args) w) (A : List Int → Asrt) (hV : VisFn g lb A) (n : Int) (ev iv ov : Value) (G : Gr) (w0 w : World) (l : List Asrt)
 (he : RdE edgeE w0 ev G.es) (hi : IntsV w0 iv G.i) (ho : IntsV w0 ov G.o) (hl : G.es.length ≤ 1000000) (hli : G.i.length ≤ 1000000) (hlo : G.o.length ≤ 1000000) (hle : ∀ e ∈ G.es, e.i.length ≤ 1000000 ∧ e.o.length ≤ 1000000) (hs : Sep w (A [] :: KeepA w0 :: l)) :
 Calls Tryz.prog 79 #[grV n ev iv ov, .func (.func g) #[] lb] w fun e w' => e = .returned (.tuple #[]) ∧ Sep w' (A (wiresL G) :: KeepA w0 :: l) := by
 have HE := qd he; have HI := qd hi; have HO := qd ho; have HV := qd hV
 obtain ⟨ea, ec, rfl⟩ := he.shape
 obtain ⟨ia, ic, rfl⟩ := hi.shape
 obtain ⟨oa, oc, rfl⟩ := ho.shape
 unfold grV wiresL
 obtain ⟨_, es, is, os⟩ := G
 simp only at HE HI HO hl hli hlo hle ⊢
 have HLE := qd hle; have HLO := qd (show ∀ y : List Int, y = os → y.length ≤ 1000000 from fun y e => by rw [e]; exact hlo)
 clear he hi ho hV
 have hs0 := (hs.box #[.int .i64 n, .slice ea es.length ec, .slice ia is.length ic, .slice oa os.length oc] 38).s2.under Sep.s2 (by simp +contextual)
 have HS0 := qd hs0
 have HA := qd (HV.out [] is _ w0 _ _ hs0 HI.out hli)
 clear hs hs0 hli hlo hle
 generalize hm : es.length = m at *
 have HM := qd hm
 clear hm
 generalize is.length = n1 at *
 generalize os.length = n2 at *
 have HIV := qd HI.out; have HOV := qd HO.out
 go_enter Tryz.func79, Tryz.ntmps79
 go_wp2_with (first
  |(go_at_fn g
    with_reducible refine HA.out.mono ?_
    rintro e w2 ⟨rfl, hs2⟩
    obtain ⟨x0, x1, x2, x3, _⟩ := bq4 hs2.tl.tl.hd
    have HS2 := qd hs2
    have HB := qd (HV.out _ os _ w0 _ _ hs2 HO.out (HLO.out _ rfl))
    clear hs2)
  |(go_at_fn g
    with_reducible refine HB.out.mono ?_
    rintro e w3 ⟨rfl, hs3⟩
    obtain ⟨y0, y1, y2, y3, _⟩ := bq4 hs3.tl.tl.hd
    have HS3 := qd hs3
    clear hs3))
 rw [List.nil_append] at HS3
 have HS3' := qd (show Sep w3 (A (is ++ (os ++ wiresE (es.take 0))) :: _) from by have := HS3.out; simpa [wiresE] using this)
 clear HS2 HS3 HA HB y0 y1 y2 y3 x0 x1 x2 x3
 go_loopw [5, 17] (fun _ i wr => ∃ k : Nat, k ≤ m ∧ i = .int .i64 k ∧ Sep wr (A (is ++ (os ++ wiresE (es.take k))) :: KeepA w0 :: BxA w.heap.size #[.int .i64 n, .slice ea m ec, .slice ia n1 ic, .slice oa n2 oc] 38 :: l)) (fun _ i _ => m - (intOf i).toNat)
 case atStart => exact ⟨0, by omega, rfl, HS3'.out⟩
 case round =>
  obtain ⟨k, hk, rfl, hs⟩ := hrel
  have HSX := qd hs
  clear hs HS3'
  by_cases hlt : k < m
  ·have hke : k < es.length := by rw [HM.out]; exact hlt
   obtain ⟨b, o, u1, u2, rfl, hat⟩ := HE.out.atK rfl rfl hke
   have HT := qd (wiresE_take es k hke)
   have hlm := HLE.out _ (show es.getD k e0 ∈ es by rw [List.getD_eq_getElem?_getD, List.getElem?_eq_getElem hke]; exact List.getElem_mem _)
   generalize es.getD k e0 = e at *
   obtain ⟨ek, ev, ei, eo⟩ := e
   simp only at hat HT hlm
   have HLM := qd (show ∀ y : List Int, y = eo → y.length ≤ 1000000 from fun y e => by rw [e]; exact hlm.2)
   obtain ⟨⟨q0, q1, q2, q3⟩, hi, ho⟩ := hat wr HSX.out.tl.hd
   obtain ⟨a1, c1, rfl⟩ := hi.shape
   obtain ⟨a2, c2, rfl⟩ := ho.shape
   have HAT := qd hat
   obtain ⟨⟨_, _, _, _⟩, hi0, ho0⟩ := hat w0 (grownBy_refl _ _)
   have hb := (HSX.out.box #[.int .i64 ek, .int .i64 ev, .slice a1 ei.length c1, .slice a2 eo.length c2] 104).s2.under Sep.s2 (by simp +contextual)
   have HA := qd (HV.out _ ei _ w0 _ _ hb hi0 hlm.1)
   have HO0 := qd ho0
   clear hb hke hi ho hat hlm hi0 ho0 HAT
   generalize ei.length = m1 at *
   generalize eo.length = m2 at *
   go_wp2_with (first
    |(go_at_fn g
      with_reducible refine HA.out.mono ?_
      rintro e w5 ⟨rfl, hs5⟩
      obtain ⟨y0, y1, y2, y3, _⟩ := bq4 hs5.tl.tl.hd
      have HB := qd (HV.out _ eo _ w0 _ _ hs5 HO0.out (HLM.out _ rfl))
      clear hs5)
    |(go_at_fn g
      with_reducible refine HB.out.mono ?_
      rintro e w6 ⟨rfl, hs6⟩
      have hs7 := hs6.under Sep.drop2 (by simp +contextual)
      rw [show is ++ (os ++ wiresE (es.take k)) ++ ei ++ eo = is ++ (os ++ wiresE (es.take (k + 1))) by rw [HT.out]; simp] at hs7
      have HS7 := qd hs7
      clear hs6 hs7))
   go_roundw
   case rel => exact ⟨k + 1, by omega, by go_num, HS7.out⟩
   case measure => simp [intOf]; omega
  ·have hkm : k = m := by omega
   subst hkm
   have hs := HSX.out
   rw [List.take_of_length_le (by rw [HM.out]; exact Nat.le_refl _)] at hs
   have HF := qd (hs.under Sep.drop2 (by simp +contextual))
   clear hs hlt HSX
   go_wp2
   refine bodyPost_end (results_none rfl _ _ _) rfl ?_
   exact ⟨rfl, HF.out⟩
def seenL (n : Nat) (P : List Int) : List Bool := (List.range n).map fun w : Nat => decide ((w : Int) ∈ P)
def cntS (n : Nat) (P : List Int) : Nat := (List.range n).countP fun w : Nat => decide ((w : Int) ∈ P)
theorem seen_len (n : Nat) (P : List Int) : (seenL n P).length = n := by simp [seenL]
theorem seen_at {n : Nat} {P : List Int} {j : Nat} (h : j < n) : (seenL n P).getD j false = decide ((j : Int) ∈ P) := by
 unfold seenL
 rw [List.getD_eq_getElem?_getD, List.getElem?_map, List.getElem?_range h]
 rfl
theorem seen_out {n : Nat} {P : List Int} {x : Int} (h : ¬ (0 ≤ x ∧ x < n)) : seenL n (P ++ [x]) = seenL n P ∧ cntS n (P ++ [x]) = cntS n P := by
 have key : ∀ w : Nat, w < n → (decide ((w : Int) ∈ P ++ [x])) = decide ((w : Int) ∈ P) := by
  intro w hw
  have : ¬ (w : Int) = x := by omega
  simp [this]
 constructor
 ·unfold seenL
  exact List.map_congr_left fun w hw => key w (List.mem_range.1 hw)
 ·unfold cntS
  exact List.countP_congr fun w hw => by rw [key w (List.mem_range.1 hw)]
theorem seen_old {n : Nat} {P : List Int} {x : Int} (h : x ∈ P) : seenL n (P ++ [x]) = seenL n P ∧ cntS n (P ++ [x]) = cntS n P := by
 have key : ∀ w : Nat, (decide ((w : Int) ∈ P ++ [x])) = decide ((w : Int) ∈ P) := by
  intro w
  by_cases hw : (w : Int) ∈ P
  ·simp [hw]
  ·have : ¬ (w : Int) = x := fun e => hw (by rw [e]; exact h)
   simp [this]
 constructor
 ·unfold seenL
  exact List.map_congr_left fun w hw => key w
 ·unfold cntS
  exact List.countP_congr fun w hw => by rw [key w]
theorem seen_new {n j : Nat} {P : List Int} (hj : j < n) (h : ¬ (j : Int) ∈ P) : seenL n (P ++ [(j : Int)]) = (seenL n P).set j true ∧ cntS n (P ++ [(j : Int)]) = cntS n P + 1 := by
 have hs : seenL n (P ++ [(j : Int)]) = (seenL n P).set j true := by
  apply List.ext_getElem (by simp [seenL])
  intro i h1 h2
  rw [List.getElem_set]
  unfold seenL
  simp only [List.getElem_map, List.getElem_range]
  by_cases e : j = i
  ·subst e; simp
  ·rw [if_neg e]
   have : ¬ (i : Int) = j := by omega
   simp [this]
 refine ⟨hs, ?_⟩
 have e1 : ∀ Q, cntS n Q = nT (seenL n Q) := by
  intro Q
  unfold cntS nT seenL
  rw [List.countP_map]
  rfl
 rw [e1, e1, hs]
 have hl : j < (seenL n P).length := by rw [seen_len]; exact hj
 exact nT_mark hl (by rw [seen_at hj]; exact decide_eq_false h)
theorem rng_snoc {n : Int} {P : List Int} {x : Int} : rngB n (P ++ [x]) = (rngB n P && inB x 0 (n - 1)) := by unfold rngB; simp
theorem bx1' {w : World} {k : Nat} {x : Value} {t : TypeId} (h : w.heap[k]? = some (.cells #[x] t (0, 0))) : w.cell? ⟨k, 0, none⟩ = some x ∧ w.frozen? ⟨k, 0, none⟩ = false :=
 ⟨cell_of_row w k 0 _ _ _ h, frozen_of_row w k 0 _ _ h⟩
def SeenA (m gb sb sa gd cb : Nat) (ev iv ov : Value) (P : List Int) : List Asrt :=
 [BxA gb #[.int .i64 m, ev, iv, ov] 38, BxA sb #[.slice (some ⟨sa, 0, none⟩) m m] 123, OR boolE (.slice (some ⟨sa, 0, none⟩) m m) (seenL m P), BxA gd #[.bool (rngB m P)] 4, BxA cb #[.int .i64 (cntS m P)] 3]
set_option maxHeartbeats 4000000 in
theorem isGraph1_fn (m gb sb sa gd cb : Nat) (ev iv ov : Value) (hm : m ≤ 100) :
 VisFn 86 #[.pointer (some ⟨gb, 0, none⟩), .pointer (some ⟨gd, 0, none⟩), .pointer (some ⟨sb, 0, none⟩), .pointer (some ⟨cb, 0, none⟩)] (fun P => Bag (SeenA m gb sb sa gd cb ev iv ov P)) := by
 intro P xs v w0 W l hs hv hl
 have hs0 := Sep.unbag hs
 have HS0 := qd hs0
 have HV := qd hv
 obtain ⟨a, c, rfl⟩ := hv.shape
 clear hs hs0 hv
 generalize hlen : xs.length = n at *
 have HN := qd hlen
 clear hlen
 go_enter Tryz.func86, Tryz.ntmps86
 go_wp2_with fail
 go_loopw [7, 10] (fun _ i wr => ∃ k : Nat, k ≤ n ∧ i = .int .i64 k ∧ Sep wr (SeenA m gb sb sa gd cb ev iv ov (P ++ xs.take k) ++ KeepA w0 :: l)) (fun _ i _ => n - (intOf i).toNat)
 case atStart => exact ⟨0, by omega, rfl, by simpa using HS0.out⟩
 case round =>
  obtain ⟨k, hk, rfl, hs⟩ := hrel
  have HSX := qd hs
  clear hs HS0
  by_cases hlt : k < n
  ·have hkx : k < xs.length := by rw [HN.out]; exact hlt
   obtain ⟨b, o, rfl⟩ := IntsV.addr HV.out (by omega)
   have hkeep : w0.grownBy wr none := HSX.out.tl.tl.tl.tl.tl.hd
   have hc0 := (HV.out.carry hkeep).cellN hkx
   have htk : xs.take (k + 1) = xs.take k ++ [xs.getD k 0] := by rw [List.take_succ_eq_append_getElem hkx, List.getD_eq_getElem?_getD, List.getElem?_eq_getElem hkx]; rfl
   have HTK := qd (show P ++ xs.take (k + 1) = (P ++ xs.take k) ++ [xs.getD k 0] by rw [htk, List.append_assoc])
   generalize P ++ xs.take k = Q at *
   obtain ⟨Q', hQ'⟩ : ∃ Q', Q' = P ++ xs.take (k + 1) := ⟨_, rfl⟩
   rw [← hQ'] at HTK
   have HQP := qd hQ'
   clear hQ'
   generalize xs.getD k 0 = x at *
   have HW := qd fun W => within_any x 0 ((m : Int) - 1) W
   have hS : Sep wr (BxA gb #[.int .i64 m, ev, iv, ov] 38 :: BxA sb #[.slice (some ⟨sa, 0, none⟩) m m] 123 :: OR boolE (.slice (some ⟨sa, 0, none⟩) m m) (seenL m Q) :: BxA gd #[.bool (rngB m Q)] 4 :: BxA cb #[.int .i64 (cntS m Q)] 3 :: KeepA w0 :: l) := HSX.out
   obtain ⟨x0, _⟩ := bq4 hS.hd
   obtain ⟨s0, sf⟩ := bx1' hS.tl.hd
   obtain ⟨g0', gf⟩ := bx1' hS.tl.tl.tl.hd
   obtain ⟨c0', cf⟩ := bx1' hS.tl.tl.tl.tl.hd
   have HS := qd hS
   have hwr : IntKind.i64.wrap ((m : Int) - 1) = (m : Int) - 1 := by rw [IntKind.wrap_i64]; omega
   clear hkx hkeep htk HSX
   by_cases hin : 0 ≤ x ∧ x ≤ (m : Int) - 1
   ·rw [decide_eq_true hin] at HW
    obtain ⟨j, rfl⟩ := Int.eq_ofNat_of_zero_le hin.1
    have hjm : j < m := by omega
    have hrg : rngB m Q' = rngB m Q := by rw [HTK.out, rng_snoc, show inB (j : Int) 0 ((m : Int) - 1) = true from decide_eq_true hin, Bool.and_true]
    have hsc := bool_cell hS.tl.tl.hd (seen_len m Q).symm hjm
    have hsf := bool_free hS.tl.tl.hd (seen_len m Q).symm j
    rw [seen_at hjm] at hsc
    by_cases hold : (j : Int) ∈ Q
    ·rw [decide_eq_true hold] at hsc
     have hso := seen_old (n := m) hold
     have HF := qd (show Sep wr (SeenA m gb sb sa gd cb ev iv ov Q' ++ KeepA w0 :: l) by
      unfold SeenA
      rw [hrg, HTK.out, hso.1, hso.2]
      exact HS.out)
     clear hrg hso hold hS hin
     go_wp2_with (go_at_call 84; with_reducible refine (HW.out _).mono ?_; rintro e w3 ⟨rfl, rfl⟩)
     go_roundw
     case rel => exact ⟨k + 1, by omega, by go_num, by rw [← HQP.out]; exact HF.out⟩
     case measure => simp [intOf]; omega
    ·rw [decide_eq_false hold] at hsc
     have hsn := seen_new hjm hold
     have h1 := hS.s3.setBo (seen_len m Q).symm hjm true
     have h2 := (h1.s5).setB 0 (.int .i64 (cntS m Q + 1 : Nat))
     have hcm : cntS m Q ≤ m := by
      have := List.countP_le_length (l := List.range m) (p := fun w : Nat => decide ((w : Int) ∈ Q))
      simpa [cntS] using this
     obtain ⟨c1', cf'⟩ := bx1' h1.s5.hd
     obtain ⟨t0, _⟩ := bq4 h1.tl.hd
     have HF : Hid (Sep ((wr.setCell ⟨sa, j, none⟩ (.bool true)).setCell ⟨cb, 0, none⟩ (.int .i64 (cntS m Q + 1 : Nat))) (SeenA m gb sb sa gd cb ev iv ov Q' ++ KeepA w0 :: l)) := qd (by
      unfold SeenA
      rw [hrg, HTK.out, hsn.1, hsn.2]
      exact h2.s5.s3.s5.s5)
     have hwc : wrap64 ((cntS m Q : Int) + 1) = ((cntS m Q + 1 : Nat) : Int) := by rw [wrap64_id (by omega) (by omega)]; omega
     clear hrg hsn hold hS hin h1 h2 hcm
     generalize cntS m Q + 1 = cn at *
     generalize cntS m Q = co at *
     go_wp2_with (go_at_call 84; with_reducible refine (HW.out _).mono ?_; rintro e w3 ⟨rfl, rfl⟩)
     go_roundw
     case rel => exact ⟨k + 1, by omega, by go_num, by rw [← HQP.out]; exact HF.out⟩
     case measure => simp [intOf]; omega
   ·rw [decide_eq_false hin] at HW
    have hrg : rngB m Q' = false := by rw [HTK.out, rng_snoc, show inB x 0 ((m : Int) - 1) = false from decide_eq_false hin, Bool.and_false]
    have hso := seen_out (n := m) (P := Q) (x := x) (by omega)
    have h1 := hS.s4.setB 0 (.bool false)
    have HF : Hid (Sep (wr.setCell ⟨gd, 0, none⟩ (.bool false)) (SeenA m gb sb sa gd cb ev iv ov Q' ++ KeepA w0 :: l)) := qd (by
     unfold SeenA
     rw [hrg, HTK.out, hso.1, hso.2]
     exact h1.s4.s4.s4)
    clear hrg hso hS hin h1
    go_wp2_with (go_at_call 84; with_reducible refine (HW.out _).mono ?_; rintro e w3 ⟨rfl, rfl⟩)
    go_roundw
    case rel => exact ⟨k + 1, by omega, by go_num, by rw [← HQP.out]; exact HF.out⟩
    case measure => simp [intOf]; omega
  ·have hkn : k = n := by omega
   subst hkn
   have hs := HSX.out
   rw [List.take_of_length_le (by rw [HN.out]; exact Nat.le_refl _)] at hs
   have HF := qd (Sep.bag hs)
   clear hs hlt HSX
   go_wp2
   refine bodyPost_end (results_none rfl _ _ _) rfl ?_
   exact ⟨rfl, HF.out⟩
end Go.Proofs.YtjagjhchnpmngaaGreat

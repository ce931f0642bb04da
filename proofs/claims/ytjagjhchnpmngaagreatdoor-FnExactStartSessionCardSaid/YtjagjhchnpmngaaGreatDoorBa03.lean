/-
  How much a graph takes of a budget. Conditions: lengths are those of slices.
-/
import Derived.Test.YtjagjhchnpmngaaGreatDoorBa02
import Derived.BigQuiet
import Derived.Shelf.Abstract
namespace Go.Proofs.YtjagjhchnpmngaaGreatDoor
open Go.RowKit
set_option linter.unusedVariables false
set_option maxRecDepth 100000

theorem bq4 {w : World} {k : Nat} {x y z u : Value} {t : TypeId} (h : w.heap[k]? = some (.cells #[x, y, z, u] t (0, 0))) :
    w.cell? ⟨k, 0, none⟩ = some x ∧ w.cell? ⟨k, 1, none⟩ = some y ∧ w.cell? ⟨k, 2, none⟩ = some z ∧ w.cell? ⟨k, 3, none⟩ = some u ∧ w.frozen? ⟨k, 0, none⟩ = false ∧ w.frozen? ⟨k, 1, none⟩ = false ∧ w.frozen? ⟨k, 2, none⟩ = false ∧ w.frozen? ⟨k, 3, none⟩ = false :=
  ⟨cell_of_row w k 0 _ _ _ h, cell_of_row w k 1 _ _ _ h, cell_of_row w k 2 _ _ _ h, cell_of_row w k 3 _ _ _ h, frozen_of_row w k 0 _ _ h, frozen_of_row w k 1 _ _ h, frozen_of_row w k 2 _ _ h, frozen_of_row w k 3 _ _ h⟩
def totE (e : Ed) : Nat := e.i.length + e.o.length
def totEs : List Ed → Nat
  | [] => 0
  | e :: es => totE e + totEs es
def totG (g : Gr) : Nat := g.es.length + totEs g.es + g.i.length + g.o.length
theorem totEs_take (es : List Ed) (k : Nat) (hk : k < es.length) : totEs (es.take (k + 1)) = totEs (es.take k) + totE (es.getD k e0) := by
  induction es generalizing k with
  | nil => simp at hk
  | cons e es ih =>
    cases k with
    | zero => simp [totEs]
    | succ k =>
      have := ih k (by simpa using hk)
      simp only [List.take_succ_cons, totEs, List.getD_cons_succ]
      omega
theorem totEs_le (es : List Ed) (k : Nat) : totEs (es.take k) ≤ totEs es := by
  induction es generalizing k with
  | nil => simp
  | cons e es ih =>
    cases k with
    | zero => simp [totEs]
    | succ k =>
      have := ih k
      simp only [List.take_succ_cons, totEs]
      omega
theorem tot_mem {es : List Ed} {e : Ed} (h : e ∈ es) : e.i.length + e.o.length ≤ totEs es := by
  induction es with
  | nil => cases h
  | cons x es ih =>
    unfold totEs totE
    rcases List.mem_cons.1 h with rfl | h
    · omega
    · have := ih h
      omega
def okEd (e : Ed) : Prop := e.i.length ≤ 9223372036854775807 ∧ e.o.length ≤ 9223372036854775807
end Go.Proofs.YtjagjhchnpmngaaGreatDoor

/-
  How much a graph takes of a budget; own copies of edges and graphs. Conditions: lengths are small.
-/
namespace Go.Proofs.YtjagjhchnpmngaaGreatDoor
open Go.RowKit
set_option linter.unusedVariables false
set_option maxRecDepth 100000

theorem info_edge : (Tryz.prog.info? edgeE.ty).map (fun i => (i.zero, i.size, i.bytes)) = some (some (.agg #[.int .i64 0, .int .i64 0, .slice none 0 0, .slice none 0 0]), edgeE.sz, 64) := by kernel_rfl
theorem zeroEdge_cells : (Value.agg #[.int .i64 0, .int .i64 0, .slice none 0 0, .slice none 0 0]).cells.toList = edgeE.cs xe0 := rfl
def edV (x : XE) : Value := .agg #[.int .i64 x.ed.k, .int .i64 x.ed.v, x.iv, x.ov]
theorem edge_cells {w : World} {g n cap B : Nat} {xs : List XE} (h : OwnR edgeE B w (.slice (some ⟨g, 0, none⟩) n cap) xs) (hn : n = xs.length) {i : Nat} (hi : i < xs.length) :
    w.cell? ⟨g, i * 4, none⟩ = some (.int .i64 (xs.getD i xe0).ed.k) ∧ w.cell? ⟨g, i * 4 + 1, none⟩ = some (.int .i64 (xs.getD i xe0).ed.v) ∧
      w.cell? ⟨g, i * 4 + 2, none⟩ = some (xs.getD i xe0).iv ∧ w.cell? ⟨g, i * 4 + 3, none⟩ = some (xs.getD i xe0).ov := by
  have e : xs.getD i xe0 = xs[i] := by rw [List.getD_eq_getElem?_getD, List.getElem?_eq_getElem hi]; rfl
  rw [e]
  have hc := fun j hj => h.cell hn (i := i) (j := j) hi hj
  exact ⟨hc 0 (by decide), hc 1 (by decide), hc 2 (by decide), hc 3 (by decide)⟩
theorem edge_free {w : World} {g n cap B : Nat} {xs : List XE} (h : OwnR edgeE B w (.slice (some ⟨g, 0, none⟩) n cap) xs) (hn : n = xs.length) (i : Nat) :
    w.frozen? ⟨g, i * 4, none⟩ = false ∧ w.frozen? ⟨g, i * 4 + 1, none⟩ = false ∧ w.frozen? ⟨g, i * 4 + 2, none⟩ = false ∧ w.frozen? ⟨g, i * 4 + 3, none⟩ = false :=
  ⟨h.free hn _, h.free hn _, h.free hn _, h.free hn _⟩
/-- all four cells of an edge are written -/
theorem Sep.setX {w : World} {g n cap : Nat} {xs : List XE} {l : List Asrt} (h : Sep w (OR edgeE (.slice (some ⟨g, 0, none⟩) n cap) xs :: l)) (hn : n = xs.length) {i : Nat} (hi : i < xs.length) (y : XE) :
    Sep ((((w.setCell ⟨g, i * 4, none⟩ (.int .i64 y.ed.k)).setCell ⟨g, i * 4 + 1, none⟩ (.int .i64 y.ed.v)).setCell ⟨g, i * 4 + 2, none⟩ y.iv).setCell ⟨g, i * 4 + 3, none⟩ y.ov)
      (OR edgeE (.slice (some ⟨g, 0, none⟩) n cap) (xs.set i y) :: l) := by
  have h1 := h.setR (E := edgeE) hn (i := i) (j := 0) (y := ⟨⟨y.ed.k, xs[i].ed.v, [], []⟩, xs[i].iv, xs[i].ov⟩) (u := .int .i64 y.ed.k) hi (by decide) rfl
  have h2 := h1.setR (E := edgeE) (by simpa using hn) (i := i) (j := 1) (y := ⟨⟨y.ed.k, y.ed.v, [], []⟩, xs[i].iv, xs[i].ov⟩) (u := .int .i64 y.ed.v) (by simpa using hi) (by decide) (by simp [edgeE, edgeC])
  have h3 := h2.setR (E := edgeE) (by simpa using hn) (i := i) (j := 2) (y := ⟨⟨y.ed.k, y.ed.v, [], []⟩, y.iv, xs[i].ov⟩) (u := y.iv) (by simpa using hi) (by decide) (by simp [edgeE, edgeC])
  have h4 := h3.setR (E := edgeE) (by simpa using hn) (i := i) (j := 3) (y := y) (u := y.ov) (by simpa using hi) (by decide) (by simp [edgeE, edgeC])
  simp only [List.set_set] at h4
  exact h4
def okG (g : Gr) : Prop := g.es.length ≤ 9223372036854775807 ∧ (∀ e ∈ g.es, okEd e) ∧ g.i.length ≤ 9223372036854775807 ∧ g.o.length ≤ 9223372036854775807
end Go.Proofs.YtjagjhchnpmngaaGreatDoor

/-
  Generators and edges in the program. Conditions: none.
-/
namespace Go.Proofs.YtjagjhchnpmngaaGreatDoor
open Go.RowKit
set_option linter.unusedVariables false
set_option maxRecDepth 100000

theorem isGenerator_any (k : Int) (w : World) : Calls Tryz.prog 99 #[.int .i64 k] w fun e w' => e = .returned (.bool (inB k 3 14)) ∧ w' = w := by
  have HW := Lib.hid fun W => within_any k 3 14 W
  rw [show decide (3 ≤ k ∧ k ≤ 14) = inB k 3 14 from rfl] at HW
  generalize inB k 3 14 = b at *
  go_enter Tryz.func99, Tryz.ntmps99
  go_wp2_with (go_at_call 77; with_reducible refine (HW.out _).mono ?_; rintro e w3 ⟨rfl, rfl⟩)
  go_ret
  exact ⟨rfl, rfl⟩
def hvB (k : Int) : Bool := decide (k = 7 ∨ k = 13)
theorem hasValue_any (k : Int) (w : World) : Calls Tryz.prog 46 #[.int .i64 k] w fun e w' => e = .returned (.bool (hvB k)) ∧ w' = w := by
  by_cases h7 : k = 7
  · subst h7
    go_enter Tryz.func46, Tryz.ntmps46
    go_wp2
    go_ret
    exact ⟨rfl, rfl⟩
  · have e7 : (k == 7) = false := by simpa using h7
    by_cases h13 : k = 13
    · subst h13
      go_enter Tryz.func46, Tryz.ntmps46
      go_wp2
      go_ret
      exact ⟨rfl, rfl⟩
    · have e13 : (k == 13) = false := by simpa using h13
      have hv : hvB k = false := decide_eq_false (by omega)
      rw [hv]
      clear h7 h13 hv
      go_enter Tryz.func46, Tryz.ntmps46
      go_wp2
      go_ret
      exact ⟨rfl, rfl⟩
theorem valB_hv (k v : Int) : valB k v = if hvB k = true then inB v 0 96 else decide (v = 0) := by
  unfold valB hvB
  by_cases h : k = 7 ∨ k = 13 <;> simp [h]
theorem isGeneratorValue_any (k v : Int) (w : World) : Calls Tryz.prog 100 #[.int .i64 k, .int .i64 v] w fun e w' => e = .returned (.bool (valB k v)) ∧ w' = w := by
  have HH := Lib.hid fun W => hasValue_any k W
  have HW := Lib.hid fun W => within_any v 0 96 W
  rw [show decide (0 ≤ v ∧ v ≤ 96) = inB v 0 96 from rfl] at HW
  rw [valB_hv]
  cases hb : hvB k
  · rw [hb] at HH
    clear hb
    by_cases hv : v = 0
    · subst hv
      go_enter Tryz.func100, Tryz.ntmps100
      go_wp2_with (go_at_call 46; with_reducible refine (HH.out _).mono ?_; rintro e w3 ⟨rfl, rfl⟩)
      go_ret
      exact ⟨rfl, rfl⟩
    · have ev : (v == 0) = false := by simpa using hv
      have hd : decide (v = 0) = false := decide_eq_false hv
      rw [hd]
      clear hv hd
      go_enter Tryz.func100, Tryz.ntmps100
      go_wp2_with (go_at_call 46; with_reducible refine (HH.out _).mono ?_; rintro e w3 ⟨rfl, rfl⟩)
      go_ret
      exact ⟨rfl, rfl⟩
  · rw [hb] at HH
    clear hb
    rw [if_pos rfl]
    generalize inB v 0 96 = b at *
    go_enter Tryz.func100, Tryz.ntmps100
    go_wp2_with (first
      | (go_at_call 46; with_reducible refine (HH.out _).mono ?_; rintro e w3 ⟨rfl, rfl⟩)
      | (go_at_call 77; with_reducible refine (HW.out _).mono ?_; rintro e w3 ⟨rfl, rfl⟩))
    go_ret
    exact ⟨rfl, rfl⟩
set_option maxHeartbeats 2000000 in
theorem generatorWires_any (k : Int) (w : World) (h : inB k 3 14 = true) : Calls Tryz.prog 75 #[.int .i64 k] w fun e w' => e = .returned (.agg #[.int .i64 (edW k).1, .int .i64 (edW k).2]) ∧ w.grownBy w' none := by
  rw [inB_iff] at h
  have hk : k = 3 ∨ k = 4 ∨ k = 5 ∨ k = 6 ∨ k = 7 ∨ k = 8 ∨ k = 9 ∨ k = 10 ∨ k = 11 ∨ k = 12 ∨ k = 13 ∨ k = 14 := by omega
  clear h
  rcases hk with rfl | rfl | rfl | rfl | rfl | rfl | rfl | rfl | rfl | rfl | rfl | rfl
  all_goals
    go_enter Tryz.func75, Tryz.ntmps75
    go_wp2_with fail
    refine bodyPost_ret_by (v := .agg #[.int .i64 _, .int .i64 _]) ?_ rfl ⟨rfl, ?_⟩
    · simp [results, go_sem, *, edW]
    · first
        | exact gr3 _ _ _ _
        | exact gr2 _ _ _
set_option maxHeartbeats 4000000 in
theorem isEdge_any (k v : Int) (iv ov : Value) (is os : List Int) (w : World) (hi : IntsV w iv is) (ho : IntsV w ov os) :
    Calls Tryz.prog 78 #[.agg #[.int .i64 k, .int .i64 v, iv, ov]] w fun e w' => e = .returned (.bool (edB ⟨k, v, is, os⟩)) ∧ w.grownBy w' none := by
  obtain ⟨a1, c1, rfl⟩ := hi.shape
  obtain ⟨a2, c2, rfl⟩ := ho.shape
  clear hi ho
  have HA := Lib.hid fun W => isGenerator_any k W
  have HB := Lib.hid fun W => isGeneratorValue_any k v W
  have HS0 := Lib.hid ((Sep.start w).box #[.int .i64 k, .int .i64 v, .slice a1 is.length c1, .slice a2 os.length c2] 88)
  have HK0 := Lib.hid (show w.grownBy _ none from HS0.out.tl.hd)
  have hed : edB ⟨k, v, is, os⟩ = (inB k 3 14 && (valB k v && decide ((is.length, os.length) = edW k))) := by unfold edB; rw [Bool.and_assoc]
  rw [hed]
  clear hed
  generalize is.length = n1 at *
  generalize os.length = n2 at *
  cases h1 : inB k 3 14
  · rw [h1] at HA
    clear h1
    go_enter Tryz.func78, Tryz.ntmps78
    go_wp2_with (go_at_call 99; with_reducible refine (HA.out _).mono ?_; rintro e w3 ⟨rfl, rfl⟩)
    go_ret
    exact ⟨rfl, HK0.out⟩
  · rw [h1] at HA
    have HC := Lib.hid fun W => generatorWires_any k W h1
    clear h1
    cases h2 : valB k v
    · rw [h2] at HB
      clear h2
      go_enter Tryz.func78, Tryz.ntmps78
      go_wp2_with (first
        | (go_at_call 99; with_reducible refine (HA.out _).mono ?_; rintro e w3 ⟨rfl, rfl⟩)
        | (go_at_call 100; with_reducible refine (HB.out _).mono ?_; rintro e w3 ⟨rfl, rfl⟩))
      go_ret
      exact ⟨rfl, HK0.out⟩
    · rw [h2] at HB
      clear h2
      generalize edW k = ew at *
      obtain ⟨e1, e2⟩ := ew
      simp only at HC
      have hcmp : ∀ W, (binOp .eql 95 (.agg #[.int .i64 e1, .int .i64 e2]) (.agg #[.int .i64 n1, .int .i64 n2])).run Tryz.prog W = .ok (.bool (decide ((n1, n2) = (e1, e2)))) W := by
        intro W
        by_cases a : n1 = e1 <;> by_cases b : n2 = e2
        · subst a b; simp [go_sem]
        · have b' : ¬ (e2 : Int) = n2 := by omega
          simp [go_sem, a, b, b']
        · have a' : ¬ (e1 : Int) = n1 := by omega
          simp [go_sem, a, b, a']
        · have a' : ¬ (e1 : Int) = n1 := by omega
          simp [go_sem, a, b, a']
      generalize decide ((n1, n2) = (e1, e2)) = d at *
      go_enter Tryz.func78, Tryz.ntmps78
      go_upto_region 3 with (first
        | (go_at_call 99; with_reducible refine (HA.out _).mono ?_; rintro e w3 ⟨rfl, rfl⟩)
        | (go_at_call 100; with_reducible refine (HB.out _).mono ?_; rintro e w3 ⟨rfl, rfl⟩))
      have hs1 := HS0.out.dr
      obtain ⟨x0, x1, x2, x3, _⟩ := bq4 hs1.hd
      have HS1 := Lib.hid hs1
      clear hs1
      go_region_law (
        (try go_simp)
        go_at_call 75
        with_reducible refine (HC.out _).mono ?_
        rintro e w5 ⟨rfl, hg5⟩
        have hs5 := HS1.out.grown hg5
        obtain ⟨y0, y1, y2, y3, _⟩ := bq4 hs5.hd
        have HK5 := Lib.hid (show w.grownBy w5 none from hs5.tl.hd)
        clear hg5 hs5)
      all_goals
        go_wp2_with fail
        go_ret
        exact ⟨(by simp only [Bool.true_and]; rfl), HK5.out⟩
end Go.Proofs.YtjagjhchnpmngaaGreatDoor

/-
  Kinds, leaves and edges in the reference. Conditions: lengths are small where they are asked.
-/
namespace Go.Proofs.YtjagjhchnpmngaaGreatDoor
open Go.RowKit
set_option linter.unusedVariables false
set_option maxRecDepth 100000

theorem tmKind_any (k : Int) (w : World) (h : inB k 3 14 = true) : Calls Tryz.prog 61 #[.int .i64 k] w fun e w' => e = .returned (.tuple #[.int .i64 (edW k).1, .int .i64 (edW k).2]) ∧ w' = w := by
  rw [inB_iff] at h
  have hk : k = 3 ∨ k = 4 ∨ k = 5 ∨ k = 6 ∨ k = 7 ∨ k = 8 ∨ k = 9 ∨ k = 10 ∨ k = 11 ∨ k = 12 ∨ k = 13 ∨ k = 14 := by omega
  clear h
  rcases hk with rfl | rfl | rfl | rfl | rfl | rfl | rfl | rfl | rfl | rfl | rfl | rfl
  all_goals
    go_enter Tryz.func61, Tryz.ntmps61
    go_wp2_with fail
    refine bodyPost_ret_by (v := .tuple #[.int .i64 _, .int .i64 _]) ?_ rfl ⟨rfl, rfl⟩
    simp [results, go_sem, *, edW]
theorem tmLeaf_any (k v : Int) (w : World) (h : inB k 3 14 = true) : Calls Tryz.prog 82 #[.agg #[.int .i64 k, .int .i64 v, .string ⟨#[]⟩]] w fun e w' => e = .returned (.bool (valB k v)) ∧ w.grownBy w' none := by
  have hk := inB_iff.1 h
  have HA := Lib.hid fun W => l1In_any k 1 14 W
  rw [decide_eq_true (show 1 ≤ k ∧ k ≤ 14 by omega)] at HA
  have HB := Lib.hid fun W => l1In_any v 0 96 W
  rw [show decide (0 ≤ v ∧ v ≤ 96) = inB v 0 96 from rfl] at HB
  have e1 : (k == 1) = false := by simp; omega
  rw [valB_hv]
  by_cases h7 : k = 7
  · subst h7
    rw [show hvB 7 = true from rfl, if_pos rfl]
    generalize inB v 0 96 = b at *
    clear h hk
    go_enter Tryz.func82, Tryz.ntmps82
    go_wp2_with (first
      | (go_at_call 34; with_reducible refine (HA.out _).mono ?_; rintro e w3 ⟨rfl, rfl⟩)
      | (go_at_call 34; with_reducible refine (HB.out _).mono ?_; rintro e w3 ⟨rfl, rfl⟩))
    go_ret
    exact ⟨rfl, gr1 _ _⟩
  · have e7 : (k == 7) = false := by simpa using h7
    by_cases h13 : k = 13
    · subst h13
      rw [show hvB 13 = true from rfl, if_pos rfl]
      generalize inB v 0 96 = b at *
      clear h hk
      go_enter Tryz.func82, Tryz.ntmps82
      go_wp2_with (first
        | (go_at_call 34; with_reducible refine (HA.out _).mono ?_; rintro e w3 ⟨rfl, rfl⟩)
        | (go_at_call 34; with_reducible refine (HB.out _).mono ?_; rintro e w3 ⟨rfl, rfl⟩))
      go_ret
      exact ⟨rfl, gr1 _ _⟩
    · have e13 : (k == 13) = false := by simpa using h13
      rw [show hvB k = false from decide_eq_false (by omega), if_neg (by simp)]
      clear h hk h7 h13
      by_cases hv : v = 0
      · subst hv
        go_enter Tryz.func82, Tryz.ntmps82
        go_wp2_with (go_at_call 34; with_reducible refine (HA.out _).mono ?_; rintro e w3 ⟨rfl, rfl⟩)
        go_ret
        exact ⟨rfl, gr1 _ _⟩
      · have ev : (v == 0) = false := by simpa using hv
        rw [decide_eq_false hv]
        clear hv
        go_enter Tryz.func82, Tryz.ntmps82
        go_wp2_with (go_at_call 34; with_reducible refine (HA.out _).mono ?_; rintro e w3 ⟨rfl, rfl⟩)
        go_ret
        exact ⟨rfl, gr1 _ _⟩
theorem l1All_rng (n : Int) (v : Value) (zs : List Int) (w : World) (hv : IntsV w v zs) (hl : zs.length ≤ 1000000) : Calls Tryz.prog 85 #[v, .int .i64 0, .int .i64 (n - 1)] w fun e w' => e = .returned (.bool (rngB n zs)) ∧ w = w' :=
  l1All_any 0 (n - 1) v zs w hv hl
set_option maxHeartbeats 4000000 in
theorem hgEdge_any (n : Int) (iv ov : Value) (x : Ed) (w : World) (hi : IntsV w iv x.i) (ho : IntsV w ov x.o) (hn0 : 0 ≤ n) (hn1 : n ≤ 100) :
    Calls Tryz.prog 86 #[.agg #[.int .i64 x.k, .int .i64 x.v, iv, ov], .int .i64 n] w fun e w' => e = .returned (.bool (edB x && (rngB n x.i && rngB n x.o))) ∧ w.grownBy w' none := by
  obtain ⟨k, v, is, os⟩ := x
  simp only at hi ho ⊢
  have HI := Lib.hid hi; have HO := Lib.hid ho
  obtain ⟨a1, c1, rfl⟩ := hi.shape
  obtain ⟨a2, c2, rfl⟩ := ho.shape
  clear hi ho
  have HA := Lib.hid fun W => l1In_any k 3 14 W
  rw [show decide (3 ≤ k ∧ k ≤ 14) = inB k 3 14 from rfl] at HA
  have HS0 := Lib.hid ((Sep.start w).box #[.int .i64 k, .int .i64 v, .slice a1 is.length c1, .slice a2 os.length c2] 88)
  have HK0 := Lib.hid (show w.grownBy _ none from HS0.out.tl.hd)
  have hed : edB ⟨k, v, is, os⟩ = (inB k 3 14 && (valB k v && decide ((is.length, os.length) = edW k))) := by unfold edB; rw [Bool.and_assoc]
  rw [hed]
  have hwr : IntKind.i64.wrap (n - 1) = n - 1 := by rw [IntKind.wrap_i64]; omega
  clear hed
  cases h1 : inB k 3 14
  · rw [h1] at HA
    rw [Bool.false_and, Bool.false_and]
    clear h1
    generalize is.length = n1 at *
    generalize os.length = n2 at *
    go_enter Tryz.func86, Tryz.ntmps86
    go_wp2_with (go_at_call 34; with_reducible refine (HA.out _).mono ?_; rintro e w3 ⟨rfl, rfl⟩)
    go_ret
    exact ⟨rfl, HK0.out⟩
  · rw [h1] at HA
    rw [Bool.true_and]
    have HB := Lib.hid fun W => tmLeaf_any k v W h1
    have HC := Lib.hid fun W => tmKind_any k W h1
    clear h1
    cases h2 : valB k v
    · rw [h2] at HB
      rw [Bool.false_and, Bool.false_and]
      clear h2
      generalize is.length = n1 at *
      generalize os.length = n2 at *
      go_enter Tryz.func86, Tryz.ntmps86
      go_wp2_with (first
        | (go_at_call 34; with_reducible refine (HA.out _).mono ?_; rintro e w3 ⟨rfl, rfl⟩)
        | (go_at_call 82
           with_reducible refine (HB.out _).mono ?_
           rintro e w4 ⟨rfl, hg4⟩
           have HK4 := Lib.hid (grownBy_trans HK0.out hg4)
           clear hg4))
      go_ret
      exact ⟨rfl, HK4.out⟩
    · rw [h2] at HB
      rw [Bool.true_and]
      clear h2
      have hew : (edW k).1 ≤ 2 ∧ (edW k).2 ≤ 2 := by unfold edW; (repeat' split) <;> simp
      generalize edW k = ew at *
      obtain ⟨m1, m2⟩ := ew
      simp only at HC hew
      by_cases hn1' : is.length = m1
      · by_cases hn2' : os.length = m2
        · rw [decide_eq_true (show (is.length, os.length) = (m1, m2) by rw [hn1', hn2']), Bool.true_and]
          have HAI := Lib.hid fun W (h : w.grownBy W none) => l1All_rng n _ is W (HI.out.carry h) (by omega)
          have HAO := Lib.hid fun W (h : w.grownBy W none) => l1All_rng n _ os W (HO.out.carry h) (by omega)
          rw [hn1', hn2'] at HS0 HK0 ⊢
          rw [hn1'] at HAI
          rw [hn2'] at HAO
          clear hew hn1' hn2'
          cases hb1 : rngB n is
          · rw [hb1] at HAI
            clear hb1
            go_enter Tryz.func86, Tryz.ntmps86
            go_wp2_with (first
              | (go_at_call 34; with_reducible refine (HA.out _).mono ?_; rintro e w3 ⟨rfl, rfl⟩)
              | (go_at_call 82
                 with_reducible refine (HB.out _).mono ?_
                 rintro e w4 ⟨rfl, hg4⟩
                 have hs4 := HS0.out.grown hg4
                 have HK4 := Lib.hid (grownBy_trans HK0.out hg4)
                 obtain ⟨x0, x1, x2, x3, _⟩ := bq4 hs4.hd
                 clear hg4 hs4)
              | (go_at_call 61; with_reducible refine (HC.out _).mono ?_; rintro e w3 ⟨rfl, rfl⟩)
              | (go_at_call 85; with_reducible refine (HAI.out _ HK4.out).mono ?_; rintro e w3 ⟨rfl, rfl⟩))
            go_ret
            exact ⟨rfl, HK4.out⟩
          · rw [hb1] at HAI
            rw [Bool.true_and]
            generalize rngB n os = b2 at *
            clear hb1
            go_enter Tryz.func86, Tryz.ntmps86
            go_wp2_with (first
              | (go_at_call 34; with_reducible refine (HA.out _).mono ?_; rintro e w3 ⟨rfl, rfl⟩)
              | (go_at_call 82
                 with_reducible refine (HB.out _).mono ?_
                 rintro e w4 ⟨rfl, hg4⟩
                 have hs4 := HS0.out.grown hg4
                 have HK4 := Lib.hid (grownBy_trans HK0.out hg4)
                 obtain ⟨x0, x1, x2, x3, _⟩ := bq4 hs4.hd
                 clear hg4 hs4)
              | (go_at_call 61; with_reducible refine (HC.out _).mono ?_; rintro e w3 ⟨rfl, rfl⟩)
              | (go_at_call 85; with_reducible refine (HAI.out _ HK4.out).mono ?_; rintro e w3 ⟨rfl, rfl⟩)
              | (go_at_call 85; with_reducible refine (HAO.out _ HK4.out).mono ?_; rintro e w3 ⟨rfl, rfl⟩))
            go_ret
            exact ⟨rfl, HK4.out⟩
        · rw [decide_eq_false (show ¬ (is.length, os.length) = (m1, m2) by simp [hn2']), Bool.false_and]
          have hb2 : ((os.length : Int) == (m2 : Int)) = false := by rw [beq_eq_false_iff_ne]; omega
          have hb1 : ((is.length : Int) == (m1 : Int)) = true := by rw [beq_iff_eq]; omega
          clear hew hn1' hn2' HI HO
          generalize is.length = n1 at *
          generalize os.length = n2 at *
          go_enter Tryz.func86, Tryz.ntmps86
          go_wp2_with (first
            | (go_at_call 34; with_reducible refine (HA.out _).mono ?_; rintro e w3 ⟨rfl, rfl⟩)
            | (go_at_call 82
               with_reducible refine (HB.out _).mono ?_
               rintro e w4 ⟨rfl, hg4⟩
               have hs4 := HS0.out.grown hg4
               have HK4 := Lib.hid (grownBy_trans HK0.out hg4)
               obtain ⟨x0, x1, x2, x3, _⟩ := bq4 hs4.hd
               clear hg4 hs4)
            | (go_at_call 61; with_reducible refine (HC.out _).mono ?_; rintro e w3 ⟨rfl, rfl⟩))
          go_ret
          exact ⟨rfl, HK4.out⟩
      · rw [decide_eq_false (show ¬ (is.length, os.length) = (m1, m2) by simp [hn1']), Bool.false_and]
        have hb1 : ((is.length : Int) == (m1 : Int)) = false := by rw [beq_eq_false_iff_ne]; omega
        clear hew hn1' HI HO
        generalize is.length = n1 at *
        generalize os.length = n2 at *
        go_enter Tryz.func86, Tryz.ntmps86
        go_wp2_with (first
          | (go_at_call 34; with_reducible refine (HA.out _).mono ?_; rintro e w3 ⟨rfl, rfl⟩)
          | (go_at_call 82
             with_reducible refine (HB.out _).mono ?_
             rintro e w4 ⟨rfl, hg4⟩
             have hs4 := HS0.out.grown hg4
             have HK4 := Lib.hid (grownBy_trans HK0.out hg4)
             obtain ⟨x0, x1, x2, x3, _⟩ := bq4 hs4.hd
             clear hg4 hs4)
          | (go_at_call 61; with_reducible refine (HC.out _).mono ?_; rintro e w3 ⟨rfl, rfl⟩))
        go_ret
        exact ⟨rfl, HK4.out⟩
end Go.Proofs.YtjagjhchnpmngaaGreatDoor

/-
  All lists of wires of a graph visited. Conditions: the visiting function keeps what others hold.
-/
namespace Go.Proofs.YtjagjhchnpmngaaGreatDoor
open Go.RowKit
set_option linter.unusedVariables false
set_option maxRecDepth 100000

/-- What every later world holds of edge i. -/
theorem RdE.atK {E : Lay XE} (h1 : E.sz = 4) (h2 : E.cs = edgeC) {w : World} {a : Option Addr} {n c : Nat} {es : List Ed} (h : RdE E w (.slice a n c) es) {i : Nat} (hi : i < es.length) :
    ∃ b o iv ov, a = some ⟨b, o, none⟩ ∧ ∀ W, w.grownBy W none → (W.cell? ⟨b, o + i * 4, none⟩ = some (.int .i64 (es.getD i e0).k) ∧ W.cell? ⟨b, o + i * 4 + 1, none⟩ = some (.int .i64 (es.getD i e0).v) ∧
      W.cell? ⟨b, o + i * 4 + 2, none⟩ = some iv ∧ W.cell? ⟨b, o + i * 4 + 3, none⟩ = some ov) ∧ IntsV W iv (es.getD i e0).i ∧ IntsV W ov (es.getD i e0).o := by
  obtain ⟨b, o, iv, ov, ha, hb, q0, q1, q2, q3, hi', ho⟩ := h.at h1 h2 hi
  refine ⟨b, o, iv, ov, ha, fun W hg => ⟨⟨?_, ?_, ?_, ?_⟩, hi'.carry hg, ho.carry hg⟩⟩
  · exact (World.cell?_of_block (a := ⟨b, o + i * 4, none⟩) (hg.block b hb (by simp))).trans q0
  · exact (World.cell?_of_block (a := ⟨b, o + i * 4 + 1, none⟩) (hg.block b hb (by simp))).trans q1
  · exact (World.cell?_of_block (a := ⟨b, o + i * 4 + 2, none⟩) (hg.block b hb (by simp))).trans q2
  · exact (World.cell?_of_block (a := ⟨b, o + i * 4 + 3, none⟩) (hg.block b hb (by simp))).trans q3
/-- A function value that takes list after list: A P is what it has made behind the wires P. -/
def VisFn (g : FuncId) (lb : Array Value) (A : List Int → Asrt) : Prop :=
  ∀ (P x : List Int) (v : Value) (w0 W : World) (l : List Asrt), Sep W (A P :: KeepA w0 :: l) → IntsV w0 v x → x.length ≤ 1000000 → Calls Tryz.prog g (#[v] ++ lb) W fun e w' => e = .returned (.tuple #[]) ∧ Sep w' (A (P ++ x) :: KeepA w0 :: l)
theorem wiresE_take (es : List Ed) (k : Nat) (hk : k < es.length) : wiresE (es.take (k + 1)) = wiresE (es.take k) ++ ((es.getD k e0).i ++ (es.getD k e0).o) := by
  unfold wiresE
  rw [List.take_succ_eq_append_getElem hk, List.flatMap_append, List.getD_eq_getElem?_getD, List.getElem?_eq_getElem hk]
  simp
set_option maxHeartbeats 2000000 in
theorem lists_any (g : FuncId) (lb : Array Value) (eg : ∀ args w, (callFunc g args).run Tryz.prog w = .ok (.enter g args) w) (A : List Int → Asrt) (hV : VisFn g lb A) (n : Int) (ev iv ov : Value) (G : Gr) (w0 w : World) (l : List Asrt)
    (he : RdE edgeE w0 ev G.es) (hi : IntsV w0 iv G.i) (ho : IntsV w0 ov G.o) (hl : G.es.length ≤ 1000000) (hli : G.i.length ≤ 1000000) (hlo : G.o.length ≤ 1000000) (hle : ∀ e ∈ G.es, e.i.length ≤ 1000000 ∧ e.o.length ≤ 1000000) (hs : Sep w (A [] :: KeepA w0 :: l)) :
    Calls Tryz.prog 79 #[grV n ev iv ov, .func (.func g) #[] lb] w fun e w' => e = .returned (.tuple #[]) ∧ Sep w' (A (wiresL G) :: KeepA w0 :: l) := by
  have HE := Lib.hid he; have HI := Lib.hid hi; have HO := Lib.hid ho; have HV := Lib.hid hV
  obtain ⟨ea, ec, rfl⟩ := he.shape
  obtain ⟨ia, ic, rfl⟩ := hi.shape
  obtain ⟨oa, oc, rfl⟩ := ho.shape
  unfold grV wiresL
  obtain ⟨_, es, is, os⟩ := G
  simp only at HE HI HO hl hli hlo hle ⊢
  have HLE := Lib.hid hle; have HLO := Lib.hid (show ∀ y : List Int, y = os → y.length ≤ 1000000 from fun y e => by rw [e]; exact hlo)
  clear he hi ho hV
  have hs0 := (hs.box #[.int .i64 n, .slice ea es.length ec, .slice ia is.length ic, .slice oa os.length oc] 30).s2.under Sep.s2 (by simp +contextual)
  have HS0 := Lib.hid hs0
  have HA := Lib.hid (HV.out [] is _ w0 _ _ hs0 HI.out hli)
  clear hs hs0 hli hlo hle
  generalize hm : es.length = m at *
  have HM := Lib.hid hm
  clear hm
  generalize is.length = n1 at *
  generalize os.length = n2 at *
  have HIV := Lib.hid HI.out; have HOV := Lib.hid HO.out
  go_enter Tryz.func79, Tryz.ntmps79
  go_wp2_with (first
    | (go_at_fn g
       with_reducible refine HA.out.mono ?_
       rintro e w2 ⟨rfl, hs2⟩
       obtain ⟨x0, x1, x2, x3, _⟩ := bq4 hs2.tl.tl.hd
       have HS2 := Lib.hid hs2
       have HB := Lib.hid (HV.out _ os _ w0 _ _ hs2 HO.out (HLO.out _ rfl))
       clear hs2)
    | (go_at_fn g
       with_reducible refine HB.out.mono ?_
       rintro e w3 ⟨rfl, hs3⟩
       obtain ⟨y0, y1, y2, y3, _⟩ := bq4 hs3.tl.tl.hd
       have HS3 := Lib.hid hs3
       clear hs3))
  rw [List.nil_append] at HS3
  have HS3' := Lib.hid (show Sep w3 (A (is ++ (os ++ wiresE (es.take 0))) :: _) from by have := HS3.out; simpa [wiresE] using this)
  clear HS2 HS3 HA HB y0 y1 y2 y3 x0 x1 x2 x3
  go_loopw [5, 17] (fun _ i wr => ∃ k : Nat, k ≤ m ∧ i = .int .i64 k ∧ Sep wr (A (is ++ (os ++ wiresE (es.take k))) :: KeepA w0 :: BxA w.heap.size #[.int .i64 n, .slice ea m ec, .slice ia n1 ic, .slice oa n2 oc] 30 :: l)) (fun _ i _ => m - (intOf i).toNat)
  case atStart => exact ⟨0, by omega, rfl, HS3'.out⟩
  case round =>
    obtain ⟨k, hk, rfl, hs⟩ := hrel
    have HSX := Lib.hid hs
    clear hs HS3'
    by_cases hlt : k < m
    · have hke : k < es.length := by rw [HM.out]; exact hlt
      obtain ⟨b, o, u1, u2, rfl, hat⟩ := HE.out.atK rfl rfl hke
      have HT := Lib.hid (wiresE_take es k hke)
      have hlm := HLE.out _ (show es.getD k e0 ∈ es by rw [List.getD_eq_getElem?_getD, List.getElem?_eq_getElem hke]; exact List.getElem_mem _)
      generalize es.getD k e0 = e at *
      obtain ⟨ek, ev, ei, eo⟩ := e
      simp only at hat HT hlm
      have HLM := Lib.hid (show ∀ y : List Int, y = eo → y.length ≤ 1000000 from fun y e => by rw [e]; exact hlm.2)
      obtain ⟨⟨q0, q1, q2, q3⟩, hi, ho⟩ := hat wr HSX.out.tl.hd
      obtain ⟨a1, c1, rfl⟩ := hi.shape
      obtain ⟨a2, c2, rfl⟩ := ho.shape
      have HAT := Lib.hid hat
      obtain ⟨⟨_, _, _, _⟩, hi0, ho0⟩ := hat w0 (grownBy_refl _ _)
      have hb := (HSX.out.box #[.int .i64 ek, .int .i64 ev, .slice a1 ei.length c1, .slice a2 eo.length c2] 88).s2.under Sep.s2 (by simp +contextual)
      have HA := Lib.hid (HV.out _ ei _ w0 _ _ hb hi0 hlm.1)
      have HO0 := Lib.hid ho0
      clear hb hke hi ho hat hlm hi0 ho0 HAT
      generalize ei.length = m1 at *
      generalize eo.length = m2 at *
      go_wp2_with (first
        | (go_at_fn g
           with_reducible refine HA.out.mono ?_
           rintro e w5 ⟨rfl, hs5⟩
           obtain ⟨y0, y1, y2, y3, _⟩ := bq4 hs5.tl.tl.hd
           have HB := Lib.hid (HV.out _ eo _ w0 _ _ hs5 HO0.out (HLM.out _ rfl))
           clear hs5)
        | (go_at_fn g
           with_reducible refine HB.out.mono ?_
           rintro e w6 ⟨rfl, hs6⟩
           have hs7 := hs6.under Sep.drop2 (by simp +contextual)
           rw [show is ++ (os ++ wiresE (es.take k)) ++ ei ++ eo = is ++ (os ++ wiresE (es.take (k + 1))) by rw [HT.out]; simp] at hs7
           have HS7 := Lib.hid hs7
           clear hs6 hs7))
      go_roundw
      case rel => exact ⟨k + 1, by omega, by go_num, HS7.out⟩
      case measure => simp [intOf]; omega
    · have hkm : k = m := by omega
      subst hkm
      have hs := HSX.out
      rw [List.take_of_length_le (by rw [HM.out]; exact Nat.le_refl _)] at hs
      have HF := Lib.hid (hs.under Sep.drop2 (by simp +contextual))
      clear hs hlt HSX
      go_wp2
      refine bodyPost_end (results_none rfl _ _ _) rfl ?_
      exact ⟨rfl, HF.out⟩
end Go.Proofs.YtjagjhchnpmngaaGreatDoor

/-
  What the frames of the exact laws share. Conditions: none.
-/
import Derived.Test.YtjagjhchnpmngaaGreatDoorCards
import Derived.Test.YtjagjhchnpmngaaGreatDoorTie
import Derived.Test.YtjagjhchnpmngaaGreatDoorBa01
import Derived.WalkKit
import Derived.ProofKit
import Derived.OpenShut
import Derived.ShutString
import Derived.ChangeOld
import Derived.OpenVars
import Derived.Below
import Derived.Deep.DeepHandedRow
import Derived.Lib.LaidTab
import Derived.Test.YtjagjhchnpmngaaGreatDoorBa06
import Derived.Test.YtjagjhchnpmngaaGreatDoorBa03
import Derived.Test.YtjagjhchnpmngaaGreatDoorBa07
import Derived.Test.YtjagjhchnpmngaaGreatDoorBa00
import Derived.Deep.RegionHeld
namespace Go.Proofs.YtjagjhchnpmngaaGreatDoor
open Go.ChangeShapes Go.WideShapes Go.ChangeAt Go.RowKit

theorem own : ownKnob Tryz.prog.godebug = none := by kernel_rfl
theorem laidOut : laidOutB Tryz.prog = true := by kernel_rfl
theorem gTab : Tryz.prog.globalNamed "loop.example/g01073/impl.smallPrimes" = some 0 := by kernel_rfl
theorem gTabType : (Tryz.prog.globals[0]?).map (·.type) = some 93 := by kernel_rfl
theorem cellsTab : Tryz.prog.cellsOf 93 = 4 := by kernel_rfl
theorem cellsInt : Tryz.prog.cellsOf 3 = 1 := by kernel_rfl
theorem below_of_grown {w w' : World} (h : w.grownBy w' none) : Below w.heap.size w w' := ⟨h.os, h.tape, h.output, h.size, fun k hk => h.block k hk (by simp)⟩
end Go.Proofs.YtjagjhchnpmngaaGreatDoor

/-
  Lists of graphs: how they lie in memory; how much they take of a budget. Conditions: lengths are small.
-/
namespace Go.Proofs.YtjagjhchnpmngaaGreatDoor
open Go.RowKit
set_option linter.unusedVariables false
set_option maxRecDepth 100000

/-- A graph with the slices that hold it. -/
structure XG where
  n : Int
  ev : Value
  xs : List XE
  iv : Value
  is : List Int
  ov : Value
  os : List Int
def XG.gr (x : XG) : Gr := ⟨x.n, eds x.xs, x.is, x.os⟩
def graphC (x : XG) : List Value := [.int .i64 x.n, x.ev, x.iv, x.ov]
def graphE : Lay XG := ⟨30, 4, graphC, fun _ => rfl, by decide⟩
def xg0 : XG := ⟨0, nilS, [], nilS, [], nilS, []⟩
def grs (ys : List XG) : List Gr := ys.map XG.gr
/-- A list of graphs that can be read. -/
def RdGs (E : Lay XG) (F : Lay XE) (w : World) (v : Value) (gs : List Gr) : Prop :=
  ∃ ys : List XG, grs ys = gs ∧ RdR E w v ys ∧ ∀ y ∈ ys, RdE F w y.ev y.gr.es ∧ IntsV w y.iv y.gr.i ∧ IntsV w y.ov y.gr.o
def rowsG (ys : List XG) : List Asrt := ys.flatMap fun y => [OE y.ev y.xs, OI y.iv y.is, OI y.ov y.os]
/-- A list of graphs that is the call's own. -/
def OG (v : Value) (ys : List XG) : Asrt := Bag (OR graphE v ys :: rowsG ys)
theorem RdGs.carry {E : Lay XG} {F : Lay XE} {w w' : World} {v : Value} {gs : List Gr} (h : RdGs E F w v gs) (hg : w.grownBy w' none) : RdGs E F w' v gs := by
  obtain ⟨xs, h1, h2, h3⟩ := h
  exact ⟨xs, h1, h2.carry hg, fun x hx => ⟨(h3 x hx).1.carry hg, (h3 x hx).2.1.carry hg, (h3 x hx).2.2.carry hg⟩⟩
theorem grs_len (ys : List XG) : (grs ys).length = ys.length := by simp [grs]
theorem RdGs.shape {E : Lay XG} {F : Lay XE} {w : World} {v : Value} {gs : List Gr} (h : RdGs E F w v gs) : ∃ a c, v = .slice a gs.length c := by
  obtain ⟨xs, h1, h2, _⟩ := h
  obtain ⟨a, c, rfl, _⟩ := h2
  exact ⟨a, c, by rw [← h1, grs_len]⟩
theorem OG.read {w : World} {v : Value} {ys : List XG} (h : (OG v ys).holds w) : RdGs graphE edgeE w v (grs ys) := by
  have ha := Sep.all (show Sep w (OR graphE v ys :: rowsG ys) from h)
  have hm : ∀ y ∈ ys, ∀ A ∈ [OE y.ev y.xs, OI y.iv y.is, OI y.ov y.os], A.holds w := fun y hy A hA => ha A (List.mem_cons_of_mem _ (List.mem_flatMap.2 ⟨y, hy, hA⟩))
  refine ⟨ys, rfl, OwnR.read (show OwnR graphE 0 w v ys from ha (OR graphE v ys) (by simp)), fun y hy => ⟨?_, ?_, ?_⟩⟩
  · exact OE.read (hm y hy (OE y.ev y.xs) (by simp))
  · exact OwnInts.read (show OwnInts 0 w y.iv y.is from hm y hy (OI y.iv y.is) (by simp))
  · exact OwnInts.read (show OwnInts 0 w y.ov y.os from hm y hy (OI y.ov y.os) (by simp))
theorem rowsG_snoc (ys : List XG) (y : XG) : rowsG (ys ++ [y]) = rowsG ys ++ [OE y.ev y.xs, OI y.iv y.is, OI y.ov y.os] := by
  unfold rowsG
  rw [List.flatMap_append]
  simp
theorem OG_own {v : Value} {ys : List XG} : ∀ k, (OG v ys).sees k → (OG v ys).foot k := by
  rintro k ⟨A, hA, hk⟩
  refine ⟨A, hA, ?_⟩
  rcases List.mem_cons.1 hA with rfl | hA
  · exact hk
  · obtain ⟨x, _, hx⟩ := List.mem_flatMap.1 hA
    simp only [List.mem_cons, List.not_mem_nil, or_false] at hx
    rcases hx with rfl | rfl | rfl
    · exact OE_own k hk
    · exact hk
    · exact hk
theorem OG.shape {w : World} {v : Value} {ys : List XG} (h : (OG v ys).holds w) : ∃ a c, v = .slice a ys.length c := OwnR.shape (show OwnR graphE 0 w v ys from (show Sep w (OR graphE v ys :: rowsG ys) from h).hd)
def gr00 : Gr := ⟨0, [], [], []⟩
theorem grs_at {xs : List XG} {i : Nat} : (grs xs).getD i gr00 = (xs.getD i xg0).gr := by
  unfold grs
  rw [List.getD_eq_getElem?_getD, List.getElem?_map, List.getD_eq_getElem?_getD]
  cases xs[i]? <;> rfl
/-- What every later world holds of graph i. -/
theorem RdGs.atK {E : Lay XG} {F : Lay XE} (h1 : E.sz = 4) (h2 : E.cs = graphC) {w : World} {a : Option Addr} {n c : Nat} {gs : List Gr} (h : RdGs E F w (.slice a n c) gs) {i : Nat} (hi : i < gs.length) :
    ∃ b o ev iv ov, a = some ⟨b, o, none⟩ ∧ ∀ W, w.grownBy W none → (W.cell? ⟨b, o + i * 4, none⟩ = some (.int .i64 (gs.getD i gr00).n) ∧ W.cell? ⟨b, o + i * 4 + 1, none⟩ = some ev ∧
      W.cell? ⟨b, o + i * 4 + 2, none⟩ = some iv ∧ W.cell? ⟨b, o + i * 4 + 3, none⟩ = some ov) ∧ RdE F W ev (gs.getD i gr00).es ∧ IntsV W iv (gs.getD i gr00).i ∧ IntsV W ov (gs.getD i gr00).o := by
  obtain ⟨xs, rfl, hr, hx⟩ := h
  have hil : i < xs.length := by simpa [grs] using hi
  obtain ⟨b, o, rfl, hb, hc⟩ := hr.at hil
  rw [grs_at, List.getD_eq_getElem?_getD, List.getElem?_eq_getElem hil]
  simp only [Option.getD_some]
  have hm := hx xs[i] (List.getElem_mem _)
  refine ⟨b, o, xs[i].ev, xs[i].iv, xs[i].ov, rfl, fun W hg => ⟨⟨?_, ?_, ?_, ?_⟩, hm.1.carry hg, hm.2.1.carry hg, hm.2.2.carry hg⟩⟩
  · refine (World.cell?_of_block (a := ⟨b, o + i * 4, none⟩) (hg.block b hb (by simp))).trans ?_
    have := hc 0 (by omega)
    rw [h1, h2] at this
    exact this
  · refine (World.cell?_of_block (a := ⟨b, o + i * 4 + 1, none⟩) (hg.block b hb (by simp))).trans ?_
    have := hc 1 (by omega)
    rw [h1, h2] at this
    exact this
  · refine (World.cell?_of_block (a := ⟨b, o + i * 4 + 2, none⟩) (hg.block b hb (by simp))).trans ?_
    have := hc 2 (by omega)
    rw [h1, h2] at this
    exact this
  · refine (World.cell?_of_block (a := ⟨b, o + i * 4 + 3, none⟩) (hg.block b hb (by simp))).trans ?_
    have := hc 3 (by omega)
    rw [h1, h2] at this
    exact this
/-! ### sizes -/
def totGs : List Gr → Nat
  | [] => 0
  | g :: gs => totG g + totGs gs
theorem totGs_take (gs : List Gr) (k : Nat) (hk : k < gs.length) : totGs (gs.take (k + 1)) = totGs (gs.take k) + totG (gs.getD k gr00) := by
  induction gs generalizing k with
  | nil => simp at hk
  | cons e es ih =>
    cases k with
    | zero => simp [totGs]
    | succ k =>
      have := ih k (by simpa using hk)
      simp only [List.take_succ_cons, totGs, List.getD_cons_succ]
      omega
theorem totGs_le (gs : List Gr) (k : Nat) : totGs (gs.take k) ≤ totGs gs := by
  induction gs generalizing k with
  | nil => simp
  | cons e es ih =>
    cases k with
    | zero => simp [totGs]
    | succ k =>
      have := ih k
      simp only [List.take_succ_cons, totGs]
      omega
theorem totGs_mem {gs : List Gr} {g : Gr} (h : g ∈ gs) : totG g ≤ totGs gs := by
  induction gs with
  | nil => cases h
  | cons x es ih =>
    unfold totGs
    rcases List.mem_cons.1 h with rfl | h
    · omega
    · have := ih h
      omega
/-- A graph whose lengths are small. -/
structure Sm (g : Gr) : Prop where
  es : g.es.length ≤ 1048576
  i : g.i.length ≤ 1048576
  o : g.o.length ≤ 1048576
  ed : ∀ e ∈ g.es, e.i.length ≤ 1048576 ∧ e.o.length ≤ 1048576
theorem Sm.of {g : Gr} (h : totG g ≤ 1048576) : Sm g := by
  unfold totG at h
  refine ⟨by omega, by omega, by omega, fun e he => ?_⟩
  have := tot_mem he
  exact ⟨by omega, by omega⟩
theorem getD_mem {α : Type} {l : List α} {i : Nat} {d : α} (h : i < l.length) : l.getD i d ∈ l := by
  rw [List.getD_eq_getElem?_getD, List.getElem?_eq_getElem h]
  exact List.getElem_mem _
end Go.Proofs.YtjagjhchnpmngaaGreatDoor

/-
  Own copies of lists of graphs; equal lists of graphs. Conditions: lengths are small.
-/
namespace Go.Proofs.YtjagjhchnpmngaaGreatDoor
open Go.RowKit
set_option linter.unusedVariables false
set_option maxRecDepth 100000

theorem info_graph : (Tryz.prog.info? graphE.ty).map (fun i => (i.zero, i.size, i.bytes)) = some (some (.agg #[.int .i64 0, .slice none 0 0, .slice none 0 0, .slice none 0 0]), graphE.sz, 80) := by kernel_rfl
theorem zeroGraph_cells : (Value.agg #[.int .i64 0, .slice none 0 0, .slice none 0 0, .slice none 0 0]).cells.toList = graphE.cs xg0 := rfl
theorem graph_cells {w : World} {g n cap B : Nat} {xs : List XG} (h : OwnR graphE B w (.slice (some ⟨g, 0, none⟩) n cap) xs) (hn : n = xs.length) {i : Nat} (hi : i < xs.length) :
    w.cell? ⟨g, i * 4, none⟩ = some (.int .i64 (xs.getD i xg0).n) ∧ w.cell? ⟨g, i * 4 + 1, none⟩ = some (xs.getD i xg0).ev ∧
      w.cell? ⟨g, i * 4 + 2, none⟩ = some (xs.getD i xg0).iv ∧ w.cell? ⟨g, i * 4 + 3, none⟩ = some (xs.getD i xg0).ov := by
  have e : xs.getD i xg0 = xs[i] := by rw [List.getD_eq_getElem?_getD, List.getElem?_eq_getElem hi]; rfl
  rw [e]
  have hc := fun j hj => h.cell hn (i := i) (j := j) hi hj
  exact ⟨hc 0 (by decide), hc 1 (by decide), hc 2 (by decide), hc 3 (by decide)⟩
theorem graph_free {w : World} {g n cap B : Nat} {xs : List XG} (h : OwnR graphE B w (.slice (some ⟨g, 0, none⟩) n cap) xs) (hn : n = xs.length) (i : Nat) :
    w.frozen? ⟨g, i * 4, none⟩ = false ∧ w.frozen? ⟨g, i * 4 + 1, none⟩ = false ∧ w.frozen? ⟨g, i * 4 + 2, none⟩ = false ∧ w.frozen? ⟨g, i * 4 + 3, none⟩ = false :=
  ⟨h.free hn _, h.free hn _, h.free hn _, h.free hn _⟩
/-- all four cells of a graph are written -/
theorem Sep.setGr {w : World} {g n cap : Nat} {xs : List XG} {l : List Asrt} (h : Sep w (OR graphE (.slice (some ⟨g, 0, none⟩) n cap) xs :: l)) (hn : n = xs.length) {i : Nat} (hi : i < xs.length) (y : XG) :
    Sep ((((w.setCell ⟨g, i * 4, none⟩ (.int .i64 y.n)).setCell ⟨g, i * 4 + 1, none⟩ y.ev).setCell ⟨g, i * 4 + 2, none⟩ y.iv).setCell ⟨g, i * 4 + 3, none⟩ y.ov)
      (OR graphE (.slice (some ⟨g, 0, none⟩) n cap) (xs.set i y) :: l) := by
  have h1 := h.setR (E := graphE) hn (i := i) (j := 0) (y := ⟨y.n, xs[i].ev, [], xs[i].iv, [], xs[i].ov, []⟩) (u := .int .i64 y.n) hi (by decide) rfl
  have h2 := h1.setR (E := graphE) (by simpa using hn) (i := i) (j := 1) (y := ⟨y.n, y.ev, [], xs[i].iv, [], xs[i].ov, []⟩) (u := y.ev) (by simpa using hi) (by decide) (by simp [graphE, graphC])
  have h3 := h2.setR (E := graphE) (by simpa using hn) (i := i) (j := 2) (y := ⟨y.n, y.ev, [], y.iv, [], xs[i].ov, []⟩) (u := y.iv) (by simpa using hi) (by decide) (by simp [graphE, graphC])
  have h4 := h3.setR (E := graphE) (by simpa using hn) (i := i) (j := 3) (y := y) (u := y.ov) (by simpa using hi) (by decide) (by simp [graphE, graphC])
  simp only [List.set_set] at h4
  exact h4
/-- Three parts behind the first go into the bag. -/
theorem Sep.bagThree {w : World} {X A B C : Asrt} {L r : List Asrt} (h : Sep w (X :: A :: B :: C :: Bag L :: r)) : Sep w (X :: Bag (L ++ [A, B, C]) :: r) := by
  have h1 := Sep.unbag h.s5
  have h2 : Sep w ((L ++ [A, B, C]) ++ (X :: r)) := Sep.perm (by rw [List.append_assoc]; exact List.Perm.append_left L (List.perm_middle (a := X) (l₁ := [A, B, C]) (l₂ := r)).symm) h1
  exact (Sep.bag h2).s2
theorem Sep.graft3 {w w' : World} {A C D : Asrt} {l : List Asrt} (h : Sep w l) (h' : Sep w' [A, C, D, KeepA w]) (hA : ∀ k, A.sees k → A.foot k) (hC : ∀ k, C.sees k → C.foot k) (hD : ∀ k, D.sees k → D.foot k) : Sep w' (A :: C :: D :: l) := by
  have hb : Sep w' [Bag [A, C, D], KeepA w] := Sep.bag (l := [A, C, D]) h'
  have h2 := h.graft1 hb (fun k hk => by
    obtain ⟨X, hX, hs⟩ := hk
    refine ⟨X, hX, ?_⟩
    simp only [List.mem_cons, List.not_mem_nil, or_false] at hX
    rcases hX with rfl | rfl | rfl
    · exact hA k hs
    · exact hC k hs
    · exact hD k hs)
  exact Sep.unbag h2
theorem fillGr_set {xs : List XG} {n k : Nat} {x : XG} (hl : xs.length = k) (hk : k < n) : (xs ++ List.replicate (n - k) xg0).set k x = (xs ++ [x]) ++ List.replicate (n - (k + 1)) xg0 := by
  rw [List.set_append_right _ _ (by omega), hl, Nat.sub_self, show n - k = (n - (k + 1)) + 1 by omega, List.replicate_succ, List.set_cons_zero, List.append_assoc]
  rfl
theorem grs_take {gs : List Gr} {xs : List XG} {x : XG} {k : Nat} (h : grs xs = gs.take k) (hk : k < gs.length) (hx : x.gr = gs.getD k gr00) : grs (xs ++ [x]) = gs.take (k + 1) := by
  unfold grs at h ⊢
  rw [List.map_append, h, List.take_succ_eq_append_getElem hk, List.map_cons, List.map_nil, hx, List.getD_eq_getElem?_getD, List.getElem?_eq_getElem hk]
  rfl
set_option maxHeartbeats 2000000 in
theorem eqGraphS_same (v1 v2 : Value) (gs : List Gr) (w : World) (h1 : RdGs graphE edgeE w v1 gs) (h2 : RdGs graphE edgeE w v2 gs) (l1 : gs.length ≤ 2000000) (hle : ∀ g ∈ gs, Sm g) :
    Calls Tryz.prog 23 #[v1, v2] w fun e w' => e = .returned (.bool true) ∧ w.grownBy w' none := by
  have H1 := Lib.hid h1; have H2 := Lib.hid h2; have HLE := Lib.hid hle
  obtain ⟨a1, c1, rfl⟩ := h1.shape
  obtain ⟨a2, c2, rfl⟩ := h2.shape
  clear h1 h2 hle
  generalize hlx : gs.length = l at *
  have HLX := Lib.hid hlx
  clear hlx
  go_enter Tryz.func23, Tryz.ntmps23
  go_wp2
  go_loopw [5] (fun i wr => ∃ k : Nat, k ≤ l ∧ i = .int .i64 k ∧ w.grownBy wr none) (fun i _ => l - (intOf i).toNat)
  case atStart => exact ⟨0, by omega, rfl, grownBy_refl _ _⟩
  case round =>
    obtain ⟨k, hk, rfl, hg⟩ := hrel
    have HG := Lib.hid hg
    clear hg
    by_cases hlt : k < l
    · have hke : k < gs.length := by rw [HLX.out]; exact hlt
      have hdr : w.grownBy wr.drew none := ⟨HG.out.os, HG.out.tape, HG.out.output, HG.out.size, HG.out.block⟩
      obtain ⟨b1, o1, e1, i1, t1, rfl, hat1⟩ := H1.out.atK rfl rfl hke
      obtain ⟨b2, o2, e2, i2, t2, rfl, hat2⟩ := H2.out.atK rfl rfl hke
      obtain ⟨⟨p0, p1, p2, p3⟩, he1, hi1, ho1⟩ := hat1 wr HG.out
      obtain ⟨⟨q0, q1, q2, q3⟩, he2, hi2, ho2⟩ := hat2 wr HG.out
      have hlm := HLE.out _ (getD_mem (d := gr00) hke)
      have hdw : wr.grownBy wr.drew none := ⟨rfl, rfl, rfl, Nat.le_refl _, fun _ _ _ => rfl⟩
      have HC := Lib.hid (eqGraph_same e1 i1 t1 e2 i2 t2 (gs.getD k gr00) wr.drew (he1.carry hdw) (hi1.carry hdw) (ho1.carry hdw) (he2.carry hdw) (hi2.carry hdw) (ho2.carry hdw) (by have := hlm.es; omega) (by have := hlm.i; omega) (by have := hlm.o; omega) (fun e h => by have := hlm.ed e h; omega))
      unfold grV at HC
      have HDR := Lib.hid hdr
      obtain ⟨s0, r0, rfl⟩ := he1.shape
      obtain ⟨s1, r1, rfl⟩ := hi1.shape
      obtain ⟨s2, r2, rfl⟩ := ho1.shape
      obtain ⟨s3, r3, rfl⟩ := he2.shape
      obtain ⟨s4, r4, rfl⟩ := hi2.shape
      obtain ⟨s5, r5, rfl⟩ := ho2.shape
      generalize gs.getD k gr00 = y at *
      obtain ⟨yn, ye, yi, yo⟩ := y
      simp only at p0 p1 p2 p3 q0 q1 q2 q3 HC
      clear hke hlm hdw hdr he1 he2 hi1 hi2 ho1 ho2 hat1 hat2
      generalize ye.length = m0 at *
      generalize yi.length = m1 at *
      generalize yo.length = m2 at *
      go_wp2_with fail
      refine wp_region_still_tail 8 (by kernel_rfl) (by kernel_rfl) ?_
      simp only [List.take_succ_cons, List.take_zero, List.drop_succ_cons, List.drop_zero]
      repeat still_step
      refine wpStill_nil ?_
      change wpList _ _ _ _ _ wr.drew
      go_wp2_with (
        go_at_call 24
        with_reducible refine HC.out.mono ?_
        rintro e w2 ⟨rfl, hg⟩
        have HG2 := Lib.hid (grownBy_trans HDR.out hg)
        clear hg)
      go_roundw
      case rel => exact ⟨k + 1, by omega, by go_num, HG2.out⟩
      case measure => simp [intOf]; omega
    · have hkl : k = l := by omega
      subst hkl
      go_wp2
      go_ret
      exact ⟨rfl, HG.out⟩
end Go.Proofs.YtjagjhchnpmngaaGreatDoor

/-
  Appending the items of a list that can be read: nil, empty or not. Conditions: lengths are small.
-/
namespace Go.Proofs.YtjagjhchnpmngaaGreatDoor
open Go.RowKit
set_option linter.unusedVariables false
set_option maxRecDepth 100000

theorem run_none_any {P : Program} (w : World) (base : Nat) (t ty e : TypeId) (i : TypeInfo) (size : Nat) (ht : P.underlying t = some (.slice e)) (hi : P.info? e = some i)
    (v : Value) (n : Nat) (xs : List Value) (hown : w.ownsRow base e size v n xs) (d : Option Addr) (c : Nat) : (Builtin.append_ #[t, t] ty #[v, .slice d 0 c]).run P w = .ok v w := by
  cases d with
  | none => exact run_nil_any w base t ty e i size ht hi v n xs hown c
  | some d =>
    rcases hown.2 with ⟨rfl, rfl⟩ | ⟨g, cap, cur, rfl, _, _, hnc, _⟩
    · simp [Builtin.append_, run_underlying ht, sizeOf, typeInfo, hi, Builtin.lenOf, Builtin.firstCells, loadCells, go_sem]
    · simp [Builtin.append_, run_underlying ht, sizeOf, typeInfo, hi, Builtin.lenOf, Builtin.firstCells, hnc, loadCells, storeCells, go_sem]
section
variable {α : Type} {E : Lay α} {ops : Array Oper} {rest : List Oper} {o : Oper} {a : Act} {Q : Exit → Act → World → Prop} {K : Act → World → Prop} {Ex : Prop} {w : World} {v u : Value} {xs ys : List α} {l : List Asrt} {t : TypeId} {z : Value} {bytes : Nat} {zs is : List Int}
theorem rdR_news {d : Addr} {n c : Nat} (h : RdR E w (.slice (some d) n c) ys) : ∀ j u, (ys.flatMap E.cs)[j]? = some u → w.cell? (d.add j) = some u := by
  intro j u hj
  obtain ⟨a', cap', he, h⟩ := h
  cases he
  have hjl : j < ys.length * E.sz := by
    rcases Nat.lt_or_ge j (ys.length * E.sz) with h | h
    · exact h
    · rw [List.getElem?_eq_none (by rw [flat_len]; exact h)] at hj; cases hj
  have hne : ys ≠ [] := by
    intro h0
    subst h0
    simp at hjl
  obtain ⟨d', hd, hs, hdb, hc⟩ := h hne
  cases hd
  obtain ⟨db, dof, ds⟩ := d
  simp only at hs
  subst hs
  have h1 : j / E.sz < ys.length := Nat.div_lt_of_lt_mul (by rw [Nat.mul_comm]; exact hjl)
  have h2 : j % E.sz < E.sz := Nat.mod_lt _ E.pos
  have h3 := hc (j / E.sz) h1 (j % E.sz) h2
  have h4 := flat_at E ys h1 h2
  rw [show j / E.sz * E.sz + j % E.sz = j by rw [Nat.mul_comm]; exact Nat.div_add_mod _ _] at h4
  rw [← h4, hj] at h3
  simp only at h3
  rw [Nat.add_assoc, show j / E.sz * E.sz + j % E.sz = j by rw [Nat.mul_comm]; exact Nat.div_add_mod _ _] at h3
  unfold Addr.add
  split
  · next h0 => subst h0; simpa using h3
  · exact h3
/-- 'append(out, ys...)', out the call's own, ys readable. -/
theorem wp_app_Rs (hinfo : (Tryz.prog.info? E.ty).map (fun i => (i.zero, i.size, i.bytes)) = some (some z, E.sz, bytes)) (hzs : z.cells.size = E.sz) (hby : bytes ≤ 10000) (ht : Tryz.prog.underlying t = some (.slice E.ty)) (hone : ∀ y ∈ ys, ∀ u ∈ E.cs y, u.oneCell' = true)
    (s x : Operand) (ho : o.op = .call { callee := .builtin .append, args := #[s, x], argTypes := #[t, t] })
    (hs : a.eval s = v) (hx : a.eval x = u) (H : Sep w (OR E v xs :: l)) (hu : RdR E w u ys) (hl : xs.length + ys.length ≤ 10000000)
    (h : ∀ v' w', Sep w' (OR E v' (xs ++ ys) :: l) → K (a.put o.dst v') w') : o.wp Tryz.prog a w K Q := by
  obtain ⟨i0, hi, hz0, hz1, hz2⟩ := info_parts hinfo
  obtain ⟨ua, uc, rfl⟩ := hu.shape
  by_cases hy : ys = []
  · subst hy
    have hrun := run_none_any (P := Tryz.prog) w 0 t o.type E.ty i0 E.sz ht hi v xs.length _ H.hd ua uc
    unfold Oper.wp execOp
    simp only [ho, resolve, invoke, builtin, Sem.run_bind, Sem.run_pure, Result.andThen_ok, List.map_toArray, List.map_cons, List.map_nil, hs, hx, List.length_nil, hrun]
    exact h v w (by simpa using H)
  · have hpos : 0 < ys.length := List.length_pos_iff.2 hy
    obtain ⟨d, rfl⟩ : ∃ d, ua = some d := by
      obtain ⟨a', c', he, h⟩ := hu
      obtain ⟨d, hd, _⟩ := h hy
      cases he
      exact ⟨d, hd⟩
    have hb : (xs.length + ys.length) * bytes ≤ 140737488355328 := Nat.le_trans (Nat.mul_le_mul hl hby) (by decide)
    refine wp_append_lies (P := Tryz.prog) _ s x t ho 0 E.ty i0 z E.sz bytes ht hi hz0 hz1 hz2 hzs E.pos v xs.length (xs.flatMap E.cs) hs H.hd
      d ys.length uc (ys.flatMap E.cs) hx (flat_len E ys) (rdR_news hu) (fun u hu => by obtain ⟨y, hy, hy'⟩ := List.mem_flatMap.1 hu; exact hone y hy u hy') hpos (by unfold maxLen; omega) hb (Nat.zero_le _) _ rfl ?_
    intro g cap w1 hown' hgrow hg _
    have ho' : OwnR E 0 w1 (.slice (some ⟨g, 0, none⟩) (xs.length + ys.length) cap) (xs ++ ys) := by
      unfold OwnR
      rw [List.length_append, List.flatMap_append]
      exact hown'
    refine h _ w1 (H.upd' (Only.of_grown (S := Hits v) hgrow fun k hk => hk) ho' fun k hk => ?_)
    have : g = k := by simpa [OR, Hits, Value.ownBlock] using hk
    subst this
    exact hg.imp id (fun h => Nat.le_of_eq h.symm)
theorem app_RsG (hinfo : (Tryz.prog.info? E.ty).map (fun i => (i.zero, i.size, i.bytes)) = some (some z, E.sz, bytes)) (hzs : z.cells.size = E.sz) (hby : bytes ≤ 10000) (ht : Tryz.prog.underlying t = some (.slice E.ty)) (hone : ∀ y ∈ ys, ∀ u ∈ E.cs y, u.oneCell' = true)
    (hgd : o.guard = none) (s x : Operand) (ho : o.op = .call { callee := .builtin .append, args := #[s, x], argTypes := #[t, t] })
    (hs : a.eval s = v) (hx : a.eval x = u) (H : Sep w (OR E v xs :: l)) (hu : RdR E w u ys) (hl : xs.length + ys.length ≤ 10000000)
    (h : ∀ v' w', Sep w' (OR E v' (xs ++ ys) :: l) → wpList Tryz.prog ops Q rest (a.put o.dst v') w') : wpList Tryz.prog ops Q (o :: rest) a w :=
  wpList_plain hgd fun _ hK => wp_app_Rs hinfo hzs hby ht hone s x ho hs hx H hu hl fun v' w' h1 => hK _ _ (h v' w' h1)
theorem IntsV.news {d : Addr} {n c : Nat} (h : IntsV w (.slice (some d) n c) is) : ∀ j u, (is.map (Value.int .i64))[j]? = some u → w.cell? (d.add j) = some u := by
  intro j u hj
  obtain ⟨a', cap', he, h⟩ := h
  cases he
  have hjl : j < is.length := by
    rcases Nat.lt_or_ge j is.length with h | h
    · exact h
    · rw [List.getElem?_eq_none (by simpa using h)] at hj; cases hj
  obtain ⟨d', hd, hs, hdb, hc⟩ := h (by intro h0; subst h0; simp at hjl)
  cases hd
  have h3 := hc j hjl
  simp [hjl] at hj
  subst hj
  obtain ⟨db, dof, ds⟩ := d
  simp only at hs
  subst hs
  unfold Addr.add
  split
  · next h0 => subst h0; simpa using h3
  · exact h3
/-- the same for lists of numbers -/
theorem wp_app_intsS (s x : Operand) (ho : o.op = .call { callee := .builtin .append, args := #[s, x], argTypes := #[28, 28] })
    (hs : a.eval s = v) (hx : a.eval x = u) (H : Sep w (OI v zs :: l)) (hu : IntsV w u is) (hl : zs.length + is.length ≤ 1000000000)
    (h : ∀ v' w', Sep w' (OI v' (zs ++ is) :: l) → K (a.put o.dst v') w') : o.wp Tryz.prog a w K Q := by
  obtain ⟨i0, hi, hz0, hz1, hz2⟩ := info_parts info_int
  obtain ⟨ua, uc, rfl⟩ := hu.shape
  by_cases hy : is = []
  · subst hy
    have hrun := run_none_any (P := Tryz.prog) w 0 28 o.type 3 i0 1 Tryz.underlying28 hi v zs.length _ H.hd ua uc
    unfold Oper.wp execOp
    simp only [ho, resolve, invoke, builtin, Sem.run_bind, Sem.run_pure, Result.andThen_ok, List.map_toArray, List.map_cons, List.map_nil, hs, hx, List.length_nil, hrun]
    exact h v w (by simpa using H)
  · have hpos : 0 < is.length := List.length_pos_iff.2 hy
    obtain ⟨d, rfl⟩ : ∃ d, ua = some d := by
      obtain ⟨a', c', he, h⟩ := hu
      obtain ⟨d, hd, _⟩ := h hy
      cases he
      exact ⟨d, hd⟩
    refine wp_append_lies (P := Tryz.prog) _ s x 28 ho 0 3 i0 (.int .i64 0) 1 8 Tryz.underlying28 hi hz0 hz1 hz2 rfl (by decide) v zs.length (zs.map (Value.int .i64)) hs H.hd
      d is.length uc (is.map (Value.int .i64)) hx (by simp) hu.news (fun u hu => by obtain ⟨y, _, rfl⟩ := List.mem_map.1 hu; rfl) hpos (by unfold maxLen; omega) (by omega) (Nat.zero_le _) _ rfl ?_
    intro g cap w1 hown' hgrow hg _
    have ho' : OwnInts 0 w1 (.slice (some ⟨g, 0, none⟩) (zs.length + is.length) cap) (zs ++ is) := by
      unfold OwnInts
      rw [List.length_append, List.map_append]
      exact hown'
    refine h _ w1 (H.upd' (Only.of_grown (S := Hits v) hgrow fun k hk => hk) ho' fun k hk => ?_)
    have : g = k := by simpa [OI, Hits, Value.ownBlock] using hk
    subst this
    exact hg.imp id (fun h => Nat.le_of_eq h.symm)
theorem app_intsS (hgd : o.guard = none) (s x : Operand) (ho : o.op = .call { callee := .builtin .append, args := #[s, x], argTypes := #[28, 28] })
    (hs : a.eval s = v) (hx : a.eval x = u) (H : Sep w (OI v zs :: l)) (hu : IntsV w u is) (hl : zs.length + is.length ≤ 1000000000)
    (h : ∀ v' w', Sep w' (OI v' (zs ++ is) :: l) → wpList Tryz.prog ops Q rest (a.put o.dst v') w') : wpList Tryz.prog ops Q (o :: rest) a w :=
  wpList_plain hgd fun _ hK => wp_app_intsS s x ho hs hx H hu hl fun v' w' h1 => hK _ _ (h v' w' h1)
end
end Go.Proofs.YtjagjhchnpmngaaGreatDoor

/-
  Terms as lists of nodes behind one another, and as trees. Plain mathematics. Conditions: as each says.
-/
namespace Go.Proofs.YtjagjhchnpmngaaGreatDoor
open Go.RowKit
set_option linter.unusedVariables false

abbrev noS : ByteArray := ⟨#[]⟩
structure Nd where
  k : Int
  v : Int
  s : ByteArray
def nd0 : Nd := ⟨0, 0, noS⟩
/-- A leaf's type. -/
def lfTy (n : Nd) : Int × Int := if n.k = 1 then (n.v, n.v) else if n.k = 2 then (2, 2) else ((edW n.k).1, (edW n.k).2)
def lfV (n : Nd) : Bool := if n.k = 1 then decide (0 ≤ n.v ∧ n.v ≤ 12) else if n.k = 2 then decide (n.v = 0) else inB n.k 3 14 && valB n.k n.v
/-- Is it a leaf's node? -/
def lfB (n : Nd) : Bool := decide (n.s = noS) && lfV n
inductive Tr where
  | leaf (n : Nd)
  | seq (a b : Tr)
  | par (a b : Tr)
def Tr.nodes : Tr → List Nd
  | .leaf n => [n]
  | .seq a b => a.nodes ++ (b.nodes ++ [⟨15, 0, noS⟩])
  | .par a b => a.nodes ++ (b.nodes ++ [⟨16, 0, noS⟩])
def Tr.size : Tr → Nat
  | .leaf _ => 1
  | .seq a b => a.size + b.size + 1
  | .par a b => a.size + b.size + 1
def Tr.ty : Tr → Int × Int
  | .leaf n => lfTy n
  | .seq a b => (a.ty.1, b.ty.2)
  | .par a b => (a.ty.1 + b.ty.1, a.ty.2 + b.ty.2)
/-- Is the tree well made? -/
def Tr.Ok : Tr → Prop
  | .leaf n => lfB n = true
  | .seq a b => a.Ok ∧ b.Ok ∧ a.ty.2 = b.ty.1
  | .par a b => a.Ok ∧ b.Ok ∧ a.ty.1 + b.ty.1 ≤ 12 ∧ a.ty.2 + b.ty.2 ≤ 12
theorem Tr.nodes_len (t : Tr) : t.nodes.length = t.size := by
  induction t with
  | leaf n => rfl
  | seq a b iha ihb => simp only [Tr.nodes, Tr.size, List.length_append, List.length_cons, List.length_nil, iha, ihb]; omega
  | par a b iha ihb => simp only [Tr.nodes, Tr.size, List.length_append, List.length_cons, List.length_nil, iha, ihb]; omega
theorem Tr.size_pos (t : Tr) : 0 < t.size := by cases t <;> simp [Tr.size]
theorem edW_small (k : Int) : (edW k).1 ≤ 2 ∧ (edW k).2 ≤ 2 := by
  unfold edW
  repeat' split
  all_goals decide
theorem lfTy_small {n : Nd} (h : lfB n = true) : (0 ≤ (lfTy n).1 ∧ (lfTy n).1 ≤ 12) ∧ 0 ≤ (lfTy n).2 ∧ (lfTy n).2 ≤ 12 := by
  unfold lfB lfV at h
  rw [Bool.and_eq_true] at h
  have h2 := h.2
  have h3 := edW_small n.k
  unfold lfTy
  by_cases h1 : n.k = 1
  · rw [if_pos h1] at h2 ⊢
    have := of_decide_eq_true h2
    exact ⟨this, this⟩
  · rw [if_neg h1]
    by_cases h4 : n.k = 2
    · rw [if_pos h4]; exact ⟨⟨by decide, by decide⟩, by decide, by decide⟩
    · rw [if_neg h4]; simp only; omega
theorem Tr.ty_small {t : Tr} (h : t.Ok) : (0 ≤ t.ty.1 ∧ t.ty.1 ≤ 12) ∧ 0 ≤ t.ty.2 ∧ t.ty.2 ≤ 12 := by
  induction t with
  | leaf n => exact lfTy_small h
  | seq a b iha ihb =>
    obtain ⟨ha, hb, he⟩ := h
    exact ⟨(iha ha).1, (ihb hb).2⟩
  | par a b iha ihb =>
    obtain ⟨ha, hb, h1, h2⟩ := h
    have := iha ha; have := ihb hb
    simp only [Tr.ty]
    omega
/-- One node more: the trees so far, the last one first. -/
def pstep (S : List Tr) (n : Nd) : Option (List Tr) :=
  if n.k = 15 ∨ n.k = 16 then
    if n.v = 0 ∧ n.s = noS then
      match S with
      | B :: A :: R => if n.k = 15 then (if A.ty.2 = B.ty.1 then some (.seq A B :: R) else none) else if A.ty.1 + B.ty.1 ≤ 12 ∧ A.ty.2 + B.ty.2 ≤ 12 then some (.par A B :: R) else none
      | _ => none
    else none
  else if lfB n = true then some (.leaf n :: S) else none
def prun (ns : List Nd) : Nat → Option (List Tr)
  | 0 => some []
  | i + 1 => (prun ns i).bind fun S => pstep S (ns.getD i nd0)
theorem prun_succ {ns : List Nd} {i : Nat} {S : List Tr} (h : prun ns i = some S) : prun ns (i + 1) = pstep S (ns.getD i nd0) := by
  show (prun ns i).bind _ = _
  rw [h]; rfl
theorem prun_stop {ns : List Nd} {i : Nat} (h : prun ns i = none) : ∀ j, i ≤ j → prun ns j = none := by
  intro j hj
  induction j with
  | zero => rw [show i = 0 by omega] at h; exact h
  | succ j ih =>
    rcases Nat.lt_or_ge i (j + 1) with h1 | h1
    · show (prun ns j).bind _ = none
      rw [ih (by omega)]; rfl
    · rw [show j + 1 = i by omega]; exact h
theorem prun_back {ns : List Nd} {i j : Nat} {S : List Tr} (h : prun ns j = some S) (hij : i ≤ j) : ∃ R, prun ns i = some R := by
  cases hr : prun ns i with
  | some R => exact ⟨R, rfl⟩
  | none => rw [prun_stop hr j hij] at h; cases h
/-- What a step makes. -/
theorem pstep_cases {S S' : List Tr} {n : Nd} (h : pstep S n = some S') :
    (lfB n = true ∧ ¬ (n.k = 15 ∨ n.k = 16) ∧ S' = .leaf n :: S) ∨
    (∃ A B R, S = B :: A :: R ∧ n = ⟨15, 0, noS⟩ ∧ A.ty.2 = B.ty.1 ∧ S' = .seq A B :: R) ∨
    (∃ A B R, S = B :: A :: R ∧ n = ⟨16, 0, noS⟩ ∧ (A.ty.1 + B.ty.1 ≤ 12 ∧ A.ty.2 + B.ty.2 ≤ 12) ∧ S' = .par A B :: R) := by
  unfold pstep at h
  obtain ⟨k, v, s⟩ := n
  simp only at h
  by_cases h1 : k = 15 ∨ k = 16
  · rw [if_pos h1] at h
    by_cases h2 : v = 0 ∧ s = noS
    · rw [if_pos h2] at h
      obtain ⟨rfl, rfl⟩ := h2
      match S, h with
      | [], h => simp at h
      | [_], h => simp at h
      | B :: A :: R, h =>
        by_cases h3 : k = 15
        · subst h3
          simp only [if_true] at h
          by_cases h4 : A.ty.2 = B.ty.1
          · rw [if_pos h4] at h
            exact Or.inr (Or.inl ⟨A, B, R, rfl, rfl, h4, (Option.some.inj h).symm⟩)
          · rw [if_neg h4] at h; cases h
        · have h5 : k = 16 := by omega
          subst h5
          simp only [if_neg h3] at h
          by_cases h4 : A.ty.1 + B.ty.1 ≤ 12 ∧ A.ty.2 + B.ty.2 ≤ 12
          · rw [if_pos h4] at h
            exact Or.inr (Or.inr ⟨A, B, R, rfl, rfl, h4, (Option.some.inj h).symm⟩)
          · rw [if_neg h4] at h; cases h
    · rw [if_neg h2] at h; cases h
  · rw [if_neg h1] at h
    by_cases h2 : lfB ⟨k, v, s⟩ = true
    · rw [if_pos h2] at h
      exact Or.inl ⟨h2, h1, (Option.some.inj h).symm⟩
    · rw [if_neg h2] at h; cases h
/-- What is known of the trees after i nodes. -/
structure PInv (ns : List Nd) (i : Nat) (S : List Tr) : Prop where
  ok : ∀ t ∈ S, t.Ok
  nd : ns.take i = S.reverse.flatMap Tr.nodes
  back : ∀ T R, S = T :: R → T.size ≤ i ∧ prun ns (i - T.size) = some R
theorem prun_inv {ns : List Nd} : ∀ (i : Nat) (S : List Tr), i ≤ ns.length → prun ns i = some S → PInv ns i S := by
  intro i
  induction i using Nat.strongRecOn with
  | _ i ih =>
    intro S hi h
    match i, ih, hi, h with
    | 0, _, _, h =>
      have : S = [] := (Option.some.inj h).symm
      subst this
      exact ⟨by simp, by simp, by simp⟩
    | i + 1, ih, hi, h =>
      obtain ⟨P, hP⟩ := prun_back h (Nat.le_succ i)
      have hinv := ih i (Nat.lt_succ_self i) P (by omega) hP
      rw [prun_succ hP] at h
      have hte : ns.take (i + 1) = ns.take i ++ [ns.getD i nd0] := by
        rw [List.take_succ_eq_append_getElem (by omega), List.getD_eq_getElem?_getD, List.getElem?_eq_getElem (by omega)]; rfl
      rcases pstep_cases h with ⟨h1, _, rfl⟩ | ⟨A, B, R, rfl, h1, h2, rfl⟩ | ⟨A, B, R, rfl, h1, h2, rfl⟩
      · refine ⟨?_, ?_, ?_⟩
        · intro t ht
          rcases List.mem_cons.1 ht with rfl | ht
          · exact h1
          · exact hinv.ok t ht
        · rw [hte, hinv.nd]; simp [Tr.nodes]
        · intro T R0 e
          injection e with e1 e2
          subst e1 e2
          exact ⟨by simp [Tr.size], by simpa [Tr.size] using hP⟩
      all_goals
        obtain ⟨b1, b2⟩ := hinv.back B (A :: R) rfl
        have hB := B.size_pos
        have hinv2 := ih (i - B.size) (by omega) (A :: R) (by omega) b2
        obtain ⟨a1, a2⟩ := hinv2.back A R rfl
        refine ⟨?_, ?_, ?_⟩
        · intro t ht
          rcases List.mem_cons.1 ht with rfl | ht
          · first
              | exact ⟨hinv.ok A (by simp), hinv.ok B (by simp), h2⟩
          · exact hinv.ok t (by simp [ht])
        · rw [hte, hinv.nd, h1]; simp [Tr.nodes]
        · intro T R0 e
          injection e with e1 e2
          subst e1 e2
          refine ⟨by simp only [Tr.size]; omega, ?_⟩
          rw [show i + 1 - (Tr.size _) = i - B.size - A.size by simp only [Tr.size]; omega]
          exact a2
/-- Is the list a term? -/
def tmB (ns : List Nd) : Bool := decide (1 ≤ ns.length ∧ ns.length ≤ 400) && match prun ns ns.length with
  | some [_] => true
  | _ => false
theorem tmB_tree {ns : List Nd} (h : tmB ns = true) : (1 ≤ ns.length ∧ ns.length ≤ 400) ∧ ∃ t : Tr, t.Ok ∧ t.nodes = ns ∧ prun ns ns.length = some [t] := by
  unfold tmB at h
  rw [Bool.and_eq_true] at h
  refine ⟨of_decide_eq_true h.1, ?_⟩
  have h2 := h.2
  split at h2
  · rename_i t ht
    have hv := prun_inv _ _ (Nat.le_refl _) ht
    refine ⟨t, hv.ok t (by simp), ?_, ht⟩
    have := hv.nd
    rw [List.take_length] at this
    simpa using this.symm
  · cases h2
/-- A list that ends by a tree's nodes is run to that tree. -/
theorem prun_tree {ns : List Nd} (t : Tr) : ∀ (i : Nat) (S : List Tr), t.Ok → prun ns i = some S → i + t.size ≤ ns.length → (∀ j, j < t.size → ns.getD (i + j) nd0 = t.nodes.getD j nd0) → prun ns (i + t.size) = some (t :: S) := by
  induction t with
  | leaf n =>
    intro i S hok h hl hn
    have h0 := hn 0 (by simp [Tr.size])
    simp only [Tr.nodes, Nat.add_zero, List.getD_cons_zero] at h0
    show prun ns (i + 1) = _
    rw [prun_succ h, h0]
    have hk : ¬ (n.k = 15 ∨ n.k = 16) := by
      intro hk
      have hb : lfB n = true := hok
      unfold lfB lfV at hb
      rw [Bool.and_eq_true] at hb
      have h2 := hb.2
      rw [if_neg (by omega), if_neg (by omega), Bool.and_eq_true] at h2
      have h3 := h2.1
      rw [inB_iff] at h3
      omega
    unfold pstep
    rw [if_neg hk, if_pos (show lfB n = true from hok)]
  | seq a b iha ihb =>
    intro i S hok h hl hn
    obtain ⟨ha, hb, he⟩ := hok
    simp only [Tr.size] at hl hn
    have h1 := iha i S ha h (by omega) (fun j hj => by
      rw [hn j (by omega)]
      simp only [Tr.nodes]
      rw [List.getD_eq_getElem?_getD, List.getD_eq_getElem?_getD, List.getElem?_append_left (by rw [Tr.nodes_len]; exact hj)])
    have h2 := ihb (i + a.size) (a :: S) hb h1 (by omega) (fun j hj => by
      rw [show i + a.size + j = i + (a.size + j) by omega, hn (a.size + j) (by omega)]
      simp only [Tr.nodes]
      rw [List.getD_eq_getElem?_getD, List.getD_eq_getElem?_getD, List.getElem?_append_right (by rw [Tr.nodes_len]; omega), Tr.nodes_len, Nat.add_sub_cancel_left, List.getElem?_append_left (by rw [Tr.nodes_len]; exact hj)])
    have h3 := hn (a.size + b.size) (by omega)
    simp only [Tr.nodes] at h3
    rw [List.getD_eq_getElem?_getD (l := a.nodes ++ _), List.getElem?_append_right (by rw [Tr.nodes_len]; omega), Tr.nodes_len, Nat.add_sub_cancel_left, List.getElem?_append_right (by rw [Tr.nodes_len]; omega), Tr.nodes_len, Nat.sub_self] at h3
    show prun ns (i + (a.size + b.size + 1)) = _
    rw [show i + (a.size + b.size + 1) = (i + a.size + b.size) + 1 by omega, prun_succ h2, show i + a.size + b.size = i + (a.size + b.size) by omega, h3]
    simp [pstep, he]
  | par a b iha ihb =>
    intro i S hok h hl hn
    obtain ⟨ha, hb, he⟩ := hok
    simp only [Tr.size] at hl hn
    have h1 := iha i S ha h (by omega) (fun j hj => by
      rw [hn j (by omega)]
      simp only [Tr.nodes]
      rw [List.getD_eq_getElem?_getD, List.getD_eq_getElem?_getD, List.getElem?_append_left (by rw [Tr.nodes_len]; exact hj)])
    have h2 := ihb (i + a.size) (a :: S) hb h1 (by omega) (fun j hj => by
      rw [show i + a.size + j = i + (a.size + j) by omega, hn (a.size + j) (by omega)]
      simp only [Tr.nodes]
      rw [List.getD_eq_getElem?_getD, List.getD_eq_getElem?_getD, List.getElem?_append_right (by rw [Tr.nodes_len]; omega), Tr.nodes_len, Nat.add_sub_cancel_left, List.getElem?_append_left (by rw [Tr.nodes_len]; exact hj)])
    have h3 := hn (a.size + b.size) (by omega)
    simp only [Tr.nodes] at h3
    rw [List.getD_eq_getElem?_getD (l := a.nodes ++ _), List.getElem?_append_right (by rw [Tr.nodes_len]; omega), Tr.nodes_len, Nat.add_sub_cancel_left, List.getElem?_append_right (by rw [Tr.nodes_len]; omega), Tr.nodes_len, Nat.sub_self] at h3
    show prun ns (i + (a.size + b.size + 1)) = _
    rw [show i + (a.size + b.size + 1) = (i + a.size + b.size) + 1 by omega, prun_succ h2, show i + a.size + b.size = i + (a.size + b.size) by omega, h3]
    simp [pstep, he]
theorem prun_nodes {t : Tr} (h : t.Ok) : prun t.nodes t.size = some [t] := by
  have := prun_tree (ns := t.nodes) t 0 [] h rfl (by rw [Tr.nodes_len]; omega) (fun j hj => by rw [Nat.zero_add])
  rwa [Nat.zero_add] at this
end Go.Proofs.YtjagjhchnpmngaaGreatDoor

/-
  Lists of nodes in memory; a list of the call's own is cut. Conditions: as each says.
-/
namespace Go.Proofs.YtjagjhchnpmngaaGreatDoor
open Go.RowKit
set_option linter.unusedVariables false
set_option maxRecDepth 100000

def nodeC (n : Nd) : List Value := [.int .i64 n.k, .int .i64 n.v, .string n.s]
def nodeE : Lay Nd := ⟨66, 3, nodeC, fun _ => rfl, by decide⟩
def argNodeE : Lay Nd := ⟨61, 3, nodeC, fun _ => rfl, by decide⟩
theorem RdR.node {E : Lay Nd} (h1 : E.sz = 3) (h2 : E.cs = nodeC) {w : World} {a : Option Addr} {n c : Nat} {ns : List Nd} (h : RdR E w (.slice a n c) ns) {i : Nat} (hi : i < ns.length) :
    ∃ b o, a = some ⟨b, o, none⟩ ∧ b < w.heap.size ∧ w.cell? ⟨b, o + i * 3, none⟩ = some (.int .i64 (ns.getD i nd0).k) ∧ w.cell? ⟨b, o + i * 3 + 1, none⟩ = some (.int .i64 (ns.getD i nd0).v) ∧ w.cell? ⟨b, o + i * 3 + 2, none⟩ = some (.string (ns.getD i nd0).s) := by
  obtain ⟨b, o, ha, hb, hc⟩ := h.at hi
  have e : ns.getD i nd0 = ns[i] := by rw [List.getD_eq_getElem?_getD, List.getElem?_eq_getElem hi]; rfl
  rw [h1, h2] at hc
  rw [e]
  exact ⟨b, o, ha, hb, hc 0 (by decide), hc 1 (by decide), hc 2 (by decide)⟩
theorem flat_take {α : Type} (E : Lay α) : ∀ (xs : List α) (k : Nat), (xs.take k).flatMap E.cs = (xs.flatMap E.cs).take (k * E.sz)
  | [], k => by simp
  | x :: xs, 0 => by simp
  | x :: xs, k + 1 => by
    have e : (k + 1) * E.sz = (E.cs x).length + k * E.sz := by rw [E.len x, Nat.succ_mul]; omega
    rw [List.take_succ_cons, List.flatMap_cons, List.flatMap_cons, flat_take E xs k, e, List.take_length_add_append]
theorem OwnR.take {α : Type} {E : Lay α} {B : Nat} {w : World} {xs : List α} {g n cap : Nat} (h : OwnR E B w (.slice (some ⟨g, 0, none⟩) n cap) xs) (hn : xs.length = n) {k : Nat} (hk : k ≤ n) : OwnR E B w (.slice (some ⟨g, 0, none⟩) k cap) (xs.take k) := by
  obtain ⟨h1, h2⟩ := h
  have hl : (xs.take k).length = k := by rw [List.length_take]; omega
  rcases h2 with ⟨h2, _⟩ | ⟨g', cap', cur, hv, hb, hg, hle, hcm, hsz, htk⟩
  · cases h2
  · cases hv
    have hm : k * E.sz ≤ xs.length * E.sz := Nat.mul_le_mul_right _ (by omega)
    refine ⟨?_, Or.inr ⟨g, cap, cur, by rw [hl], hb, hg, by omega, hcm, hsz, ?_⟩⟩
    · rw [flat_take, hl, List.length_take, h1]
      exact Nat.min_eq_left hm
    · rw [hl, flat_take, ← htk, List.take_take]
      congr 1
      exact (Nat.min_eq_left hm).symm
theorem Sep.cutR {α : Type} {E : Lay α} {w : World} {l : List Asrt} {xs : List α} {g n cap : Nat} (h : Sep w (OR E (.slice (some ⟨g, 0, none⟩) n cap) xs :: l)) (hn : xs.length = n) {k : Nat} (hk : k ≤ n) : Sep w (OR E (.slice (some ⟨g, 0, none⟩) k cap) (xs.take k) :: l) :=
  h.upd' (A' := OR E (.slice (some ⟨g, 0, none⟩) k cap) (xs.take k)) (Only.refl _ _) (OwnR.take h.hd hn hk) fun _ hk' => Or.inl hk'
/-- A list of pairs (inputs, outputs). -/
def wireE : Lay (Int × Int) := ⟨95, 2, fun p => [.int .i64 p.1, .int .i64 p.2], fun _ => rfl, by decide⟩
theorem info_wire : (Tryz.prog.info? wireE.ty).map (fun i => (i.zero, i.size, i.bytes)) = some (some (.agg #[.int .i64 0, .int .i64 0]), wireE.sz, 16) := by kernel_rfl
theorem wire_one (a c : Int) : ∀ u ∈ wireE.cs (a, c), u.oneCell' = true := by
  intro u hu
  simp only [wireE, List.mem_cons, List.not_mem_nil, or_false] at hu
  rcases hu with rfl | rfl <;> rfl
theorem OwnR.wire {w : World} {g n c : Nat} {ps : List (Int × Int)} (h : OwnR wireE 0 w (.slice (some ⟨g, 0, none⟩) n c) ps) (hn : n = ps.length) {i : Nat} (hi : i < n) :
    w.cell? ⟨g, i * 2, none⟩ = some (.int .i64 (ps.getD i (0, 0)).1) ∧ w.cell? ⟨g, i * 2 + 1, none⟩ = some (.int .i64 (ps.getD i (0, 0)).2) := by
  have hi2 : i < ps.length := by omega
  have e : ps.getD i (0, 0) = ps[i] := by rw [List.getD_eq_getElem?_getD, List.getElem?_eq_getElem hi2]; rfl
  rw [e]
  exact ⟨OwnR.cell h hn hi2 (j := 0) (by decide), OwnR.cell h hn hi2 (j := 1) (by decide)⟩
end Go.Proofs.YtjagjhchnpmngaaGreatDoor

/-
  Parts of memory put in another order. Conditions: none.
-/
namespace Go.Proofs.YtjagjhchnpmngaaGreatDoor
open Go.RowKit
set_option linter.unusedVariables false

theorem Sep.blk {w : World} {A B r : List Asrt} (h : Sep w (A ++ (B ++ r))) : Sep w (B ++ (A ++ r)) :=
  Sep.perm (by rw [← List.append_assoc, ← List.append_assoc]; exact List.Perm.append_right r List.perm_append_comm) h
theorem Sep.cut2 {w : World} {X r : List Asrt} {A B : Asrt} (h : Sep w (X ++ (A :: B :: r))) : Sep w (X ++ r) :=
  (Sep.blk (A := X) (B := [A, B]) (r := r) h).tl.tl
theorem Sep.blk3 {w : World} {X A B r : List Asrt} (h : Sep w (X ++ (A ++ (B ++ r)))) : Sep w (X ++ (B ++ (A ++ r))) :=
  Sep.perm (List.Perm.append_left X (by rw [← List.append_assoc, ← List.append_assoc]; exact List.Perm.append_right r List.perm_append_comm)) h
theorem Sep.tlN {w : World} {l : List Asrt} : ∀ (A : List Asrt), Sep w (A ++ l) → Sep w l
  | [], h => h
  | _ :: A, h => Sep.tlN A h.tl
theorem Sep.cutA {w : World} {X A r : List Asrt} (h : Sep w (X ++ (A ++ r))) : Sep w (X ++ r) := Sep.tlN A (Sep.blk (A := X) (B := A) h)
theorem Sep.boxAt {w : World} {l : List Asrt} (h : Sep w l) (b : Nat) (hb : b = w.heap.size) (cs : Array Value) (t : TypeId) : Sep (w.alloc (.cells cs t)) (BxA b cs t :: l) := hb ▸ h.box cs t
end Go.Proofs.YtjagjhchnpmngaaGreatDoor

/-
  The laws' own helpers on terms: sizes and copies. Conditions: lengths are small.
-/
namespace Go.Proofs.YtjagjhchnpmngaaGreatDoor
open Go.RowKit
set_option linter.unusedVariables false
set_option maxRecDepth 100000

def totN : List Nd → Nat
  | [] => 0
  | n :: ns => n.s.size + totN ns
theorem totN_take (ns : List Nd) (k : Nat) (hk : k < ns.length) : totN (ns.take (k + 1)) = totN (ns.take k) + (ns.getD k nd0).s.size := by
  induction ns generalizing k with
  | nil => simp at hk
  | cons e es ih =>
    cases k with
    | zero => simp [totN]
    | succ k =>
      have := ih k (by simpa using hk)
      simp only [List.take_succ_cons, totN, List.getD_cons_succ]
      omega
theorem totN_le (ns : List Nd) (k : Nat) : totN (ns.take k) ≤ totN ns := by
  induction ns generalizing k with
  | nil => simp
  | cons e es ih =>
    cases k with
    | zero => simp [totN]
    | succ k =>
      have := ih k
      simp only [List.take_succ_cons, totN]
      omega
def okNd (n : Nd) : Prop := n.s.size ≤ 9223372036854775807
theorem szNode_any (k v : Int) (s : ByteArray) (left : Int) (w : World) (h0 : 0 ≤ left) (h1 : left ≤ 1048576) (hok : s.size ≤ 9223372036854775807) :
    Calls Tryz.prog 31 #[.agg #[.int .i64 k, .int .i64 v, .string s], .int .i64 left] w fun x w' => x = .returned (.int .i64 (lft left s.size)) ∧ w.grownBy w' none := by
  unfold lft
  obtain ⟨z, hz⟩ : ∃ z, s.size = z := ⟨_, rfl⟩
  rw [hz] at hok ⊢
  have hw := wrap_id (x := left - z) (by omega) (by omega)
  by_cases h : left - (z : Int) < 0
  · rw [if_pos h]
    go_enter Tryz.func31, Tryz.ntmps31
    go_wp2_with fail
    go_ret
    exact ⟨rfl, gr1 _ _⟩
  · rw [if_neg h]
    go_enter Tryz.func31, Tryz.ntmps31
    go_wp2_with fail
    go_ret
    exact ⟨rfl, gr1 _ _⟩
set_option maxHeartbeats 2000000 in
theorem szNodeS_any (a : Option Addr) (n c : Nat) (ns : List Nd) (left : Int) (w : World) (hv : RdR argNodeE w (.slice a n c) ns) (hn : n = ns.length) (h0 : 0 ≤ left) (h1 : left ≤ 1048576) (hl : n ≤ 9223372036854775807) (hok : ∀ e ∈ ns, okNd e) :
    Calls Tryz.prog 13 #[.slice a n c, .int .i64 left] w fun x w' => x = .returned (.int .i64 (lft left (ns.length + totN ns))) ∧ w.grownBy w' none := by
  have HV := Lib.hid hv; have HOK := Lib.hid hok
  have HN := Lib.hid hn
  clear hv hok
  have hwr := wrap_id (x := left - n) (by omega) (by omega)
  by_cases h : left - n < 0
  · rw [show lft left (ns.length + totN ns) = -1 by unfold lft; rw [if_pos (by omega)]]
    clear hn
    go_enter Tryz.func13, Tryz.ntmps13
    go_wp2
    go_ret
    exact ⟨rfl, grownBy_refl _ _⟩
  · obtain ⟨m, hm⟩ : ∃ m, m = left - n := ⟨_, rfl⟩
    have hre : lft left (ns.length + totN ns) = lft m (totN ns) := by
      unfold lft
      rw [← hn, show left - ((n + totN ns : Nat) : Int) = m - (totN ns : Int) by omega]
    rw [hre]
    have hm0 : 0 ≤ m := by omega
    have hm1 : m ≤ 1048576 := by omega
    have HMM := Lib.hid hm
    have hwr2 : IntKind.i64.wrap (left - (n : Int)) = m := by rw [hm]; exact hwr
    have hm00 : ¬ m < 0 := by omega
    clear hre hn hwr h hm
    go_enter Tryz.func13, Tryz.ntmps13
    go_wp2_with fail
    go_loopw [1, 5] (fun lv i wr => ∃ k : Nat, k ≤ n ∧ i = .int .i64 k ∧ lv = .int .i64 (m - totN (ns.take k)) ∧ 0 ≤ m - (totN (ns.take k) : Int) ∧ w.grownBy wr none) (fun _ i _ => n - (intOf i).toNat)
    case atStart => exact ⟨0, by omega, rfl, by simp [totN], by simp [totN]; exact hm0, grownBy_refl _ _⟩
    case round =>
      obtain ⟨k, hk, rfl, rfl, hp, hg⟩ := hrel
      have HG := Lib.hid hg
      clear hg
      by_cases hlt : k < n
      · have hke : k < ns.length := by rw [← HN.out]; exact hlt
        obtain ⟨b, o, rfl, _, q0, q1, q2⟩ := (HV.out.carry HG.out).node rfl rfl hke
        have HT := Lib.hid (totN_take ns k hke)
        have HLE := Lib.hid (totN_le ns (k + 1))
        have HC := Lib.hid (szNode_any (ns.getD k nd0).k (ns.getD k nd0).v (ns.getD k nd0).s (m - totN (ns.take k)) wr hp (by omega) (HOK.out _ (by rw [List.getD_eq_getElem?_getD, List.getElem?_eq_getElem hke]; exact List.getElem_mem _)))
        generalize ns.getD k nd0 = e at *
        generalize totN (ns.take k) = t at *
        generalize hS : totN (ns.take (k + 1)) = s at *
        clear hke
        by_cases h2 : m - (s : Int) < 0
        · have he : lft (m - t) e.s.size = -1 := by unfold lft; rw [if_pos (by have := HT.out; omega)]
          rw [he] at HC
          have hfin : lft m (totN ns) = -1 := by unfold lft; rw [if_pos (by have := HLE.out; omega)]
          have HF := Lib.hid hfin
          clear he hfin hp h2
          obtain ⟨ek, ev, es⟩ := e
          simp only at q0 q1 q2 HC
          go_wp2_with (
            go_at_call 31
            with_reducible refine HC.out.mono ?_
            rintro x w2 ⟨rfl, hg2⟩
            have HG2 := Lib.hid (grownBy_trans HG.out hg2)
            clear hg2)
          go_ret
          exact ⟨(by rw [HF.out]; try rfl), HG2.out⟩
        · have he : lft (m - t) e.s.size = m - s := by unfold lft; rw [if_neg (by have := HT.out; omega)]; have := HT.out; omega
          rw [he] at HC
          have hp2 : ¬ (m - (s : Int)) < 0 := h2
          obtain ⟨r, hr⟩ : ∃ r, r = m - (s : Int) := ⟨_, rfl⟩
          rw [← hr] at HC hp2
          have HR := Lib.hid hr
          clear he h2 hr hp
          obtain ⟨ek, ev, es⟩ := e
          simp only at q0 q1 q2 HC
          go_wp2_with (
            go_at_call 31
            with_reducible refine HC.out.mono ?_
            rintro x w2 ⟨rfl, hg2⟩
            have HG2 := Lib.hid (grownBy_trans HG.out hg2)
            clear hg2)
          go_roundw
          case rel => exact ⟨k + 1, by omega, by go_num, by rw [hS, HR.out], by rw [hS, ← HR.out]; omega, HG2.out⟩
          case measure => simp [intOf]; omega
      · have hkn : k = n := by omega
        subst hkn
        have hfin : lft m (totN ns) = m - totN (ns.take k) := by
          rw [List.take_of_length_le (by rw [← HN.out]; omega)] at hp ⊢
          unfold lft
          rw [if_neg (by omega)]
        have HF := Lib.hid hfin
        generalize totN (ns.take k) = t at *
        clear hlt hfin hp
        go_wp2_with fail
        go_ret
        exact ⟨by rw [HF.out]; rfl, HG.out⟩
theorem toNode_any (k v : Int) (s : ByteArray) (w : World) : Calls Tryz.prog 42 #[.agg #[.int .i64 k, .int .i64 v, .string s]] w fun e w' => e = .returned (.agg #[.int .i64 k, .int .i64 v, .string s]) ∧ w.grownBy w' none := by
  go_enter Tryz.func42, Tryz.ntmps42
  go_wp2_with fail
  refine bodyPost_ret_by (v := .agg #[.int .i64 k, .int .i64 v, .string s]) ?_ rfl ⟨rfl, ?_⟩
  · simp [results, go_sem, *]
  · exact gr3 _ _ _ _
theorem node_free {w : World} {g n cap B : Nat} {gs : List Nd} (h : OwnR nodeE B w (.slice (some ⟨g, 0, none⟩) n cap) gs) (hn : n = gs.length) (i : Nat) :
    w.frozen? ⟨g, i * 3, none⟩ = false ∧ w.frozen? ⟨g, i * 3 + 1, none⟩ = false ∧ w.frozen? ⟨g, i * 3 + 2, none⟩ = false :=
  ⟨h.free hn _, h.free hn _, h.free hn _⟩
theorem node_cellsQ {w : World} {g n cap B : Nat} {gs : List Nd} (h : OwnR nodeE B w (.slice (some ⟨g, 0, none⟩) n cap) gs) (hn : n = gs.length) {i : Nat} (hi : i < gs.length) :
    ∃ q : Nd, w.cell? ⟨g, i * 3, none⟩ = some (.int .i64 q.k) ∧ w.cell? ⟨g, i * 3 + 1, none⟩ = some (.int .i64 q.v) ∧ w.cell? ⟨g, i * 3 + 2, none⟩ = some (.string q.s) :=
  ⟨gs[i], h.cell hn hi (j := 0) (by decide), h.cell hn hi (j := 1) (by decide), h.cell hn hi (j := 2) (by decide)⟩
theorem Sep.setNd {w : World} {g n cap : Nat} {gs : List Nd} {l : List Asrt} (h : Sep w (OR nodeE (.slice (some ⟨g, 0, none⟩) n cap) gs :: l)) (hn : n = gs.length) {i : Nat} (hi : i < gs.length) (y : Nd) :
    Sep (((w.setCell ⟨g, i * 3, none⟩ (.int .i64 y.k)).setCell ⟨g, i * 3 + 1, none⟩ (.int .i64 y.v)).setCell ⟨g, i * 3 + 2, none⟩ (.string y.s))
      (OR nodeE (.slice (some ⟨g, 0, none⟩) n cap) (gs.set i y) :: l) := by
  have h1 := h.setR (E := nodeE) hn (i := i) (j := 0) (y := ⟨y.k, gs[i].v, gs[i].s⟩) (u := .int .i64 y.k) hi (by decide) rfl
  have h2 := h1.setR (E := nodeE) (by simpa using hn) (i := i) (j := 1) (y := ⟨y.k, y.v, gs[i].s⟩) (u := .int .i64 y.v) (by simpa using hi) (by decide) (by simp [nodeE, nodeC])
  have h3 := h2.setR (E := nodeE) (by simpa using hn) (i := i) (j := 2) (y := y) (u := .string y.s) (by simpa using hi) (by decide) (by simp [nodeE, nodeC])
  simp only [List.set_set] at h3
  exact h3
theorem fillNd_set {gs : List Nd} {n k : Nat} (hl : gs.length = n) (hk : k < n) : (gs.take k ++ List.replicate (n - k) nd0).set k (gs.getD k nd0) = gs.take (k + 1) ++ List.replicate (n - (k + 1)) nd0 := by
  have h1 : (gs.take k).length = k := by rw [List.length_take]; omega
  have h2 : n - k = (n - (k + 1)) + 1 := by omega
  rw [List.set_append_right _ _ (by omega), h1, Nat.sub_self, h2, List.replicate_succ, List.set_cons_zero]
  rw [List.take_succ_eq_append_getElem (by omega), List.getD_eq_getElem?_getD, List.getElem?_eq_getElem (by omega), List.append_assoc]
  rfl
theorem info_nodeL : (Tryz.prog.info? nodeE.ty).map (fun i => (i.zero, i.size, i.bytes)) = some (some (.agg #[.int .i64 0, .int .i64 0, .string noS]), nodeE.sz, 32) := by kernel_rfl
theorem zeroNd_cells : (Value.agg #[.int .i64 0, .int .i64 0, .string noS]).cells.toList = nodeE.cs nd0 := rfl
theorem toNodeS_any (v : Value) (gs : List Nd) (w : World) (hv : RdR argNodeE w v gs) (hl : gs.length ≤ 2000000) :
    Calls Tryz.prog 19 #[v] w fun e w' => ∃ g c, e = .returned (.slice (some ⟨g, 0, none⟩) gs.length c) ∧ Sep w' [OR nodeE (.slice (some ⟨g, 0, none⟩) gs.length c) gs, KeepA w] := by
  obtain ⟨i0', hi, hz0, hz1, hz2⟩ := info_parts info_nodeL
  have HI := Lib.hid hi; have HZ0 := Lib.hid hz0; have HZ1 := Lib.hid hz1; have HZ2 := Lib.hid hz2
  have HV := Lib.hid hv
  obtain ⟨a, cap, rfl⟩ := hv.shape
  generalize hlen : gs.length = n at *
  have HL := Lib.hid hlen
  clear hi hz0 hz1 hz2 hv hlen
  go_enter Tryz.func19, Tryz.ntmps19
  go_wp2_with (
    at_make
    refine wpList_make_full _ rfl _ _ 35 rfl w.heap.size 66 i0' _ 3 Tryz.underlying35 HI.out HZ0.out HZ1.out _ _ _ _ n rfl rfl rfl rfl (by rw [HZ2.out]; omega) (by unfold maxLen; omega) (Nat.le_refl _) ?_
    intro w1 hown' hgr'
    have hs0 : Sep w1 [OR nodeE (.slice (some ⟨w.heap.size, 0, none⟩) n n) (List.replicate n nd0), KeepA w] := (Sep.start w).newR hgr' (OwnR.made zeroNd_cells hown')
    have HS := Lib.hid hs0
    clear hs0 hown' hgr')
  go_loopw [4] (fun i wr => ∃ k : Nat, k ≤ n ∧ i = .int .i64 k ∧ Sep wr [OR nodeE (.slice (some ⟨w.heap.size, 0, none⟩) n n) (gs.take k ++ List.replicate (n - k) nd0), KeepA w]) (fun i _ => n - (intOf i).toNat)
  case atStart => exact ⟨0, by omega, rfl, by simpa using HS.out⟩
  case round =>
    obtain ⟨k, hk, rfl, hs⟩ := hrel
    have HSX := Lib.hid hs
    clear hs
    by_cases hlt : k < n
    · obtain ⟨b, o, rfl, hb, c0, c1, c2⟩ := (HV.out.carry HSX.out.tl.hd).node rfl rfl (i := k) (by rw [HL.out]; exact hlt)
      have HSET := Lib.hid (fillNd_set HL.out hlt)
      generalize gs.getD k nd0 = y at *
      have HT := Lib.hid (toNode_any y.k y.v y.s wr)
      go_wp2_with (
        go_at_call 42
        refine HT.out.mono ?_
        rintro e w2 ⟨rfl, hg⟩
        have HS2 := Lib.hid (HSX.out.grown hg)
        have hll : n = (gs.take k ++ List.replicate (n - k) nd0).length := by rw [List.length_append, List.length_take, List.length_replicate, HL.out]; omega
        obtain ⟨f0, f1, f2⟩ := node_free HS2.out.hd hll k
        obtain ⟨q, d0, d1, d2⟩ := node_cellsQ HS2.out.hd hll (i := k) (by rw [← hll]; exact hlt)
        have HS3 := Lib.hid (HS2.out.setNd hll (by rw [← hll]; exact hlt) y)
        clear hg hll)
      go_roundw
      case rel => exact ⟨k + 1, by omega, by go_num, by
        have := HS3.out
        rw [HSET.out] at this
        exact this⟩
      case measure => simp [intOf]; omega
    · have hkn : k = n := by omega
      subst hkn
      clear hlt
      go_wp2
      go_ret
      have := HSX.out
      rw [List.take_of_length_le (by rw [HL.out]; omega), Nat.sub_self, List.replicate_zero, List.append_nil] at this
      exact ⟨_, _, rfl, this⟩
theorem szTerm_any (a : Option Addr) (n c : Nat) (ns : List Nd) (left : Int) (w : World) (hv : RdR argNodeE w (.slice a n c) ns) (hn : n = ns.length) (h0 : 0 ≤ left) (h1 : left ≤ 1048576) (hl : n ≤ 9223372036854775807) (hok : ∀ e ∈ ns, okNd e) :
    Calls Tryz.prog 4 #[.agg #[.slice a n c], .int .i64 left] w fun x w' => x = .returned (.int .i64 (lft left (ns.length + totN ns))) ∧ w.grownBy w' none := by
  have HC := Lib.hid fun W (hW : w.grownBy W none) => szNodeS_any a n c ns left W (hv.carry hW) hn h0 h1 hl hok
  have HS0 := Lib.hid ((Sep.start w).boxAt w.heap.size rfl #[.slice a n c] 24)
  have x0 := cell_of_row _ _ 0 _ _ _ HS0.out.hd
  have HK0 := Lib.hid (show w.grownBy _ none from HS0.out.tl.hd)
  clear hv hn hl hok
  generalize ns.length + totN ns = t at *
  by_cases h : left - (t : Int) < 0
  · rw [show lft left t = -1 by unfold lft; rw [if_pos h]] at HC ⊢
    clear h
    go_enter Tryz.func4, Tryz.ntmps4
    go_wp2_with (
      go_at_call 13
      with_reducible refine (HC.out _ HK0.out).mono ?_
      rintro x w2 ⟨rfl, hg2⟩
      have HG2 := Lib.hid (grownBy_trans HK0.out hg2)
      clear hg2)
    go_ret
    exact ⟨rfl, HG2.out⟩
  · rw [show lft left t = left - t by unfold lft; rw [if_neg h]] at HC ⊢
    obtain ⟨m, hm⟩ : ∃ m, left - (t : Int) = m := ⟨_, rfl⟩
    rw [hm] at HC h ⊢
    clear hm
    go_enter Tryz.func4, Tryz.ntmps4
    go_wp2_with (
      go_at_call 13
      with_reducible refine (HC.out _ HK0.out).mono ?_
      rintro x w2 ⟨rfl, hg2⟩
      have HG2 := Lib.hid (grownBy_trans HK0.out hg2)
      clear hg2)
    go_ret
    exact ⟨rfl, HG2.out⟩
theorem bs1x {w : World} {k : Nat} {x : Value} {t : TypeId} (h : w.heap[k]? = some (.cells #[x] t (0, 0))) : w.cell? ⟨k, 0, none⟩ = some x ∧ w.frozen? ⟨k, 0, none⟩ = false := ⟨cell_of_row w k 0 _ _ _ h, frozen_of_row w k 0 _ _ h⟩
theorem toTerm_any (v : Value) (gs : List Nd) (w : World) (hv : RdR argNodeE w v gs) (hl : gs.length ≤ 2000000) :
    Calls Tryz.prog 6 #[.agg #[v]] w fun e w' => ∃ g c, e = .returned (.agg #[.slice (some ⟨g, 0, none⟩) gs.length c]) ∧ Sep w' [OR nodeE (.slice (some ⟨g, 0, none⟩) gs.length c) gs, KeepA w] := by
  have HG := Lib.hid fun W (h : w.grownBy W none) => toNodeS_any v gs W (hv.carry h) hl
  obtain ⟨a1, c1, rfl⟩ := hv.shape
  generalize gs.length = n1 at *
  clear hv
  have HS0 := Lib.hid ((((Sep.start w).boxAt w.heap.size rfl #[.slice a1 n1 c1] 24).boxAt (w.heap.size + 1) (by simp) #[.slice none 0 0] 37).boxAt (w.heap.size + 2) (by simp) #[.slice none 0 0] 37)
  go_enter Tryz.func6, Tryz.ntmps6
  go_wp2_with (
    go_at_call 19
    go_loud (refine (HG.out _ HS0.out.tl.tl.tl.hd).mono ?_)
    go_loud (rintro e w4 ⟨g, k, rfl, hsg⟩)
    go_loud (have hs1 := (HS0.out.graft1 hsg fun _ h => h).s2)
    obtain ⟨x0, y0⟩ := bs1x hs1.hd
    have hs2 := hs1.setB 0 (.slice (some ⟨g, 0, none⟩) n1 k)
    obtain ⟨z0, _⟩ := bs1x hs2.hd
    have hs3 := hs2.s3
    obtain ⟨r0, q0⟩ := bs1x hs3.hd
    have hs4 := hs3.setB 0 (.slice (some ⟨g, 0, none⟩) n1 k)
    obtain ⟨k0, _⟩ := bs1x hs4.hd
    have HSF := Lib.hid (show Sep _ [OR nodeE (.slice (some ⟨g, 0, none⟩) n1 k) gs, KeepA w] from (hs4.tl.tl.under (fun h => h.tl) (by simp +contextual)))
    clear hsg hs1 hs2 hs3 hs4)
  refine bodyPost_ret_by (v := .agg #[.slice (some ⟨g, 0, none⟩) n1 k]) ?_ rfl ⟨g, k, rfl, HSF.out⟩
  simp [results, go_sem, *]
end Go.Proofs.YtjagjhchnpmngaaGreatDoor

/-
  A term that came in: its nodes can be read. Conditions: none.
-/
namespace Go.Proofs.YtjagjhchnpmngaaGreatDoor
open Go.ChangeShapes Go.WideShapes Go.ChangeAt Go.RowKit Go.Deep Go.Joins
set_option linter.unusedVariables false
set_option maxRecDepth 100000

section
variable {H : Type} {enc : TypeId × Value → H} {W : World} {sp : Nat → Bool} {held : Bool}
/-- The three fields of a struct, each read. -/
theorem trod_threeN {t : TypeId} {f0 f1 f2 : Field} {fuel : Nat} {cs : List Value} {x : DataW H × List MemPlace} (ht : Tryz.prog.underlying t = some (.struct #[f0, f1, f2])) (h : DataW.trod enc Tryz.prog W 0 sp held fuel t cs = some x) :
    cs.length = Tryz.prog.cellsOf t ∧ ∃ y0 y1 y2 n, DataW.trod enc Tryz.prog W 0 sp held n f0.type ((cs.drop f0.offset).take (Tryz.prog.cellsOf f0.type)) = some y0 ∧
      DataW.trod enc Tryz.prog W 0 sp held n f1.type ((cs.drop f1.offset).take (Tryz.prog.cellsOf f1.type)) = some y1 ∧ DataW.trod enc Tryz.prog W 0 sp held n f2.type ((cs.drop f2.offset).take (Tryz.prog.cellsOf f2.type)) = some y2 := by
  obtain ⟨xs, n, _, -, hl, hlen, hf⟩ := DataW.trod_struct ht h
  refine ⟨hl, ?_⟩
  match xs, hlen with
  | [y0, y1, y2], _ => exact ⟨y0, y1, y2, n, by simpa using hf 0 f0 rfl, by simpa using hf 1 f1 rfl, by simpa using hf 2 f2 rfl⟩
theorem trod_oneN {t : TypeId} {f0 : Field} {fuel : Nat} {cs : List Value} {x : DataW H × List MemPlace} (ht : Tryz.prog.underlying t = some (.struct #[f0])) (h : DataW.trod enc Tryz.prog W 0 sp held fuel t cs = some x) :
    cs.length = Tryz.prog.cellsOf t ∧ ∃ y0 n, DataW.trod enc Tryz.prog W 0 sp held n f0.type ((cs.drop f0.offset).take (Tryz.prog.cellsOf f0.type)) = some y0 := by
  obtain ⟨xs, n, _, -, hl, hlen, hf⟩ := DataW.trod_struct ht h
  refine ⟨hl, ?_⟩
  match xs, hlen with
  | [y0], _ => exact ⟨y0, n, by simpa using hf 0 f0 rfl⟩
theorem threeN {α : Type} {l : List α} (h : l.length = 3) : ∃ c0 c1 c2, l = [c0, c1, c2] := by
  match l, h with
  | [c0, c1, c2], _ => exact ⟨c0, c1, c2, rfl⟩
theorem oneN {α : Type} {l : List α} (h : l.length = 1) : ∃ c0, l = [c0] := by
  match l, h with
  | [c0], _ => exact ⟨c0, rfl⟩
theorem nodes_in {fuel : Nat} {cs : List Value} {x : DataW H × List MemPlace} (h : DataW.trod enc Tryz.prog W 0 sp held fuel 22 cs = some x) : ∃ v ns, cs = [v] ∧ RdR argNodeE W v ns ∧ ns.length ≤ 9223372036854775807 ∧ ∀ e ∈ ns, okNd e := by
  rcases open_slice Tryz.underlying22 h with ⟨hcs, _⟩ | ⟨a, len, cap, m, n, D, Pl, rfl, hb, hl, hm, hmm, rfl, hx⟩
  · exact ⟨_, [], hcs, RdR.nil argNodeE W, by decide, fun _ h => by cases h⟩
  · unfold maxLen at hm
    have hlm : len ≤ m := by rw [hmm]; split <;> omega
    have hc3 : Tryz.prog.cellsOf 61 = 3 := by kernel_rfl
    have hc1 : Tryz.prog.cellsOf 3 = 1 := by kernel_rfl
    have hcs1 : Tryz.prog.cellsOf 9 = 1 := by kernel_rfl
    have each : ∀ i, i < len → ∃ g : Nd, ∀ j, j < 4 → (j < 3 → W.cell? ((a.add (i * 3)).add j) = (nodeC g)[j]?) ∧ okNd g := by
      intro i hi
      obtain ⟨cs', h1, h2⟩ := hx i (by omega)
      rw [hc3] at h1
      obtain ⟨_, hlen, hcell⟩ := World.cells?_some h1
      obtain ⟨-, y0, y1, y2, k, f0, f1, f2⟩ := trod_threeN Tryz.underlying61 h2
      simp only [hc1, hcs1] at f0 f1 f2
      obtain ⟨n0, e0, _⟩ := DataW.trod_int Tryz.underlying3 f0
      obtain ⟨n1, e1, _⟩ := DataW.trod_int Tryz.underlying3 f1
      obtain ⟨s2, e2, _, hs⟩ := Go.DataW.trod_string Tryz.underlying9 f2
      obtain ⟨c0, c1, c2, rfl⟩ := threeN hlen
      simp at e0 e1 e2
      subst e0 e1 e2
      exact ⟨⟨n0, n1, s2⟩, fun j _ => ⟨fun hj => hcell j hj, by unfold okNd; unfold maxLen at hs; simp only; omega⟩⟩
    have hch : ∃ G : Nat → Nd, ∀ i, i < len → ∀ j, j < 4 → (j < 3 → W.cell? ((a.add (i * 3)).add j) = (nodeC (G i))[j]?) ∧ okNd (G i) := by
      haveI : Inhabited Nd := ⟨nd0⟩
      exact choose_lt each
    obtain ⟨G, hG⟩ := hch
    refine ⟨_, (List.range len).map G, rfl, ⟨some a, cap, by simp, fun hne => ?_⟩, by simp; omega, fun e he => ?_⟩
    rotate_left
    · obtain ⟨i, hi, rfl⟩ := List.mem_map.1 he
      exact (hG i (List.mem_range.1 hi) 0 (by omega)).2
    have h0 : 0 < len := by
      rcases Nat.eq_zero_or_pos len with h | h
      · subst h; exact absurd rfl hne
      · exact h
    obtain ⟨b, off, spot⟩ := a
    have hc00 : W.cell? ((⟨b, off, spot⟩ : Addr).add (0 * 3) |>.add 0) = some (.int .i64 (G 0).k) := (hG 0 h0 0 (by omega)).1 (by omega)
    have hspot : spot = none := by
      have := World.cell?_spot hc00
      simpa [Addr.add] using this
    subst hspot
    refine ⟨⟨b, off, none⟩, rfl, rfl, ?_, fun i hi j hj => ?_⟩
    · have h1 := World.block_lt_of_cell? W _ hc00
      simpa [Addr.add] using h1
    · have hi' : i < len := by simpa using hi
      have hj3 : j < 3 := hj
      have h1 := (hG i hi' j (by omega)).1 hj3
      rw [add_off, add_off] at h1
      show W.cell? ⟨b, off + i * 3 + j, none⟩ = _
      rw [h1]
      simp [argNodeE]
theorem term_in {r : Reach} {b0 : Nat} {v : Value} {d : DataW H} {p : List MemPlace} (hv : Value.okWide Tryz.prog W r b0 24 v) (h : DataW.Trod enc Tryz.prog W 0 sp held 24 v d p) :
    ∃ u ns, v = .agg #[u] ∧ RdR argNodeE W u ns ∧ ns.length ≤ 9223372036854775807 ∧ ∀ e ∈ ns, okNd e := by
  obtain ⟨cs, rfl, hsz⟩ := okWide_struct Tryz.underlying24 hv
  obtain ⟨l⟩ := cs
  have hcl : Tryz.prog.cellsOf 22 = 1 := by kernel_rfl
  have hc1 : Tryz.prog.cellsOf 24 = 1 := by kernel_rfl
  obtain ⟨c0, rfl⟩ := oneN (show l.length = 1 from hsz.trans hc1)
  obtain ⟨fuel, hf⟩ := h
  obtain ⟨-, y0, k, f0⟩ := trod_oneN Tryz.underlying24 hf
  simp only [hcl, Value.cells] at f0
  obtain ⟨gv, ns, e0, hg, l1, l2⟩ := nodes_in f0
  simp at e0
  subst e0
  exact ⟨_, ns, rfl, hg, l1, l2⟩
end
end Go.Proofs.YtjagjhchnpmngaaGreatDoor

/-
  A region that draws its order, walked in one order: an operation may be taken first where what it reads is kept till it has come up. Conditions: as each says.
-/
namespace Go.Proofs.YtjagjhchnpmngaaGreatDoor
open Go.RowKit
set_option linter.unusedVariables false
set_option maxRecDepth 100000

section
variable {P : Program} {ops : Array Oper} {Q : Exit → Act → World → Prop} {md : Region.Mode} {Se Sa : World → Prop} {ap : Nat}
/-- Whatever order is picked: Se holds behind every operation, Sa till operation ap has come up. -/
def AnyL (P : Program) (md : Region.Mode) (ops : Array Oper) (Q : Exit → Act → World → Prop) (Se Sa : World → Prop) (ap : Nat) : Nat → Array Bool → Act → World → Prop
  | 0, listed, a, w => Region.ready md ops listed = [] ∧ Q .normal a w
  | fuel + 1, listed, a, w =>
    (Region.ready md ops listed = [] → Q .normal a w) ∧
    ∀ i ∈ Region.ready md ops listed, wpOp P ops Q i (fun a' w' => (Se w' ∧ ((listed.setIfInBounds i true).getD ap true = false → Sa w')) ∧ AnyL P md ops Q Se Sa ap fuel (listed.setIfInBounds i true) a' w') a w
theorem noTF {b : Bool} {p : Prop} (h1 : b = true) (h : b = false) : p := by rw [h1] at h; cases h
theorem op_at {ops : Array Oper} {i : Nat} {oi : Oper} {r : List Oper} (h : ops.toList.drop i = oi :: r) : ops[i]? = some oi := by
  have h1 : (ops.toList.drop i)[0]? = some oi := by rw [h]; rfl
  rw [List.getElem?_drop] at h1
  simpa using h1
theorem any_of_L : ∀ (fuel : Nat) (listed : Array Bool) (a : Act) (w : World), AnyL P md ops Q Se Sa ap fuel listed a w → wpAny P md ops Q fuel listed a w
  | 0, _, _, _, h => h
  | fuel + 1, _, _, _, h => ⟨h.1, fun i hi => wpOp_mono (fun a' w' h' => any_of_L fuel _ a' w' h'.2) (h.2 i hi)⟩
theorem AnyL.first {i : Nat} {oi : Oper} {v : Value} {C : World → Prop} (hi : ops[i]? = some oi) (hsel : ∀ (j : Nat) (o : Oper) cs b, ops[j]? = some o → o.op ≠ .select cs b)
    (hQ : ∀ c a w, Q (.panic c) (a.put oi.dst v) w → Q (.panic c) a w) (G : Array Bool → Prop)
    (hG : ∀ listed j, G listed → listed.getD i true = false → j ∈ Region.ready md ops listed → j ≠ i → G (listed.setIfInBounds j true))
    (hC : ∀ listed w, G listed → Se w → (listed.getD ap true = false → Sa w) → C w) (hia : i ≠ ap) :
    ∀ (fuel : Nat) (listed : Array Bool) (a : Act) (w : World), G listed →
      (∀ j oj, ops[j]? = some oj → j ≠ i → listed.getD j true = false → (∀ e ∈ oj.after, Region.binds md e = true → e.on ≠ i) → oi.apart ops oj = true) →
      i ∈ Region.ready md ops listed → YieldsIf P ops C oi v a → Se w → (listed.getD ap true = false → Sa w) →
      AnyL P md ops Q Se Sa ap fuel (listed.setIfInBounds i true) (a.put oi.dst v) w → AnyL P md ops Q Se Sa ap (fuel + 1) listed a w := by
  intro fuel
  induction fuel with
  | zero =>
    intro listed a w hg _ hr hy hS hA H
    refine ⟨fun h => (by rw [h] at hr; cases hr), fun j hj => ?_⟩
    by_cases hji : j = i
    · subst hji; exact hy.wpOp hi (hC _ _ hg hS hA) ⟨⟨hS, by rw [getD_set_ne true hia]; exact hA⟩, H⟩
    · have := ready_mono hj hji
      rw [H.1] at this
      cases this
  | succ fuel ih =>
    intro listed a w hg hfree hr hy hS hA H
    refine ⟨fun h => (by rw [h] at hr; cases hr), fun j hj => ?_⟩
    by_cases hji : j = i
    · subst hji; exact hy.wpOp hi (hC _ _ hg hS hA) ⟨⟨hS, by rw [getD_set_ne true hia]; exact hA⟩, H⟩
    · have h1 := H.2 j (ready_mono hj hji)
      have hun := (mem_ready.1 hr).1
      obtain ⟨hjun, oj, hoj, hall⟩ := mem_ready.1 hj
      have hnot : ∀ e ∈ oj.after, Region.binds md e = true → e.on ≠ i := fun e he hb heq => by
        have h1 := hall e he hb
        have h0 := hun
        rw [heq] at h1
        rcases Nat.lt_or_ge i listed.size with h' | h'
        · simp [h'] at h0 h1; rw [h0] at h1; cases h1
        · simp [Array.getElem?_eq_none h'] at h1
      have h2 := wpOp_putIf hoj (hfree j oj hoj hji hjun hnot) (fun cs b => hsel i oi cs b hi) (fun cs b => hsel j oj cs b hoj) hQ hy h1
      have hfree' : ∀ k ok, ops[k]? = some ok → k ≠ i → (listed.setIfInBounds j true).getD k true = false →
          (∀ e ∈ ok.after, Region.binds md e = true → e.on ≠ i) → oi.apart ops ok = true := fun k ok hk hki hun hno => by
        refine hfree k ok hk hki ?_ hno
        by_cases hjk : j = k
        · subst hjk; exact hjun
        · rw [getD_set_ne true hjk] at hun; exact hun
      refine wpOp_mono (fun a' w' h3 => ?_) h2
      have hA' : (listed.setIfInBounds j true).getD ap true = false → Sa w' := fun h => h3.2.1.2 (by
        rw [Array.setIfInBounds_comm _ _ (Ne.symm hji), getD_set_ne true hia]; exact h)
      refine ⟨⟨h3.2.1.1, hA'⟩, ih (listed.setIfInBounds j true) a' w' (hG listed j hg hun hj hji) hfree' (ready_mono hr (Ne.symm hji)) h3.1 h3.2.1.1 hA' ?_⟩
      rw [Array.setIfInBounds_comm _ _ hji]
      exact h3.2.2
/-- Take number i first: what it reads holds throughout. -/
theorem AnyL.take {i : Nat} {oi : Oper} {v : Value} {fuel : Nat} {listed : Array Bool} {a : Act} {w : World} {r : List Oper} (hi' : ops.toList.drop i = oi :: r)
    (hs : Region.noSelect ops = true) (hf : Region.free md ops listed i = true) (hr : (Region.ready md ops listed).contains i = true) (hia : (i == ap) = false)
    (hQ : ∀ c a w, Q (.panic c) (a.put oi.dst v) w → Q (.panic c) a w) (hw : Region.wanted oi (yielded ops a.tmps) = true) (hy : ∀ w, Se w → (execOp a.eval oi).run P w = .ok (.value v) w) (hS : Se w ∧ (listed.getD ap true = false → Sa w))
    (h : AnyL P md ops Q Se Sa ap fuel (listed.setIfInBounds i true) (a.put oi.dst v) w) : AnyL P md ops Q Se Sa ap (fuel + 1) listed a w :=
  have hi := op_at hi'
  AnyL.first (C := Se) hi (Region.noSelect_spec hs) hQ (fun _ => True) (fun _ _ _ _ _ _ => trivial) (fun _ _ _ h _ => h) (by simpa using hia) fuel listed a w trivial (Region.free_spec hi hf) (by simpa using hr) (Or.inl ⟨hw, hy⟩) hS.1 hS.2 h
/-- Take number i first: what it reads holds till ap has come up, and ap waits for it. -/
theorem AnyL.takeA {i : Nat} {oi oa : Oper} {v : Value} {fuel : Nat} {listed : Array Bool} {a : Act} {w : World} {r : List Oper} (hi' : ops.toList.drop i = oi :: r)
    (hs : Region.noSelect ops = true) (hf : Region.free md ops listed i = true) (hr : (Region.ready md ops listed).contains i = true) (hia : (i == ap) = false)
    {r2 : List Oper} (ha' : ops.toList.drop ap = oa :: r2) (hed : (oa.after.any fun e => Region.binds md e && e.on == i) = true) (hun : listed.getD ap true = false)
    (hQ : ∀ c a w, Q (.panic c) (a.put oi.dst v) w → Q (.panic c) a w) (hw : Region.wanted oi (yielded ops a.tmps) = true) (hy : ∀ w, Sa w → (execOp a.eval oi).run P w = .ok (.value v) w) (hS : Se w ∧ (listed.getD ap true = false → Sa w))
    (h : AnyL P md ops Q Se Sa ap fuel (listed.setIfInBounds i true) (a.put oi.dst v) w) : AnyL P md ops Q Se Sa ap (fuel + 1) listed a w := by
  have hi := op_at hi'
  refine AnyL.first (C := Sa) hi (Region.noSelect_spec hs) hQ (fun l => l.getD ap true = false) (fun l j hg hu hj hji => ?_) (fun _ _ hg _ h => h hg) (by simpa using hia) fuel listed a w hun (Region.free_spec hi hf) (by simpa using hr) (Or.inl ⟨hw, hy⟩) hS.1 hS.2 h
  by_cases hja : j = ap
  · exfalso
    subst hja
    obtain ⟨_, o, ho, hall⟩ := mem_ready.1 hj
    rw [op_at ha'] at ho
    cases ho
    obtain ⟨e, he, hb⟩ := Array.any_eq_true'.1 hed
    simp only [Bool.and_eq_true, beq_iff_eq] at hb
    have h1 := hall e he hb.1
    rw [hb.2] at h1
    rcases Nat.lt_or_ge i l.size with h' | h'
    · simp [h'] at hu h1; rw [hu] at h1; cases h1
    · simp [Array.getElem?_eq_none h'] at h1
  · show (l.setIfInBounds j true).getD ap true = false
    rw [getD_set_ne true hja]
    exact hg
/-- The one operation that may come up now is carried out. -/
theorem AnyL.step {i : Nat} {oi : Oper} {fuel : Nat} {listed : Array Bool} {a : Act} {w : World} {r : List Oper} (hr : Region.ready md ops listed = [i]) (hi' : ops.toList.drop i = oi :: r)
    (h : ∀ K' : Act → World → Prop, Shut (∀ a' w', Se w' → ((listed.setIfInBounds i true).getD ap true = false → Sa w') → AnyL P md ops Q Se Sa ap fuel (listed.setIfInBounds i true) a' w' → K' a' w') → if Region.wanted oi (yielded ops a.tmps) = true then Oper.wp P oi a w K' Q else K' (a.put oi.dst undef) w) :
    AnyL P md ops Q Se Sa ap (fuel + 1) listed a w := by
  refine ⟨fun h0 => (by rw [hr] at h0; cases h0), fun j hj => ?_⟩
  rw [hr] at hj
  have hji : j = i := by simpa using hj
  subst hji
  exact wpOp_step (op_at hi') fun K' hK => h K' fun a w h1 h2 h3 => hK a w ⟨⟨h1, h2⟩, h3⟩
theorem AnyL.done {listed : Array Bool} {a : Act} {w : World} (hr : Region.ready md ops listed = []) (h : Q .normal a w) : ∀ fuel, AnyL P md ops Q Se Sa ap fuel listed a w
  | 0 => ⟨hr, h⟩
  | _ + 1 => ⟨fun _ => h, by rw [hr]; simp⟩
theorem AnyL.start {id : Nat} {a : Act} {w : World} (Se Sa : World → Prop) (ap : Nat) (hm : P.follows .mixedOrders = true) (h : AnyL P .any ops Q Se Sa ap ops.size (Array.replicate ops.size false) a w.drew) : (Code.region id ops true).wp P Q a w :=
  wp_region_any hm (any_of_L _ _ _ _ h)
end
end Go.Proofs.YtjagjhchnpmngaaGreatDoor

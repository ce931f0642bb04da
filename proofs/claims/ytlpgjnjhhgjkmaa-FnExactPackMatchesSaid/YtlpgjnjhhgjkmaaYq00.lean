/-
  What the frames of the plain exact laws share. Conditions: none.
-/
import Derived.Test.YtlpgjnjhhgjkmaaRows
import Derived.WalkKit
import Derived.ProofKit
import Derived.OpenShut
import Derived.ShutString
import Derived.ChangeOld
import Derived.OpenVars
import Derived.Below
import Derived.Deep.DeepHandedRow
import Derived.Lib.LaidTab
import Derived.Test.YtlpgjnjhhgjkmaaBa06
import Derived.Test.YtlpgjnjhhgjkmaaBa05
import Derived.Test.YtlpgjnjhhgjkmaaBa00
import Derived.Deep.RegionHeld
import Derived.Test.YtlpgjnjhhgjkmaaBa02
import Derived.Test.YtlpgjnjhhgjkmaaBa01
namespace Go.Proofs.Ytlpgjnjhhgjkmaa
open Go.ChangeShapes Go.WideShapes Go.ChangeAt Go.RowKit

theorem own : ownKnob Try.prog.godebug = none := by kernel_rfl
theorem laidOut : laidOutB Try.prog = true := by kernel_rfl
theorem below_of_grown {w w' : World} (h : w.grownBy w' none) : Below w.heap.size w w' := ⟨h.os, h.tape, h.output, h.size, fun k hk => h.block k hk (by simp)⟩
end Go.Proofs.Ytlpgjnjhhgjkmaa

/-
  Lists of graphs: how they lie in memory; how much they take of a budget. Conditions: lengths are small.
-/
namespace Go.Proofs.Ytlpgjnjhhgjkmaa
open Go.RowKit
set_option linter.unusedVariables false
set_option maxRecDepth 100000

/-- A graph with the slices that hold it. -/
structure XG where
  n : Int
  ev : Value
  xs : List XE
  iv : Value
  is : List Int
  ov : Value
  os : List Int
def XG.gr (x : XG) : Gr := ⟨x.n, eds x.xs, x.is, x.os⟩
def graphC (x : XG) : List Value := [.int .i64 x.n, x.ev, x.iv, x.ov]
def graphE : Lay XG := ⟨29, 4, graphC, fun _ => rfl, by decide⟩
def argGrE : Lay XG := ⟨25, 4, graphC, fun _ => rfl, by decide⟩
def xg0 : XG := ⟨0, nilS, [], nilS, [], nilS, []⟩
def grs (ys : List XG) : List Gr := ys.map XG.gr
/-- A list of graphs that can be read. -/
def RdGs (E : Lay XG) (F : Lay XE) (w : World) (v : Value) (gs : List Gr) : Prop :=
  ∃ ys : List XG, grs ys = gs ∧ RdR E w v ys ∧ ∀ y ∈ ys, RdE F w y.ev y.gr.es ∧ IntsV w y.iv y.gr.i ∧ IntsV w y.ov y.gr.o
def rowsG (ys : List XG) : List Asrt := ys.flatMap fun y => [OE y.ev y.xs, OI y.iv y.is, OI y.ov y.os]
/-- A list of graphs that is the call's own. -/
def OG (v : Value) (ys : List XG) : Asrt := Bag (OR graphE v ys :: rowsG ys)
theorem RdGs.carry {E : Lay XG} {F : Lay XE} {w w' : World} {v : Value} {gs : List Gr} (h : RdGs E F w v gs) (hg : w.grownBy w' none) : RdGs E F w' v gs := by
  obtain ⟨xs, h1, h2, h3⟩ := h
  exact ⟨xs, h1, h2.carry hg, fun x hx => ⟨(h3 x hx).1.carry hg, (h3 x hx).2.1.carry hg, (h3 x hx).2.2.carry hg⟩⟩
theorem grs_len (ys : List XG) : (grs ys).length = ys.length := by simp [grs]
theorem RdGs.shape {E : Lay XG} {F : Lay XE} {w : World} {v : Value} {gs : List Gr} (h : RdGs E F w v gs) : ∃ a c, v = .slice a gs.length c := by
  obtain ⟨xs, h1, h2, _⟩ := h
  obtain ⟨a, c, rfl, _⟩ := h2
  exact ⟨a, c, by rw [← h1, grs_len]⟩
theorem OG.read {w : World} {v : Value} {ys : List XG} (h : (OG v ys).holds w) : RdGs graphE edgeE w v (grs ys) := by
  have ha := Sep.all (show Sep w (OR graphE v ys :: rowsG ys) from h)
  have hm : ∀ y ∈ ys, ∀ A ∈ [OE y.ev y.xs, OI y.iv y.is, OI y.ov y.os], A.holds w := fun y hy A hA => ha A (List.mem_cons_of_mem _ (List.mem_flatMap.2 ⟨y, hy, hA⟩))
  refine ⟨ys, rfl, OwnR.read (show OwnR graphE 0 w v ys from ha (OR graphE v ys) (by simp)), fun y hy => ⟨?_, ?_, ?_⟩⟩
  · exact OE.read (hm y hy (OE y.ev y.xs) (by simp))
  · exact OwnInts.read (show OwnInts 0 w y.iv y.is from hm y hy (OI y.iv y.is) (by simp))
  · exact OwnInts.read (show OwnInts 0 w y.ov y.os from hm y hy (OI y.ov y.os) (by simp))
theorem rowsG_snoc (ys : List XG) (y : XG) : rowsG (ys ++ [y]) = rowsG ys ++ [OE y.ev y.xs, OI y.iv y.is, OI y.ov y.os] := by
  unfold rowsG
  rw [List.flatMap_append]
  simp
theorem OG_own {v : Value} {ys : List XG} : ∀ k, (OG v ys).sees k → (OG v ys).foot k := by
  rintro k ⟨A, hA, hk⟩
  refine ⟨A, hA, ?_⟩
  rcases List.mem_cons.1 hA with rfl | hA
  · exact hk
  · obtain ⟨x, _, hx⟩ := List.mem_flatMap.1 hA
    simp only [List.mem_cons, List.not_mem_nil, or_false] at hx
    rcases hx with rfl | rfl | rfl
    · exact OE_own k hk
    · exact hk
    · exact hk
theorem OG.shape {w : World} {v : Value} {ys : List XG} (h : (OG v ys).holds w) : ∃ a c, v = .slice a ys.length c := OwnR.shape (show OwnR graphE 0 w v ys from (show Sep w (OR graphE v ys :: rowsG ys) from h).hd)
def gr00 : Gr := ⟨0, [], [], []⟩
theorem grs_at {xs : List XG} {i : Nat} : (grs xs).getD i gr00 = (xs.getD i xg0).gr := by
  unfold grs
  rw [List.getD_eq_getElem?_getD, List.getElem?_map, List.getD_eq_getElem?_getD]
  cases xs[i]? <;> rfl
/-- What every later world holds of graph i. -/
theorem RdGs.atK {E : Lay XG} {F : Lay XE} (h1 : E.sz = 4) (h2 : E.cs = graphC) {w : World} {a : Option Addr} {n c : Nat} {gs : List Gr} (h : RdGs E F w (.slice a n c) gs) {i : Nat} (hi : i < gs.length) :
    ∃ b o ev iv ov, a = some ⟨b, o, none⟩ ∧ ∀ W, w.grownBy W none → (W.cell? ⟨b, o + i * 4, none⟩ = some (.int .i64 (gs.getD i gr00).n) ∧ W.cell? ⟨b, o + i * 4 + 1, none⟩ = some ev ∧
      W.cell? ⟨b, o + i * 4 + 2, none⟩ = some iv ∧ W.cell? ⟨b, o + i * 4 + 3, none⟩ = some ov) ∧ RdE F W ev (gs.getD i gr00).es ∧ IntsV W iv (gs.getD i gr00).i ∧ IntsV W ov (gs.getD i gr00).o := by
  obtain ⟨xs, rfl, hr, hx⟩ := h
  have hil : i < xs.length := by simpa [grs] using hi
  obtain ⟨b, o, rfl, hb, hc⟩ := hr.at hil
  rw [grs_at, List.getD_eq_getElem?_getD, List.getElem?_eq_getElem hil]
  simp only [Option.getD_some]
  have hm := hx xs[i] (List.getElem_mem _)
  refine ⟨b, o, xs[i].ev, xs[i].iv, xs[i].ov, rfl, fun W hg => ⟨⟨?_, ?_, ?_, ?_⟩, hm.1.carry hg, hm.2.1.carry hg, hm.2.2.carry hg⟩⟩
  · refine (World.cell?_of_block (a := ⟨b, o + i * 4, none⟩) (hg.block b hb (by simp))).trans ?_
    have := hc 0 (by omega)
    rw [h1, h2] at this
    exact this
  · refine (World.cell?_of_block (a := ⟨b, o + i * 4 + 1, none⟩) (hg.block b hb (by simp))).trans ?_
    have := hc 1 (by omega)
    rw [h1, h2] at this
    exact this
  · refine (World.cell?_of_block (a := ⟨b, o + i * 4 + 2, none⟩) (hg.block b hb (by simp))).trans ?_
    have := hc 2 (by omega)
    rw [h1, h2] at this
    exact this
  · refine (World.cell?_of_block (a := ⟨b, o + i * 4 + 3, none⟩) (hg.block b hb (by simp))).trans ?_
    have := hc 3 (by omega)
    rw [h1, h2] at this
    exact this
/-! ### sizes -/
def totGs : List Gr → Nat
  | [] => 0
  | g :: gs => totG g + totGs gs
theorem totGs_take (gs : List Gr) (k : Nat) (hk : k < gs.length) : totGs (gs.take (k + 1)) = totGs (gs.take k) + totG (gs.getD k gr00) := by
  induction gs generalizing k with
  | nil => simp at hk
  | cons e es ih =>
    cases k with
    | zero => simp [totGs]
    | succ k =>
      have := ih k (by simpa using hk)
      simp only [List.take_succ_cons, totGs, List.getD_cons_succ]
      omega
theorem totGs_le (gs : List Gr) (k : Nat) : totGs (gs.take k) ≤ totGs gs := by
  induction gs generalizing k with
  | nil => simp
  | cons e es ih =>
    cases k with
    | zero => simp [totGs]
    | succ k =>
      have := ih k
      simp only [List.take_succ_cons, totGs]
      omega
theorem totGs_mem {gs : List Gr} {g : Gr} (h : g ∈ gs) : totG g ≤ totGs gs := by
  induction gs with
  | nil => cases h
  | cons x es ih =>
    unfold totGs
    rcases List.mem_cons.1 h with rfl | h
    · omega
    · have := ih h
      omega
/-- A graph whose lengths are small. -/
structure Sm (g : Gr) : Prop where
  es : g.es.length ≤ 1048576
  i : g.i.length ≤ 1048576
  o : g.o.length ≤ 1048576
  ed : ∀ e ∈ g.es, e.i.length ≤ 1048576 ∧ e.o.length ≤ 1048576
theorem Sm.of {g : Gr} (h : totG g ≤ 1048576) : Sm g := by
  unfold totG at h
  refine ⟨by omega, by omega, by omega, fun e he => ?_⟩
  have := tot_mem he
  exact ⟨by omega, by omega⟩
theorem getD_mem {α : Type} {l : List α} {i : Nat} {d : α} (h : i < l.length) : l.getD i d ∈ l := by
  rw [List.getD_eq_getElem?_getD, List.getElem?_eq_getElem h]
  exact List.getElem_mem _
end Go.Proofs.Ytlpgjnjhhgjkmaa

/-
  Own copies of lists of graphs; equal lists of graphs. Conditions: lengths are small.
-/
namespace Go.Proofs.Ytlpgjnjhhgjkmaa
open Go.RowKit
set_option linter.unusedVariables false
set_option maxRecDepth 100000

theorem info_graph : (Try.prog.info? graphE.ty).map (fun i => (i.zero, i.size, i.bytes)) = some (some (.agg #[.int .i64 0, .slice none 0 0, .slice none 0 0, .slice none 0 0]), graphE.sz, 80) := by kernel_rfl
theorem zeroGraph_cells : (Value.agg #[.int .i64 0, .slice none 0 0, .slice none 0 0, .slice none 0 0]).cells.toList = graphE.cs xg0 := rfl
theorem graph_cells {w : World} {g n cap B : Nat} {xs : List XG} (h : OwnR graphE B w (.slice (some ⟨g, 0, none⟩) n cap) xs) (hn : n = xs.length) {i : Nat} (hi : i < xs.length) :
    w.cell? ⟨g, i * 4, none⟩ = some (.int .i64 (xs.getD i xg0).n) ∧ w.cell? ⟨g, i * 4 + 1, none⟩ = some (xs.getD i xg0).ev ∧
      w.cell? ⟨g, i * 4 + 2, none⟩ = some (xs.getD i xg0).iv ∧ w.cell? ⟨g, i * 4 + 3, none⟩ = some (xs.getD i xg0).ov := by
  have e : xs.getD i xg0 = xs[i] := by rw [List.getD_eq_getElem?_getD, List.getElem?_eq_getElem hi]; rfl
  rw [e]
  have hc := fun j hj => h.cell hn (i := i) (j := j) hi hj
  exact ⟨hc 0 (by decide), hc 1 (by decide), hc 2 (by decide), hc 3 (by decide)⟩
theorem graph_free {w : World} {g n cap B : Nat} {xs : List XG} (h : OwnR graphE B w (.slice (some ⟨g, 0, none⟩) n cap) xs) (hn : n = xs.length) (i : Nat) :
    w.frozen? ⟨g, i * 4, none⟩ = false ∧ w.frozen? ⟨g, i * 4 + 1, none⟩ = false ∧ w.frozen? ⟨g, i * 4 + 2, none⟩ = false ∧ w.frozen? ⟨g, i * 4 + 3, none⟩ = false :=
  ⟨h.free hn _, h.free hn _, h.free hn _, h.free hn _⟩
/-- all four cells of a graph are written -/
theorem Sep.setG {w : World} {g n cap : Nat} {xs : List XG} {l : List Asrt} (h : Sep w (OR graphE (.slice (some ⟨g, 0, none⟩) n cap) xs :: l)) (hn : n = xs.length) {i : Nat} (hi : i < xs.length) (y : XG) :
    Sep ((((w.setCell ⟨g, i * 4, none⟩ (.int .i64 y.n)).setCell ⟨g, i * 4 + 1, none⟩ y.ev).setCell ⟨g, i * 4 + 2, none⟩ y.iv).setCell ⟨g, i * 4 + 3, none⟩ y.ov)
      (OR graphE (.slice (some ⟨g, 0, none⟩) n cap) (xs.set i y) :: l) := by
  have h1 := h.setR (E := graphE) hn (i := i) (j := 0) (y := ⟨y.n, xs[i].ev, [], xs[i].iv, [], xs[i].ov, []⟩) (u := .int .i64 y.n) hi (by decide) rfl
  have h2 := h1.setR (E := graphE) (by simpa using hn) (i := i) (j := 1) (y := ⟨y.n, y.ev, [], xs[i].iv, [], xs[i].ov, []⟩) (u := y.ev) (by simpa using hi) (by decide) (by simp [graphE, graphC])
  have h3 := h2.setR (E := graphE) (by simpa using hn) (i := i) (j := 2) (y := ⟨y.n, y.ev, [], y.iv, [], xs[i].ov, []⟩) (u := y.iv) (by simpa using hi) (by decide) (by simp [graphE, graphC])
  have h4 := h3.setR (E := graphE) (by simpa using hn) (i := i) (j := 3) (y := y) (u := y.ov) (by simpa using hi) (by decide) (by simp [graphE, graphC])
  simp only [List.set_set] at h4
  exact h4
/-- Three parts behind the first go into the bag. -/
theorem Sep.bagThree {w : World} {X A B C : Asrt} {L r : List Asrt} (h : Sep w (X :: A :: B :: C :: Bag L :: r)) : Sep w (X :: Bag (L ++ [A, B, C]) :: r) := by
  have h1 := Sep.unbag h.s5
  have h2 : Sep w ((L ++ [A, B, C]) ++ (X :: r)) := Sep.perm (by rw [List.append_assoc]; exact List.Perm.append_left L (List.perm_middle (a := X) (l₁ := [A, B, C]) (l₂ := r)).symm) h1
  exact (Sep.bag h2).s2
theorem Sep.graft3 {w w' : World} {A C D : Asrt} {l : List Asrt} (h : Sep w l) (h' : Sep w' [A, C, D, KeepA w]) (hA : ∀ k, A.sees k → A.foot k) (hC : ∀ k, C.sees k → C.foot k) (hD : ∀ k, D.sees k → D.foot k) : Sep w' (A :: C :: D :: l) := by
  have hb : Sep w' [Bag [A, C, D], KeepA w] := Sep.bag (l := [A, C, D]) h'
  have h2 := h.graft1 hb (fun k hk => by
    obtain ⟨X, hX, hs⟩ := hk
    refine ⟨X, hX, ?_⟩
    simp only [List.mem_cons, List.not_mem_nil, or_false] at hX
    rcases hX with rfl | rfl | rfl
    · exact hA k hs
    · exact hC k hs
    · exact hD k hs)
  exact Sep.unbag h2
theorem fillG_set {xs : List XG} {n k : Nat} {x : XG} (hl : xs.length = k) (hk : k < n) : (xs ++ List.replicate (n - k) xg0).set k x = (xs ++ [x]) ++ List.replicate (n - (k + 1)) xg0 := by
  rw [List.set_append_right _ _ (by omega), hl, Nat.sub_self, show n - k = (n - (k + 1)) + 1 by omega, List.replicate_succ, List.set_cons_zero, List.append_assoc]
  rfl
theorem grs_take {gs : List Gr} {xs : List XG} {x : XG} {k : Nat} (h : grs xs = gs.take k) (hk : k < gs.length) (hx : x.gr = gs.getD k gr00) : grs (xs ++ [x]) = gs.take (k + 1) := by
  unfold grs at h ⊢
  rw [List.map_append, h, List.take_succ_eq_append_getElem hk, List.map_cons, List.map_nil, hx, List.getD_eq_getElem?_getD, List.getElem?_eq_getElem hk]
  rfl
end Go.Proofs.Ytlpgjnjhhgjkmaa

/-
  Appending the items of a list that can be read: nil, empty or not. Conditions: lengths are small.
-/
namespace Go.Proofs.Ytlpgjnjhhgjkmaa
open Go.RowKit
set_option linter.unusedVariables false
set_option maxRecDepth 100000

theorem run_none_any {P : Program} (w : World) (base : Nat) (t ty e : TypeId) (i : TypeInfo) (size : Nat) (ht : P.underlying t = some (.slice e)) (hi : P.info? e = some i)
    (v : Value) (n : Nat) (xs : List Value) (hown : w.ownsRow base e size v n xs) (d : Option Addr) (c : Nat) : (Builtin.append_ #[t, t] ty #[v, .slice d 0 c]).run P w = .ok v w := by
  cases d with
  | none => exact run_nil_any w base t ty e i size ht hi v n xs hown c
  | some d =>
    rcases hown.2 with ⟨rfl, rfl⟩ | ⟨g, cap, cur, rfl, _, _, hnc, _⟩
    · simp [Builtin.append_, run_underlying ht, sizeOf, typeInfo, hi, Builtin.lenOf, Builtin.firstCells, loadCells, go_sem]
    · simp [Builtin.append_, run_underlying ht, sizeOf, typeInfo, hi, Builtin.lenOf, Builtin.firstCells, hnc, loadCells, storeCells, go_sem]
section
variable {α : Type} {E : Lay α} {ops : Array Oper} {rest : List Oper} {o : Oper} {a : Act} {Q : Exit → Act → World → Prop} {K : Act → World → Prop} {Ex : Prop} {w : World} {v u : Value} {xs ys : List α} {l : List Asrt} {t : TypeId} {z : Value} {bytes : Nat} {zs is : List Int}
theorem rdR_news {d : Addr} {n c : Nat} (h : RdR E w (.slice (some d) n c) ys) : ∀ j u, (ys.flatMap E.cs)[j]? = some u → w.cell? (d.add j) = some u := by
  intro j u hj
  obtain ⟨a', cap', he, h⟩ := h
  cases he
  have hjl : j < ys.length * E.sz := by
    rcases Nat.lt_or_ge j (ys.length * E.sz) with h | h
    · exact h
    · rw [List.getElem?_eq_none (by rw [flat_len]; exact h)] at hj; cases hj
  have hne : ys ≠ [] := by
    intro h0
    subst h0
    simp at hjl
  obtain ⟨d', hd, hs, hdb, hc⟩ := h hne
  cases hd
  obtain ⟨db, dof, ds⟩ := d
  simp only at hs
  subst hs
  have h1 : j / E.sz < ys.length := Nat.div_lt_of_lt_mul (by rw [Nat.mul_comm]; exact hjl)
  have h2 : j % E.sz < E.sz := Nat.mod_lt _ E.pos
  have h3 := hc (j / E.sz) h1 (j % E.sz) h2
  have h4 := flat_at E ys h1 h2
  rw [show j / E.sz * E.sz + j % E.sz = j by rw [Nat.mul_comm]; exact Nat.div_add_mod _ _] at h4
  rw [← h4, hj] at h3
  simp only at h3
  rw [Nat.add_assoc, show j / E.sz * E.sz + j % E.sz = j by rw [Nat.mul_comm]; exact Nat.div_add_mod _ _] at h3
  unfold Addr.add
  split
  · next h0 => subst h0; simpa using h3
  · exact h3
/-- 'append(out, ys...)', out the call's own, ys readable. -/
theorem wp_app_Rs (hinfo : (Try.prog.info? E.ty).map (fun i => (i.zero, i.size, i.bytes)) = some (some z, E.sz, bytes)) (hzs : z.cells.size = E.sz) (hby : bytes ≤ 10000) (ht : Try.prog.underlying t = some (.slice E.ty)) (hone : ∀ y ∈ ys, ∀ u ∈ E.cs y, u.oneCell' = true)
    (s x : Operand) (ho : o.op = .call { callee := .builtin .append, args := #[s, x], argTypes := #[t, t] })
    (hs : a.eval s = v) (hx : a.eval x = u) (H : Sep w (OR E v xs :: l)) (hu : RdR E w u ys) (hl : xs.length + ys.length ≤ 10000000)
    (h : ∀ v' w', Sep w' (OR E v' (xs ++ ys) :: l) → K (a.put o.dst v') w') : o.wp Try.prog a w K Q := by
  obtain ⟨i0, hi, hz0, hz1, hz2⟩ := info_parts hinfo
  obtain ⟨ua, uc, rfl⟩ := hu.shape
  by_cases hy : ys = []
  · subst hy
    have hrun := run_none_any (P := Try.prog) w 0 t o.type E.ty i0 E.sz ht hi v xs.length _ H.hd ua uc
    unfold Oper.wp execOp
    simp only [ho, resolve, invoke, builtin, Sem.run_bind, Sem.run_pure, Result.andThen_ok, List.map_toArray, List.map_cons, List.map_nil, hs, hx, List.length_nil, hrun]
    exact h v w (by simpa using H)
  · have hpos : 0 < ys.length := List.length_pos_iff.2 hy
    obtain ⟨d, rfl⟩ : ∃ d, ua = some d := by
      obtain ⟨a', c', he, h⟩ := hu
      obtain ⟨d, hd, _⟩ := h hy
      cases he
      exact ⟨d, hd⟩
    have hb : (xs.length + ys.length) * bytes ≤ 140737488355328 := Nat.le_trans (Nat.mul_le_mul hl hby) (by decide)
    refine wp_append_lies (P := Try.prog) _ s x t ho 0 E.ty i0 z E.sz bytes ht hi hz0 hz1 hz2 hzs E.pos v xs.length (xs.flatMap E.cs) hs H.hd
      d ys.length uc (ys.flatMap E.cs) hx (flat_len E ys) (rdR_news hu) (fun u hu => by obtain ⟨y, hy, hy'⟩ := List.mem_flatMap.1 hu; exact hone y hy u hy') hpos (by unfold maxLen; omega) hb (Nat.zero_le _) _ rfl ?_
    intro g cap w1 hown' hgrow hg _
    have ho' : OwnR E 0 w1 (.slice (some ⟨g, 0, none⟩) (xs.length + ys.length) cap) (xs ++ ys) := by
      unfold OwnR
      rw [List.length_append, List.flatMap_append]
      exact hown'
    refine h _ w1 (H.upd' (Only.of_grown (S := Hits v) hgrow fun k hk => hk) ho' fun k hk => ?_)
    have : g = k := by simpa [OR, Hits, Value.ownBlock] using hk
    subst this
    exact hg.imp id (fun h => Nat.le_of_eq h.symm)
theorem app_Rs (hinfo : (Try.prog.info? E.ty).map (fun i => (i.zero, i.size, i.bytes)) = some (some z, E.sz, bytes)) (hzs : z.cells.size = E.sz) (hby : bytes ≤ 10000) (ht : Try.prog.underlying t = some (.slice E.ty)) (hone : ∀ y ∈ ys, ∀ u ∈ E.cs y, u.oneCell' = true)
    (hgd : o.guard = none) (s x : Operand) (ho : o.op = .call { callee := .builtin .append, args := #[s, x], argTypes := #[t, t] })
    (hs : a.eval s = v) (hx : a.eval x = u) (H : Sep w (OR E v xs :: l)) (hu : RdR E w u ys) (hl : xs.length + ys.length ≤ 10000000)
    (h : ∀ v' w', Sep w' (OR E v' (xs ++ ys) :: l) → wpList Try.prog ops Q rest (a.put o.dst v') w') : wpList Try.prog ops Q (o :: rest) a w :=
  wpList_plain hgd fun _ hK => wp_app_Rs hinfo hzs hby ht hone s x ho hs hx H hu hl fun v' w' h1 => hK _ _ (h v' w' h1)
theorem IntsV.news {d : Addr} {n c : Nat} (h : IntsV w (.slice (some d) n c) is) : ∀ j u, (is.map (Value.int .i64))[j]? = some u → w.cell? (d.add j) = some u := by
  intro j u hj
  obtain ⟨a', cap', he, h⟩ := h
  cases he
  have hjl : j < is.length := by
    rcases Nat.lt_or_ge j is.length with h | h
    · exact h
    · rw [List.getElem?_eq_none (by simpa using h)] at hj; cases hj
  obtain ⟨d', hd, hs, hdb, hc⟩ := h (by intro h0; subst h0; simp at hjl)
  cases hd
  have h3 := hc j hjl
  simp [hjl] at hj
  subst hj
  obtain ⟨db, dof, ds⟩ := d
  simp only at hs
  subst hs
  unfold Addr.add
  split
  · next h0 => subst h0; simpa using h3
  · exact h3
/-- the same for lists of numbers -/
theorem wp_app_intsS (s x : Operand) (ho : o.op = .call { callee := .builtin .append, args := #[s, x], argTypes := #[23, 23] })
    (hs : a.eval s = v) (hx : a.eval x = u) (H : Sep w (OI v zs :: l)) (hu : IntsV w u is) (hl : zs.length + is.length ≤ 1000000000)
    (h : ∀ v' w', Sep w' (OI v' (zs ++ is) :: l) → K (a.put o.dst v') w') : o.wp Try.prog a w K Q := by
  obtain ⟨i0, hi, hz0, hz1, hz2⟩ := info_parts info_int
  obtain ⟨ua, uc, rfl⟩ := hu.shape
  by_cases hy : is = []
  · subst hy
    have hrun := run_none_any (P := Try.prog) w 0 23 o.type 3 i0 1 Try.underlying23 hi v zs.length _ H.hd ua uc
    unfold Oper.wp execOp
    simp only [ho, resolve, invoke, builtin, Sem.run_bind, Sem.run_pure, Result.andThen_ok, List.map_toArray, List.map_cons, List.map_nil, hs, hx, List.length_nil, hrun]
    exact h v w (by simpa using H)
  · have hpos : 0 < is.length := List.length_pos_iff.2 hy
    obtain ⟨d, rfl⟩ : ∃ d, ua = some d := by
      obtain ⟨a', c', he, h⟩ := hu
      obtain ⟨d, hd, _⟩ := h hy
      cases he
      exact ⟨d, hd⟩
    refine wp_append_lies (P := Try.prog) _ s x 23 ho 0 3 i0 (.int .i64 0) 1 8 Try.underlying23 hi hz0 hz1 hz2 rfl (by decide) v zs.length (zs.map (Value.int .i64)) hs H.hd
      d is.length uc (is.map (Value.int .i64)) hx (by simp) hu.news (fun u hu => by obtain ⟨y, _, rfl⟩ := List.mem_map.1 hu; rfl) hpos (by unfold maxLen; omega) (by omega) (Nat.zero_le _) _ rfl ?_
    intro g cap w1 hown' hgrow hg _
    have ho' : OwnInts 0 w1 (.slice (some ⟨g, 0, none⟩) (zs.length + is.length) cap) (zs ++ is) := by
      unfold OwnInts
      rw [List.length_append, List.map_append]
      exact hown'
    refine h _ w1 (H.upd' (Only.of_grown (S := Hits v) hgrow fun k hk => hk) ho' fun k hk => ?_)
    have : g = k := by simpa [OI, Hits, Value.ownBlock] using hk
    subst this
    exact hg.imp id (fun h => Nat.le_of_eq h.symm)
theorem app_intsS (hgd : o.guard = none) (s x : Operand) (ho : o.op = .call { callee := .builtin .append, args := #[s, x], argTypes := #[23, 23] })
    (hs : a.eval s = v) (hx : a.eval x = u) (H : Sep w (OI v zs :: l)) (hu : IntsV w u is) (hl : zs.length + is.length ≤ 1000000000)
    (h : ∀ v' w', Sep w' (OI v' (zs ++ is) :: l) → wpList Try.prog ops Q rest (a.put o.dst v') w') : wpList Try.prog ops Q (o :: rest) a w :=
  wpList_plain hgd fun _ hK => wp_app_intsS s x ho hs hx H hu hl fun v' w' h1 => hK _ _ (h v' w' h1)
end
end Go.Proofs.Ytlpgjnjhhgjkmaa

/-
  Lists of lists: all joined; is a list a permutation; the program's check that each number occurs once. Conditions: lengths are small.
-/
namespace Go.Proofs.Ytlpgjnjhhgjkmaa
open Go.RowKit
set_option linter.unusedVariables false
set_option maxRecDepth 100000

/-- A list with the slice that holds it. -/
structure RX where
  v : Value
  zs : List Int
def rowE : Lay RX := ⟨23, 1, fun x => [x.v], fun _ => rfl, by decide⟩
def rx0 : RX := ⟨nilS, []⟩
theorem info_row : (Try.prog.info? rowE.ty).map (fun i => (i.zero, i.size, i.bytes)) = some (some (.slice none 0 0), rowE.sz, 24) := by kernel_rfl
/-- A list of lists that can be read. -/
def RdL (w : World) (v : Value) (xs : List RX) : Prop := RdR rowE w v xs ∧ ∀ x ∈ xs, IntsV w x.v x.zs
theorem RdL.carry {w w' : World} {v : Value} {xs : List RX} (h : RdL w v xs) (hg : w.grownBy w' none) : RdL w' v xs := ⟨h.1.carry hg, fun x hx => (h.2 x hx).carry hg⟩
def joinL (xs : List RX) : List Int := xs.flatMap RX.zs
theorem joinL_take {xs : List RX} {k : Nat} (hk : k < xs.length) : joinL (xs.take (k + 1)) = joinL (xs.take k) ++ (xs.getD k rx0).zs := by
  unfold joinL
  rw [List.take_succ_eq_append_getElem hk, List.flatMap_append, List.getD_eq_getElem?_getD, List.getElem?_eq_getElem hk]
  simp
theorem joinL_le (xs : List RX) (k : Nat) : (joinL (xs.take k)).length ≤ (joinL xs).length := by
  have h : joinL xs = joinL (xs.take k) ++ joinL (xs.drop k) := by unfold joinL; rw [← List.flatMap_append, List.take_append_drop]
  rw [h, List.length_append]
  omega
theorem RdL.at {w : World} {a : Option Addr} {n c : Nat} {xs : List RX} (h : RdL w (.slice a n c) xs) {i : Nat} (hi : i < xs.length) : ∃ b o, a = some ⟨b, o, none⟩ ∧ w.cell? ⟨b, o + i, none⟩ = some (xs.getD i rx0).v ∧ IntsV w (xs.getD i rx0).v (xs.getD i rx0).zs := by
  obtain ⟨b, o, ha, _, hc⟩ := h.1.at hi
  have e : xs.getD i rx0 = xs[i] := by rw [List.getD_eq_getElem?_getD, List.getElem?_eq_getElem hi]; rfl
  rw [e]
  refine ⟨b, o, ha, ?_, h.2 _ (List.getElem_mem _)⟩
  have := hc 0 (by decide)
  simpa [rowE] using this
set_option maxHeartbeats 1000000 in
theorem joined_any (v : Value) (xs : List RX) (w : World) (hv : RdL w v xs) (hl : xs.length ≤ 1000000) (hj : (joinL xs).length ≤ 1000000) :
    Calls Try.prog 90 #[v] w fun e w' => ∃ u, e = .returned u ∧ Sep w' [OI u (joinL xs), KeepA w] := by
  have HV := Lib.hid hv; have HJ := Lib.hid hj
  obtain ⟨a, c, rfl⟩ := hv.1.shape
  clear hv hj
  generalize hn : xs.length = n at *
  have HN := Lib.hid hn
  clear hn
  have HS0 := Lib.hid ((Sep.start w).emptyI)
  go_enter Try.func90, Try.ntmps90
  go_wp2_with fail
  go_loopw [3, 5, 9] (fun ov _ i wr => ∃ k : Nat, k ≤ n ∧ i = .int .i64 k ∧ Sep wr [OI ov (joinL (xs.take k)), KeepA w]) (fun _ _ i _ => n - (intOf i).toNat)
  case atStart => exact ⟨0, by omega, rfl, by simpa [joinL] using HS0.out⟩
  case round =>
    obtain ⟨k, hk, rfl, hs⟩ := hrel
    have HSX := Lib.hid hs
    clear hs HS0
    by_cases hlt : k < n
    · have hkx : k < xs.length := by rw [HN.out]; exact hlt
      obtain ⟨b, o, rfl, hc, hi⟩ := (HV.out.carry HSX.out.tl.hd).at hkx
      have HT := Lib.hid (joinL_take hkx)
      have hle := joinL_le xs (k + 1)
      have hle2 := HJ.out
      rw [HT.out, List.length_append] at hle
      have HL := Lib.hid (show (joinL (xs.take k)).length + (xs.getD k rx0).zs.length ≤ 1000000000 by omega)
      generalize xs.getD k rx0 = y at *
      obtain ⟨yv, yz⟩ := y
      simp only at hc hi HL
      have HI := Lib.hid hi
      obtain ⟨a1, c1, rfl⟩ := hi.shape
      obtain ⟨a2, c2, rfl⟩ := own_shape (show OwnInts 0 wr u3 _ from HSX.out.hd)
      clear hkx hle hle2 hi
      go_wp2_with (
        refine app_intsS rfl (.tmp 13) (.tmp 14) rfl rfl rfl HSX.out HI.out HL.out ?_
        intro v' w' h'
        have HS2 := Lib.hid h'
        clear h')
      go_roundw
      case rel => exact ⟨k + 1, by omega, by go_num, by rw [HT.out]; exact HS2.out⟩
      case measure => simp [intOf]; omega
    · have hkn : k = n := by omega
      subst hkn
      have hs := HSX.out
      rw [List.take_of_length_le (by rw [HN.out]; exact Nat.le_refl _)] at hs
      have HF := Lib.hid hs
      clear hs hlt
      go_wp2
      go_ret
      exact ⟨_, rfl, HF.out⟩
end Go.Proofs.Ytlpgjnjhhgjkmaa

/-
  A region that draws its order, walked in one order: an operation may be taken first where what it reads is kept till it has come up. Conditions: as each says.
-/
namespace Go.Proofs.Ytlpgjnjhhgjkmaa
open Go.RowKit
set_option linter.unusedVariables false
set_option maxRecDepth 100000

section
variable {P : Program} {ops : Array Oper} {Q : Exit → Act → World → Prop} {md : Region.Mode} {Se Sa : World → Prop} {ap : Nat}
/-- Whatever order is picked: Se holds behind every operation, Sa till operation ap has come up. -/
def AnyL (P : Program) (md : Region.Mode) (ops : Array Oper) (Q : Exit → Act → World → Prop) (Se Sa : World → Prop) (ap : Nat) : Nat → Array Bool → Act → World → Prop
  | 0, listed, a, w => Region.ready md ops listed = [] ∧ Q .normal a w
  | fuel + 1, listed, a, w =>
    (Region.ready md ops listed = [] → Q .normal a w) ∧
    ∀ i ∈ Region.ready md ops listed, wpOp P ops Q i (fun a' w' => (Se w' ∧ ((listed.setIfInBounds i true).getD ap true = false → Sa w')) ∧ AnyL P md ops Q Se Sa ap fuel (listed.setIfInBounds i true) a' w') a w
theorem noTF {b : Bool} {p : Prop} (h1 : b = true) (h : b = false) : p := by rw [h1] at h; cases h
theorem op_at {ops : Array Oper} {i : Nat} {oi : Oper} {r : List Oper} (h : ops.toList.drop i = oi :: r) : ops[i]? = some oi := by
  have h1 : (ops.toList.drop i)[0]? = some oi := by rw [h]; rfl
  rw [List.getElem?_drop] at h1
  simpa using h1
theorem any_of_L : ∀ (fuel : Nat) (listed : Array Bool) (a : Act) (w : World), AnyL P md ops Q Se Sa ap fuel listed a w → wpAny P md ops Q fuel listed a w
  | 0, _, _, _, h => h
  | fuel + 1, _, _, _, h => ⟨h.1, fun i hi => wpOp_mono (fun a' w' h' => any_of_L fuel _ a' w' h'.2) (h.2 i hi)⟩
theorem AnyL.first {i : Nat} {oi : Oper} {v : Value} {C : World → Prop} (hi : ops[i]? = some oi) (hsel : ∀ (j : Nat) (o : Oper) cs b, ops[j]? = some o → o.op ≠ .select cs b)
    (hQ : ∀ c a w, Q (.panic c) (a.put oi.dst v) w → Q (.panic c) a w) (G : Array Bool → Prop)
    (hG : ∀ listed j, G listed → listed.getD i true = false → j ∈ Region.ready md ops listed → j ≠ i → G (listed.setIfInBounds j true))
    (hC : ∀ listed w, G listed → Se w → (listed.getD ap true = false → Sa w) → C w) (hia : i ≠ ap) :
    ∀ (fuel : Nat) (listed : Array Bool) (a : Act) (w : World), G listed →
      (∀ j oj, ops[j]? = some oj → j ≠ i → listed.getD j true = false → (∀ e ∈ oj.after, Region.binds md e = true → e.on ≠ i) → oi.apart ops oj = true) →
      i ∈ Region.ready md ops listed → YieldsIf P ops C oi v a → Se w → (listed.getD ap true = false → Sa w) →
      AnyL P md ops Q Se Sa ap fuel (listed.setIfInBounds i true) (a.put oi.dst v) w → AnyL P md ops Q Se Sa ap (fuel + 1) listed a w := by
  intro fuel
  induction fuel with
  | zero =>
    intro listed a w hg _ hr hy hS hA H
    refine ⟨fun h => (by rw [h] at hr; cases hr), fun j hj => ?_⟩
    by_cases hji : j = i
    · subst hji; exact hy.wpOp hi (hC _ _ hg hS hA) ⟨⟨hS, by rw [getD_set_ne true hia]; exact hA⟩, H⟩
    · have := ready_mono hj hji
      rw [H.1] at this
      cases this
  | succ fuel ih =>
    intro listed a w hg hfree hr hy hS hA H
    refine ⟨fun h => (by rw [h] at hr; cases hr), fun j hj => ?_⟩
    by_cases hji : j = i
    · subst hji; exact hy.wpOp hi (hC _ _ hg hS hA) ⟨⟨hS, by rw [getD_set_ne true hia]; exact hA⟩, H⟩
    · have h1 := H.2 j (ready_mono hj hji)
      have hun := (mem_ready.1 hr).1
      obtain ⟨hjun, oj, hoj, hall⟩ := mem_ready.1 hj
      have hnot : ∀ e ∈ oj.after, Region.binds md e = true → e.on ≠ i := fun e he hb heq => by
        have h1 := hall e he hb
        have h0 := hun
        rw [heq] at h1
        rcases Nat.lt_or_ge i listed.size with h' | h'
        · simp [h'] at h0 h1; rw [h0] at h1; cases h1
        · simp [Array.getElem?_eq_none h'] at h1
      have h2 := wpOp_putIf hoj (hfree j oj hoj hji hjun hnot) (fun cs b => hsel i oi cs b hi) (fun cs b => hsel j oj cs b hoj) hQ hy h1
      have hfree' : ∀ k ok, ops[k]? = some ok → k ≠ i → (listed.setIfInBounds j true).getD k true = false →
          (∀ e ∈ ok.after, Region.binds md e = true → e.on ≠ i) → oi.apart ops ok = true := fun k ok hk hki hun hno => by
        refine hfree k ok hk hki ?_ hno
        by_cases hjk : j = k
        · subst hjk; exact hjun
        · rw [getD_set_ne true hjk] at hun; exact hun
      refine wpOp_mono (fun a' w' h3 => ?_) h2
      have hA' : (listed.setIfInBounds j true).getD ap true = false → Sa w' := fun h => h3.2.1.2 (by
        rw [Array.setIfInBounds_comm _ _ (Ne.symm hji), getD_set_ne true hia]; exact h)
      refine ⟨⟨h3.2.1.1, hA'⟩, ih (listed.setIfInBounds j true) a' w' (hG listed j hg hun hj hji) hfree' (ready_mono hr (Ne.symm hji)) h3.1 h3.2.1.1 hA' ?_⟩
      rw [Array.setIfInBounds_comm _ _ hji]
      exact h3.2.2
/-- Take number i first: what it reads holds throughout. -/
theorem AnyL.take {i : Nat} {oi : Oper} {v : Value} {fuel : Nat} {listed : Array Bool} {a : Act} {w : World} {r : List Oper} (hi' : ops.toList.drop i = oi :: r)
    (hs : Region.noSelect ops = true) (hf : Region.free md ops listed i = true) (hr : (Region.ready md ops listed).contains i = true) (hia : (i == ap) = false)
    (hQ : ∀ c a w, Q (.panic c) (a.put oi.dst v) w → Q (.panic c) a w) (hw : Region.wanted oi (yielded ops a.tmps) = true) (hy : ∀ w, Se w → (execOp a.eval oi).run P w = .ok (.value v) w) (hS : Se w ∧ (listed.getD ap true = false → Sa w))
    (h : AnyL P md ops Q Se Sa ap fuel (listed.setIfInBounds i true) (a.put oi.dst v) w) : AnyL P md ops Q Se Sa ap (fuel + 1) listed a w :=
  have hi := op_at hi'
  AnyL.first (C := Se) hi (Region.noSelect_spec hs) hQ (fun _ => True) (fun _ _ _ _ _ _ => trivial) (fun _ _ _ h _ => h) (by simpa using hia) fuel listed a w trivial (Region.free_spec hi hf) (by simpa using hr) (Or.inl ⟨hw, hy⟩) hS.1 hS.2 h
/-- Take number i first: what it reads holds till ap has come up, and ap waits for it. -/
theorem AnyL.takeA {i : Nat} {oi oa : Oper} {v : Value} {fuel : Nat} {listed : Array Bool} {a : Act} {w : World} {r : List Oper} (hi' : ops.toList.drop i = oi :: r)
    (hs : Region.noSelect ops = true) (hf : Region.free md ops listed i = true) (hr : (Region.ready md ops listed).contains i = true) (hia : (i == ap) = false)
    {r2 : List Oper} (ha' : ops.toList.drop ap = oa :: r2) (hed : (oa.after.any fun e => Region.binds md e && e.on == i) = true) (hun : listed.getD ap true = false)
    (hQ : ∀ c a w, Q (.panic c) (a.put oi.dst v) w → Q (.panic c) a w) (hw : Region.wanted oi (yielded ops a.tmps) = true) (hy : ∀ w, Sa w → (execOp a.eval oi).run P w = .ok (.value v) w) (hS : Se w ∧ (listed.getD ap true = false → Sa w))
    (h : AnyL P md ops Q Se Sa ap fuel (listed.setIfInBounds i true) (a.put oi.dst v) w) : AnyL P md ops Q Se Sa ap (fuel + 1) listed a w := by
  have hi := op_at hi'
  refine AnyL.first (C := Sa) hi (Region.noSelect_spec hs) hQ (fun l => l.getD ap true = false) (fun l j hg hu hj hji => ?_) (fun _ _ hg _ h => h hg) (by simpa using hia) fuel listed a w hun (Region.free_spec hi hf) (by simpa using hr) (Or.inl ⟨hw, hy⟩) hS.1 hS.2 h
  by_cases hja : j = ap
  · exfalso
    subst hja
    obtain ⟨_, o, ho, hall⟩ := mem_ready.1 hj
    rw [op_at ha'] at ho
    cases ho
    obtain ⟨e, he, hb⟩ := Array.any_eq_true'.1 hed
    simp only [Bool.and_eq_true, beq_iff_eq] at hb
    have h1 := hall e he hb.1
    rw [hb.2] at h1
    rcases Nat.lt_or_ge i l.size with h' | h'
    · simp [h'] at hu h1; rw [hu] at h1; cases h1
    · simp [Array.getElem?_eq_none h'] at h1
  · show (l.setIfInBounds j true).getD ap true = false
    rw [getD_set_ne true hja]
    exact hg
/-- The one operation that may come up now is carried out. -/
theorem AnyL.step {i : Nat} {oi : Oper} {fuel : Nat} {listed : Array Bool} {a : Act} {w : World} {r : List Oper} (hr : Region.ready md ops listed = [i]) (hi' : ops.toList.drop i = oi :: r)
    (h : ∀ K' : Act → World → Prop, Shut (∀ a' w', Se w' → ((listed.setIfInBounds i true).getD ap true = false → Sa w') → AnyL P md ops Q Se Sa ap fuel (listed.setIfInBounds i true) a' w' → K' a' w') → if Region.wanted oi (yielded ops a.tmps) = true then Oper.wp P oi a w K' Q else K' (a.put oi.dst undef) w) :
    AnyL P md ops Q Se Sa ap (fuel + 1) listed a w := by
  refine ⟨fun h0 => (by rw [hr] at h0; cases h0), fun j hj => ?_⟩
  rw [hr] at hj
  have hji : j = i := by simpa using hj
  subst hji
  exact wpOp_step (op_at hi') fun K' hK => h K' fun a w h1 h2 h3 => hK a w ⟨⟨h1, h2⟩, h3⟩
theorem AnyL.done {listed : Array Bool} {a : Act} {w : World} (hr : Region.ready md ops listed = []) (h : Q .normal a w) : ∀ fuel, AnyL P md ops Q Se Sa ap fuel listed a w
  | 0 => ⟨hr, h⟩
  | _ + 1 => ⟨fun _ => h, by rw [hr]; simp⟩
theorem AnyL.start {id : Nat} {a : Act} {w : World} (Se Sa : World → Prop) (ap : Nat) (hm : P.follows .mixedOrders = true) (h : AnyL P .any ops Q Se Sa ap ops.size (Array.replicate ops.size false) a w.drew) : (Code.region id ops true).wp P Q a w :=
  wp_region_any hm (any_of_L _ _ _ _ h)
end
end Go.Proofs.Ytlpgjnjhhgjkmaa

/-
  Matches, in plain Lean: what a match is; the list of all of them in the order of their images; what a part leaves of that list. Conditions: as each says.
-/
namespace Go.Proofs.Ytlpgjnjhhgjkmaa
open Go.RowKit
set_option linter.unusedVariables false

/-- Of two lists the first place at which they differ holds the smaller number in the first. -/
def LtL (a b : List Int) : Prop := ∃ j, (∀ i, i < j → a.getD i 0 = b.getD i 0) ∧ a.getD j 0 < b.getD j 0
/-- All lists whose numbers lie below bounds, in their order. -/
def tups : List Nat → List (List Int)
  | [] => [[]]
  | b :: bs => (List.range b).flatMap fun (x : Nat) => (tups bs).map fun l => Int.ofNat x :: l
theorem tups_mem : ∀ {bs : List Nat} {l : List Int}, l ∈ tups bs ↔ l.length = bs.length ∧ ∀ i, i < bs.length → 0 ≤ l.getD i 0 ∧ l.getD i 0 < (bs.getD i 0 : Int)
  | [], l => by
    simp only [tups, List.mem_singleton, List.length_nil, List.length_eq_zero_iff]
    exact ⟨fun h => ⟨h, fun i hi => absurd hi (by omega)⟩, fun h => h.1⟩
  | b :: bs, l => by
    simp only [tups, List.mem_flatMap, List.mem_range, List.mem_map]
    constructor
    · rintro ⟨x, hx, l', hl', rfl⟩
      have ih := (tups_mem (bs := bs)).1 hl'
      refine ⟨by simp [ih.1], fun i hi => ?_⟩
      cases i with
      | zero => simp; omega
      | succ i => simpa using ih.2 i (by simpa using hi)
    · rintro ⟨h1, h2⟩
      cases l with
      | nil => simp at h1
      | cons y l' =>
        have h0 := h2 0 (by simp)
        simp at h0
        refine ⟨y.toNat, by omega, l', (tups_mem (bs := bs)).2 ⟨by simpa using h1, fun i hi => by simpa using h2 (i + 1) (by simpa using hi)⟩, by rw [show Int.ofNat y.toNat = y from Int.toNat_of_nonneg h0.1]⟩
theorem flatMap_pw {α β : Type} {R : β → β → Prop} {F : α → List β} : ∀ {l : List α}, (∀ a ∈ l, (F a).Pairwise R) → l.Pairwise (fun a b => ∀ x ∈ F a, ∀ y ∈ F b, R x y) → (l.flatMap F).Pairwise R
  | [], _, _ => by simp
  | a :: l, h1, h2 => by
    rw [List.flatMap_cons, List.pairwise_append]
    rw [List.pairwise_cons] at h2
    refine ⟨h1 a (by simp), flatMap_pw (fun b hb => h1 b (by simp [hb])) h2.2, fun x hx y hy => ?_⟩
    obtain ⟨b, hb, hy⟩ := List.mem_flatMap.1 hy
    exact h2.1 b hb x hx y hy
theorem tups_sorted : ∀ bs : List Nat, (tups bs).Pairwise LtL
  | [] => by simp [tups]
  | b :: bs => by
    refine flatMap_pw (fun x hx => ?_) ?_
    · refine List.Pairwise.map _ (fun l m h => ?_) (tups_sorted bs)
      obtain ⟨j, h1, h2⟩ := h
      refine ⟨j + 1, fun i hi => ?_, by simpa using h2⟩
      cases i with
      | zero => rfl
      | succ i => simpa using h1 i (by omega)
    · refine List.Pairwise.imp ?_ (List.pairwise_lt_range)
      intro x y hxy l hl m hm
      obtain ⟨l', _, rfl⟩ := List.mem_map.1 hl
      obtain ⟨m', _, rfl⟩ := List.mem_map.1 hm
      exact ⟨0, fun i hi => absurd hi (by omega), by simp; omega⟩
/-! ### matches -/
/-- A match: where the wires go, where the edges go. -/
structure Mt where
  W : List Int
  E : List Int
deriving DecidableEq
def lkL (l : List Int) (w : Int) : Int := if 0 ≤ w then l.getD w.toNat 0 else 0
def edAt (l : List Ed) (f : Int) : Ed := l.getD f.toNat e0
structure IsMt (g p : Gr) (M : Mt) : Prop where
  lw : M.W.length = p.n.toNat
  le : M.E.length = p.es.length
  rw : ∀ x ∈ M.W, 0 ≤ x ∧ x < g.n
  re : ∀ x ∈ M.E, 0 ≤ x ∧ x < (g.es.length : Int)
  dw : M.W.Nodup
  de : M.E.Nodup
  ed : ∀ j, j < p.es.length → edAt g.es (M.E.getD j 0) = ⟨(p.es.getD j e0).k, (p.es.getD j e0).v, (p.es.getD j e0).i.map (lkL M.W), (p.es.getD j e0).o.map (lkL M.W)⟩
/-- What holds, as a test. -/
noncomputable def tst (p : Prop) : Bool := @decide p (Classical.propDecidable p)
theorem tst_iff {p : Prop} : tst p = true ↔ p := @decide_eq_true_iff p (Classical.propDecidable p)
noncomputable def allMt (g p : Gr) : List Mt := ((tups (List.replicate p.es.length g.es.length ++ List.replicate p.n.toNat g.n.toNat)).map fun l => Mt.mk (l.drop p.es.length) (l.take p.es.length)).filter fun M => tst (IsMt g p M)
theorem gd_app {l m : List Int} {i : Nat} (h : i < l.length) : (l ++ m).getD i 0 = l.getD i 0 := by
  rw [List.getD_eq_getElem?_getD, List.getD_eq_getElem?_getD, List.getElem?_append_left h]
theorem gd_app' {l m : List Int} {i : Nat} (h : l.length ≤ i) : (l ++ m).getD i 0 = m.getD (i - l.length) 0 := by
  rw [List.getD_eq_getElem?_getD, List.getD_eq_getElem?_getD, List.getElem?_append_right h]
theorem gd_rep {a b k m i : Nat} (h : i < k) : (List.replicate k a ++ List.replicate m b).getD i 0 = a := by
  rw [List.getD_eq_getElem?_getD, List.getElem?_append_left (by simpa using h), List.getElem?_replicate, if_pos h]; rfl
theorem gd_rep' {a b k m i : Nat} (h : k ≤ i) (h2 : i < k + m) : (List.replicate k a ++ List.replicate m b).getD i 0 = b := by
  rw [List.getD_eq_getElem?_getD, List.getElem?_append_right (by simpa using h), List.length_replicate, List.getElem?_replicate, if_pos (by omega)]; rfl
theorem all_iff {g p : Gr} {M : Mt} : M ∈ allMt g p ↔ IsMt g p M := by
  unfold allMt
  rw [List.mem_filter, tst_iff, List.mem_map]
  refine ⟨fun h => h.2, fun h => ⟨⟨M.E ++ M.W, tups_mem.2 ⟨by simp [h.lw, h.le], fun i hi => ?_⟩, ?_⟩, h⟩⟩
  · rw [List.length_append, List.length_replicate, List.length_replicate] at hi
    by_cases hlt : i < p.es.length
    · have e1 : (M.E ++ M.W).getD i 0 = M.E.getD i 0 := gd_app (by rw [h.le]; exact hlt)
      have e2 : (List.replicate p.es.length g.es.length ++ List.replicate p.n.toNat g.n.toNat).getD i 0 = g.es.length := gd_rep hlt
      rw [e1, e2]
      exact h.re _ (getD_mem' (by rw [h.le]; exact hlt))
    · have e1 : (M.E ++ M.W).getD i 0 = M.W.getD (i - p.es.length) 0 := by rw [gd_app' (by rw [h.le]; omega), h.le]
      have e2 : (List.replicate p.es.length g.es.length ++ List.replicate p.n.toNat g.n.toNat).getD i 0 = g.n.toNat := gd_rep' (by omega) hi
      rw [e1, e2]
      have := h.rw _ (getD_mem' (zs := M.W) (k := i - p.es.length) (by rw [h.lw]; omega))
      omega
  · cases M with
    | mk W E =>
      have := h.le
      simp only at this
      simp [← this]
theorem all_sorted (g p : Gr) : (allMt g p).Pairwise fun a b => LtL (a.E ++ a.W) (b.E ++ b.W) := by
  unfold allMt
  refine List.Pairwise.filter _ (List.Pairwise.map _ (fun l m h => ?_) (tups_sorted _))
  simpa using h
theorem all_nodup (g p : Gr) : (allMt g p).Nodup := by
  refine List.Pairwise.imp ?_ (all_sorted g p)
  rintro a b ⟨j, _, h⟩ rfl
  exact Int.lt_irrefl _ h
/-! ### parts -/
/-- A match goes on with what a part gives already (-1: nothing yet). -/
def Fits (l m : List Int) : Prop := ∀ i, 0 ≤ l.getD i (-1) → m.getD i 0 = l.getD i (-1)
def Ext (P M : Mt) : Prop := Fits P.W M.W ∧ Fits P.E M.E
noncomputable def extL (g p : Gr) (P : Mt) : List Mt := (allMt g p).filter fun M => tst (Ext P M)
theorem ext_mem {g p : Gr} {P M : Mt} : M ∈ extL g p P ↔ IsMt g p M ∧ Ext P M := by
  unfold extL
  rw [List.mem_filter, tst_iff, all_iff]
theorem split_at {α : Type} {c : α → Int} : ∀ {l : List α}, l.Pairwise (fun a b => c a ≤ c b) → ∀ f : Int, l.filter (fun x => decide (c x < f + 1)) = l.filter (fun x => decide (c x < f)) ++ l.filter (fun x => decide (c x = f))
  | [], _, _ => rfl
  | a :: l, h, f => by
    rw [List.pairwise_cons] at h
    have ih := split_at h.2 f
    rcases Int.lt_trichotomy (c a) f with h1 | h1 | h1
    · rw [List.filter_cons_of_pos (by simp; omega), List.filter_cons_of_pos (by simp; omega), List.filter_cons_of_neg (by simp; omega), ih]
      rfl
    · have h0 : l.filter (fun x => decide (c x < f)) = [] := List.filter_eq_nil_iff.2 fun x hx => by have := h.1 x hx; simp; omega
      rw [List.filter_cons_of_pos (by simp; omega), List.filter_cons_of_neg (by simp; omega), List.filter_cons_of_pos (by simp; omega), ih, h0]
      rfl
    · have h0 : l.filter (fun x => decide (c x < f)) = [] := List.filter_eq_nil_iff.2 fun x hx => by have := h.1 x hx; simp; omega
      rw [List.filter_cons_of_neg (by simp; omega), List.filter_cons_of_neg (by simp; omega), List.filter_cons_of_neg (by simp; omega), ih, h0]
theorem ext_sorted_E {g p : Gr} {P : Mt} {e : Nat} (he : e < p.es.length) (hP : ∀ i, i < e → 0 ≤ P.E.getD i (-1)) : (extL g p P).Pairwise fun a b => a.E.getD e 0 ≤ b.E.getD e 0 := by
  have h1 : (extL g p P).Pairwise fun a b => LtL (a.E ++ a.W) (b.E ++ b.W) := List.Pairwise.filter _ (all_sorted g p)
  refine List.Pairwise.imp_of_mem ?_ h1
  rintro a b ha hb ⟨j, h2, h3⟩
  obtain ⟨ma, xa⟩ := ext_mem.1 ha
  obtain ⟨mb, xb⟩ := ext_mem.1 hb
  have eA : ∀ i, i < p.es.length → (a.E ++ a.W).getD i 0 = a.E.getD i 0 := fun i hi => gd_app (by rw [ma.le]; exact hi)
  have eB : ∀ i, i < p.es.length → (b.E ++ b.W).getD i 0 = b.E.getD i 0 := fun i hi => gd_app (by rw [mb.le]; exact hi)
  rcases Nat.lt_trichotomy j e with h | h | h
  · rw [eA _ (by omega), eB _ (by omega), xa.2 j (hP j h), xb.2 j (hP j h)] at h3
    omega
  · subst h
    rw [eA _ he, eB _ he] at h3
    omega
  · have := h2 e h
    rw [eA _ he, eB _ he] at this
    omega
theorem ext_sorted_W {g p : Gr} {P : Mt} {w : Nat} (hw : w < p.n.toNat) (hE : ∀ i, i < p.es.length → 0 ≤ P.E.getD i (-1)) (hP : ∀ i, i < w → 0 ≤ P.W.getD i (-1)) : (extL g p P).Pairwise fun a b => a.W.getD w 0 ≤ b.W.getD w 0 := by
  have h1 : (extL g p P).Pairwise fun a b => LtL (a.E ++ a.W) (b.E ++ b.W) := List.Pairwise.filter _ (all_sorted g p)
  refine List.Pairwise.imp_of_mem ?_ h1
  rintro a b ha hb ⟨j, h2, h3⟩
  obtain ⟨ma, xa⟩ := ext_mem.1 ha
  obtain ⟨mb, xb⟩ := ext_mem.1 hb
  have eA : ∀ i, i < p.es.length → (a.E ++ a.W).getD i 0 = a.E.getD i 0 := fun i hi => gd_app (by rw [ma.le]; exact hi)
  have eB : ∀ i, i < p.es.length → (b.E ++ b.W).getD i 0 = b.E.getD i 0 := fun i hi => gd_app (by rw [mb.le]; exact hi)
  have fA : ∀ i, (a.E ++ a.W).getD (p.es.length + i) 0 = a.W.getD i 0 := fun i => by rw [gd_app' (by rw [ma.le]; omega), ma.le]; congr 1; omega
  have fB : ∀ i, (b.E ++ b.W).getD (p.es.length + i) 0 = b.W.getD i 0 := fun i => by rw [gd_app' (by rw [mb.le]; omega), mb.le]; congr 1; omega
  by_cases hj : j < p.es.length
  · rw [eA _ hj, eB _ hj, xa.2 j (hE j hj), xb.2 j (hE j hj)] at h3
    omega
  · obtain ⟨t, rfl⟩ : ∃ t, j = p.es.length + t := ⟨j - p.es.length, by omega⟩
    rw [fA, fB] at h3
    rcases Nat.lt_trichotomy t w with h | h | h
    · rw [xa.1 t (hP t h), xb.1 t (hP t h)] at h3
      omega
    · subst h
      omega
    · have := h2 (p.es.length + w) (by omega)
      rw [fA, fB] at this
      omega
/-- What a part leaves, as far as a place has a number below a bound. -/
noncomputable def cutE (g p : Gr) (P : Mt) (e : Nat) (f : Int) : List Mt := (extL g p P).filter fun M => decide (M.E.getD e 0 < f)
noncomputable def cutW (g p : Gr) (P : Mt) (w : Nat) (f : Int) : List Mt := (extL g p P).filter fun M => decide (M.W.getD w 0 < f)
theorem cutE_zero {g p : Gr} {P : Mt} {e : Nat} (he : e < p.es.length) : cutE g p P e 0 = [] :=
  List.filter_eq_nil_iff.2 fun M hM => by
    have hm := (ext_mem.1 hM).1
    have := hm.re _ (getD_mem' (k := e) (by rw [hm.le]; exact he))
    rw [decide_eq_true_iff]; omega
theorem cutE_all {g p : Gr} {P : Mt} {e : Nat} (he : e < p.es.length) : cutE g p P e (g.es.length : Int) = extL g p P :=
  List.filter_eq_self.2 fun M hM => by
    have hm := (ext_mem.1 hM).1
    have := hm.re _ (getD_mem' (k := e) (by rw [hm.le]; exact he))
    rw [decide_eq_true_iff]; omega
theorem cutW_zero {g p : Gr} {P : Mt} {w : Nat} (hw : w < p.n.toNat) : cutW g p P w 0 = [] :=
  List.filter_eq_nil_iff.2 fun M hM => by
    have hm := (ext_mem.1 hM).1
    have := hm.rw _ (getD_mem' (k := w) (by rw [hm.lw]; exact hw))
    rw [decide_eq_true_iff]; omega
theorem cutW_all {g p : Gr} {P : Mt} {w : Nat} (hw : w < p.n.toNat) : cutW g p P w g.n = extL g p P :=
  List.filter_eq_self.2 fun M hM => by
    have hm := (ext_mem.1 hM).1
    have := hm.rw _ (getD_mem' (k := w) (by rw [hm.lw]; exact hw))
    rw [decide_eq_true_iff]; omega
theorem ext_cut {g p : Gr} {P P' : Mt} {c : Mt → Int} {f : Int} (h : ∀ M, IsMt g p M → ((Ext P M ∧ c M = f) ↔ Ext P' M)) : (extL g p P).filter (fun M => decide (c M = f)) = extL g p P' := by
  unfold extL
  rw [List.filter_filter]
  refine List.filter_congr fun M hM => ?_
  have := h M (all_iff.1 hM)
  rw [Bool.eq_iff_iff, Bool.and_eq_true, tst_iff, tst_iff, decide_eq_true_iff]
  exact ⟨fun ⟨h1, h2⟩ => this.1 ⟨h2, h1⟩, fun h1 => ⟨(this.2 h1).2, (this.2 h1).1⟩⟩
/-- One image more: none goes on so. -/
theorem cutE_none {g p : Gr} {P : Mt} {e : Nat} {f : Int} (he : e < p.es.length) (hP : ∀ i, i < e → 0 ≤ P.E.getD i (-1)) (h : ∀ M, IsMt g p M → Ext P M → M.E.getD e 0 ≠ f) : cutE g p P e (f + 1) = cutE g p P e f := by
  unfold cutE
  rw [split_at (ext_sorted_E he hP) f]
  rw [show (extL g p P).filter (fun M => decide (M.E.getD e 0 = f)) = [] from List.filter_eq_nil_iff.2 fun M hM => by have := h M (ext_mem.1 hM).1 (ext_mem.1 hM).2; rw [decide_eq_true_iff]; exact this, List.append_nil]
/-- One image more: those that go on with a greater part. -/
theorem cutE_some {g p : Gr} {P P' : Mt} {e : Nat} {f : Int} (he : e < p.es.length) (hP : ∀ i, i < e → 0 ≤ P.E.getD i (-1)) (h : ∀ M, IsMt g p M → ((Ext P M ∧ M.E.getD e 0 = f) ↔ Ext P' M)) : cutE g p P e (f + 1) = cutE g p P e f ++ extL g p P' := by
  unfold cutE
  rw [split_at (ext_sorted_E he hP) f]
  congr 1
  exact ext_cut h
theorem cutW_none {g p : Gr} {P : Mt} {w : Nat} {f : Int} (hw : w < p.n.toNat) (hE : ∀ i, i < p.es.length → 0 ≤ P.E.getD i (-1)) (hP : ∀ i, i < w → 0 ≤ P.W.getD i (-1)) (h : ∀ M, IsMt g p M → Ext P M → M.W.getD w 0 ≠ f) : cutW g p P w (f + 1) = cutW g p P w f := by
  unfold cutW
  rw [split_at (ext_sorted_W hw hE hP) f]
  rw [show (extL g p P).filter (fun M => decide (M.W.getD w 0 = f)) = [] from List.filter_eq_nil_iff.2 fun M hM => by have := h M (ext_mem.1 hM).1 (ext_mem.1 hM).2; rw [decide_eq_true_iff]; exact this, List.append_nil]
theorem cutW_some {g p : Gr} {P P' : Mt} {w : Nat} {f : Int} (hw : w < p.n.toNat) (hE : ∀ i, i < p.es.length → 0 ≤ P.E.getD i (-1)) (hP : ∀ i, i < w → 0 ≤ P.W.getD i (-1)) (h : ∀ M, IsMt g p M → ((Ext P M ∧ M.W.getD w 0 = f) ↔ Ext P' M)) : cutW g p P w (f + 1) = cutW g p P w f ++ extL g p P' := by
  unfold cutW
  rw [split_at (ext_sorted_W hw hE hP) f]
  congr 1
  exact ext_cut h
/-- A part that gives everything, and is a match, leaves itself alone. -/
theorem ext_whole {g p : Gr} {M : Mt} (h : IsMt g p M) : extL g p M = [M] := by
  have hn : (extL g p M).Nodup := List.Pairwise.filter _ (all_nodup g p)
  have hm : ∀ x, x ∈ extL g p M ↔ x = M := fun x => by
    rw [ext_mem]
    constructor
    · rintro ⟨hx, hf⟩
      have e1 : x.W = M.W := by
        refine List.ext_getElem (by rw [hx.lw, h.lw]) fun i h1 h2 => ?_
        have h0 := h.rw _ (List.getElem_mem h2)
        have := hf.1 i (by rw [List.getD_eq_getElem?_getD, List.getElem?_eq_getElem h2]; exact h0.1)
        rw [List.getD_eq_getElem?_getD, List.getD_eq_getElem?_getD, List.getElem?_eq_getElem h1, List.getElem?_eq_getElem h2] at this
        exact this
      have e2 : x.E = M.E := by
        refine List.ext_getElem (by rw [hx.le, h.le]) fun i h1 h2 => ?_
        have h0 := h.re _ (List.getElem_mem h2)
        have := hf.2 i (by rw [List.getD_eq_getElem?_getD, List.getElem?_eq_getElem h2]; exact h0.1)
        rw [List.getD_eq_getElem?_getD, List.getD_eq_getElem?_getD, List.getElem?_eq_getElem h1, List.getElem?_eq_getElem h2] at this
        exact this
      cases x; cases M; simp at e1 e2; rw [e1, e2]
    · rintro rfl
      have fw : ∀ (l : List Int) (b : Int), (∀ x ∈ l, 0 ≤ x ∧ x < b) → Fits l l := fun l b hl i hi => by
        rcases Nat.lt_or_ge i l.length with h' | h'
        · rw [List.getD_eq_getElem?_getD, List.getD_eq_getElem?_getD, List.getElem?_eq_getElem h']; rfl
        · rw [List.getD_eq_getElem?_getD, List.getElem?_eq_none h'] at hi
          exact absurd hi (by decide)
      exact ⟨h, fw _ _ h.rw, fw _ _ h.re⟩
  generalize extL g p M = L at *
  match L, hn, hm with
  | [], _, hm => exact absurd ((hm M).2 rfl) (by simp)
  | [a], _, hm => rw [(hm a).1 (by simp)]
  | a :: b :: l, hn, hm =>
    have e1 := (hm a).1 (by simp)
    have e2 := (hm b).1 (by simp)
    rw [e1, e2] at hn
    simp at hn
end Go.Proofs.Ytlpgjnjhhgjkmaa

/-
  The search for matches, in plain Lean: a wire gets its image; what has been given is taken back; a part that is consistent goes on. Conditions: as each says.
-/
namespace Go.Proofs.Ytlpgjnjhhgjkmaa
open Go.RowKit
set_option linter.unusedVariables false

theorem gd_gd {l : List Int} {i : Nat} (h : i < l.length) (a b : Int) : l.getD i a = l.getD i b := by
  rw [List.getD_eq_getElem?_getD, List.getD_eq_getElem?_getD, List.getElem?_eq_getElem h]; rfl
theorem gd_out {l : List Int} {i : Nat} (h : l.length ≤ i) (a : Int) : l.getD i a = a := by
  rw [List.getD_eq_getElem?_getD, List.getElem?_eq_none h]; rfl
theorem gd_set {l : List Int} {i j : Nat} {x a : Int} (h : i < l.length) : (l.set i x).getD j a = if i = j then x else l.getD j a := by
  rw [List.getD_eq_getElem?_getD, List.getElem?_set]
  by_cases hij : i = j
  · subst hij; rw [if_pos rfl, if_pos h, if_pos rfl]; rfl
  · rw [if_neg hij, if_neg hij, List.getD_eq_getElem?_getD]
theorem mem_gd {l : List Int} {x : Int} : x ∈ l ↔ ∃ i, i < l.length ∧ l.getD i 0 = x := by
  constructor
  · intro h
    obtain ⟨i, hi, rfl⟩ := List.mem_iff_getElem.1 h
    exact ⟨i, hi, by rw [List.getD_eq_getElem?_getD, List.getElem?_eq_getElem hi]; rfl⟩
  · rintro ⟨i, hi, rfl⟩
    exact getD_mem' hi
/-- A wire gets its image, if it may. -/
def setL (W : List Int) (w : Nat) (im : Int) : Option (List Int) :=
  if 0 ≤ W.getD w 0 then (if W.getD w 0 = im then some W else none) else if im ∈ W then none else some (W.set w im)
def setsL (W : List Int) : List (Int × Int) → Option (List Int)
  | [] => some W
  | x :: r => match setL W x.1.toNat x.2 with
    | none => none
    | some W' => setsL W' r
theorem setsL_snoc : ∀ (ps : List (Int × Int)) (W : List Int) (x : Int × Int), setsL W (ps ++ [x]) = match setsL W ps with | none => none | some W' => setL W' x.1.toNat x.2
  | [], W, x => by simp only [List.nil_append, setsL]; cases setL W x.1.toNat x.2 <;> rfl
  | y :: ps, W, x => by
    simp only [List.cons_append, setsL]
    cases setL W y.1.toNat y.2 with
    | none => rfl
    | some W' => exact setsL_snoc ps W' x
theorem setsL_none {ps : List (Int × Int)} {W : List Int} {t : Nat} (h : setsL W (ps.take t) = none) : setsL W ps = none := by
  have hk : ∀ (ps qs : List (Int × Int)) (W : List Int), setsL W ps = none → setsL W (ps ++ qs) = none := by
    intro ps
    induction ps with
    | nil => intro qs W h; simp [setsL] at h
    | cons y ps ih =>
      intro qs W h
      simp only [List.cons_append, setsL] at h ⊢
      cases hs : setL W y.1.toNat y.2 with
      | none => rfl
      | some W' => rw [hs] at h; exact ih qs W' h
  rw [← List.take_append_drop t ps]
  exact hk _ _ _ h
theorem setL_len {W W' : List Int} {w : Nat} {im : Int} (h : setL W w im = some W') : W'.length = W.length := by
  unfold setL at h
  split at h
  · split at h
    · simp at h; rw [h]
    · simp at h
  · split at h
    · simp at h
    · simp at h; rw [← h]; simp
theorem setsL_len : ∀ {ps : List (Int × Int)} {W W' : List Int}, setsL W ps = some W' → W'.length = W.length
  | [], W, W', h => by simp [setsL] at h; rw [h]
  | y :: ps, W, W', h => by
    simp only [setsL] at h
    cases hs : setL W y.1.toNat y.2 with
    | none => rw [hs] at h; simp at h
    | some W1 => rw [hs] at h; rw [setsL_len h, setL_len hs]
/-- No two wires have one image. -/
def InjL (W : List Int) : Prop := ∀ a b, a < W.length → b < W.length → 0 ≤ W.getD a 0 → W.getD a 0 = W.getD b 0 → a = b
theorem setL_get {W W' : List Int} {w : Nat} {im : Int} (h : setL W w im = some W') (hw : w < W.length) : W'.getD w 0 = im ∧ ∀ i, 0 ≤ W.getD i 0 → W'.getD i 0 = W.getD i 0 := by
  unfold setL at h
  split at h
  · split at h
    · simp at h; subst h; rename_i h2; exact ⟨h2, fun _ _ => rfl⟩
    · simp at h
  · split at h
    · simp at h
    · simp at h
      subst h
      rename_i h1 h2
      refine ⟨by rw [gd_set hw, if_pos rfl], fun i hi => ?_⟩
      rw [gd_set hw]
      by_cases e : w = i
      · subst e; exact absurd hi h1
      · rw [if_neg e]
theorem setL_inj {W W' : List Int} {w : Nat} {im : Int} (h : setL W w im = some W') (hw : w < W.length) (hi : InjL W) : InjL W' := by
  unfold setL at h
  split at h
  · split at h
    · simp at h; subst h; exact hi
    · simp at h
  · split at h
    · simp at h
    · simp at h
      subst h
      rename_i h1 h2
      intro a b ha hb h0 he
      rw [List.length_set] at ha hb
      rw [gd_set hw] at h0
      rw [gd_set hw, gd_set hw] at he
      by_cases ea : w = a <;> by_cases eb : w = b
      · omega
      · rw [if_pos ea, if_neg eb] at he
        exact absurd (mem_gd.2 ⟨b, hb, he.symm⟩) h2
      · rw [if_neg ea, if_pos eb] at he
        exact absurd (mem_gd.2 ⟨a, ha, he⟩) h2
      · rw [if_neg ea] at h0
        rw [if_neg ea, if_neg eb] at he
        exact hi a b ha hb h0 he
theorem setL_rng {W W' : List Int} {w : Nat} {im n : Int} (h : setL W w im = some W') (hr : ∀ x ∈ W, x = -1 ∨ (0 ≤ x ∧ x < n)) (h0 : 0 ≤ im ∧ im < n) : ∀ x ∈ W', x = -1 ∨ (0 ≤ x ∧ x < n) := by
  unfold setL at h
  split at h
  · split at h
    · simp at h; subst h; exact hr
    · simp at h
  · split at h
    · simp at h
    · simp at h
      subst h
      intro x hx
      rcases List.mem_or_eq_of_mem_set hx with h | rfl
      · exact hr x h
      · exact Or.inr h0
/-- A match that goes on with what is given lets the next image be given. -/
theorem fits_set {W m : List Int} {w : Nat} {im : Int} (hf : Fits W m) (hl : m.length = W.length) (hn : m.Nodup) (hw : w < W.length) (h1 : 0 ≤ im) (he : m.getD w 0 = im) : ∃ W', setL W w im = some W' ∧ Fits W' m := by
  unfold setL
  by_cases h0 : 0 ≤ W.getD w 0
  · have := hf w (by rw [gd_gd hw (-1) 0]; exact h0)
    rw [gd_gd hw (-1) 0, he] at this
    exact ⟨W, by rw [if_pos h0, if_pos this.symm], hf⟩
  · have hm : im ∉ W := fun hm => by
      obtain ⟨a, ha, hv⟩ := mem_gd.1 hm
      have := hf a (by rw [gd_gd ha (-1) 0, hv]; exact h1)
      rw [gd_gd ha (-1) 0, hv, ← he] at this
      rw [List.getD_eq_getElem?_getD, List.getD_eq_getElem?_getD, List.getElem?_eq_getElem (by omega), List.getElem?_eq_getElem (by omega)] at this
      have := (List.getElem_inj hn).1 this
      subst this
      rw [hv] at h0
      exact h0 h1
    refine ⟨W.set w im, by rw [if_neg h0, if_neg hm], fun i hi => ?_⟩
    have hlt : i < W.length := by
      rcases Nat.lt_or_ge i W.length with h | h
      · exact h
      · rw [gd_out (by simpa using h)] at hi; exact absurd hi (by decide)
    rw [gd_set hw] at hi ⊢
    by_cases e : w = i
    · rw [if_pos e, ← e]; exact he
    · rw [if_neg e] at hi ⊢; exact hf i hi
theorem fits_back {W W' m : List Int} {w : Nat} {im : Int} (h : setL W w im = some W') (hw : w < W.length) (h1 : 0 ≤ im) (hf : Fits W' m) : Fits W m ∧ m.getD w 0 = im := by
  have hg := setL_get h hw
  have hl := setL_len h
  constructor
  · intro i hi
    have hlt : i < W.length := by
      rcases Nat.lt_or_ge i W.length with h | h
      · exact h
      · rw [gd_out h] at hi; exact absurd hi (by decide)
    rw [gd_gd hlt (-1) 0] at hi ⊢
    have e := hg.2 i hi
    rw [← e]
    have := hf i (by rw [gd_gd (by omega) (-1) 0, e]; exact hi)
    rw [gd_gd (by omega) (-1) 0] at this
    exact this
  · have := hf w (by rw [gd_gd (by omega) (-1) 0, hg.1]; exact h1)
    rw [gd_gd (by omega) (-1) 0, hg.1] at this
    exact this
/-- The pairs of a wire and its image are in order. -/
def PairOk (n : Nat) (b : Int) (ps : List (Int × Int)) : Prop := ∀ x ∈ ps, (0 ≤ x.1 ∧ x.1 < (n : Int)) ∧ 0 ≤ x.2 ∧ x.2 < b
theorem setsL_fits {b : Int} : ∀ {ps : List (Int × Int)} {W m : List Int}, PairOk W.length b ps → Fits W m → m.length = W.length → m.Nodup → (∀ x ∈ ps, m.getD x.1.toNat 0 = x.2) → ∃ W', setsL W ps = some W' ∧ Fits W' m
  | [], W, m, _, hf, _, _, _ => ⟨W, rfl, hf⟩
  | x :: ps, W, m, hp, hf, hl, hn, he => by
    have hx := hp x (by simp)
    obtain ⟨W1, h1, h2⟩ := fits_set hf hl hn (w := x.1.toNat) (by omega) hx.2.1 (he x (by simp))
    simp only [setsL, h1]
    have l1 := setL_len h1
    exact setsL_fits (b := b) (by rw [l1]; exact fun y hy => hp y (by simp [hy])) h2 (by omega) hn fun y hy => he y (by simp [hy])
theorem setsL_back {b : Int} : ∀ {ps : List (Int × Int)} {W W' m : List Int}, PairOk W.length b ps → setsL W ps = some W' → Fits W' m → Fits W m ∧ ∀ x ∈ ps, m.getD x.1.toNat 0 = x.2
  | [], W, W', m, _, h, hf => by
    simp [setsL] at h
    subst h
    exact ⟨hf, fun x hx => by cases hx⟩
  | y :: ps, W, W', m, hp, h, hf => by
    have hy := hp y (by simp)
    simp only [setsL] at h
    cases hs : setL W y.1.toNat y.2 with
    | none => rw [hs] at h; simp at h
    | some W1 =>
      rw [hs] at h
      have l1 := setL_len hs
      obtain ⟨f1, f2⟩ := setsL_back (b := b) (by rw [l1]; exact fun x hx => hp x (by simp [hx])) h hf
      obtain ⟨f3, f4⟩ := fits_back hs (by omega) hy.2.1 f1
      refine ⟨f3, fun x hx => ?_⟩
      rcases List.mem_cons.1 hx with rfl | hx
      · exact f4
      · exact f2 x hx
theorem setsL_facts {n : Int} : ∀ {ps : List (Int × Int)} {W W' : List Int}, PairOk W.length n ps → setsL W ps = some W' → InjL W → (∀ x ∈ W, x = -1 ∨ (0 ≤ x ∧ x < n)) →
    InjL W' ∧ (∀ x ∈ W', x = -1 ∨ (0 ≤ x ∧ x < n)) ∧ (∀ i, 0 ≤ W.getD i 0 → W'.getD i 0 = W.getD i 0) ∧ ∀ x ∈ ps, W'.getD x.1.toNat 0 = x.2
  | [], W, W', _, h, hi, hr => by
    simp [setsL] at h
    subst h
    exact ⟨hi, hr, fun _ _ => rfl, fun x hx => by cases hx⟩
  | y :: ps, W, W', hp, h, hi, hr => by
    have hy := hp y (by simp)
    simp only [setsL] at h
    cases hs : setL W y.1.toNat y.2 with
    | none => rw [hs] at h; simp at h
    | some W1 =>
      rw [hs] at h
      have l1 := setL_len hs
      have hg := setL_get hs (by omega)
      obtain ⟨f1, f2, f3, f4⟩ := setsL_facts (n := n) (by rw [l1]; exact fun x hx => hp x (by simp [hx])) h (setL_inj hs (by omega) hi) (setL_rng hs hr hy.2)
      refine ⟨f1, f2, fun i h0 => ?_, fun x hx => ?_⟩
      · have e := hg.2 i h0
        rw [f3 i (by rw [e]; exact h0), e]
      · rcases List.mem_cons.1 hx with rfl | hx
        · rw [f3 _ (by rw [hg.1]; exact hy.2.1), hg.1]
        · exact f4 x hx
/-! ### which images are taken; taking back -/
def mrk (n : Nat) (W : List Int) : List Bool := (List.range n).map fun v => decide (((v : Nat) : Int) ∈ W)
theorem mrk_len (n : Nat) (W : List Int) : (mrk n W).length = n := by simp [mrk]
theorem mrk_at {n v : Nat} {W : List Int} (h : v < n) : (mrk n W).getD v false = decide ((v : Int) ∈ W) := by
  unfold mrk
  rw [List.getD_eq_getElem?_getD, List.getElem?_map, List.getElem?_range h]
  rfl
theorem mem_set_iff {W : List Int} {w : Nat} {x v : Int} (hw : w < W.length) : v ∈ W.set w x ↔ v = x ∨ ∃ i, i < W.length ∧ i ≠ w ∧ W.getD i 0 = v := by
  rw [mem_gd]
  constructor
  · rintro ⟨i, hi, he⟩
    rw [List.length_set] at hi
    rw [gd_set hw] at he
    by_cases e : w = i
    · rw [if_pos e] at he; exact Or.inl he.symm
    · rw [if_neg e] at he; exact Or.inr ⟨i, hi, fun h => e h.symm, he⟩
  · rintro (rfl | ⟨i, hi, hne, he⟩)
    · exact ⟨w, by simpa using hw, by rw [gd_set hw, if_pos rfl]⟩
    · exact ⟨i, by simpa using hi, by rw [gd_set hw, if_neg (fun h => hne h.symm)]; exact he⟩
theorem mrk_set {n : Nat} {W : List Int} {w : Nat} {v : Nat} (hw : w < W.length) (h0 : W.getD w 0 < 0) (hv : v < n) : mrk n (W.set w (v : Int)) = (mrk n W).set v true := by
  refine List.ext_getElem (by simp [mrk]) fun i h1 h2 => ?_
  simp only [mrk, List.length_map, List.length_range] at h1
  rw [List.getElem_set]
  simp only [mrk, List.getElem_map, List.getElem_range]
  by_cases e : v = i
  · subst e
    rw [if_pos rfl, decide_eq_true_iff]
    exact (mem_set_iff hw).2 (Or.inl rfl)
  · rw [if_neg e]
    congr 1
    rw [eq_iff_iff, mem_set_iff hw, mem_gd]
    constructor
    · rintro (h | ⟨j, hj, _, he⟩)
      · omega
      · exact ⟨j, hj, he⟩
    · rintro ⟨j, hj, he⟩
      refine Or.inr ⟨j, hj, fun h => ?_, he⟩
      subst h
      omega
theorem mrk_uns {n : Nat} {W : List Int} {w : Nat} {v : Nat} (hi : InjL W) (hw : w < W.length) (h0 : W.getD w 0 = (v : Int)) (hv : v < n) : mrk n (W.set w (-1)) = (mrk n W).set v false := by
  refine List.ext_getElem (by simp [mrk]) fun i h1 h2 => ?_
  simp only [mrk, List.length_map, List.length_range] at h1
  rw [List.getElem_set]
  simp only [mrk, List.getElem_map, List.getElem_range]
  by_cases e : v = i
  · subst e
    rw [if_pos rfl, decide_eq_false_iff_not, mem_set_iff hw]
    rintro (h | ⟨j, hj, hne, he⟩)
    · omega
    · exact hne (hi j w hj hw (by omega) (by rw [he, h0]))
  · rw [if_neg e]
    congr 1
    rw [eq_iff_iff, mem_set_iff hw, mem_gd]
    constructor
    · rintro (h | ⟨j, hj, _, he⟩)
      · omega
      · exact ⟨j, hj, he⟩
    · rintro ⟨j, hj, he⟩
      refine Or.inr ⟨j, hj, fun h => ?_, he⟩
      subst h
      omega
theorem inj_uns {W : List Int} {w : Nat} (hi : InjL W) (hw : w < W.length) : InjL (W.set w (-1)) := by
  intro a b ha hb h0 he
  rw [List.length_set] at ha hb
  rw [gd_set hw] at h0
  rw [gd_set hw, gd_set hw] at he
  by_cases ea : w = a <;> by_cases eb : w = b
  · omega
  · rw [if_pos ea] at h0; exact absurd h0 (by decide)
  · rw [if_neg ea] at h0
    rw [if_neg ea, if_pos eb] at he
    omega
  · rw [if_neg ea] at h0
    rw [if_neg ea, if_neg eb] at he
    exact hi a b ha hb h0 he
def unsL (W : List Int) (N : List Int) : List Int := N.foldl (fun W w => W.set w.toNat (-1)) W
theorem unsL_snoc (W N : List Int) (w : Int) : unsL W (N ++ [w]) = (unsL W N).set w.toNat (-1) := by simp [unsL]
theorem unsL_len (N : List Int) : ∀ W : List Int, (unsL W N).length = W.length := by
  induction N with
  | nil => intro W; rfl
  | cons x N ih => intro W; show (unsL (W.set x.toNat (-1)) N).length = _; rw [ih, List.length_set]
theorem unsL_get {N : List Int} : ∀ {W : List Int}, (∀ x ∈ N, 0 ≤ x ∧ x < (W.length : Int)) → ∀ i : Nat, (unsL W N).getD i 0 = if (i : Int) ∈ N then -1 else W.getD i 0 := by
  induction N with
  | nil => intro W _ i; simp [unsL]
  | cons x N ih =>
    intro W h i
    have hx := h x (by simp)
    show (unsL (W.set x.toNat (-1)) N).getD i 0 = _
    rw [ih (fun y hy => by rw [List.length_set]; exact h y (by simp [hy])) i, gd_set (by omega)]
    by_cases e : (i : Int) ∈ N
    · rw [if_pos e, if_pos (by simp [e])]
    · rw [if_neg e]
      by_cases e2 : x.toNat = i
      · rw [if_pos e2, if_pos (by simp; left; omega)]
      · rw [if_neg e2, if_neg (by simp only [List.mem_cons, not_or]; exact ⟨by omega, e⟩)]
/-- What has been given since, and is noted. -/
structure Back (W0 W N : List Int) : Prop where
  len : W.length = W0.length
  nd : N.Nodup
  at_ : ∀ x ∈ N, (0 ≤ x ∧ x < (W0.length : Int)) ∧ W0.getD x.toNat 0 = -1 ∧ 0 ≤ W.getD x.toNat 0
  rest : ∀ i : Nat, (i : Int) ∉ N → W.getD i 0 = W0.getD i 0
theorem Back.start (W : List Int) : Back W W [] := ⟨rfl, List.nodup_nil, fun _ h => (by cases h), fun _ _ => rfl⟩
theorem Back.uns {W0 W N : List Int} (h : Back W0 W N) : unsL W N = W0 := by
  refine List.ext_getElem (by rw [unsL_len, h.len]) fun i h1 h2 => ?_
  have hg := unsL_get (W := W) (N := N) (fun x hx => by rw [h.len]; exact (h.at_ x hx).1) i
  rw [List.getD_eq_getElem?_getD, List.getElem?_eq_getElem h1] at hg
  simp only [Option.getD_some] at hg
  rw [hg]
  by_cases e : (i : Int) ∈ N
  · rw [if_pos e]
    have := (h.at_ _ e).2.1
    rw [Int.toNat_natCast, List.getD_eq_getElem?_getD, List.getElem?_eq_getElem h2] at this
    exact this.symm
  · rw [if_neg e, h.rest i e, List.getD_eq_getElem?_getD, List.getElem?_eq_getElem h2]
    rfl
theorem Back.set {W0 W N : List Int} (h : Back W0 W N) {w : Nat} {im : Int} (hw : w < W.length) (h0 : W.getD w 0 = -1) (h1 : 0 ≤ im) : Back W0 (W.set w im) (N ++ [(w : Int)]) := by
  have hn : (w : Int) ∉ N := fun hm => by have := (h.at_ _ hm).2.2; rw [Int.toNat_natCast, h0] at this; omega
  refine ⟨by rw [List.length_set]; exact h.len, ?_, fun x hx => ?_, fun i hi => ?_⟩
  · rw [List.nodup_append]
    exact ⟨h.nd, by simp, fun a ha b hb => by rw [List.mem_singleton.1 hb]; rintro rfl; exact hn ha⟩
  · rcases List.mem_append.1 hx with hx | hx
    · have := h.at_ x hx
      refine ⟨this.1, this.2.1, ?_⟩
      rw [gd_set hw]
      split
      · exact h1
      · exact this.2.2
    · rw [List.mem_singleton.1 hx, Int.toNat_natCast]
      refine ⟨⟨by omega, by rw [← h.len]; omega⟩, ?_, by rw [gd_set hw, if_pos rfl]; exact h1⟩
      rw [← h.rest w hn]; exact h0
  · rw [List.mem_append, List.mem_singleton, not_or] at hi
    rw [gd_set hw, if_neg (fun e => hi.2 (by rw [e]))]
    exact h.rest i hi.1
end Go.Proofs.Ytlpgjnjhhgjkmaa

/-
  The search for matches, in plain Lean: one edge more, one wire more, the end. Conditions: as each says.
-/
namespace Go.Proofs.Ytlpgjnjhhgjkmaa
open Go.RowKit
set_option linter.unusedVariables false

/-- What is asked of the two graphs. -/
structure Fine (g p : Gr) : Prop where
  ng : 0 ≤ g.n
  np : 0 ≤ p.n
  wg : ∀ f : Nat, f < g.es.length → ∀ x ∈ (g.es.getD f e0).i ++ (g.es.getD f e0).o, 0 ≤ x ∧ x < g.n
  wp : ∀ j : Nat, j < p.es.length → ∀ x ∈ (p.es.getD j e0).i ++ (p.es.getD j e0).o, 0 ≤ x ∧ x < p.n
  kk : ∀ j f : Nat, j < p.es.length → f < g.es.length → (p.es.getD j e0).k = (g.es.getD f e0).k → (p.es.getD j e0).i.length = (g.es.getD f e0).i.length ∧ (p.es.getD j e0).o.length = (g.es.getD f e0).o.length
/-- A part of a match that is consistent: the first i edges have their images. -/
structure Prt (g p : Gr) (W Es : List Int) (i : Nat) : Prop where
  lw : W.length = p.n.toNat
  le : Es.length = p.es.length
  il : i ≤ p.es.length
  rw : ∀ x ∈ W, x = -1 ∨ (0 ≤ x ∧ x < g.n)
  inj : InjL W
  re : ∀ j, j < i → 0 ≤ Es.getD j 0 ∧ Es.getD j 0 < (g.es.length : Int)
  de : ∀ a b, a < i → b < i → Es.getD a 0 = Es.getD b 0 → a = b
  ed : ∀ j, j < i → (∀ x ∈ (p.es.getD j e0).i ++ (p.es.getD j e0).o, 0 ≤ W.getD x.toNat 0) ∧ edAt g.es (Es.getD j 0) = ⟨(p.es.getD j e0).k, (p.es.getD j e0).v, (p.es.getD j e0).i.map (lkL W), (p.es.getD j e0).o.map (lkL W)⟩
def pre (Es : List Int) (i : Nat) : List Int := Es.take i ++ List.replicate (Es.length - i) (-1)
theorem pre_get {Es : List Int} {i j : Nat} (hi : i ≤ Es.length) (a : Int) : (pre Es i).getD j a = if j < i then Es.getD j 0 else if j < Es.length then -1 else a := by
  unfold pre
  rw [List.getD_eq_getElem?_getD]
  by_cases h : j < i
  · rw [if_pos h, List.getElem?_append_left (by rw [List.length_take]; omega), List.getElem?_take, if_pos h, List.getD_eq_getElem?_getD, List.getElem?_eq_getElem (by omega)]
    rfl
  · rw [if_neg h, List.getElem?_append_right (by rw [List.length_take]; omega), List.length_take, Nat.min_eq_left hi, List.getElem?_replicate]
    by_cases h2 : j < Es.length
    · rw [if_pos (by omega), if_pos h2]; rfl
    · rw [if_neg (by omega), if_neg h2]; rfl
theorem pre_all (Es : List Int) : pre Es Es.length = Es := by simp [pre]
theorem pre_take {Es Fs : List Int} {i : Nat} (hl : Fs.length = Es.length) (h : Fs.take i = Es.take i) : pre Fs i = pre Es i := by
  unfold pre; rw [hl, h]
def pairsOf (e o : Ed) : List (Int × Int) := (e.i ++ e.o).zip (o.i ++ o.o)
theorem map_zip {f : Int → Int} : ∀ {l m : List Int}, l.length = m.length → (l.map f = m ↔ ∀ x ∈ l.zip m, f x.1 = x.2)
  | [], [], _ => by simp
  | a :: l, b :: m, h => by
    have ih := map_zip (f := f) (l := l) (m := m) (by simpa using h)
    simp only [List.map_cons, List.cons.injEq, List.zip_cons_cons, List.mem_cons, forall_eq_or_imp]
    rw [ih]
theorem pairs_iff {f : Int → Int} {e o : Ed} (hi : e.i.length = o.i.length) (ho : e.o.length = o.o.length) : (e.i.map f = o.i ∧ e.o.map f = o.o) ↔ ∀ x ∈ pairsOf e o, f x.1 = x.2 := by
  unfold pairsOf
  rw [← map_zip (by simp [hi, ho]), List.map_append]
  constructor
  · rintro ⟨h1, h2⟩; rw [h1, h2]
  · intro h; exact List.append_inj h (by simpa using hi)
theorem pairs_ok {g p : Gr} (hf : Fine g p) {i f : Nat} (hi : i < p.es.length) (hf2 : f < g.es.length) : PairOk p.n.toNat g.n (pairsOf (p.es.getD i e0) (g.es.getD f e0)) := by
  intro x hx
  have h1 := hf.wp i hi x.1 (List.of_mem_zip hx).1
  have h2 := hf.wg f hf2 x.2 (List.of_mem_zip hx).2
  have := hf.np
  exact ⟨⟨h1.1, by omega⟩, h2⟩
theorem lk_eq {W : List Int} {x : Int} (h : 0 ≤ x) : lkL W x = W.getD x.toNat 0 := by unfold lkL; rw [if_pos h]
theorem edAt_eq {l : List Ed} {f : Int} {n : Nat} (h : f = (n : Int)) : edAt l f = l.getD n e0 := by rw [h]; rfl
section
variable {g p : Gr} {W Es : List Int} {i : Nat}
/-- What a match that goes on with the part tells of its edge number i. -/
theorem Prt.tells (hf : Fine g p) (h : Prt g p W Es i) (hi : i < p.es.length) {f : Nat} (hfl : f < g.es.length) {M : Mt} (hM : IsMt g p M) (hx : Ext ⟨W, pre Es i⟩ M) (he : M.E.getD i 0 = (f : Int)) :
    (∀ j, j < i → Es.getD j 0 ≠ (f : Int)) ∧ (p.es.getD i e0).k = (g.es.getD f e0).k ∧ (p.es.getD i e0).v = (g.es.getD f e0).v ∧ ∃ W', setsL W (pairsOf (p.es.getD i e0) (g.es.getD f e0)) = some W' ∧ Fits W' M.W := by
  have hed := hM.ed i hi
  rw [edAt_eq he] at hed
  have hk : (p.es.getD i e0).k = (g.es.getD f e0).k := by rw [hed]
  have hv : (p.es.getD i e0).v = (g.es.getD f e0).v := by rw [hed]
  refine ⟨fun j hj hj2 => ?_, hk, hv, ?_⟩
  · have hle := h.le
    have hme := hM.le
    have h1 := hx.2 j (by rw [pre_get (by omega), if_pos hj]; exact (h.re j hj).1)
    rw [pre_get (by omega), if_pos hj, hj2, ← he] at h1
    rw [List.getD_eq_getElem?_getD, List.getD_eq_getElem?_getD, List.getElem?_eq_getElem (by omega), List.getElem?_eq_getElem (by omega)] at h1
    have := (List.getElem_inj hM.de).1 h1
    omega
  · have hkk := hf.kk i f hi hfl hk
    refine setsL_fits (b := g.n) (by rw [h.lw]; exact pairs_ok hf hi hfl) hx.1 (by rw [hM.lw, h.lw]) hM.dw fun x hxp => ?_
    have := (pairs_iff (f := lkL M.W) hkk.1 hkk.2).1 ⟨by rw [hed], by rw [hed]⟩ x hxp
    rw [lk_eq (pairs_ok hf hi hfl x hxp).1.1] at this
    exact this
/-- One edge more. -/
theorem Prt.edge (hf : Fine g p) (h : Prt g p W Es i) (hi : i < p.es.length) {f : Nat} (hfl : f < g.es.length) (hn : ∀ j, j < i → Es.getD j 0 ≠ (f : Int)) (hk : (p.es.getD i e0).k = (g.es.getD f e0).k) (hv : (p.es.getD i e0).v = (g.es.getD f e0).v)
    {W' : List Int} (hs : setsL W (pairsOf (p.es.getD i e0) (g.es.getD f e0)) = some W') :
    Prt g p W' (Es.set i (f : Int)) (i + 1) ∧ ∀ M, IsMt g p M → ((Ext ⟨W, pre Es i⟩ M ∧ M.E.getD i 0 = (f : Int)) ↔ Ext ⟨W', pre (Es.set i (f : Int)) (i + 1)⟩ M) := by
  have hle := h.le
  have hpk := pairs_ok hf hi hfl
  have hkk := hf.kk i f hi hfl hk
  obtain ⟨f1, f2, f3, f4⟩ := setsL_facts (n := g.n) (by rw [h.lw]; exact hpk) hs h.inj h.rw
  have hgs : ∀ j, (Es.set i (f : Int)).getD j 0 = if i = j then (f : Int) else Es.getD j 0 := fun j => gd_set (by omega)
  refine ⟨⟨by rw [setsL_len hs, h.lw], by rw [List.length_set, h.le], by omega, f2, f1, fun j hj => ?_, fun a b ha hb he => ?_, fun j hj => ?_⟩, fun M hM => ⟨fun ⟨hx, he⟩ => ?_, fun hx => ?_⟩⟩
  · rw [hgs]
    split
    · omega
    · exact h.re j (by omega)
  · rw [hgs, hgs] at he
    by_cases ea : i = a <;> by_cases eb : i = b
    · omega
    · rw [if_pos ea, if_neg eb] at he; exact absurd he.symm (hn b (by omega))
    · rw [if_neg ea, if_pos eb] at he; exact absurd he (hn a (by omega))
    · rw [if_neg ea, if_neg eb] at he; exact h.de a b (by omega) (by omega) he
  · rw [hgs]
    by_cases e : i = j
    · subst e
      rw [if_pos rfl, edAt_eq rfl]
      have hall : ∀ x ∈ pairsOf (p.es.getD i e0) (g.es.getD f e0), lkL W' x.1 = x.2 := fun x hx => by rw [lk_eq (hpk x hx).1.1]; exact f4 x hx
      have hm := (pairs_iff (f := lkL W') hkk.1 hkk.2).2 hall
      refine ⟨fun x hx => ?_, by rw [hk, hv, hm.1, hm.2]⟩
      obtain ⟨t, ht, rfl⟩ := List.mem_iff_getElem.1 hx
      have hlen : ((p.es.getD i e0).i ++ (p.es.getD i e0).o).length = ((g.es.getD f e0).i ++ (g.es.getD f e0).o).length := by rw [List.length_append, List.length_append, hkk.1, hkk.2]
      have hz : (((p.es.getD i e0).i ++ (p.es.getD i e0).o)[t], ((g.es.getD f e0).i ++ (g.es.getD f e0).o)[t]'(by omega)) ∈ pairsOf (p.es.getD i e0) (g.es.getD f e0) := by
        unfold pairsOf
        rw [← List.getElem_zip (h := by rw [List.length_zip]; omega)]
        exact List.getElem_mem _
      have := f4 _ hz
      have h0 := (hpk _ hz).2.1
      simp only at this h0
      rw [this]; exact h0
    · rw [if_neg e]
      obtain ⟨d1, d2⟩ := h.ed j (by omega)
      refine ⟨fun x hx => by rw [f3 _ (d1 x hx)]; exact d1 x hx, ?_⟩
      rw [d2]
      have hw : ∀ x ∈ (p.es.getD j e0).i ++ (p.es.getD j e0).o, lkL W' x = lkL W x := fun x hx => by
        have h0 := (hf.wp j (by omega) x hx).1
        rw [lk_eq h0, lk_eq h0]; exact f3 _ (d1 x hx)
      congr 1
      · exact List.map_congr_left fun x hx => (hw x (List.mem_append_left _ hx)).symm
      · exact List.map_congr_left fun x hx => (hw x (List.mem_append_right _ hx)).symm
  · obtain ⟨_, _, _, W1, h1, h2⟩ := h.tells hf hi hfl hM hx he
    rw [hs] at h1
    obtain rfl := Option.some.inj h1
    refine ⟨h2, fun j hj => ?_⟩
    rw [pre_get (by rw [List.length_set]; omega)] at hj ⊢
    by_cases e1 : j < i + 1
    · rw [if_pos e1] at hj ⊢
      rw [hgs]
      by_cases e : i = j
      · rw [if_pos e, ← e]; exact he
      · rw [if_neg e]
        have := hx.2 j (by rw [pre_get (by omega), if_pos (by omega)]; exact (h.re j (by omega)).1)
        rw [pre_get (by omega), if_pos (by omega)] at this
        exact this
    · rw [if_neg e1] at hj
      split at hj <;> exact absurd hj (by decide)
  · obtain ⟨b1, b2⟩ := setsL_back (b := g.n) (by rw [h.lw]; exact hpk) hs hx.1
    have hE : ∀ j, j < i + 1 → M.E.getD j 0 = (Es.set i (f : Int)).getD j 0 := fun j hj => by
      have := hx.2 j (by
        rw [pre_get (by rw [List.length_set]; omega), if_pos hj, hgs]
        split
        · omega
        · exact (h.re j (by omega)).1)
      rw [pre_get (by rw [List.length_set]; omega), if_pos hj] at this
      exact this
    refine ⟨⟨b1, fun j hj => ?_⟩, by rw [hE i (by omega), hgs, if_pos rfl]⟩
    rw [pre_get (by omega)] at hj ⊢
    by_cases e1 : j < i
    · rw [if_pos e1]
      rw [hE j (by omega), hgs, if_neg (by omega)]
    · rw [if_neg e1] at hj
      split at hj <;> exact absurd hj (by decide)
/-- One wire more, all edges given. -/
theorem Prt.wire (h : Prt g p W Es p.es.length) {w v : Nat} (hw : w < W.length) (h0 : W.getD w 0 = -1) (hv : (v : Int) < g.n) (hn : (v : Int) ∉ W) :
    Prt g p (W.set w (v : Int)) Es p.es.length ∧ ∀ M, IsMt g p M → ((Ext ⟨W, Es⟩ M ∧ M.W.getD w 0 = (v : Int)) ↔ Ext ⟨W.set w (v : Int), Es⟩ M) := by
  have hs : setL W w (v : Int) = some (W.set w (v : Int)) := by unfold setL; rw [if_neg (by omega), if_neg hn]
  have hg := setL_get hs hw
  refine ⟨⟨by rw [List.length_set, h.lw], h.le, h.il, setL_rng hs h.rw ⟨by omega, hv⟩, setL_inj hs hw h.inj, h.re, h.de, fun j hj => ?_⟩, fun M hM => ⟨fun ⟨hx, he⟩ => ?_, fun hx => ?_⟩⟩
  · obtain ⟨d1, d2⟩ := h.ed j hj
    refine ⟨fun x hx => by rw [hg.2 _ (d1 x hx)]; exact d1 x hx, ?_⟩
    rw [d2]
    have hq : ∀ x ∈ (p.es.getD j e0).i ++ (p.es.getD j e0).o, lkL (W.set w (v : Int)) x = lkL W x := fun x hx => by
      unfold lkL
      split
      · exact hg.2 _ (d1 x hx)
      · rfl
    congr 1
    · exact List.map_congr_left fun x hx => (hq x (List.mem_append_left _ hx)).symm
    · exact List.map_congr_left fun x hx => (hq x (List.mem_append_right _ hx)).symm
  · obtain ⟨W1, h1, h2⟩ := fits_set hx.1 (by rw [hM.lw, h.lw]) hM.dw hw (by omega) he
    rw [hs] at h1
    obtain rfl := Option.some.inj h1
    exact ⟨h2, hx.2⟩
  · obtain ⟨b1, b2⟩ := fits_back hs hw (by omega) hx.1
    exact ⟨⟨b1, hx.2⟩, b2⟩
theorem Prt.wire_none (h : Prt g p W Es p.es.length) {w : Nat} {v : Int} (hw : w < W.length) (h0 : W.getD w 0 = -1) (hv : 0 ≤ v) (hn : v ∈ W) {M : Mt} (hM : IsMt g p M) (hx : Ext ⟨W, Es⟩ M) : M.W.getD w 0 ≠ v := fun he => by
  obtain ⟨W1, h1, h2⟩ := fits_set (W := W) hx.1 (by rw [hM.lw, h.lw]) hM.dw hw hv he
  unfold setL at h1
  rw [if_neg (by omega), if_pos hn] at h1
  exact absurd h1 (by simp)
/-- All is given: a match. -/
theorem Prt.whole (h : Prt g p W Es p.es.length) (hall : (-1 : Int) ∉ W) : IsMt g p ⟨W, Es⟩ := by
  have hr : ∀ x ∈ W, 0 ≤ x ∧ x < g.n := fun x hx => by
    rcases h.rw x hx with rfl | h
    · exact absurd hx hall
    · exact h
  refine ⟨h.lw, h.le, hr, fun x hx => ?_, ?_, ?_, fun j hj => (h.ed j hj).2⟩
  · obtain ⟨i, hi, rfl⟩ := mem_gd.1 hx
    exact h.re i (by have := h.le; simp only at hi; omega)
  · refine List.pairwise_iff_getElem.2 ?_
    intro a b ha hb hab he
    have e2 : W.getD a 0 = W.getD b 0 := by rw [List.getD_eq_getElem?_getD, List.getD_eq_getElem?_getD, List.getElem?_eq_getElem ha, List.getElem?_eq_getElem hb]; exact he
    have := h.inj a b ha hb (hr _ (getD_mem' ha)).1 e2
    omega
  · refine List.pairwise_iff_getElem.2 ?_
    intro a b ha hb hab he
    have e2 : Es.getD a 0 = Es.getD b 0 := by rw [List.getD_eq_getElem?_getD, List.getD_eq_getElem?_getD, List.getElem?_eq_getElem ha, List.getElem?_eq_getElem hb]; exact he
    have := h.le
    have := h.de a b (by simp only at hb; omega) (by simp only at hb; omega) e2
    omega
end
end Go.Proofs.Ytlpgjnjhhgjkmaa

/-
  Small functions on lists of integers: slices.Index, slices.Contains, repeated, clone. Conditions: lengths are small.
-/
namespace Go.Proofs.Ytlpgjnjhhgjkmaa
open Go.RowKit
set_option linter.unusedVariables false
set_option maxRecDepth 100000

theorem index_any (v : Value) (zs : List Int) (x : Int) (m : Nat) (w : World) (hv : IntsV w v zs) (hl : zs.length ≤ 1000000) (hm : m < zs.length) (he : zs.getD m 0 = x) (hn : ∀ j, j < m → zs.getD j 0 ≠ x) :
    Calls Try.prog 74 #[v, .int .i64 x] w fun e w' => e = .returned (.int .i64 m) ∧ w.grownBy w' none := by
  have HV := Lib.hid hv; have HN := Lib.hid hn; have HE := Lib.hid he
  obtain ⟨a, c, rfl⟩ := hv.shape
  generalize hl' : zs.length = l at *
  have HL := Lib.hid hl'
  clear hv hn he hl'
  go_enter Try.func74, Try.ntmps74
  go_wp2
  go_loopw [8] (fun i wr => ∃ k : Nat, k ≤ m ∧ i = .int .i64 k ∧ w.grownBy wr none) (fun i _ => l - (intOf i).toNat)
  case atStart => exact ⟨0, by omega, rfl, grownBy_refl _ _⟩
  case round =>
    obtain ⟨k, hk, rfl, hg⟩ := hrel
    have HG := Lib.hid hg
    clear hg
    have hlt : k < l := by omega
    obtain ⟨b1, o1, rfl, hb1, hc1⟩ := (HV.out.carry HG.out).atD (i := k) (by rw [HL.out]; exact hlt)
    clear hb1
    by_cases hkm : k = m
    · subst hkm
      rw [HE.out] at hc1
      go_wp2
      go_ret
      exact ⟨rfl, HG.out⟩
    · have hne := HN.out k (by omega)
      generalize zs.getD k 0 = y at *
      have hb : (x == y) = false := by rw [beq_eq_false_iff_ne]; exact fun h => hne h.symm
      go_wp2
      go_roundw
      case rel => exact ⟨k + 1, by omega, by go_num, HG.out⟩
      case measure => simp [intOf]; omega
theorem index_no (v : Value) (zs : List Int) (x : Int) (w : World) (hv : IntsV w v zs) (hl : zs.length ≤ 1000000) (hn : x ∉ zs) :
    Calls Try.prog 74 #[v, .int .i64 x] w fun e w' => e = .returned (.int .i64 (-1)) ∧ w.grownBy w' none := by
  have HV := Lib.hid hv; have HN := Lib.hid hn
  obtain ⟨a, c, rfl⟩ := hv.shape
  generalize hl' : zs.length = l at *
  have HL := Lib.hid hl'
  clear hv hn hl'
  go_enter Try.func74, Try.ntmps74
  go_wp2
  go_loopw [8] (fun i wr => ∃ k : Nat, k ≤ l ∧ i = .int .i64 k ∧ w.grownBy wr none) (fun i _ => l - (intOf i).toNat)
  case atStart => exact ⟨0, by omega, rfl, grownBy_refl _ _⟩
  case round =>
    obtain ⟨k, hk, rfl, hg⟩ := hrel
    have HG := Lib.hid hg
    clear hg
    by_cases hlt : k < l
    · obtain ⟨b1, o1, rfl, hb1, hc1⟩ := (HV.out.carry HG.out).atD (i := k) (by rw [HL.out]; exact hlt)
      clear hb1
      have hne : x ≠ zs.getD k 0 := fun h => HN.out (by rw [h]; exact getD_mem' (by rw [HL.out]; exact hlt))
      generalize zs.getD k 0 = y at *
      have hb : (x == y) = false := by rw [beq_eq_false_iff_ne]; exact hne
      go_wp2
      go_roundw
      case rel => exact ⟨k + 1, by omega, by go_num, HG.out⟩
      case measure => simp [intOf]; omega
    · go_wp2
      go_ret
      exact ⟨rfl, HG.out⟩
theorem first_idx {zs : List Int} {x : Int} (h : x ∈ zs) : ∃ m, m < zs.length ∧ zs.getD m 0 = x ∧ ∀ j, j < m → zs.getD j 0 ≠ x := by
  induction zs with
  | nil => cases h
  | cons y zs ih =>
    by_cases e : y = x
    · exact ⟨0, by simp, by simpa using e, fun j hj => absurd hj (by omega)⟩
    · have hx : x ∈ zs := by
        rcases List.mem_cons.1 h with h | h
        · exact absurd h.symm e
        · exact h
      obtain ⟨m, h1, h2, h3⟩ := ih hx
      refine ⟨m + 1, by simp; omega, by simpa using h2, fun j hj => ?_⟩
      cases j with
      | zero => simpa using e
      | succ j => simpa using h3 j (by omega)
theorem contains_any (v : Value) (zs : List Int) (x : Int) (w : World) (hv : IntsV w v zs) (hl : zs.length ≤ 1000000) :
    Calls Try.prog 73 #[v, .int .i64 x] w fun e w' => e = .returned (.bool (decide (x ∈ zs))) ∧ w.grownBy w' none := by
  by_cases h : x ∈ zs
  · obtain ⟨m, h1, h2, h3⟩ := first_idx h
    have HI := Lib.hid fun W (hg : w.grownBy W none) => index_any v zs x m W (hv.carry hg) hl h1 h2 h3
    rw [decide_eq_true h]
    clear h1 h2 h3 h hv hl
    go_enter Try.func73, Try.ntmps73
    go_wp2_with (
      go_at_call 74
      with_reducible refine (HI.out _ (grownBy_refl _ _)).mono ?_
      rintro e w2 ⟨rfl, hg⟩
      have HG := Lib.hid hg
      clear hg)
    go_ret
    exact ⟨rfl, HG.out⟩
  · have HI := Lib.hid fun W (hg : w.grownBy W none) => index_no v zs x W (hv.carry hg) hl h
    rw [decide_eq_false h]
    clear h hv hl
    go_enter Try.func73, Try.ntmps73
    go_wp2_with (
      go_at_call 74
      with_reducible refine (HI.out _ (grownBy_refl _ _)).mono ?_
      rintro e w2 ⟨rfl, hg⟩
      have HG := Lib.hid hg
      clear hg)
    go_ret
    exact ⟨rfl, HG.out⟩
theorem clone_full (u : Value) (ys : List Int) (w : World) (hu : IntsV w u ys) (hl : ys.length ≤ 1000000) :
    Calls Try.prog 103 #[u] w fun e w' => ∃ a c, e = .returned (.slice a ys.length c) ∧ Sep w' [OI (.slice a ys.length c) ys, KeepA w] := by
  have HU := Lib.hid hu
  obtain ⟨ua, ucap, rfl, hx⟩ := hu
  clear hx
  have HS0 := Lib.hid ((Sep.start w).emptyI)
  go_enter Try.func103, Try.ntmps103
  go_wp2_with (at_builtin; go_loud (refine app_ints rfl _ _ rfl rfl rfl (HU.out.carry (grownBy_alloc _ _ _)) (OwnInts.empty (Nat.le_refl _) rfl) (by simp) (by simp; omega) ?_); intro v' w1 hown' hbel')
  have hs : Sep w1 [OI v' ys, KeepA w] := (Sep.start w).newI (grown_of_below (((Below.refl _ _).alloc (Nat.le_refl _) _).trans hbel')) (by simpa using hown')
  obtain ⟨a, c, rfl⟩ := own_shape (show OwnInts 0 w1 v' ys from hs.hd)
  have HS := Lib.hid hs
  clear hown' hbel' hs
  go_wp2
  go_ret
  exact ⟨a, c, rfl, HS.out⟩
theorem repl_set {n k : Nat} {x : Int} (h : k < n) : (List.replicate k x ++ List.replicate (n - k) 0).set k x = List.replicate (k + 1) x ++ List.replicate (n - (k + 1)) 0 := by
  rw [List.set_append_right _ _ (by simp), List.length_replicate, Nat.sub_self, show n - k = (n - (k + 1)) + 1 by omega, List.replicate_succ, List.set_cons_zero, List.replicate_succ', List.append_assoc]
  rfl
theorem repeated_full (x : Int) (n : Nat) (w : World) (hl : n ≤ 1000000) :
    Calls Try.prog 65 #[.int .i64 x, .int .i64 n] w fun e w' => ∃ g c, e = .returned (.slice (some ⟨g, 0, none⟩) n c) ∧ Sep w' [OI (.slice (some ⟨g, 0, none⟩) n c) (List.replicate n x), KeepA w] := by
  have HZ := Lib.hid (zeros_full n w hl)
  go_enter Try.func65, Try.ntmps65
  go_wp2_with (
    go_at_call 66
    with_reducible refine HZ.out.mono ?_
    rintro e w2 ⟨g, c, rfl, hs⟩
    have HS := Lib.hid hs
    clear hs)
  go_loopw [11] (fun i wr => ∃ k : Nat, k ≤ n ∧ i = .int .i64 k ∧ Sep wr [OI (.slice (some ⟨g, 0, none⟩) n c) (List.replicate k x ++ List.replicate (n - k) 0), KeepA w]) (fun i _ => n - (intOf i).toNat)
  case atStart => exact ⟨0, by omega, rfl, by simpa using HS.out⟩
  case round =>
    obtain ⟨k, hk, rfl, hs⟩ := hrel
    have HSR := Lib.hid hs
    clear HS hs
    by_cases hlt : k < n
    · have hlen : (List.replicate k x ++ List.replicate (n - k) (0 : Int)).length = n := by simp; omega
      have hc := (show OwnInts 0 wr _ _ from HSR.out.hd).cell hlen.symm (j := k) (by omega)
      have hf := (show OwnInts 0 wr _ _ from HSR.out.hd).free hlen.symm k
      have hs2 := HSR.out.setI hlen.symm k x
      rw [repl_set hlt] at hs2
      have HS2 := Lib.hid hs2
      generalize (List.replicate k x ++ List.replicate (n - k) (0 : Int))[k] = y at *
      clear hs2 hlen
      go_wp2
      go_roundw
      case rel => exact ⟨k + 1, by omega, by go_num, HS2.out⟩
      case measure => simp [intOf]; omega
    · have hkn : k = n := by omega
      subst hkn
      have hs := HSR.out
      rw [Nat.sub_self, List.replicate_zero, List.append_nil] at hs
      have HSE := Lib.hid hs
      clear hs HSR
      go_wp2
      go_ret
      exact ⟨g, c, rfl, HSE.out⟩
end Go.Proofs.Ytlpgjnjhhgjkmaa

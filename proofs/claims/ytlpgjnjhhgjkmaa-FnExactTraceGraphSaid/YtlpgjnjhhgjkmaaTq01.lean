/-
  Lists of graphs: how they lie in memory; how much they take of a budget. Conditions: lengths are small.
-/
import Derived.Test.YtlpgjnjhhgjkmaaBa06
import Derived.Test.YtlpgjnjhhgjkmaaTq00
import Derived.Test.YtlpgjnjhhgjkmaaBa05
namespace Go.Proofs.Ytlpgjnjhhgjkmaa
open Go.RowKit
set_option linter.unusedVariables false
set_option maxRecDepth 100000

/-- A graph with the slices that hold it. -/
structure XG where
  n : Int
  ev : Value
  xs : List XE
  iv : Value
  is : List Int
  ov : Value
  os : List Int
def XG.gr (x : XG) : Gr := ⟨x.n, eds x.xs, x.is, x.os⟩
def graphC (x : XG) : List Value := [.int .i64 x.n, x.ev, x.iv, x.ov]
def graphE : Lay XG := ⟨29, 4, graphC, fun _ => rfl, by decide⟩
def argGrE : Lay XG := ⟨25, 4, graphC, fun _ => rfl, by decide⟩
def xg0 : XG := ⟨0, nilS, [], nilS, [], nilS, []⟩
def grs (ys : List XG) : List Gr := ys.map XG.gr
/-- A list of graphs that can be read. -/
def RdGs (E : Lay XG) (F : Lay XE) (w : World) (v : Value) (gs : List Gr) : Prop :=
  ∃ ys : List XG, grs ys = gs ∧ RdR E w v ys ∧ ∀ y ∈ ys, RdE F w y.ev y.gr.es ∧ IntsV w y.iv y.gr.i ∧ IntsV w y.ov y.gr.o
def rowsG (ys : List XG) : List Asrt := ys.flatMap fun y => [OE y.ev y.xs, OI y.iv y.is, OI y.ov y.os]
/-- A list of graphs that is the call's own. -/
def OG (v : Value) (ys : List XG) : Asrt := Bag (OR graphE v ys :: rowsG ys)
theorem RdGs.carry {E : Lay XG} {F : Lay XE} {w w' : World} {v : Value} {gs : List Gr} (h : RdGs E F w v gs) (hg : w.grownBy w' none) : RdGs E F w' v gs := by
  obtain ⟨xs, h1, h2, h3⟩ := h
  exact ⟨xs, h1, h2.carry hg, fun x hx => ⟨(h3 x hx).1.carry hg, (h3 x hx).2.1.carry hg, (h3 x hx).2.2.carry hg⟩⟩
theorem grs_len (ys : List XG) : (grs ys).length = ys.length := by simp [grs]
theorem RdGs.shape {E : Lay XG} {F : Lay XE} {w : World} {v : Value} {gs : List Gr} (h : RdGs E F w v gs) : ∃ a c, v = .slice a gs.length c := by
  obtain ⟨xs, h1, h2, _⟩ := h
  obtain ⟨a, c, rfl, _⟩ := h2
  exact ⟨a, c, by rw [← h1, grs_len]⟩
theorem OG.read {w : World} {v : Value} {ys : List XG} (h : (OG v ys).holds w) : RdGs graphE edgeE w v (grs ys) := by
  have ha := Sep.all (show Sep w (OR graphE v ys :: rowsG ys) from h)
  have hm : ∀ y ∈ ys, ∀ A ∈ [OE y.ev y.xs, OI y.iv y.is, OI y.ov y.os], A.holds w := fun y hy A hA => ha A (List.mem_cons_of_mem _ (List.mem_flatMap.2 ⟨y, hy, hA⟩))
  refine ⟨ys, rfl, OwnR.read (show OwnR graphE 0 w v ys from ha (OR graphE v ys) (by simp)), fun y hy => ⟨?_, ?_, ?_⟩⟩
  · exact OE.read (hm y hy (OE y.ev y.xs) (by simp))
  · exact OwnInts.read (show OwnInts 0 w y.iv y.is from hm y hy (OI y.iv y.is) (by simp))
  · exact OwnInts.read (show OwnInts 0 w y.ov y.os from hm y hy (OI y.ov y.os) (by simp))
theorem rowsG_snoc (ys : List XG) (y : XG) : rowsG (ys ++ [y]) = rowsG ys ++ [OE y.ev y.xs, OI y.iv y.is, OI y.ov y.os] := by
  unfold rowsG
  rw [List.flatMap_append]
  simp
theorem OG_own {v : Value} {ys : List XG} : ∀ k, (OG v ys).sees k → (OG v ys).foot k := by
  rintro k ⟨A, hA, hk⟩
  refine ⟨A, hA, ?_⟩
  rcases List.mem_cons.1 hA with rfl | hA
  · exact hk
  · obtain ⟨x, _, hx⟩ := List.mem_flatMap.1 hA
    simp only [List.mem_cons, List.not_mem_nil, or_false] at hx
    rcases hx with rfl | rfl | rfl
    · exact OE_own k hk
    · exact hk
    · exact hk
theorem OG.shape {w : World} {v : Value} {ys : List XG} (h : (OG v ys).holds w) : ∃ a c, v = .slice a ys.length c := OwnR.shape (show OwnR graphE 0 w v ys from (show Sep w (OR graphE v ys :: rowsG ys) from h).hd)
def gr00 : Gr := ⟨0, [], [], []⟩
theorem grs_at {xs : List XG} {i : Nat} : (grs xs).getD i gr00 = (xs.getD i xg0).gr := by
  unfold grs
  rw [List.getD_eq_getElem?_getD, List.getElem?_map, List.getD_eq_getElem?_getD]
  cases xs[i]? <;> rfl
/-- What every later world holds of graph i. -/
theorem RdGs.atK {E : Lay XG} {F : Lay XE} (h1 : E.sz = 4) (h2 : E.cs = graphC) {w : World} {a : Option Addr} {n c : Nat} {gs : List Gr} (h : RdGs E F w (.slice a n c) gs) {i : Nat} (hi : i < gs.length) :
    ∃ b o ev iv ov, a = some ⟨b, o, none⟩ ∧ ∀ W, w.grownBy W none → (W.cell? ⟨b, o + i * 4, none⟩ = some (.int .i64 (gs.getD i gr00).n) ∧ W.cell? ⟨b, o + i * 4 + 1, none⟩ = some ev ∧
      W.cell? ⟨b, o + i * 4 + 2, none⟩ = some iv ∧ W.cell? ⟨b, o + i * 4 + 3, none⟩ = some ov) ∧ RdE F W ev (gs.getD i gr00).es ∧ IntsV W iv (gs.getD i gr00).i ∧ IntsV W ov (gs.getD i gr00).o := by
  obtain ⟨xs, rfl, hr, hx⟩ := h
  have hil : i < xs.length := by simpa [grs] using hi
  obtain ⟨b, o, rfl, hb, hc⟩ := hr.at hil
  rw [grs_at, List.getD_eq_getElem?_getD, List.getElem?_eq_getElem hil]
  simp only [Option.getD_some]
  have hm := hx xs[i] (List.getElem_mem _)
  refine ⟨b, o, xs[i].ev, xs[i].iv, xs[i].ov, rfl, fun W hg => ⟨⟨?_, ?_, ?_, ?_⟩, hm.1.carry hg, hm.2.1.carry hg, hm.2.2.carry hg⟩⟩
  · refine (World.cell?_of_block (a := ⟨b, o + i * 4, none⟩) (hg.block b hb (by simp))).trans ?_
    have := hc 0 (by omega)
    rw [h1, h2] at this
    exact this
  · refine (World.cell?_of_block (a := ⟨b, o + i * 4 + 1, none⟩) (hg.block b hb (by simp))).trans ?_
    have := hc 1 (by omega)
    rw [h1, h2] at this
    exact this
  · refine (World.cell?_of_block (a := ⟨b, o + i * 4 + 2, none⟩) (hg.block b hb (by simp))).trans ?_
    have := hc 2 (by omega)
    rw [h1, h2] at this
    exact this
  · refine (World.cell?_of_block (a := ⟨b, o + i * 4 + 3, none⟩) (hg.block b hb (by simp))).trans ?_
    have := hc 3 (by omega)
    rw [h1, h2] at this
    exact this
/-! ### sizes -/
def totGs : List Gr → Nat
  | [] => 0
  | g :: gs => totG g + totGs gs
theorem totGs_take (gs : List Gr) (k : Nat) (hk : k < gs.length) : totGs (gs.take (k + 1)) = totGs (gs.take k) + totG (gs.getD k gr00) := by
  induction gs generalizing k with
  | nil => simp at hk
  | cons e es ih =>
    cases k with
    | zero => simp [totGs]
    | succ k =>
      have := ih k (by simpa using hk)
      simp only [List.take_succ_cons, totGs, List.getD_cons_succ]
      omega
theorem totGs_le (gs : List Gr) (k : Nat) : totGs (gs.take k) ≤ totGs gs := by
  induction gs generalizing k with
  | nil => simp
  | cons e es ih =>
    cases k with
    | zero => simp [totGs]
    | succ k =>
      have := ih k
      simp only [List.take_succ_cons, totGs]
      omega
theorem totGs_mem {gs : List Gr} {g : Gr} (h : g ∈ gs) : totG g ≤ totGs gs := by
  induction gs with
  | nil => cases h
  | cons x es ih =>
    unfold totGs
    rcases List.mem_cons.1 h with rfl | h
    · omega
    · have := ih h
      omega
/-- A graph whose lengths are small. -/
structure Sm (g : Gr) : Prop where
  es : g.es.length ≤ 1048576
  i : g.i.length ≤ 1048576
  o : g.o.length ≤ 1048576
  ed : ∀ e ∈ g.es, e.i.length ≤ 1048576 ∧ e.o.length ≤ 1048576
theorem Sm.of {g : Gr} (h : totG g ≤ 1048576) : Sm g := by
  unfold totG at h
  refine ⟨by omega, by omega, by omega, fun e he => ?_⟩
  have := tot_mem he
  exact ⟨by omega, by omega⟩
theorem getD_mem {α : Type} {l : List α} {i : Nat} {d : α} (h : i < l.length) : l.getD i d ∈ l := by
  rw [List.getD_eq_getElem?_getD, List.getElem?_eq_getElem h]
  exact List.getElem_mem _
end Go.Proofs.Ytlpgjnjhhgjkmaa

/-
  Own copies of lists of graphs; equal lists of graphs. Conditions: lengths are small.
-/
namespace Go.Proofs.Ytlpgjnjhhgjkmaa
open Go.RowKit
set_option linter.unusedVariables false
set_option maxRecDepth 100000

theorem info_graph : (Try.prog.info? graphE.ty).map (fun i => (i.zero, i.size, i.bytes)) = some (some (.agg #[.int .i64 0, .slice none 0 0, .slice none 0 0, .slice none 0 0]), graphE.sz, 80) := by kernel_rfl
theorem zeroGraph_cells : (Value.agg #[.int .i64 0, .slice none 0 0, .slice none 0 0, .slice none 0 0]).cells.toList = graphE.cs xg0 := rfl
theorem graph_cells {w : World} {g n cap B : Nat} {xs : List XG} (h : OwnR graphE B w (.slice (some ⟨g, 0, none⟩) n cap) xs) (hn : n = xs.length) {i : Nat} (hi : i < xs.length) :
    w.cell? ⟨g, i * 4, none⟩ = some (.int .i64 (xs.getD i xg0).n) ∧ w.cell? ⟨g, i * 4 + 1, none⟩ = some (xs.getD i xg0).ev ∧
      w.cell? ⟨g, i * 4 + 2, none⟩ = some (xs.getD i xg0).iv ∧ w.cell? ⟨g, i * 4 + 3, none⟩ = some (xs.getD i xg0).ov := by
  have e : xs.getD i xg0 = xs[i] := by rw [List.getD_eq_getElem?_getD, List.getElem?_eq_getElem hi]; rfl
  rw [e]
  have hc := fun j hj => h.cell hn (i := i) (j := j) hi hj
  exact ⟨hc 0 (by decide), hc 1 (by decide), hc 2 (by decide), hc 3 (by decide)⟩
theorem graph_free {w : World} {g n cap B : Nat} {xs : List XG} (h : OwnR graphE B w (.slice (some ⟨g, 0, none⟩) n cap) xs) (hn : n = xs.length) (i : Nat) :
    w.frozen? ⟨g, i * 4, none⟩ = false ∧ w.frozen? ⟨g, i * 4 + 1, none⟩ = false ∧ w.frozen? ⟨g, i * 4 + 2, none⟩ = false ∧ w.frozen? ⟨g, i * 4 + 3, none⟩ = false :=
  ⟨h.free hn _, h.free hn _, h.free hn _, h.free hn _⟩
/-- all four cells of a graph are written -/
theorem Sep.setG {w : World} {g n cap : Nat} {xs : List XG} {l : List Asrt} (h : Sep w (OR graphE (.slice (some ⟨g, 0, none⟩) n cap) xs :: l)) (hn : n = xs.length) {i : Nat} (hi : i < xs.length) (y : XG) :
    Sep ((((w.setCell ⟨g, i * 4, none⟩ (.int .i64 y.n)).setCell ⟨g, i * 4 + 1, none⟩ y.ev).setCell ⟨g, i * 4 + 2, none⟩ y.iv).setCell ⟨g, i * 4 + 3, none⟩ y.ov)
      (OR graphE (.slice (some ⟨g, 0, none⟩) n cap) (xs.set i y) :: l) := by
  have h1 := h.setR (E := graphE) hn (i := i) (j := 0) (y := ⟨y.n, xs[i].ev, [], xs[i].iv, [], xs[i].ov, []⟩) (u := .int .i64 y.n) hi (by decide) rfl
  have h2 := h1.setR (E := graphE) (by simpa using hn) (i := i) (j := 1) (y := ⟨y.n, y.ev, [], xs[i].iv, [], xs[i].ov, []⟩) (u := y.ev) (by simpa using hi) (by decide) (by simp [graphE, graphC])
  have h3 := h2.setR (E := graphE) (by simpa using hn) (i := i) (j := 2) (y := ⟨y.n, y.ev, [], y.iv, [], xs[i].ov, []⟩) (u := y.iv) (by simpa using hi) (by decide) (by simp [graphE, graphC])
  have h4 := h3.setR (E := graphE) (by simpa using hn) (i := i) (j := 3) (y := y) (u := y.ov) (by simpa using hi) (by decide) (by simp [graphE, graphC])
  simp only [List.set_set] at h4
  exact h4
/-- Three parts behind the first go into the bag. -/
theorem Sep.bagThree {w : World} {X A B C : Asrt} {L r : List Asrt} (h : Sep w (X :: A :: B :: C :: Bag L :: r)) : Sep w (X :: Bag (L ++ [A, B, C]) :: r) := by
  have h1 := Sep.unbag h.s5
  have h2 : Sep w ((L ++ [A, B, C]) ++ (X :: r)) := Sep.perm (by rw [List.append_assoc]; exact List.Perm.append_left L (List.perm_middle (a := X) (l₁ := [A, B, C]) (l₂ := r)).symm) h1
  exact (Sep.bag h2).s2
theorem Sep.graft3 {w w' : World} {A C D : Asrt} {l : List Asrt} (h : Sep w l) (h' : Sep w' [A, C, D, KeepA w]) (hA : ∀ k, A.sees k → A.foot k) (hC : ∀ k, C.sees k → C.foot k) (hD : ∀ k, D.sees k → D.foot k) : Sep w' (A :: C :: D :: l) := by
  have hb : Sep w' [Bag [A, C, D], KeepA w] := Sep.bag (l := [A, C, D]) h'
  have h2 := h.graft1 hb (fun k hk => by
    obtain ⟨X, hX, hs⟩ := hk
    refine ⟨X, hX, ?_⟩
    simp only [List.mem_cons, List.not_mem_nil, or_false] at hX
    rcases hX with rfl | rfl | rfl
    · exact hA k hs
    · exact hC k hs
    · exact hD k hs)
  exact Sep.unbag h2
theorem fillG_set {xs : List XG} {n k : Nat} {x : XG} (hl : xs.length = k) (hk : k < n) : (xs ++ List.replicate (n - k) xg0).set k x = (xs ++ [x]) ++ List.replicate (n - (k + 1)) xg0 := by
  rw [List.set_append_right _ _ (by omega), hl, Nat.sub_self, show n - k = (n - (k + 1)) + 1 by omega, List.replicate_succ, List.set_cons_zero, List.append_assoc]
  rfl
theorem grs_take {gs : List Gr} {xs : List XG} {x : XG} {k : Nat} (h : grs xs = gs.take k) (hk : k < gs.length) (hx : x.gr = gs.getD k gr00) : grs (xs ++ [x]) = gs.take (k + 1) := by
  unfold grs at h ⊢
  rw [List.map_append, h, List.take_succ_eq_append_getElem hk, List.map_cons, List.map_nil, hx, List.getD_eq_getElem?_getD, List.getElem?_eq_getElem hk]
  rfl
end Go.Proofs.Ytlpgjnjhhgjkmaa

/-
  Appending the items of a list that can be read: nil, empty or not. Conditions: lengths are small.
-/
namespace Go.Proofs.Ytlpgjnjhhgjkmaa
open Go.RowKit
set_option linter.unusedVariables false
set_option maxRecDepth 100000

theorem run_none_any {P : Program} (w : World) (base : Nat) (t ty e : TypeId) (i : TypeInfo) (size : Nat) (ht : P.underlying t = some (.slice e)) (hi : P.info? e = some i)
    (v : Value) (n : Nat) (xs : List Value) (hown : w.ownsRow base e size v n xs) (d : Option Addr) (c : Nat) : (Builtin.append_ #[t, t] ty #[v, .slice d 0 c]).run P w = .ok v w := by
  cases d with
  | none => exact run_nil_any w base t ty e i size ht hi v n xs hown c
  | some d =>
    rcases hown.2 with ⟨rfl, rfl⟩ | ⟨g, cap, cur, rfl, _, _, hnc, _⟩
    · simp [Builtin.append_, run_underlying ht, sizeOf, typeInfo, hi, Builtin.lenOf, Builtin.firstCells, loadCells, go_sem]
    · simp [Builtin.append_, run_underlying ht, sizeOf, typeInfo, hi, Builtin.lenOf, Builtin.firstCells, hnc, loadCells, storeCells, go_sem]
section
variable {α : Type} {E : Lay α} {ops : Array Oper} {rest : List Oper} {o : Oper} {a : Act} {Q : Exit → Act → World → Prop} {K : Act → World → Prop} {Ex : Prop} {w : World} {v u : Value} {xs ys : List α} {l : List Asrt} {t : TypeId} {z : Value} {bytes : Nat} {zs is : List Int}
theorem rdR_news {d : Addr} {n c : Nat} (h : RdR E w (.slice (some d) n c) ys) : ∀ j u, (ys.flatMap E.cs)[j]? = some u → w.cell? (d.add j) = some u := by
  intro j u hj
  obtain ⟨a', cap', he, h⟩ := h
  cases he
  have hjl : j < ys.length * E.sz := by
    rcases Nat.lt_or_ge j (ys.length * E.sz) with h | h
    · exact h
    · rw [List.getElem?_eq_none (by rw [flat_len]; exact h)] at hj; cases hj
  have hne : ys ≠ [] := by
    intro h0
    subst h0
    simp at hjl
  obtain ⟨d', hd, hs, hdb, hc⟩ := h hne
  cases hd
  obtain ⟨db, dof, ds⟩ := d
  simp only at hs
  subst hs
  have h1 : j / E.sz < ys.length := Nat.div_lt_of_lt_mul (by rw [Nat.mul_comm]; exact hjl)
  have h2 : j % E.sz < E.sz := Nat.mod_lt _ E.pos
  have h3 := hc (j / E.sz) h1 (j % E.sz) h2
  have h4 := flat_at E ys h1 h2
  rw [show j / E.sz * E.sz + j % E.sz = j by rw [Nat.mul_comm]; exact Nat.div_add_mod _ _] at h4
  rw [← h4, hj] at h3
  simp only at h3
  rw [Nat.add_assoc, show j / E.sz * E.sz + j % E.sz = j by rw [Nat.mul_comm]; exact Nat.div_add_mod _ _] at h3
  unfold Addr.add
  split
  · next h0 => subst h0; simpa using h3
  · exact h3
/-- 'append(out, ys...)', out the call's own, ys readable. -/
theorem wp_app_Rs (hinfo : (Try.prog.info? E.ty).map (fun i => (i.zero, i.size, i.bytes)) = some (some z, E.sz, bytes)) (hzs : z.cells.size = E.sz) (hby : bytes ≤ 10000) (ht : Try.prog.underlying t = some (.slice E.ty)) (hone : ∀ y ∈ ys, ∀ u ∈ E.cs y, u.oneCell' = true)
    (s x : Operand) (ho : o.op = .call { callee := .builtin .append, args := #[s, x], argTypes := #[t, t] })
    (hs : a.eval s = v) (hx : a.eval x = u) (H : Sep w (OR E v xs :: l)) (hu : RdR E w u ys) (hl : xs.length + ys.length ≤ 10000000)
    (h : ∀ v' w', Sep w' (OR E v' (xs ++ ys) :: l) → K (a.put o.dst v') w') : o.wp Try.prog a w K Q := by
  obtain ⟨i0, hi, hz0, hz1, hz2⟩ := info_parts hinfo
  obtain ⟨ua, uc, rfl⟩ := hu.shape
  by_cases hy : ys = []
  · subst hy
    have hrun := run_none_any (P := Try.prog) w 0 t o.type E.ty i0 E.sz ht hi v xs.length _ H.hd ua uc
    unfold Oper.wp execOp
    simp only [ho, resolve, invoke, builtin, Sem.run_bind, Sem.run_pure, Result.andThen_ok, List.map_toArray, List.map_cons, List.map_nil, hs, hx, List.length_nil, hrun]
    exact h v w (by simpa using H)
  · have hpos : 0 < ys.length := List.length_pos_iff.2 hy
    obtain ⟨d, rfl⟩ : ∃ d, ua = some d := by
      obtain ⟨a', c', he, h⟩ := hu
      obtain ⟨d, hd, _⟩ := h hy
      cases he
      exact ⟨d, hd⟩
    have hb : (xs.length + ys.length) * bytes ≤ 140737488355328 := Nat.le_trans (Nat.mul_le_mul hl hby) (by decide)
    refine wp_append_lies (P := Try.prog) _ s x t ho 0 E.ty i0 z E.sz bytes ht hi hz0 hz1 hz2 hzs E.pos v xs.length (xs.flatMap E.cs) hs H.hd
      d ys.length uc (ys.flatMap E.cs) hx (flat_len E ys) (rdR_news hu) (fun u hu => by obtain ⟨y, hy, hy'⟩ := List.mem_flatMap.1 hu; exact hone y hy u hy') hpos (by unfold maxLen; omega) hb (Nat.zero_le _) _ rfl ?_
    intro g cap w1 hown' hgrow hg _
    have ho' : OwnR E 0 w1 (.slice (some ⟨g, 0, none⟩) (xs.length + ys.length) cap) (xs ++ ys) := by
      unfold OwnR
      rw [List.length_append, List.flatMap_append]
      exact hown'
    refine h _ w1 (H.upd' (Only.of_grown (S := Hits v) hgrow fun k hk => hk) ho' fun k hk => ?_)
    have : g = k := by simpa [OR, Hits, Value.ownBlock] using hk
    subst this
    exact hg.imp id (fun h => Nat.le_of_eq h.symm)
theorem app_Rs (hinfo : (Try.prog.info? E.ty).map (fun i => (i.zero, i.size, i.bytes)) = some (some z, E.sz, bytes)) (hzs : z.cells.size = E.sz) (hby : bytes ≤ 10000) (ht : Try.prog.underlying t = some (.slice E.ty)) (hone : ∀ y ∈ ys, ∀ u ∈ E.cs y, u.oneCell' = true)
    (hgd : o.guard = none) (s x : Operand) (ho : o.op = .call { callee := .builtin .append, args := #[s, x], argTypes := #[t, t] })
    (hs : a.eval s = v) (hx : a.eval x = u) (H : Sep w (OR E v xs :: l)) (hu : RdR E w u ys) (hl : xs.length + ys.length ≤ 10000000)
    (h : ∀ v' w', Sep w' (OR E v' (xs ++ ys) :: l) → wpList Try.prog ops Q rest (a.put o.dst v') w') : wpList Try.prog ops Q (o :: rest) a w :=
  wpList_plain hgd fun _ hK => wp_app_Rs hinfo hzs hby ht hone s x ho hs hx H hu hl fun v' w' h1 => hK _ _ (h v' w' h1)
theorem IntsV.news {d : Addr} {n c : Nat} (h : IntsV w (.slice (some d) n c) is) : ∀ j u, (is.map (Value.int .i64))[j]? = some u → w.cell? (d.add j) = some u := by
  intro j u hj
  obtain ⟨a', cap', he, h⟩ := h
  cases he
  have hjl : j < is.length := by
    rcases Nat.lt_or_ge j is.length with h | h
    · exact h
    · rw [List.getElem?_eq_none (by simpa using h)] at hj; cases hj
  obtain ⟨d', hd, hs, hdb, hc⟩ := h (by intro h0; subst h0; simp at hjl)
  cases hd
  have h3 := hc j hjl
  simp [hjl] at hj
  subst hj
  obtain ⟨db, dof, ds⟩ := d
  simp only at hs
  subst hs
  unfold Addr.add
  split
  · next h0 => subst h0; simpa using h3
  · exact h3
/-- the same for lists of numbers -/
theorem wp_app_intsS (s x : Operand) (ho : o.op = .call { callee := .builtin .append, args := #[s, x], argTypes := #[23, 23] })
    (hs : a.eval s = v) (hx : a.eval x = u) (H : Sep w (OI v zs :: l)) (hu : IntsV w u is) (hl : zs.length + is.length ≤ 1000000000)
    (h : ∀ v' w', Sep w' (OI v' (zs ++ is) :: l) → K (a.put o.dst v') w') : o.wp Try.prog a w K Q := by
  obtain ⟨i0, hi, hz0, hz1, hz2⟩ := info_parts info_int
  obtain ⟨ua, uc, rfl⟩ := hu.shape
  by_cases hy : is = []
  · subst hy
    have hrun := run_none_any (P := Try.prog) w 0 23 o.type 3 i0 1 Try.underlying23 hi v zs.length _ H.hd ua uc
    unfold Oper.wp execOp
    simp only [ho, resolve, invoke, builtin, Sem.run_bind, Sem.run_pure, Result.andThen_ok, List.map_toArray, List.map_cons, List.map_nil, hs, hx, List.length_nil, hrun]
    exact h v w (by simpa using H)
  · have hpos : 0 < is.length := List.length_pos_iff.2 hy
    obtain ⟨d, rfl⟩ : ∃ d, ua = some d := by
      obtain ⟨a', c', he, h⟩ := hu
      obtain ⟨d, hd, _⟩ := h hy
      cases he
      exact ⟨d, hd⟩
    refine wp_append_lies (P := Try.prog) _ s x 23 ho 0 3 i0 (.int .i64 0) 1 8 Try.underlying23 hi hz0 hz1 hz2 rfl (by decide) v zs.length (zs.map (Value.int .i64)) hs H.hd
      d is.length uc (is.map (Value.int .i64)) hx (by simp) hu.news (fun u hu => by obtain ⟨y, _, rfl⟩ := List.mem_map.1 hu; rfl) hpos (by unfold maxLen; omega) (by omega) (Nat.zero_le _) _ rfl ?_
    intro g cap w1 hown' hgrow hg _
    have ho' : OwnInts 0 w1 (.slice (some ⟨g, 0, none⟩) (zs.length + is.length) cap) (zs ++ is) := by
      unfold OwnInts
      rw [List.length_append, List.map_append]
      exact hown'
    refine h _ w1 (H.upd' (Only.of_grown (S := Hits v) hgrow fun k hk => hk) ho' fun k hk => ?_)
    have : g = k := by simpa [OI, Hits, Value.ownBlock] using hk
    subst this
    exact hg.imp id (fun h => Nat.le_of_eq h.symm)
theorem app_intsS (hgd : o.guard = none) (s x : Operand) (ho : o.op = .call { callee := .builtin .append, args := #[s, x], argTypes := #[23, 23] })
    (hs : a.eval s = v) (hx : a.eval x = u) (H : Sep w (OI v zs :: l)) (hu : IntsV w u is) (hl : zs.length + is.length ≤ 1000000000)
    (h : ∀ v' w', Sep w' (OI v' (zs ++ is) :: l) → wpList Try.prog ops Q rest (a.put o.dst v') w') : wpList Try.prog ops Q (o :: rest) a w :=
  wpList_plain hgd fun _ hK => wp_app_intsS s x ho hs hx H hu hl fun v' w' h1 => hK _ _ (h v' w' h1)
end
end Go.Proofs.Ytlpgjnjhhgjkmaa

/-
  Wires made one, in the program: the graph that is glued. Conditions: wires are in range; lengths are small.
-/
namespace Go.Proofs.Ytlpgjnjhhgjkmaa
open Go.RowKit
set_option linter.unusedVariables false
set_option maxRecDepth 100000

def pairE : Lay (Int × Int) := ⟨80, 2, fun p => [.int .i64 p.1, .int .i64 p.2], fun _ => rfl, by decide⟩
theorem pair_cells {w : World} {a : Option Addr} {n c : Nat} {ps : List (Int × Int)} (h : RdR pairE w (.slice a n c) ps) {k : Nat} (hk : k < ps.length) :
    ∃ b o, a = some ⟨b, o, none⟩ ∧ w.cell? ⟨b, o + k * 2, none⟩ = some (.int .i64 (ps.getD k (0, 0)).1) ∧ w.cell? ⟨b, o + k * 2 + 1, none⟩ = some (.int .i64 (ps.getD k (0, 0)).2) := by
  obtain ⟨b, o, ha, _, hc⟩ := h.at hk
  have e : ps.getD k (0, 0) = ps[k] := by rw [List.getD_eq_getElem?_getD, List.getElem?_eq_getElem hk]; rfl
  rw [e]
  exact ⟨b, o, ha, hc 0 (by decide), hc 1 (by decide)⟩
theorem numL_set {C ws : List Int} {m k : Nat} {v : Int} (hk : k < m) (hv : numX C ws (k : Int) = v) : ((numL C ws m).take k ++ List.replicate (m - k) (0 : Int)).set k v = (numL C ws m).take (k + 1) ++ List.replicate (m - (k + 1)) 0 := by
  have hl : ((numL C ws m).take k).length = k := by rw [List.length_take, numL_len]; omega
  rw [List.set_append_right _ _ (by omega), hl, Nat.sub_self, show m - k = (m - (k + 1)) + 1 by omega, List.replicate_succ, List.set_cons_zero]
  have h2 : (numL C ws m).take (k + 1) = (numL C ws m).take k ++ [v] := by
    rw [List.take_succ_eq_append_getElem (by rw [numL_len]; exact hk)]
    congr 1
    unfold numL
    rw [List.getElem_map, List.getElem_range, hv]
  rw [h2, List.append_assoc]
  rfl
theorem numL_get {C ws : List Int} {m k r : Nat} (hr : r < k) (hk : k < m) : ((numL C ws m).take k ++ List.replicate (m - k) (0 : Int)).getD r 0 = numX C ws (r : Int) := by
  rw [List.getD_eq_getElem?_getD, List.getElem?_append_left (by rw [List.length_take, numL_len]; omega), List.getElem?_take_of_lt hr]
  unfold numL
  rw [List.getElem?_map, List.getElem?_range (by omega)]
  rfl
theorem bq5 {w : World} {k : Nat} {x0 x1 x2 x3 x4 : Value} {t : TypeId} (h : w.heap[k]? = some (.cells #[x0, x1, x2, x3, x4] t (0, 0))) :
    w.cell? ⟨k, 0, none⟩ = some x0 ∧ w.cell? ⟨k, 1, none⟩ = some x1 ∧ w.cell? ⟨k, 2, none⟩ = some x2 ∧ w.cell? ⟨k, 3, none⟩ = some x3 ∧ w.cell? ⟨k, 4, none⟩ = some x4 :=
  ⟨cell_of_row w k 0 _ _ _ h, cell_of_row w k 1 _ _ _ h, cell_of_row w k 2 _ _ _ h, cell_of_row w k 3 _ _ _ h, cell_of_row w k 4 _ _ _ h⟩
theorem bf5 {w : World} {k : Nat} {x0 x1 x2 x3 x4 : Value} {t : TypeId} (h : w.heap[k]? = some (.cells #[x0, x1, x2, x3, x4] t (0, 0))) :
    w.frozen? ⟨k, 0, none⟩ = false ∧ w.frozen? ⟨k, 1, none⟩ = false ∧ w.frozen? ⟨k, 2, none⟩ = false ∧ w.frozen? ⟨k, 3, none⟩ = false ∧ w.frozen? ⟨k, 4, none⟩ = false :=
  ⟨frozen_of_row w k 0 _ _ h, frozen_of_row w k 1 _ _ h, frozen_of_row w k 2 _ _ h, frozen_of_row w k 3 _ _ h, frozen_of_row w k 4 _ _ h⟩
set_option maxHeartbeats 8000000 in
theorem glue_any (ev iv ov : Value) (g : Gr) (m : Nat) (pv : Value) (ps : List (Int × Int)) (w : World) (he : RdE edgeE w ev g.es) (hi : IntsV w iv g.i) (ho : IntsV w ov g.o) (hp : RdR pairE w pv ps) (hm : g.n = m) (hm1 : m ≤ 100) (h60 : g.es.length ≤ 60) (h12 : g.i.length ≤ 12) (h12' : g.o.length ≤ 12)
    (hle : ∀ e ∈ g.es, e.i.length ≤ 2 ∧ e.o.length ≤ 2) (hw : ∀ x ∈ wiresL g, 0 ≤ x ∧ x < (m : Int)) (hps : ∀ p ∈ ps, (0 ≤ p.1 ∧ p.1 < (m : Int)) ∧ 0 ≤ p.2 ∧ p.2 < (m : Int)) (hpl : ps.length ≤ 100) :
    Calls Try.prog 62 #[grV g.n ev iv ov, pv] w fun e w' => ∃ u0 xs u1 u2 t, e = .returned (.agg #[.int .i64 (glueG (classOf m ps) g).n, u0, u1, u2, t]) ∧ eds xs = (glueG (classOf m ps) g).es ∧
      Sep w' [OE u0 xs, OI u1 (glueG (classOf m ps) g).i, OI u2 (glueG (classOf m ps) g).o, KeepA w] := by
  obtain ⟨i0, hbi, hz0, hz1, hz2⟩ := info_parts info_bool
  have HBI := Lib.hid hbi; have HZ0 := Lib.hid hz0; have HZ1 := Lib.hid hz1; have HZ2 := Lib.hid hz2
  clear hbi hz0 hz1 hz2
  have HU := Lib.hid fun W => upTo_any m W (by omega)
  have HZ := Lib.hid fun W => zeros_full m W (by omega)
  have HP := Lib.hid fun W (h : w.grownBy W none) => hp.carry h
  have HPS := Lib.hid hps
  have HLS := Lib.hid fun (lb : Array Value) (A : List Int → Asrt) (hV : VisFnR (fun y => 0 ≤ y ∧ y < (m : Int)) 86 lb A) W l (hs : Sep W (A [] :: KeepA w :: l)) =>
    lists_anyR 86 lb (enters_of Try.func86 (by kernel_rfl) rfl) A _ hV g.n ev iv ov g w W l he hi ho (by omega) (by omega) (by omega) (fun e he => by have := hle e he; omega) hw hs
  have HMV := Lib.hid fun C tv W (h : w.grownBy W none) (ht : IntsV W tv (numL C (wiresL g) m)) => moved_any ev iv ov tv g (cntR C (wiresL g) m : Int) (numL C (wiresL g) m) W (he.carry h) (hi.carry h) (ho.carry h) ht (by omega) (by omega) (by omega) (fun e h => by have := hle e h; omega) (by rw [numL_len]; exact hw)
  have HGL := Lib.hid fun C => show (glueG C g).n = (cntR C (wiresL g) m : Int) ∧ (glueG C g).es = g.es.map (mapE (numL C (wiresL g) m)) ∧ (glueG C g).i = g.i.map (ofL (numL C (wiresL g) m)) ∧ (glueG C g).o = g.o.map (ofL (numL C (wiresL g) m)) from by
    unfold glueG mapG
    rw [hm, Int.toNat_natCast]
    exact ⟨rfl, rfl, rfl, rfl⟩
  obtain ⟨C, hC⟩ : ∃ C, C = classOf m ps := ⟨_, rfl⟩
  rw [← hC]
  have HCC := Lib.hid hC
  obtain ⟨gl1, gl2, gl3, gl4⟩ := HGL.out C
  rw [gl1, gl2, gl3, gl4]
  unfold grV at *
  obtain ⟨ea, ec, rfl⟩ := he.shape
  obtain ⟨ia, ic, rfl⟩ := hi.shape
  obtain ⟨oa, oc, rfl⟩ := ho.shape
  obtain ⟨pa, pc, rfl⟩ := hp.shape
  have HMM := Lib.hid hm1
  rw [hm] at *
  clear he hi ho hp h60 h12 h12' hle hps hC gl1 gl2 gl3 gl4 HGL hm
  have HW := Lib.hid hw
  clear hw
  generalize wiresL g = ws at *
  generalize g.es.length = m0 at *
  generalize g.i.length = n1 at *
  generalize g.o.length = n2 at *
  generalize hpn : ps.length = n at *
  have HPN := Lib.hid hpn
  clear hpn
  have hs0 := ((Sep.start w).box #[.int .i64 m, .slice ea m0 ec, .slice ia n1 ic, .slice oa n2 oc] 29).box #[.int .i64 0, .slice none 0 0, .slice none 0 0, .slice none 0 0, .slice none 0 0] 83
  have e1 : (w.alloc (.cells #[.int .i64 m, .slice ea m0 ec, .slice ia n1 ic, .slice oa n2 oc] 29)).heap.size = w.heap.size + 1 := by simp
  rw [e1] at hs0
  obtain ⟨x0, x1, x2, x3, _⟩ := bq4 hs0.tl.hd
  have HS0 := Lib.hid hs0
  clear hs0 e1
  go_enter Try.func62, Try.ntmps62
  go_wp2_with (
    go_at_call 84
    with_reducible refine (HU.out _).mono ?_
    rintro e w2 ⟨tb, tc, rfl, hsg⟩
    have hs2 := (HS0.out.graft1 hsg OI_own).box #[.slice (some ⟨tb, 0, none⟩) m tc] 113
    have HS2 := Lib.hid hs2
    clear hsg hs2)
  obtain ⟨cb, hcb⟩ : ∃ cb, cb = w2.heap.size := ⟨_, rfl⟩
  rw [← hcb] at HS2
  simp only [← hcb]
  clear hcb x0 x1 x2 x3
  go_loopw [7, 18] (fun _ i wr => ∃ (k : Nat) (F : List Int), k ≤ n ∧ i = .int .i64 k ∧ Rep m F (classOf m (ps.take k)) ∧ Sep wr [BxA cb #[.slice (some ⟨tb, 0, none⟩) m tc] 113, OI (.slice (some ⟨tb, 0, none⟩) m tc) F, BxA (w.heap.size + 1) #[.int .i64 0, .slice none 0 0, .slice none 0 0, .slice none 0 0, .slice none 0 0] 83, BxA w.heap.size #[.int .i64 m, .slice ea m0 ec, .slice ia n1 ic, .slice oa n2 oc] 29, KeepA w]) (fun _ i _ => n - (intOf i).toNat)
  case atStart => exact ⟨0, upL m, by omega, rfl, Rep.start m, HS2.out⟩
  case round =>
    obtain ⟨k, F, hk, rfl, hrep, hs⟩ := hrel
    have HREP := Lib.hid hrep; have HSX := Lib.hid hs
    clear hrep hs HS2
    by_cases hlt : k < n
    · have hkp : k < ps.length := by rw [HPN.out]; exact hlt
      obtain ⟨b, o, rfl, q0, q1⟩ := pair_cells (HP.out _ HSX.out.tl.tl.tl.tl.hd) hkp
      have hpr := HPS.out _ (getD_mem (d := ((0, 0) : Int × Int)) hkp)
      have htk : ps.take (k + 1) = ps.take k ++ [ps.getD k (0, 0)] := by rw [List.take_succ_eq_append_getElem hkp, List.getD_eq_getElem?_getD, List.getElem?_eq_getElem hkp]; rfl
      have HTK := Lib.hid (show classOf m (ps.take (k + 1)) = joinC (classOf m (ps.take k)) (ps.getD k (0, 0)).1 (ps.getD k (0, 0)).2 by rw [htk, classOf_snoc])
      generalize ps.getD k (0, 0) = pp at *
      obtain ⟨p1, p2⟩ := pp
      simp only at q0 q1 hpr HTK
      obtain ⟨a, rfl⟩ := Int.eq_ofNat_of_zero_le hpr.1.1
      obtain ⟨c, rfl⟩ := Int.eq_ofNat_of_zero_le hpr.2.1
      have hj := HREP.out.join hpr.1.1 hpr.1.2 hpr.2.1 hpr.2.2
      rw [← HTK.out] at hj
      have HJR := Lib.hid hj
      have hsb := (HSX.out.box #[.int .i64 a, .int .i64 c] 80)
      have y0 := (bx1' hsb.tl.hd).1
      have HJ := Lib.hid (join_any tb m tc F (classOf m (ps.take k)) a c _ _ hsb.s3 HREP.out (by omega) (by omega) (by have := HMM.out; omega))
      clear hkp htk hpr hj hsb
      go_wp2_with (
        go_at_call 85
        with_reducible refine HJ.out.mono ?_
        rintro e w4 ⟨rfl, h4⟩
        have HS4 := Lib.hid (show Sep w4 [BxA cb _ _, OI _ _, BxA _ _ _, BxA _ _ _, KeepA w] from h4.s2.tl.s2)
        clear h4)
      go_roundw
      case rel => exact ⟨k + 1, _, by omega, by go_num, HJR.out, HS4.out⟩
      case measure => simp [intOf]; omega
    · have hkn : k = n := by omega
      subst hkn
      have hrep := HREP.out
      rw [List.take_of_length_le (by rw [HPN.out]; exact Nat.le_refl _), ← HCC.out] at hrep
      have HR := Lib.hid hrep
      obtain ⟨y0, y1, y2, y3, _⟩ := bq4 HSX.out.tl.tl.tl.hd
      clear hlt hrep HREP
      go_upto_region 9 with (first
        | (at_make
           refine wpList_make_full _ rfl _ _ 76 rfl wr.heap.size 4 i0 _ 1 Try.underlying76 HBI.out HZ0.out HZ1.out _ _ _ _ m rfl rfl rfl rfl (by rw [HZ2.out]; have := HMM.out; omega) (by unfold maxLen; have := HMM.out; omega) (Nat.le_refl _) ?_
           intro w5 hown' hgr'
           have hs5 := (HSX.out.newR hgr' (OwnR.made (E := boolE) falseCells hown')).box #[.slice (some ⟨wr.heap.size, 0, none⟩) m m] 76
           rw [← usedL_nil m C] at hs5
           obtain ⟨y0, y1, y2, y3, _⟩ := bq4 hs5.tl.tl.tl.tl.tl.hd
           have hs6 := (Sep.bag (l := UseA m w5.heap.size wr.heap.size cb tb tc F C []) (r := [BxA (w.heap.size + 1) #[.int .i64 0, .slice none 0 0, .slice none 0 0, .slice none 0 0, .slice none 0 0] 83, BxA w.heap.size #[.int .i64 m, .slice ea m0 ec, .slice ia n1 ic, .slice oa n2 oc] 29, KeepA w]) hs5).under Sep.s3 (by simp +contextual)
           have HC := Lib.hid (HLS.out _ _ (glue1_fn m w5.heap.size wr.heap.size cb tb tc F C HR.out (by have := HMM.out; omega)) _ _ hs6)
           clear hs5 hs6 hown' hgr')
        | (go_at_call 59
           with_reducible refine HC.out.mono ?_
           rintro e w6 ⟨rfl, hs6⟩
           have hs7 := Sep.unbag hs6
           have hs8 : Sep w6 (([BxA (w.heap.size + 1) #[.int .i64 0, .slice none 0 0, .slice none 0 0, .slice none 0 0, .slice none 0 0] 83, BxA w.heap.size #[.int .i64 m, .slice ea m0 ec, .slice ia n1 ic, .slice oa n2 oc] 29] : List Asrt) ++ (UseA m w5.heap.size wr.heap.size cb tb tc F C ws ++ [KeepA w])) := Sep.perm (by
             have := List.perm_append_comm (l₁ := UseA m w5.heap.size wr.heap.size cb tb tc F C ws ++ [KeepA w]) (l₂ := [BxA (w.heap.size + 1) #[.int .i64 0, .slice none 0 0, .slice none 0 0, .slice none 0 0, .slice none 0 0] 83, BxA w.heap.size #[.int .i64 m, .slice ea m0 ec, .slice ia n1 ic, .slice oa n2 oc] 29])
             simpa using this) hs7
           obtain ⟨y0, y1, y2, y3, _⟩ := bq4 hs8.tl.hd
           have HS8 := Lib.hid (show Sep w6 (BxA (w.heap.size + 1) #[.int .i64 0, .slice none 0 0, .slice none 0 0, .slice none 0 0, .slice none 0 0] 83 :: BxA w.heap.size #[.int .i64 m, .slice ea m0 ec, .slice ia n1 ic, .slice oa n2 oc] 29 :: UseA m w5.heap.size wr.heap.size cb tb tc F C ws ++ [KeepA w]) from hs8)
           clear hs6 hs7 hs8))
      obtain ⟨us, hus⟩ : ∃ us, us = wr.heap.size := ⟨_, rfl⟩
      obtain ⟨ub, hub⟩ : ∃ ub, ub = w5.heap.size := ⟨_, rfl⟩
      rw [← hus, ← hub] at HS8
      simp only [← hus, ← hub]
      clear hus hub HSX HC
      go_wp2_with (
        go_at_call 66
        with_reducible refine (HZ.out _).mono ?_
        rintro e w7 ⟨tz, zc, rfl, hsg⟩
        have HS9 := Lib.hid (HS8.out.graft1 hsg OI_own)
        clear hsg)
      clear y0 y1 y2 y3
      go_loopw [10, 11, 12, 40, 52, 61] (fun cv _ _ i _ _ wr => ∃ k : Nat, k ≤ m ∧ i = .int .i64 k ∧ cv = .int .i64 (cntR C ws k) ∧ Sep wr (OI (.slice (some ⟨tz, 0, none⟩) m zc) ((numL C ws m).take k ++ List.replicate (m - k) 0) :: BxA (w.heap.size + 1) #[.int .i64 0, .slice none 0 0, .slice none 0 0, .slice none 0 0, .slice none 0 0] 83 :: BxA w.heap.size #[.int .i64 m, .slice ea m0 ec, .slice ia n1 ic, .slice oa n2 oc] 29 :: UseA m ub us cb tb tc F C ws ++ [KeepA w])) (fun _ _ _ i _ _ _ => m - (intOf i).toNat)
      case atStart => exact ⟨0, by omega, rfl, by simp [cntR], by simpa using HS9.out⟩
      case round =>
        obtain ⟨k, hk, rfl, rfl, hs⟩ := hrel
        have HSX := Lib.hid hs
        have hmm := HMM.out
        clear hs HS9 HS8
        by_cases hlt : k < m
        · have hll : m = ((numL C ws m).take k ++ List.replicate (m - k) (0 : Int)).length := by rw [List.length_append, List.length_take, numL_len, List.length_replicate]; omega
          have hS : Sep wr (OI (.slice (some ⟨tz, 0, none⟩) m zc) ((numL C ws m).take k ++ List.replicate (m - k) 0) :: BxA (w.heap.size + 1) #[.int .i64 0, .slice none 0 0, .slice none 0 0, .slice none 0 0, .slice none 0 0] 83 :: BxA w.heap.size #[.int .i64 m, .slice ea m0 ec, .slice ia n1 ic, .slice oa n2 oc] 29 :: BxA ub #[.slice (some ⟨us, 0, none⟩) m m] 76 :: OR boolE (.slice (some ⟨us, 0, none⟩) m m) (usedL m C ws) :: BxA cb #[.slice (some ⟨tb, 0, none⟩) m tc] 113 :: OI (.slice (some ⟨tb, 0, none⟩) m tc) F :: [KeepA w]) := HSX.out
          have hf := hS.hd.free hll k
          obtain ⟨q, hc0⟩ := hS.hd.cellQ hll (j := k) hlt
          have hc := HR.out.c0 (k : Int) (by omega) (by omega)
          have hcc := HR.out.cc (k : Int) (by omega) (by omega)
          obtain ⟨r, hr⟩ := Int.eq_ofNat_of_zero_le hc.1
          rw [hr] at hcc hc
          have hrk : r ≤ k := by omega
          have hrm : r < m := by omega
          have HRT := Lib.hid (root_any _ F C m k wr (OwnInts.read (show OwnInts 0 wr _ F from hS.tl.tl.tl.tl.tl.tl.hd)) HR.out hlt (by omega))
          rw [hr] at HRT
          have hb0 := (bx1' hS.tl.tl.tl.hd).1
          have hb1 := (bx1' hS.tl.tl.tl.tl.tl.hd).1
          have hub := bool_cell hS.tl.tl.tl.tl.hd (usedL_len m C ws).symm hrm
          rw [usedL_at hrm] at hub
          have hnx : numX C ws (k : Int) = if usedB C ws (r : Int) = true then (cntR C ws r : Int) else -1 := by unfold numX; rw [hr, Int.toNat_natCast]
          have hcs := cntR_succ C ws k
          have hcl := cntR_le C ws k
          rw [hr] at hcs
          have hset := fun v (hv : numX C ws (k : Int) = v) => (show Sep _ _ from by have := hS.setI hll k v; rw [numL_set hlt hv] at this; exact this)
          have HSET := Lib.hid hset
          cases hu : usedB C ws (r : Int)
          · rw [hu] at hub
            rw [hu, if_neg (by simp)] at hnx
            have HF := Lib.hid (HSET.out _ hnx)
            have HCN := Lib.hid (show cntR C ws (k + 1) = cntR C ws k from by
              rw [hcs]
              by_cases hrk' : r = k
              · subst hrk'; rw [hu]; simp
              · rw [decide_eq_false (by omega)]; simp)
            clear hll hS hc hcc hnx hcs hset HSET hr hcl
            go_wp2_with (go_at_call 87; with_reducible refine HRT.out.mono ?_; rintro e w8 ⟨rfl, rfl⟩)
            go_roundw
            case rel => exact ⟨k + 1, by omega, by go_num, by rw [HCN.out], HF.out⟩
            case measure => simp [intOf]; omega
          · rw [hu] at hub
            rw [hu, if_pos rfl] at hnx
            by_cases hrk' : r = k
            · subst hrk'
              have HF := Lib.hid (HSET.out _ hnx)
              have HCN := Lib.hid (show cntR C ws (r + 1) = cntR C ws r + 1 from by rw [hcs, hu, decide_eq_true rfl]; rfl)
              have hwc : wrap64 ((cntR C ws r : Int) + 1) = ((cntR C ws (r + 1) : Nat) : Int) := by rw [HCN.out, wrap64_id (by omega) (by omega)]; omega
              have hnl : ¬ (r : Int) < (r : Int) := by omega
              clear hll hS hc hcc hnx hcs hset HSET hr hcl
              go_wp2_with (go_at_call 87; with_reducible refine HRT.out.mono ?_; rintro e w8 ⟨rfl, rfl⟩)
              go_roundw
              case rel => exact ⟨r + 1, by omega, by go_num, by rw [hwc], HF.out⟩
              case measure => simp [intOf]; omega
            · have hrl : r < k := by omega
              have hcr := hS.hd.cell hll (j := r) (by rw [← hll]; exact hrm)
              have hgr := numL_get (C := C) (ws := ws) hrl hlt
              rw [List.getD_eq_getElem?_getD, List.getElem?_eq_getElem (by rw [← hll]; exact hrm)] at hgr
              have hxr : numX C ws (r : Int) = (cntR C ws r : Int) := by unfold numX; rw [hcc, Int.toNat_natCast, hu, if_pos rfl]
              rw [show ((numL C ws m).take k ++ List.replicate (m - k) (0 : Int))[r]'(by rw [← hll]; exact hrm) = (cntR C ws r : Int) from hgr.trans hxr] at hcr
              have HF := Lib.hid (HSET.out _ hnx)
              have HCN := Lib.hid (show cntR C ws (k + 1) = cntR C ws k from by rw [hcs, decide_eq_false (by omega)]; simp)
              have hrl' : (r : Int) < (k : Int) := by omega
              clear hll hS hc hcc hnx hcs hset HSET hr hgr hxr hcl
              go_wp2_with (go_at_call 87; with_reducible refine HRT.out.mono ?_; rintro e w8 ⟨rfl, rfl⟩)
              go_roundw
              case rel => exact ⟨k + 1, by omega, by go_num, by rw [HCN.out], HF.out⟩
              case measure => simp [intOf]; omega
        · have hkm : k = m := by omega
          subst hkm
          have hs := HSX.out
          rw [Nat.sub_self, List.replicate_zero, List.append_nil, List.take_of_length_le (by rw [numL_len]; exact Nat.le_refl _)] at hs
          obtain ⟨y0, y1, y2, y3, _⟩ := bq4 hs.tl.tl.hd
          have HMC := Lib.hid (HMV.out C _ wr (show w.grownBy wr none from hs.tl.tl.tl.tl.tl.tl.tl.hd) (OwnInts.read (show OwnInts 0 wr _ _ from hs.hd)))
          have HSY := Lib.hid hs
          clear hlt hs
          go_wp2_with (
            go_at_call 83
            with_reducible refine HMC.out.mono ?_
            rintro e w9 ⟨u0, xs, u1, u2, rfl, hxs, hsg⟩
            have HXS := Lib.hid hxs
            obtain ⟨s0, r0, rfl⟩ := OE.shape hsg.hd
            obtain ⟨s1, r1, rfl⟩ := own_shape hsg.tl.hd
            obtain ⟨s2, r2, rfl⟩ := own_shape hsg.tl.tl.hd
            simp only [List.length_map] at hsg
            have hs1 := (HSY.out.graft3 hsg OE_own OI_own OI_own).s5
            obtain ⟨v0, v1, v2, v3, v4⟩ := bq5 hs1.hd
            obtain ⟨f0, f1, f2, f3, f4⟩ := bf5 hs1.hd
            have hs2 := ((((hs1.setB 0 (.int .i64 (cntR C ws k))).setB 1 (.slice s0 xs.length r0)).setB 2 (.slice s1 g.i.length r1)).setB 3 (.slice s2 g.o.length r2)).setB 4 (.slice (some ⟨tz, 0, none⟩) k zc)
            obtain ⟨k0, k1, k2, k3, k4⟩ := bq5 hs2.hd
            have HSF := Lib.hid (hs2.tl.under (fun h => h.under (fun h => h.under (fun h => h.tl.tl.tl.tl.tl.tl) (by simp +contextual [UseA])) (by simp +contextual [UseA])) (by simp +contextual [UseA]))
            clear hsg hs1 hs2 hxs)
          refine bodyPost_ret_by (v := .agg #[.int .i64 (cntR C ws k), .slice s0 xs.length r0, .slice s1 g.i.length r1, .slice s2 g.o.length r2, .slice (some ⟨tz, 0, none⟩) k zc]) ?_ rfl ⟨_, xs, _, _, _, rfl, HXS.out, HSF.out⟩
          simp [results, go_sem, *]
end Go.Proofs.Ytlpgjnjhhgjkmaa

/-
  Lists of lists: all joined; is a list a permutation; the program's check that each number occurs once. Conditions: lengths are small.
-/
namespace Go.Proofs.Ytlpgjnjhhgjkmaa
open Go.RowKit
set_option linter.unusedVariables false
set_option maxRecDepth 100000

/-- A list with the slice that holds it. -/
structure RX where
  v : Value
  zs : List Int
def rowE : Lay RX := ⟨23, 1, fun x => [x.v], fun _ => rfl, by decide⟩
def rx0 : RX := ⟨nilS, []⟩
theorem info_row : (Try.prog.info? rowE.ty).map (fun i => (i.zero, i.size, i.bytes)) = some (some (.slice none 0 0), rowE.sz, 24) := by kernel_rfl
/-- A list of lists that can be read. -/
def RdL (w : World) (v : Value) (xs : List RX) : Prop := RdR rowE w v xs ∧ ∀ x ∈ xs, IntsV w x.v x.zs
theorem RdL.carry {w w' : World} {v : Value} {xs : List RX} (h : RdL w v xs) (hg : w.grownBy w' none) : RdL w' v xs := ⟨h.1.carry hg, fun x hx => (h.2 x hx).carry hg⟩
def joinL (xs : List RX) : List Int := xs.flatMap RX.zs
theorem joinL_take {xs : List RX} {k : Nat} (hk : k < xs.length) : joinL (xs.take (k + 1)) = joinL (xs.take k) ++ (xs.getD k rx0).zs := by
  unfold joinL
  rw [List.take_succ_eq_append_getElem hk, List.flatMap_append, List.getD_eq_getElem?_getD, List.getElem?_eq_getElem hk]
  simp
theorem joinL_le (xs : List RX) (k : Nat) : (joinL (xs.take k)).length ≤ (joinL xs).length := by
  have h : joinL xs = joinL (xs.take k) ++ joinL (xs.drop k) := by unfold joinL; rw [← List.flatMap_append, List.take_append_drop]
  rw [h, List.length_append]
  omega
theorem RdL.at {w : World} {a : Option Addr} {n c : Nat} {xs : List RX} (h : RdL w (.slice a n c) xs) {i : Nat} (hi : i < xs.length) : ∃ b o, a = some ⟨b, o, none⟩ ∧ w.cell? ⟨b, o + i, none⟩ = some (xs.getD i rx0).v ∧ IntsV w (xs.getD i rx0).v (xs.getD i rx0).zs := by
  obtain ⟨b, o, ha, _, hc⟩ := h.1.at hi
  have e : xs.getD i rx0 = xs[i] := by rw [List.getD_eq_getElem?_getD, List.getElem?_eq_getElem hi]; rfl
  rw [e]
  refine ⟨b, o, ha, ?_, h.2 _ (List.getElem_mem _)⟩
  have := hc 0 (by decide)
  simpa [rowE] using this
set_option maxHeartbeats 1000000 in
theorem joined_any (v : Value) (xs : List RX) (w : World) (hv : RdL w v xs) (hl : xs.length ≤ 1000000) (hj : (joinL xs).length ≤ 1000000) :
    Calls Try.prog 90 #[v] w fun e w' => ∃ u, e = .returned u ∧ Sep w' [OI u (joinL xs), KeepA w] := by
  have HV := Lib.hid hv; have HJ := Lib.hid hj
  obtain ⟨a, c, rfl⟩ := hv.1.shape
  clear hv hj
  generalize hn : xs.length = n at *
  have HN := Lib.hid hn
  clear hn
  have HS0 := Lib.hid ((Sep.start w).emptyI)
  go_enter Try.func90, Try.ntmps90
  go_wp2_with fail
  go_loopw [3, 5, 9] (fun ov _ i wr => ∃ k : Nat, k ≤ n ∧ i = .int .i64 k ∧ Sep wr [OI ov (joinL (xs.take k)), KeepA w]) (fun _ _ i _ => n - (intOf i).toNat)
  case atStart => exact ⟨0, by omega, rfl, by simpa [joinL] using HS0.out⟩
  case round =>
    obtain ⟨k, hk, rfl, hs⟩ := hrel
    have HSX := Lib.hid hs
    clear hs HS0
    by_cases hlt : k < n
    · have hkx : k < xs.length := by rw [HN.out]; exact hlt
      obtain ⟨b, o, rfl, hc, hi⟩ := (HV.out.carry HSX.out.tl.hd).at hkx
      have HT := Lib.hid (joinL_take hkx)
      have hle := joinL_le xs (k + 1)
      have hle2 := HJ.out
      rw [HT.out, List.length_append] at hle
      have HL := Lib.hid (show (joinL (xs.take k)).length + (xs.getD k rx0).zs.length ≤ 1000000000 by omega)
      generalize xs.getD k rx0 = y at *
      obtain ⟨yv, yz⟩ := y
      simp only at hc hi HL
      have HI := Lib.hid hi
      obtain ⟨a1, c1, rfl⟩ := hi.shape
      obtain ⟨a2, c2, rfl⟩ := own_shape (show OwnInts 0 wr u3 _ from HSX.out.hd)
      clear hkx hle hle2 hi
      go_wp2_with (
        refine app_intsS rfl (.tmp 13) (.tmp 14) rfl rfl rfl HSX.out HI.out HL.out ?_
        intro v' w' h'
        have HS2 := Lib.hid h'
        clear h')
      go_roundw
      case rel => exact ⟨k + 1, by omega, by go_num, by rw [HT.out]; exact HS2.out⟩
      case measure => simp [intOf]; omega
    · have hkn : k = n := by omega
      subst hkn
      have hs := HSX.out
      rw [List.take_of_length_le (by rw [HN.out]; exact Nat.le_refl _)] at hs
      have HF := Lib.hid hs
      clear hs hlt
      go_wp2
      go_ret
      exact ⟨_, rfl, HF.out⟩
end Go.Proofs.Ytlpgjnjhhgjkmaa

/-
  Is a list a permutation; does each number occur once. Conditions: lengths are small.
-/
namespace Go.Proofs.Ytlpgjnjhhgjkmaa
open Go.RowKit
set_option linter.unusedVariables false
set_option maxRecDepth 100000

theorem take_mem_split {zs : List Int} {k : Nat} (hk : k < zs.length) : zs.take (k + 1) = zs.take k ++ [zs.getD k 0] := by
  rw [List.take_succ_eq_append_getElem hk, List.getD_eq_getElem?_getD, List.getElem?_eq_getElem hk]; rfl
theorem perm_bad_rng {zs : List Int} {m k : Nat} (hk : k < zs.length) (h : ¬ (0 ≤ zs.getD k 0 ∧ zs.getD k 0 ≤ (m : Int) - 1)) : permB zs m = false := by
  unfold permB
  have : rngB m zs = false := by
    cases hr : rngB m zs
    · rfl
    · have := rngB_iff.1 hr _ (getD_mem (d := 0) hk)
      omega
  rw [this]
  simp
theorem perm_bad_dup {zs : List Int} {m k : Nat} (hk : k < zs.length) (h : zs.getD k 0 ∈ zs.take k) : permB zs m = false := by
  unfold permB
  have : ¬ zs.Nodup := by
    intro hd
    have h2 : (zs.take (k + 1)).Nodup := List.Nodup.sublist (List.take_sublist _ _) hd
    rw [take_mem_split hk] at h2
    have := (List.nodup_append.1 h2).2.2
    exact this _ h _ (by simp) rfl
  rw [decide_eq_false this]
  simp
theorem perm_good {zs : List Int} {m : Nat} (hl : zs.length = m) (hr : ∀ x ∈ zs, 0 ≤ x ∧ x < (m : Int)) (hd : zs.Nodup) : permB zs m = true := by
  unfold permB
  rw [decide_eq_true (by omega : ((zs.length : Int) = m)), rngB_iff.2 hr, decide_eq_true hd]
  rfl
theorem perm_step {zs : List Int} {m k : Nat} (hk : k < zs.length) (h : ¬ zs.getD k 0 ∈ zs.take k) (hd : (zs.take k).Nodup) : (zs.take (k + 1)).Nodup := by
  rw [take_mem_split hk, List.nodup_append]
  refine ⟨hd, by simp, fun a ha b hb e => ?_⟩
  have hb' : b = zs.getD k 0 := List.mem_singleton.1 hb
  exact h (by rw [← hb', ← e]; exact ha)
set_option maxHeartbeats 2000000 in
theorem isPermutation_any (v : Value) (zs : List Int) (m : Nat) (w : World) (hv : IntsV w v zs) (hm : m ≤ 1000000) (hl : zs.length ≤ 1000000) :
    Calls Try.prog 102 #[v, .int .i64 m] w fun e w' => e = .returned (.bool (permB zs m)) ∧ w.grownBy w' none := by
  obtain ⟨i0, hi, hz0, hz1, hz2⟩ := info_parts info_bool
  have HBI := Lib.hid hi; have HZ0 := Lib.hid hz0; have HZ1 := Lib.hid hz1; have HZ2 := Lib.hid hz2
  have HV := Lib.hid hv
  obtain ⟨a, c, rfl⟩ := hv.shape
  clear hi hz0 hz1 hz2 hv
  generalize hn : zs.length = n at *
  have HN := Lib.hid hn
  clear hn
  by_cases hne : n = m
  · subst hne
    have hn1 : ((n : Int) != (n : Int)) = false := by simp
    have hwr : IntKind.i64.wrap ((n : Int) - 1) = (n : Int) - 1 := by rw [IntKind.wrap_i64]; omega
    go_enter Try.func102, Try.ntmps102
    go_wp2_with (
      at_make
      refine wpList_make_full _ rfl _ _ 76 rfl w.heap.size 4 i0 _ 1 Try.underlying76 HBI.out HZ0.out HZ1.out _ _ _ _ n rfl rfl rfl rfl (by rw [HZ2.out]; omega) (by unfold maxLen; omega) (Nat.le_refl _) ?_
      intro w1 hown' hgr'
      have hs1 := (Sep.start w).newR hgr' (OwnR.made (E := boolE) falseCells hown')
      rw [← seen_nil] at hs1
      have HS1 := Lib.hid hs1
      clear hs1 hown' hgr')
    go_loopw [7, 16] (fun _ i wr => ∃ k : Nat, k ≤ n ∧ i = .int .i64 k ∧ (zs.take k).Nodup ∧ (∀ x ∈ zs.take k, 0 ≤ x ∧ x < (n : Int)) ∧ Sep wr [OR boolE (.slice (some ⟨w.heap.size, 0, none⟩) n n) (seenL n (zs.take k)), KeepA w]) (fun _ i _ => n - (intOf i).toNat)
    case atStart => exact ⟨0, by omega, rfl, by simp, by simp, by simpa using HS1.out⟩
    case round =>
      obtain ⟨k, hk, rfl, hd, hr, hs⟩ := hrel
      have HSX := Lib.hid hs; have HD := Lib.hid hd; have HR := Lib.hid hr
      clear hs hd hr HS1
      by_cases hlt : k < n
      · have hkx : k < zs.length := by rw [HN.out]; exact hlt
        obtain ⟨b, o, rfl⟩ := IntsV.addr HV.out (by omega)
        have hc0 := (HV.out.carry HSX.out.tl.hd).cellN hkx
        have HTK := Lib.hid (take_mem_split hkx)
        have HBR := Lib.hid (@perm_bad_rng zs n k hkx)
        have HBD := Lib.hid (@perm_bad_dup zs n k hkx)
        have HST := Lib.hid (fun h => @perm_step zs n k hkx h HD.out)
        generalize zs.getD k 0 = x at *
        have HW := Lib.hid fun W => within_any x 0 ((n : Int) - 1) W
        by_cases hin : 0 ≤ x ∧ x ≤ (n : Int) - 1
        · rw [decide_eq_true hin] at HW
          obtain ⟨j, rfl⟩ := Int.eq_ofNat_of_zero_le hin.1
          have hjm : j < n := by omega
          have hsc := bool_cell HSX.out.hd (seen_len n _).symm hjm
          have hsf := bool_free HSX.out.hd (seen_len n _).symm j
          rw [seen_at hjm] at hsc
          by_cases hold : (j : Int) ∈ zs.take k
          · rw [decide_eq_true hold] at hsc
            have HF := Lib.hid (HBD.out hold)
            have HK := Lib.hid (show w.grownBy wr none from HSX.out.tl.hd)
            clear hold hin hkx
            go_wp2_with (go_at_call 35; with_reducible refine (HW.out _).mono ?_; rintro e w3 ⟨rfl, rfl⟩)
            go_ret
            exact ⟨by rw [HF.out]; try rfl, HK.out⟩
          · rw [decide_eq_false hold] at hsc
            have hsn := seen_new hjm hold
            have h1 := HSX.out.setBo (seen_len n _).symm hjm true
            rw [← hsn.1, ← HTK.out] at h1
            have HF := Lib.hid h1
            have HD2 := Lib.hid (HST.out hold)
            have HR2 := Lib.hid (show ∀ x ∈ zs.take (k + 1), 0 ≤ x ∧ x < (n : Int) from by
              intro x hx
              rw [HTK.out] at hx
              rcases List.mem_append.1 hx with hx | hx
              · exact HR.out x hx
              · simp at hx
                omega)
            clear hold hin hkx hsn h1
            go_wp2_with (go_at_call 35; with_reducible refine (HW.out _).mono ?_; rintro e w3 ⟨rfl, rfl⟩)
            go_roundw
            case rel => exact ⟨k + 1, by omega, by go_num, HD2.out, HR2.out, HF.out⟩
            case measure => simp [intOf]; omega
        · rw [decide_eq_false hin] at HW
          have HF := Lib.hid (HBR.out hin)
          have HK := Lib.hid (show w.grownBy wr none from HSX.out.tl.hd)
          clear hin hkx
          go_wp2_with (go_at_call 35; with_reducible refine (HW.out _).mono ?_; rintro e w3 ⟨rfl, rfl⟩)
          go_ret
          exact ⟨by rw [HF.out]; try rfl, HK.out⟩
      · have hkn : k = n := by omega
        subst hkn
        have hd := HD.out
        have hr := HR.out
        rw [List.take_of_length_le (by rw [HN.out]; exact Nat.le_refl _)] at hd hr
        have HF := Lib.hid (perm_good HN.out hr hd)
        have HK := Lib.hid (show w.grownBy wr none from HSX.out.tl.hd)
        clear hlt hd hr
        go_wp2
        go_ret
        exact ⟨by rw [HF.out]; try rfl, HK.out⟩
  · have hn1 : ((n : Int) != (m : Int)) = true := by simp; omega
    have HF := Lib.hid (show permB zs m = false by unfold permB; rw [HN.out, decide_eq_false (by omega)]; simp)
    clear hne
    go_enter Try.func102, Try.ntmps102
    go_wp2
    go_ret
    exact ⟨by rw [HF.out]; try rfl, grownBy_refl _ _⟩
theorem occursOnce_any (v : Value) (xs : List RX) (m : Nat) (w : World) (hv : RdL w v xs) (hm : m ≤ 1000000) (hl : xs.length ≤ 1000000) (hj : (joinL xs).length ≤ 1000000) :
    Calls Try.prog 88 #[.int .i64 m, v] w fun e w' => e = .returned (.bool (permB (joinL xs) m)) ∧ w.grownBy w' none := by
  have HA := Lib.hid (joined_any v xs w hv hl hj)
  have HB := Lib.hid fun u W (h : IntsV W u (joinL xs)) => isPermutation_any u (joinL xs) m W h hm hj
  obtain ⟨a, c, rfl⟩ := hv.1.shape
  clear hv
  generalize permB (joinL xs) m = b at *
  go_enter Try.func88, Try.ntmps88
  go_wp2_with (first
    | (go_at_call 90
       with_reducible refine HA.out.mono ?_
       rintro e w2 ⟨u, rfl, hs⟩
       have HC := Lib.hid (HB.out u w2 (OwnInts.read (show OwnInts 0 w2 u _ from hs.hd)))
       have HK := Lib.hid (show w.grownBy w2 none from hs.tl.hd)
       clear hs)
    | (go_at_call 102
       with_reducible refine HC.out.mono ?_
       rintro e w3 ⟨rfl, hg⟩
       have HK2 := Lib.hid (grownBy_trans HK.out hg)
       clear hg))
  go_ret
  exact ⟨rfl, HK2.out⟩
end Go.Proofs.Ytlpgjnjhhgjkmaa

/-
  Is a graph monogamous, in the program. Conditions: lengths are small.
-/
namespace Go.Proofs.Ytlpgjnjhhgjkmaa
open Go.RowKit
set_option linter.unusedVariables false
set_option maxRecDepth 100000

theorem row_own {w : World} {l : List Asrt} (h : Sep w l) (a : Option Addr) (n c : Nat) (is : List Int) (b : Nat) (hb : b = w.heap.size) :
    Sep (w.alloc (.cells #[.slice a n c] 23)) (OR rowE (.slice (some ⟨b, 0, none⟩) 1 1) [⟨.slice a n c, is⟩] :: l) := by
  subst hb
  refine h.newR (grownBy_alloc w _ none) ?_
  refine ⟨rfl, Or.inr ⟨w.heap.size, 1, #[.slice a n c], rfl, Nat.le_refl _, ?_, Nat.le_refl _, ?_, rfl, rfl⟩⟩
  · exact alloc_heap_new _ _
  · decide
section
variable {α : Type} {E : Lay α} {ops : Array Oper} {rest : List Oper} {o : Oper} {a : Act} {Q : Exit → Act → World → Prop} {w : World} {v : Value} {xs : List α} {l : List Asrt} {y : α} {t : TypeId} {z : Value} {bytes b : Nat}
theorem app_RB (hinfo : (Try.prog.info? E.ty).map (fun i => (i.zero, i.size, i.bytes)) = some (some z, E.sz, bytes)) (hzs : z.cells.size = E.sz) (hby : bytes ≤ 10000) (ht : Try.prog.underlying t = some (.slice E.ty)) (hone : ∀ u ∈ E.cs y, u.oneCell' = true)
    (hgd : o.guard = none) (s x : Operand) (ho : o.op = .call { callee := .builtin .append, args := #[s, x], argTypes := #[t, t] })
    (hs : a.eval s = v) (hx : a.eval x = .slice (some ⟨b, 0, none⟩) 1 1) (hb : b = w.heap.size) {cs : Array Value} (hcs : cs.toList = E.cs y) (H : Sep w (OR E v xs :: l)) (hl : xs.length ≤ 10000000)
    (h : ∀ g cap w', Sep w' (OR E (.slice (some ⟨g, 0, none⟩) (xs.length + 1) cap) (xs ++ [y]) :: l) → wpList Try.prog ops Q rest (a.put o.dst (.slice (some ⟨g, 0, none⟩) (xs.length + 1) cap)) w') :
    wpList Try.prog ops Q (o :: rest) a (w.alloc (.cells cs E.ty)) := by
  subst hb
  exact app_R hinfo hzs hby ht hone hgd s x ho hs hx hcs H hl h
end
theorem joinL_snoc (xs : List RX) (x : RX) : joinL (xs ++ [x]) = joinL xs ++ x.zs := by unfold joinL; rw [List.flatMap_append]; simp
theorem RdL.of {w : World} {v : Value} {xs : List RX} (h : (OR rowE v xs).holds w) (hi : ∀ x ∈ xs, IntsV w x.v x.zs) : RdL w v xs := ⟨OwnR.read (show OwnR rowE 0 w v xs from h), hi⟩
theorem grB_n {g : Gr} (h : grB g = true) : ∃ m : Nat, g.n = m ∧ m ≤ 100 ∧ g.es.length ≤ 60 ∧ g.i.length ≤ 12 ∧ g.o.length ≤ 12 ∧ rngB g.n (wiresL g) = true ∧ (∀ e ∈ g.es, e.i.length ≤ 2 ∧ e.o.length ≤ 2) ∧ g.es.all edB = true := by
  have h0 := h
  rw [grB_spec] at h
  simp only [Bool.and_eq_true, decide_eq_true_iff] at h
  obtain ⟨h1, h2, h3, h4, h5, h6, h7, h8⟩ := h
  rw [inB_iff] at h1
  obtain ⟨m, hm⟩ := Int.eq_ofNat_of_zero_le h1.1
  refine ⟨m, hm, by omega, h2, h3, h4, ?_, edge_small h7, ?_⟩
  · unfold grB at h0
    simp only [Bool.and_eq_true] at h0
    exact h0.1.2
  · unfold grB at h0
    simp only [Bool.and_eq_true] at h0
    exact h0.1.1.2
set_option maxHeartbeats 4000000 in
theorem isMonogamous_any (ev iv ov : Value) (g : Gr) (w : World) (he : RdE edgeE w ev g.es) (hi : IntsV w iv g.i) (ho : IntsV w ov g.o) (l0 : g.es.length ≤ 2000000) (l1 : g.i.length ≤ 2000000) (l2 : g.o.length ≤ 2000000) :
    Calls Try.prog 64 #[grV g.n ev iv ov] w fun e w' => e = .returned (.bool (grB g && monB g)) ∧ w.grownBy w' none := by
  have HIG := Lib.hid fun W (h : w.grownBy W none) => isGraph_any ev iv ov g W (he.carry h) (hi.carry h) (ho.carry h) l0 l1 l2
  have HE := Lib.hid he; have HI := Lib.hid hi; have HO := Lib.hid ho
  unfold grV at *
  obtain ⟨ea, ec, rfl⟩ := he.shape
  obtain ⟨ia, ic, rfl⟩ := hi.shape
  obtain ⟨oa, oc, rfl⟩ := ho.shape
  clear he hi ho l0 l1 l2
  have HS0 := Lib.hid ((Sep.start w).box #[.int .i64 g.n, .slice ea g.es.length ec, .slice ia g.i.length ic, .slice oa g.o.length oc] 29)
  have HK0 := Lib.hid (show w.grownBy _ none from HS0.out.tl.hd)
  cases hb : grB g
  · rw [hb] at HIG
    rw [Bool.false_and]
    clear hb
    generalize g.es.length = m0 at *
    generalize g.i.length = m1 at *
    generalize g.o.length = m2 at *
    generalize g.n = n at *
    go_enter Try.func64, Try.ntmps64
    go_wp2_with (
      go_at_call 34
      with_reducible refine (HIG.out _ HK0.out).mono ?_
      rintro e w2 ⟨rfl, hg⟩
      have HK2 := Lib.hid (grownBy_trans HK0.out hg)
      clear hg)
    go_ret
    exact ⟨rfl, HK2.out⟩
  · rw [hb] at HIG
    rw [Bool.true_and]
    obtain ⟨m, hm, hm1, hg1, hg2, hg3, hg4, hg5, _⟩ := grB_n hb
    clear hb
    obtain ⟨gn, es, is, os⟩ := g
    rw [show monB ⟨gn, es, is, os⟩ = (permB (is ++ outE es) gn && permB (os ++ inE es) gn) from rfl]
    simp only at *
    subst hm
    have HLE := Lib.hid hg5
    have HES := Lib.hid hg1
    have hlo : ∀ k, (outE (es.take k)).length ≤ 120 := by
      intro k
      have h1 := outE_le es k
      have h2 := flat_small (fun e => e.o) es (fun e he => (hg5 e he).2)
      unfold outE at h1 ⊢
      omega
    have hli : ∀ k, (inE (es.take k)).length ≤ 120 := by
      intro k
      have h1 := inE_le es k
      have h2 := flat_small (fun e => e.i) es (fun e he => (hg5 e he).1)
      unfold inE at h1 ⊢
      omega
    have HLO := Lib.hid hlo; have HLI := Lib.hid hli
    have HMM := Lib.hid (show m ≤ 1000000 by omega)
    have HIS := Lib.hid hg2; have HOS := Lib.hid hg3
    generalize hes : es.length = m0 at *
    have HM0 := Lib.hid hes
    clear hg4 hg5 hlo hli hm1 hes
    generalize hil : is.length = m1 at *
    generalize hol : os.length = m2 at *
    have HIL := Lib.hid hil; have HOL := Lib.hid hol
    clear hil hol
    go_enter Try.func64, Try.ntmps64
    go_upto_region 3 with (
      go_at_call 34
      with_reducible refine (HIG.out _ HK0.out).mono ?_
      rintro e w2 ⟨rfl, hg⟩
      have hs2 := HS0.out.grown hg
      obtain ⟨x0, x1, x2, x3, _⟩ := bq4 hs2.hd
      have HS2 := Lib.hid hs2
      clear hg hs2)
    go_cut [3, 4] from 10 to 15 (fun xv yv wx => ∃ (b1 b2 : Nat), xv = .slice (some ⟨b1, 0, none⟩) 1 1 ∧ yv = .slice (some ⟨b2, 0, none⟩) 1 1 ∧ Sep wx [OR rowE (.slice (some ⟨b1, 0, none⟩) 1 1) [⟨.slice ia m1 ic, is⟩], OR rowE (.slice (some ⟨b2, 0, none⟩) 1 1) [⟨.slice oa m2 oc, os⟩], BxA w.heap.size #[.int .i64 m, .slice ea m0 ec, .slice ia m1 ic, .slice oa m2 oc] 29, KeepA w])
    case first =>
      have y2 := fun o => (bq4 (HS2.out.al o).hd).2.2.1
      have y3 := fun o => (bq4 (HS2.out.al o).hd).2.2.2.1
      have HA := Lib.hid (row_own (row_own HS2.out ia m1 ic is w2.heap.size rfl) oa m2 oc os (w2.heap.size + 1) (by simp)).s2.dr
      have HB := Lib.hid (row_own (row_own HS2.out oa m2 oc os w2.heap.size rfl) ia m1 ic is (w2.heap.size + 1) (by simp)).dr
      go_region
      all_goals
        go_wp2_with fail
        go_meet
      . exact ⟨_, _, rfl, rfl, HA.out⟩
      . exact ⟨_, _, rfl, rfl, HB.out⟩
    case rest =>
      obtain ⟨b1, b2, rfl, rfl, hs⟩ := hcut
      have HS3 := Lib.hid hs
      obtain ⟨x0, x1, x2, x3, _⟩ := bq4 hs.tl.tl.hd
      clear hs HS2 HIG
      go_wp2_with fail
      go_loopw [3, 4, 6, 19] (fun xv yv _ i wr => ∃ (k : Nat) (xs ys : List RX), k ≤ m0 ∧ i = .int .i64 k ∧ xs.length = k + 1 ∧ ys.length = k + 1 ∧ joinL xs = is ++ outE (es.take k) ∧ joinL ys = os ++ inE (es.take k) ∧ (∀ x ∈ xs, IntsV w x.v x.zs) ∧ (∀ x ∈ ys, IntsV w x.v x.zs) ∧
        Sep wr [OR rowE xv xs, OR rowE yv ys, BxA w.heap.size #[.int .i64 m, .slice ea m0 ec, .slice ia m1 ic, .slice oa m2 oc] 29, KeepA w]) (fun _ _ _ i _ => m0 - (intOf i).toNat)
      case atStart => exact ⟨0, [⟨.slice ia m1 ic, is⟩], [⟨.slice oa m2 oc, os⟩], by omega, rfl, rfl, rfl, by simp [joinL, outE], by simp [joinL, inE], by simpa using HI.out, by simpa using HO.out, HS3.out⟩
      case round =>
        obtain ⟨k, xs, ys, hk, rfl, hxl, hyl, hxj, hyj, hxi, hyi, hs⟩ := hrel
        have HSX := Lib.hid hs; have HXL := Lib.hid hxl; have HYL := Lib.hid hyl; have HXJ := Lib.hid hxj; have HYJ := Lib.hid hyj; have HXI := Lib.hid hxi; have HYI := Lib.hid hyi
        obtain ⟨p1, p2, he1⟩ := OwnR.shape (show OwnR rowE 0 wr u3 xs from hs.hd)
        obtain ⟨q1, q2, he2⟩ := OwnR.shape (show OwnR rowE 0 wr u4 ys from hs.tl.hd)
        rw [hxl] at he1
        rw [hyl] at he2
        subst he1 he2
        obtain ⟨x0, x1, x2, x3, _⟩ := bq4 hs.tl.tl.hd
        clear hs HS3 hxl hyl hxj hyj hxi hyi
        by_cases hlt : k < m0
        · have hke : k < es.length := by rw [HM0.out]; exact hlt
          obtain ⟨eb, eo, u1, u2, rfl, hat⟩ := HE.out.atK rfl rfl hke
          obtain ⟨⟨q0, q1', q2', q3⟩, hi, ho⟩ := hat wr HSX.out.tl.tl.tl.hd
          obtain ⟨_, hi0, ho0⟩ := hat w (grownBy_refl _ _)
          have HTO := Lib.hid (outE_take es k hke); have HTI := Lib.hid (inE_take es k hke)
          generalize es.getD k e0 = y at *
          obtain ⟨yk, yv, yi, yo⟩ := y
          simp only at q0 q1' q2' q3 hi ho hi0 ho0
          have HI0 := Lib.hid hi0; have HO0 := Lib.hid ho0
          obtain ⟨s1, r1, rfl⟩ := hi.shape
          obtain ⟨s2, r2, rfl⟩ := ho.shape
          have hb := (HSX.out.box #[.int .i64 yk, .int .i64 yv, .slice s1 yi.length r1, .slice s2 yo.length r2] 69).s2
          have HSB := Lib.hid hb
          clear hi ho hi0 ho0 hat hke hb
          go_wp2_with (first
            | (refine app_RB (E := rowE) (y := ⟨.slice s2 yo.length r2, yo⟩) info_row rfl (by decide) Try.underlying116 (by intro u hu; simp [rowE] at hu; subst hu; rfl) rfl (.tmp 23) (.tmp 26) rfl rfl rfl (by simp) rfl HSB.out (by rw [HXL.out]; omega) ?_
               intro g c w4 h4
               rw [HXL.out] at h4 ⊢
               obtain ⟨z0, z1, z2, z3, _⟩ := bq4 h4.tl.hd
               have HS4 := Lib.hid h4.s3
               clear h4)
            | (refine app_RB (E := rowE) (y := ⟨.slice s1 yi.length r1, yi⟩) info_row rfl (by decide) Try.underlying116 (by intro u hu; simp [rowE] at hu; subst hu; rfl) rfl (.tmp 28) (.tmp 31) rfl rfl rfl rfl rfl HS4.out (by rw [HYL.out]; omega) ?_
               intro g2 c2 w5 h5
               rw [HYL.out] at h5 ⊢
               have HS5 := Lib.hid (h5.s2.under (fun h => h.under Sep.tl (by simp +contextual)) (by simp +contextual))
               clear h5))
          go_roundw
          case rel => exact ⟨k + 1, xs ++ [⟨.slice s2 yo.length r2, yo⟩], ys ++ [⟨.slice s1 yi.length r1, yi⟩], by omega, by go_num, by rw [List.length_append, HXL.out]; rfl, by rw [List.length_append, HYL.out]; rfl, by rw [joinL_snoc, HXJ.out, HTO.out, List.append_assoc], by rw [joinL_snoc, HYJ.out, HTI.out, List.append_assoc], by
              intro x hx
              rcases List.mem_append.1 hx with hx | hx
              · exact HXI.out x hx
              · rw [List.mem_singleton.1 hx]; exact HO0.out, by
              intro x hx
              rcases List.mem_append.1 hx with hx | hx
              · exact HYI.out x hx
              · rw [List.mem_singleton.1 hx]; exact HI0.out, HS5.out⟩
          case measure => simp [intOf]; omega
        · have hkm : k = m0 := by omega
          subst hkm
          have htk : es.take k = es := List.take_of_length_le (by rw [HM0.out]; exact Nat.le_refl _)
          rw [htk] at HXJ HYJ
          have hkp : w.grownBy wr none := HSX.out.tl.tl.tl.hd
          have hjl : (joinL xs).length ≤ 1000000 := by rw [HXJ.out, List.length_append]; have := HLO.out k; rw [htk] at this; have := HIS.out; have := HIL.out; omega
          have hjl2 : (joinL ys).length ≤ 1000000 := by rw [HYJ.out, List.length_append]; have := HLI.out k; rw [htk] at this; have := HOS.out; have := HOL.out; omega
          have HOA := Lib.hid fun W (h : wr.grownBy W none) => occursOnce_any _ xs m W ((RdL.of HSX.out.hd (fun x hx => (HXI.out x hx).carry hkp)).carry h) HMM.out (by rw [HXL.out]; omega) hjl
          have HOB := Lib.hid fun W (h : wr.grownBy W none) => occursOnce_any _ ys m W ((RdL.of HSX.out.tl.hd (fun x hx => (HYI.out x hx).carry hkp)).carry h) HMM.out (by rw [HYL.out]; omega) hjl2
          rw [HXJ.out] at HOA
          rw [HYJ.out] at HOB
          have hKW := Lib.hid hkp
          have HBX := Lib.hid (show Sep wr [BxA w.heap.size #[.int .i64 m, .slice ea k ec, .slice ia m1 ic, .slice oa m2 oc] 29, KeepA w] from HSX.out.tl.tl)
          clear hlt htk hkp hjl hjl2
          cases hb1 : permB (is ++ outE es) m
          · rw [hb1] at HOA
            have HB1 := Lib.hid hb1
            clear hb1
            go_wp2_with (
              go_at_call 88
              with_reducible refine (HOA.out _ (grownBy_refl _ _)).mono ?_
              rintro e w6 ⟨rfl, hg⟩
              have HK6 := Lib.hid (grownBy_trans hKW.out hg)
              clear hg)
            go_ret
            exact ⟨by rw [HB1.out]; rfl, HK6.out⟩
          · rw [hb1] at HOA
            have HB1 := Lib.hid hb1
            clear hb1
            obtain ⟨b2, hb2⟩ : ∃ b, b = permB (os ++ inE es) m := ⟨_, rfl⟩
            rw [← hb2] at HOB
            have HB2 := Lib.hid hb2
            clear hb2
            go_wp2_with (first
              | (go_at_call 88
                 with_reducible refine (HOA.out _ (grownBy_refl _ _)).mono ?_
                 rintro e w6 ⟨rfl, hg⟩
                 have HG6 := Lib.hid hg
                 obtain ⟨z0, z1, z2, z3, _⟩ := bq4 (HBX.out.grown hg).hd
                 have HK6 := Lib.hid (grownBy_trans hKW.out hg)
                 clear hg)
              | (go_at_call 88
                 with_reducible refine (HOB.out _ HG6.out).mono ?_
                 rintro e w7 ⟨rfl, hg⟩
                 have HK7 := Lib.hid (grownBy_trans HK6.out hg)
                 clear hg))
            go_ret
            exact ⟨by rw [HB1.out, ← HB2.out]; rfl, HK7.out⟩
end Go.Proofs.Ytlpgjnjhhgjkmaa

/-
  Circuits in plain Lean: what a circuit is, the order in which gates are made, ranks. Conditions: none.
-/
import Derived.Test.YtjagjhchnpmngaaGreatDoorProg
import Derived.WalkKit
import Derived.Lib.Hide
import Derived.WalkSpells
import Derived.BigQuiet
import Derived.Deep.QuietTactic
import Derived.Laws.OwnMore
import Derived.BigRegion
import Derived.StillTailTactics
import Derived.Deep.AppendLies
import Derived.Deep.RegionLaw
import Derived.Deep.CutRange
namespace Go.Proofs.YtjagjhchnpmngaaGreatDoor
open Go.RowKit
set_option linter.unusedVariables false

/-- A gate: its kind, its operands, its value. -/
structure Gt where
  k : Int
  a : Int
  b : Int
  v : Int
theorem Gt.ext' {x y : Gt} (h1 : x.k = y.k) (h2 : x.a = y.a) (h3 : x.b = y.b) (h4 : x.v = y.v) : x = y := by
  cases x; cases y; simp_all
instance : DecidableEq Gt := fun x y => decidable_of_iff (x.k = y.k ∧ x.a = y.a ∧ x.b = y.b ∧ x.v = y.v) ⟨fun ⟨h1, h2, h3, h4⟩ => Gt.ext' h1 h2 h3 h4, fun h => by subst h; exact ⟨rfl, rfl, rfl, rfl⟩⟩
/-- The gate that stands at no index. -/
def g0 : Gt := ⟨0, 0, 0, 0⟩
/-- A circuit: the number of inputs, the gates, the outputs. -/
structure Circ where
  n : Int
  gs : List Gt
  os : List Int
theorem Circ.ext' {x y : Circ} (h1 : x.n = y.n) (h2 : x.gs = y.gs) (h3 : x.os = y.os) : x = y := by
  cases x; cases y; simp_all
instance : DecidableEq Circ := fun x y => decidable_of_iff (x.n = y.n ∧ x.gs = y.gs ∧ x.os = y.os) ⟨fun ⟨h1, h2, h3⟩ => Circ.ext' h1 h2 h3, fun h => by subst h; exact ⟨rfl, rfl, rfl⟩⟩
def opsL (g : Gt) : List Int := if g.k = 3 then [g.a, g.b] else if g.k = 4 ∨ g.k = 5 then [g.a] else []
def needsL (g : Gt) : List Int := if g.k = 3 ∨ g.k = 4 then opsL g else []
def inB (x lo hi : Int) : Bool := decide (lo ≤ x ∧ x ≤ hi)
/-! ### the order -/
/-- May gate i be made? (op: the gates that are still to be made.) -/
def readyB (gs : List Gt) (op : List Bool) (i : Nat) : Bool := op.getD i false && !(needsL (gs.getD i g0)).any (fun k => op.getD k.toNat false)
def nOpen (op : List Bool) : Nat := op.countP (fun b => b)
end Go.Proofs.YtjagjhchnpmngaaGreatDoor

/-
  What simplifying makes of a circuit, in plain Lean. Conditions: none.
-/
namespace Go.Proofs.YtjagjhchnpmngaaGreatDoor
open Go.RowKit
set_option linter.unusedVariables false

theorem inB_iff {x lo hi : Int} : inB x lo hi = true ↔ lo ≤ x ∧ x ≤ hi := by unfold inB; rw [decide_eq_true_iff]
end Go.Proofs.YtjagjhchnpmngaaGreatDoor

/-
  What a walk knows about memory: lists of integers that can be read or are the call's own; parts that lie apart. Conditions: lengths are small.
-/
namespace Go.Proofs.YtjagjhchnpmngaaGreatDoor
open Go.RowKit
set_option linter.unusedVariables false

theorem grownBy_refl (w : World) (r : Option Nat) : w.grownBy w r := ⟨rfl, rfl, rfl, Nat.le_refl _, fun _ _ _ => rfl⟩
theorem grownBy_trans {a b c : World} {r : Option Nat} (h : a.grownBy b r) (k : b.grownBy c r) : a.grownBy c r :=
  ⟨k.os.trans h.os, k.tape.trans h.tape, k.output.trans h.output, Nat.le_trans h.size k.size, fun i hi hr => (k.block i (Nat.lt_of_lt_of_le hi h.size) hr).trans (h.block i hi hr)⟩
/-- A slice of integers that lies in memory: its cells hold zs (and a capacity's rest is not spoken of). -/
def IntsAt (w : World) (a : Addr) (zs : List Int) : Prop :=
  ∀ i (h : i < zs.length), w.cell? ⟨a.block, a.off + i, none⟩ = some (.int .i64 zs[i])
theorem alloc_heap_old (w : World) (o : Obj) (k : Nat) (h : k < w.heap.size) : (w.alloc o).heap[k]? = w.heap[k]? := Below.heap_alloc w o k h
theorem alloc_heap_new (w : World) (o : Obj) : (w.alloc o).heap[w.heap.size]? = some o := by
  show (w.heap.push o)[w.heap.size]? = _
  simp
theorem grownBy_alloc (w : World) (o : Obj) (r : Option Nat) : w.grownBy (w.alloc o) r :=
  ⟨rfl, rfl, rfl, by simp, fun k hk _ => alloc_heap_old w o k hk⟩
theorem intsAt_new (w : World) (zs : List Int) (t : TypeId) : IntsAt (w.alloc (.cells (zs.map (Value.int .i64)).toArray t)) ⟨w.heap.size, 0, none⟩ zs := by
  intro i hi
  simp only [World.cell?]
  rw [alloc_heap_new]
  simp [hi]
theorem info_int : (Tryz.prog.info? 3).map (fun i => (i.zero, i.size, i.bytes)) = some (some (.int .i64 0), 1, 8) := by kernel_rfl
/-- A slice value whose cells are the call's own (blocks from B on) and hold zs. -/
def OwnInts (B : Nat) (w : World) (v : Value) (zs : List Int) : Prop := w.ownsRow B 3 1 v zs.length (zs.map (Value.int .i64))
theorem OwnInts.nil (B : Nat) (w : World) : OwnInts B w (.slice none 0 0) [] := World.ownsRow_nil _ _ _ _
theorem OwnInts.carry {B : Nat} {w w' : World} {v : Value} {zs : List Int} (h : OwnInts B w v zs) (hw : ∀ k, B ≤ k → k < w.heap.size → w'.heap[k]? = w.heap[k]?) : OwnInts B w' v zs := by
  obtain ⟨h1, h2⟩ := h
  refine ⟨h1, ?_⟩
  rcases h2 with h2 | ⟨g, cap, cur, hv, hg, hh, r⟩
  · exact Or.inl h2
  · have hlt : g < w.heap.size := by
      rcases Nat.lt_or_ge g w.heap.size with h | h
      · exact h
      · rw [Array.getElem?_eq_none h] at hh; cases hh
    exact Or.inr ⟨g, cap, cur, hv, hg, (hw g hg hlt).trans hh, r⟩
theorem OwnInts.alloc {B : Nat} {w : World} {v : Value} {zs : List Int} (h : OwnInts B w v zs) (o : Obj) : OwnInts B (w.alloc o) v zs :=
  h.carry fun k _ hk => alloc_heap_old w o k hk
/-- '[]int{}' that has just been laid. -/
theorem OwnInts.empty {B g : Nat} {w : World} (hB : B ≤ w.heap.size) (hg : g = w.heap.size) : OwnInts B (w.alloc (.cells #[] 3)) (.slice (some ⟨g, 0, none⟩) 0 0) [] := by
  subst hg
  exact ⟨rfl, Or.inr ⟨w.heap.size, 0, #[], rfl, hB, alloc_heap_new _ _, Nat.le_refl _, Nat.zero_le _, rfl, rfl⟩⟩
/-- A slice of integers that can be read. -/
def IntsV (w : World) (v : Value) (zs : List Int) : Prop :=
  ∃ a cap, v = .slice a zs.length cap ∧ (zs ≠ [] → ∃ d, a = some d ∧ d.spot = none ∧ d.block < w.heap.size ∧ IntsAt w d zs)
theorem IntsV.carry {w w' : World} {v : Value} {zs : List Int} (h : IntsV w v zs) (hg : w.grownBy w' none) : IntsV w' v zs := by
  obtain ⟨a, cap, rfl, h⟩ := h
  refine ⟨a, cap, rfl, fun hz => ?_⟩
  obtain ⟨d, ha, hs, hd, hi⟩ := h hz
  exact ⟨d, ha, hs, Nat.lt_of_lt_of_le hd hg.size, fun i hi' => (World.cell?_of_block (w := w) (a := ⟨d.block, d.off + i, none⟩) (hg.block _ hd (by simp))).trans (hi i hi')⟩
theorem OwnInts.read {B : Nat} {w : World} {v : Value} {zs : List Int} (h : OwnInts B w v zs) : IntsV w v zs := by
  obtain ⟨h1, h2⟩ := h
  rcases h2 with ⟨rfl, h0⟩ | ⟨g, cap, cur, rfl, hg, hh, hc, hm, hs, ht⟩
  · exact ⟨none, 0, by rw [h0], fun hz => absurd (List.eq_nil_of_length_eq_zero h0) hz⟩
  · refine ⟨some ⟨g, 0, none⟩, cap, rfl, fun _ => ⟨⟨g, 0, none⟩, rfl, rfl, ?_, fun i hi => ?_⟩⟩
    · rcases Nat.lt_or_ge g w.heap.size with h | h
      · exact h
      · rw [Array.getElem?_eq_none h] at hh; cases hh
    · simp only [World.cell?, hh]
      have e : cur.toList[i]? = ((cur.toList.take (zs.length * 1))[i]?) := by rw [List.getElem?_take, if_pos (by omega)]
      have e2 : cur[0 + i]? = cur.toList[i]? := by rw [Nat.zero_add]; simp
      simp only [Option.isSome_none, Bool.false_eq_true, if_false]
      rw [e2, e, ht]
      simp [hi]
theorem IntsV.nil (w : World) : IntsV w (.slice none 0 0) [] := ⟨none, 0, rfl, fun h => absurd rfl h⟩
theorem grown_of_below {w w' : World} (h : Below w.heap.size w w') : w.grownBy w' none := ⟨h.os, h.tape, h.output, h.size, fun k hk _ => h.block k hk⟩
def Hits (v : Value) (k : Nat) : Prop := v.ownBlock = some k
def Apart (v u : Value) : Prop := ∀ k, Hits v k → ¬ Hits u k
theorem Apart.symm {v u : Value} (h : Apart v u) : Apart u v := fun k h1 h2 => h k h2 h1
/-- Only the old blocks in S have been written. -/
structure Only (S : Nat → Prop) (w w' : World) : Prop where
  os : w'.os = w.os
  tape : w'.tape = w.tape
  output : w'.output = w.output
  size : w.heap.size ≤ w'.heap.size
  block : ∀ k, k < w.heap.size → ¬ S k → w'.heap[k]? = w.heap[k]?
theorem Only.refl (S : Nat → Prop) (w : World) : Only S w w := ⟨rfl, rfl, rfl, Nat.le_refl _, fun _ _ _ => rfl⟩
theorem Only.drew (S : Nat → Prop) (w : World) : Only S w w.drew := ⟨rfl, rfl, rfl, Nat.le_refl _, fun _ _ _ => rfl⟩
theorem Only.drewN (S : Nat → Prop) (w : World) (n : Nat) : Only S w (w.drewN n) := ⟨rfl, rfl, rfl, Nat.le_refl _, fun _ _ _ => rfl⟩
theorem Only.trans {S : Nat → Prop} {a b c : World} (h : Only S a b) (h' : Only S b c) : Only S a c :=
  ⟨h'.os.trans h.os, h'.tape.trans h.tape, h'.output.trans h.output, Nat.le_trans h.size h'.size,
    fun k hk hs => (h'.block k (Nat.lt_of_lt_of_le hk h.size) hs).trans (h.block k hk hs)⟩
theorem Only.mono {S S' : Nat → Prop} {a b : World} (h : Only S a b) (hs : ∀ k, S k → S' k) : Only S' a b :=
  ⟨h.os, h.tape, h.output, h.size, fun k hk hn => h.block k hk fun h' => hn (hs k h')⟩
theorem Only.of_grown {S : Nat → Prop} {a b : World} {r : Option Nat} (h : a.grownBy b r) (hs : ∀ k, r = some k → S k) : Only S a b :=
  ⟨h.os, h.tape, h.output, h.size, fun k hk hn => h.block k hk fun h' => hn (hs k h'.symm)⟩
theorem Only.grown {a b : World} (h : Only (fun _ => False) a b) : a.grownBy b none := ⟨h.os, h.tape, h.output, h.size, fun k hk _ => h.block k hk (fun x => x)⟩
theorem Only.below {S : Nat → Prop} {a b : World} {B : Nat} (h : Only S a b) (hB : B ≤ a.heap.size) (hs : ∀ k, S k → B ≤ k) : Below B a b :=
  ⟨h.os, h.tape, h.output, h.size, fun k hk => h.block k (Nat.lt_of_lt_of_le hk hB) fun h' => by have := hs k h'; omega⟩
theorem OwnInts.only {B : Nat} {S : Nat → Prop} {w w' : World} {v : Value} {zs : List Int} (h : OwnInts B w v zs) (ho : Only S w w') (hs : ∀ k, Hits v k → ¬ S k) : OwnInts B w' v zs := by
  obtain ⟨h1, h2⟩ := h
  refine ⟨h1, ?_⟩
  rcases h2 with h2 | ⟨g, cap, cur, hv, hg, hh, r⟩
  · exact Or.inl h2
  · have hlt : g < w.heap.size := by
      rcases Nat.lt_or_ge g w.heap.size with h | h
      · exact h
      · rw [Array.getElem?_eq_none h] at hh; cases hh
    exact Or.inr ⟨g, cap, cur, hv, hg, (ho.block g hlt (hs g (by rw [hv]; rfl))).trans hh, r⟩
/-- the parts of an own row that is not empty -/
theorem OwnInts.parts {B : Nat} {w : World} {v : Value} {zs : List Int} (h : OwnInts B w v zs) (hz : zs ≠ []) : ∃ g cap, v = .slice (some ⟨g, 0, none⟩) zs.length cap ∧ B ≤ g ∧ g < w.heap.size ∧ Hits v g := by
  obtain ⟨h1, h2⟩ := h
  rcases h2 with ⟨_, h0⟩ | ⟨g, cap, cur, rfl, hg, hh, _⟩
  · exact absurd (List.eq_nil_of_length_eq_zero (by simpa using h0)) hz
  · refine ⟨g, cap, rfl, hg, ?_, rfl⟩
    rcases Nat.lt_or_ge g w.heap.size with h | h
    · exact h
    · rw [Array.getElem?_eq_none h] at hh; cases hh
theorem OwnInts.cell {B g n cap : Nat} {w : World} {zs : List Int} (h : OwnInts B w (.slice (some ⟨g, 0, none⟩) n cap) zs) (hn : n = zs.length) {j : Nat} (hj : j < zs.length) : w.cell? ⟨g, j, none⟩ = some (.int .i64 zs[j]) := by
  subst hn
  have := World.ownsRow.cellAt h j (by omega)
  rw [this]
  simp [hj]
theorem OwnInts.free {B g n cap : Nat} {w : World} {zs : List Int} (h : OwnInts B w (.slice (some ⟨g, 0, none⟩) n cap) zs) (hn : n = zs.length) (j : Nat) : w.frozen? ⟨g, j, none⟩ = false := by
  subst hn
  exact World.ownsRow.frozenAt h j
theorem OwnInts.put {B g n cap : Nat} {w : World} {zs : List Int} (h : OwnInts B w (.slice (some ⟨g, 0, none⟩) n cap) zs) (hn : n = zs.length) (j : Nat) (x : Int) :
    OwnInts B (w.setCell ⟨g, j, none⟩ (.int .i64 x)) (.slice (some ⟨g, 0, none⟩) n cap) (zs.set j x) ∧ Only (· = g) w (w.setCell ⟨g, j, none⟩ (.int .i64 x)) := by
  subst hn
  have := World.ownsRow.stored h j (.int .i64 x)
  refine ⟨?_, Only.of_grown this.2 fun k hk => (Option.some.inj hk).symm⟩
  have h1 := this.1
  unfold OwnInts
  rw [List.length_set, List.map_set]
  exact h1
theorem OwnInts.lt {B : Nat} {w : World} {v : Value} {zs : List Int} (h : OwnInts B w v zs) : ∀ k, Hits v k → B ≤ k ∧ k < w.heap.size := World.ownsRow.lt h
theorem OwnInts.base {B B' : Nat} {w : World} {v : Value} {zs : List Int} (h : OwnInts B w v zs) (hB : B' ≤ B) : OwnInts B' w v zs := by
  obtain ⟨h1, h2⟩ := h
  refine ⟨h1, ?_⟩
  rcases h2 with h2 | ⟨g, cap, cur, hv, hg, r⟩
  · exact Or.inl h2
  · exact Or.inr ⟨g, cap, cur, hv, Nat.le_trans hB hg, r⟩
/-- where the cells of a readable slice lie -/
def Value.blk' : Value → Option Nat
  | .slice (some d) _ _ => some d.block
  | _ => none
theorem IntsV.only {S : Nat → Prop} {w w' : World} {v : Value} {zs : List Int} (h : IntsV w v zs) (ho : Only S w w') (hs : ∀ k, Value.blk' v = some k → ¬ S k) : IntsV w' v zs := by
  obtain ⟨a, cap, rfl, h⟩ := h
  refine ⟨a, cap, rfl, fun hz => ?_⟩
  obtain ⟨d, ha, hsp, hd, hi⟩ := h hz
  refine ⟨d, ha, hsp, Nat.lt_of_lt_of_le hd ho.size, fun i hi' => ?_⟩
  exact (World.cell?_of_block (w := w) (a := ⟨d.block, d.off + i, none⟩) (ho.block _ hd (hs _ (by rw [ha]; rfl)))).trans (hi i hi')
theorem OwnInts.blk {B : Nat} {w : World} {v : Value} {zs : List Int} (h : OwnInts B w v zs) : Value.blk' v = v.ownBlock := by
  obtain ⟨_, h2⟩ := h
  rcases h2 with ⟨rfl, _⟩ | ⟨g, cap, cur, rfl, _⟩ <;> rfl
theorem run_nil_any {P : Program} (w : World) (base : Nat) (t ty e : TypeId) (i : TypeInfo) (size : Nat) (ht : P.underlying t = some (.slice e)) (hi : P.info? e = some i)
    (v : Value) (n : Nat) (xs : List Value) (hown : w.ownsRow base e size v n xs) (c : Nat) : (Builtin.append_ #[t, t] ty #[v, .slice none 0 c]).run P w = .ok v w := by
  rcases hown.2 with ⟨rfl, rfl⟩ | ⟨g, cap, cur, rfl, _, _, hnc, _⟩
  · simp [Builtin.append_, run_underlying ht, sizeOf, typeInfo, hi, Builtin.lenOf, Builtin.firstCells]
  · simp [Builtin.append_, run_underlying ht, sizeOf, typeInfo, hi, Builtin.lenOf, Builtin.firstCells, hnc, storeCells]
/-- 'append(out, ys...)', out the call's own, ys readable: nil, empty or not. -/
theorem app_ints {ops : Array Oper} {rest : List Oper} {o : Oper} {a : Act} {Q : Exit → Act → World → Prop} (hgd : o.guard = none) (s x : Operand)
    (ho : o.op = .call { callee := .builtin .append, args := #[s, x], argTypes := #[28, 28] })
    {B : Nat} {w : World} {v u : Value} {zs ys : List Int} (hs : a.eval s = v) (hx : a.eval x = u) (hu : IntsV w u ys)
    (hown : OwnInts B w v zs) (hB : B ≤ w.heap.size) (hl : zs.length + ys.length ≤ 1000000000)
    (h : ∀ v' w', OwnInts B w' v' (zs ++ ys) → Below B w w' → wpList Tryz.prog ops Q rest (a.put o.dst v') w') :
    wpList Tryz.prog ops Q (o :: rest) a w := by
  obtain ⟨i0, hi, hz0, hz1, hz2⟩ := info_parts info_int
  obtain ⟨ua, ucap, rfl, hr⟩ := hu
  cases ua with
  | none =>
    have hy : ys = [] := by
      cases ys with
      | nil => rfl
      | cons z zs => obtain ⟨d, hd, _⟩ := hr (by simp); cases hd
    subst hy
    refine wpList_plain hgd fun K hK => ?_
    have hrun := run_nil_any (P := Tryz.prog) w B 28 o.type 3 i0 1 Tryz.underlying28 hi v zs.length _ hown ucap
    unfold Oper.wp execOp
    simp only [ho, resolve, invoke, builtin, Sem.run_bind, Sem.run_pure, Result.andThen_ok, List.map_toArray, List.map_cons, List.map_nil, hs, hx, List.length_nil, hrun]
    exact hK _ _ (h v w (by simpa using hown) (Below.refl _ _))
  | some d =>
    refine wpList_append_own _ hgd s x 28 ho B 3 i0 (.int .i64 0) 1 8 Tryz.underlying28 hi hz0 hz1 hz2 rfl (by decide) v zs.length (zs.map (Value.int .i64)) hs hown
      d ys.length ucap (ys.map (Value.int .i64)) hx (by simp) ?_ ?_ (by unfold maxLen; omega) (by omega) hB ?_
    · intro j u hj
      have hjy : j < ys.length := by
        rcases Nat.lt_or_ge j ys.length with h | h
        · exact h
        · rw [List.getElem?_eq_none (by simpa using h)] at hj; cases hj
      obtain ⟨d', hd, hsp, hdb, hc⟩ := hr (by intro h; rw [h] at hjy; simp at hjy)
      cases hd
      have := hc j hjy
      simp [hjy] at hj
      subst hj
      obtain ⟨db, dof, _⟩ := d
      simp only at hsp
      subst hsp
      unfold Addr.add; split
      · next h0 => subst h0; simpa using this
      · exact this
    · intro u hu
      obtain ⟨z, _, rfl⟩ := List.mem_map.1 hu
      rfl
    · intro v' w1 hown' hgrow _
      refine h v' w1 (by unfold OwnInts; rw [List.length_append, List.map_append]; exact hown') ?_
      exact (Below.refl B w).grown hgrow hB fun k hk => (hown.lt k hk).1
theorem madeCells_int (n : Nat) : (madeCells (Value.int .i64 0).cells (n * 1)).toList = (List.replicate n (0 : Int)).map (Value.int .i64) := by
  rw [List.map_replicate]
  refine List.ext_getElem (by simp [madeCells]) fun j h1 h2 => ?_
  simp [madeCells, Value.cells, Nat.mod_one]
theorem zeros_any (n : Nat) (w : World) (hl : n ≤ 1000000) :
    Calls Tryz.prog 98 #[.int .i64 n] w fun e w' => ∃ v, e = .returned v ∧ OwnInts w.heap.size w' v (List.replicate n 0) ∧ w.grownBy w' none := by
  obtain ⟨i0, hi, hz0, hz1, hz2⟩ := info_parts info_int
  have HI := Lib.hid hi; have HZ0 := Lib.hid hz0; have HZ1 := Lib.hid hz1; have HZ2 := Lib.hid hz2
  clear hi hz0 hz1 hz2
  go_enter Tryz.func98, Tryz.ntmps98
  go_wp2_with (at_make; refine wpList_make_full _ rfl _ _ 28 rfl w.heap.size 3 i0 (.int .i64 0) 1 Tryz.underlying28 HI.out HZ0.out HZ1.out _ _ _ _ n rfl rfl rfl rfl (by rw [HZ2.out]; omega) (by unfold maxLen; omega) (Nat.le_refl _) ?_; intro w1 hown' hgr')
  have H1 := Lib.hid hown'; have H2 := Lib.hid hgr'
  clear hown' hgr'
  go_wp2
  go_ret
  refine ⟨_, rfl, ?_, H2.out⟩
  have := H1.out
  rw [madeCells_int] at this
  unfold OwnInts
  rw [List.length_replicate]
  exact this
theorem own_shape {B : Nat} {w : World} {v : Value} {zs : List Int} (h : OwnInts B w v zs) : ∃ a c, v = .slice a zs.length c := by
  rcases h.2 with ⟨rfl, h0⟩ | ⟨g, cap, cur, rfl, _⟩
  · exact ⟨none, 0, by rw [h0]⟩
  · exact ⟨_, _, rfl⟩
def nilS : Value := .slice none 0 0
theorem nil_hits {k : Nat} : ¬ Hits nilS k := by simp [Hits, nilS, Value.ownBlock]
theorem set_only (w : World) (a : Addr) (x : Value) : Only (fun k => k = a.block) w (w.setCell a x) :=
  ⟨rfl, rfl, rfl, by simp [World.setCell], fun k _ hn => Below.heap_setCell _ _ _ _ hn⟩
structure Asrt where
  foot : Nat → Prop
  sees : Nat → Prop
  holds : World → Prop
  sub : ∀ k, foot k → sees k
  lt : ∀ w k, holds w → sees k → k < w.heap.size
  keep : ∀ w w', holds w → Only (fun k => ¬ sees k) w w' → holds w'
def Apt (A C : Asrt) : Prop := (∀ k, A.foot k → ¬ C.sees k) ∧ (∀ k, C.foot k → ¬ A.sees k)
theorem Apt.symm {A C : Asrt} (h : Apt A C) : Apt C A := ⟨h.2, h.1⟩
def Sep (w : World) : List Asrt → Prop
  | [] => True
  | A :: l => A.holds w ∧ (∀ C ∈ l, Apt A C) ∧ Sep w l
section
variable {w w' : World} {A A' C D E F : Asrt} {l l' : List Asrt}
theorem Sep.hd (h : Sep w (A :: l)) : A.holds w := h.1
theorem Sep.tl (h : Sep w (A :: l)) : Sep w l := h.2.2
theorem Sep.apt (h : Sep w (A :: C :: l)) : Apt A C := h.2.1 _ (by simp)
theorem Sep.s2 (h : Sep w (A :: C :: l)) : Sep w (C :: A :: l) := by
  obtain ⟨h1, h2, h3, h4, h5⟩ := h
  refine ⟨h3, fun D hD => ?_, h1, fun D hD => h2 D (List.mem_cons_of_mem _ hD), h5⟩
  rcases List.mem_cons.1 hD with rfl | hD
  · exact (h2 C (by simp)).symm
  · exact h4 D hD
theorem Sep.under (h : Sep w (A :: l)) (p : Sep w l → Sep w l') (hm : ∀ C ∈ l', C ∈ l) : Sep w (A :: l') := ⟨h.1, fun C hC => h.2.1 C (hm C hC), p h.2.2⟩
theorem Sep.s3 (h : Sep w (A :: C :: D :: l)) : Sep w (D :: A :: C :: l) := (h.under Sep.s2 (by simp +contextual)).s2
theorem Sep.s4 (h : Sep w (A :: C :: D :: E :: l)) : Sep w (E :: A :: C :: D :: l) := (h.under Sep.s3 (by simp +contextual)).s2
theorem Sep.s5 (h : Sep w (A :: C :: D :: E :: F :: l)) : Sep w (F :: A :: C :: D :: E :: l) := (h.under Sep.s4 (by simp +contextual)).s2
theorem Sep.drop2 (h : Sep w (A :: C :: l)) : Sep w (A :: l) := h.under Sep.tl (by simp +contextual)
theorem Sep.only {S : Nat → Prop} (h : Sep w l) (ho : Only S w w') (hs : ∀ A ∈ l, ∀ k, A.sees k → ¬ S k) : Sep w' l := by
  induction l with
  | nil => trivial
  | cons A l ih =>
    exact ⟨A.keep _ _ h.1 (ho.mono fun k hk hk' => hs A (by simp) k hk' hk), h.2.1, ih h.2.2 fun C hC => hs C (by simp [hC])⟩
theorem Sep.quiet (h : Sep w l) (ho : Only (fun _ => False) w w') : Sep w' l := h.only ho fun _ _ _ _ h => h
theorem Sep.grown (h : Sep w l) (hg : w.grownBy w' none) : Sep w' l := h.quiet (Only.of_grown hg (by simp))
theorem Sep.all (h : Sep w l) : ∀ A ∈ l, A.holds w := by
  induction l with
  | nil => simp
  | cons A l ih =>
    intro C hC
    rcases List.mem_cons.1 hC with rfl | hC
    · exact h.1
    · exact ih h.2.2 C hC
/-- The first part is written, and may take new blocks. -/
theorem Sep.upd (h : Sep w (A :: l)) (ho : Only A.foot w w') (ha : A'.holds w') (hf : ∀ k, A'.foot k → A.foot k ∨ w.heap.size ≤ k) (hs : ∀ k, A'.sees k → A.sees k ∨ w.heap.size ≤ k) : Sep w' (A' :: l) := by
  obtain ⟨h1, h2, h3⟩ := h
  refine ⟨ha, fun C hC => ⟨fun k hk hk' => ?_, fun k hk hk' => ?_⟩, h3.only ho fun C hC k hk hk' => (h2 C hC).1 k hk' hk⟩
  · rcases hf k hk with h | h
    · exact (h2 C hC).1 k h hk'
    · have := C.lt _ _ (h3.all C hC) hk'; omega
  · rcases hs k hk' with h | h
    · exact (h2 C hC).2 k hk h
    · have := C.lt _ _ (h3.all C hC) (C.sub k hk); omega
/-- the same with parts whose blocks are all their own -/
theorem Sep.upd' (h : Sep w (A :: l)) (ho : Only A.foot w w') (ha : A'.holds w') (hf : ∀ k, A'.sees k → A.foot k ∨ w.heap.size ≤ k) : Sep w' (A' :: l) :=
  h.upd ho ha (fun k hk => hf k (A'.sub k hk)) fun k hk => (hf k hk).imp (A.sub k) id
/-- the first two parts become one -/
theorem Sep.join (h : Sep w (A :: C :: l)) (ho : Only (fun k => A.foot k ∨ C.foot k) w w') (ha : A'.holds w') (hf : ∀ k, A'.foot k → A.foot k ∨ C.foot k ∨ w.heap.size ≤ k) (hs : ∀ k, A'.sees k → A.sees k ∨ C.sees k ∨ w.heap.size ≤ k) : Sep w' (A' :: l) := by
  obtain ⟨h1, h2, h3, h4, h5⟩ := h
  refine ⟨ha, fun D hD => ⟨fun k hk hk' => ?_, fun k hk hk' => ?_⟩, h5.only ho fun D hD k hk hk' => ?_⟩
  · rcases hf k hk with h | h | h
    · exact (h2 D (by simp [hD])).1 k h hk'
    · exact (h4 D hD).1 k h hk'
    · have := D.lt _ _ (h5.all D hD) hk'; omega
  · rcases hs k hk' with h | h | h
    · exact (h2 D (by simp [hD])).2 k hk h
    · exact (h4 D hD).2 k hk h
    · have := D.lt _ _ (h5.all D hD) (D.sub k hk); omega
  · rcases hk' with h | h
    · exact (h2 D (by simp [hD])).1 k h hk
    · exact (h4 D hD).1 k h hk
/-- A new part, all of new blocks. -/
theorem Sep.new (h : Sep w l) (hg : w.grownBy w' none) (ha : A.holds w') (hs : ∀ k, A.sees k → w.heap.size ≤ k) : Sep w' (A :: l) := by
  have h' := h.grown hg
  refine ⟨ha, fun C hC => ⟨fun k hk hk' => ?_, fun k hk hk' => ?_⟩, h'⟩
  · have := C.lt _ _ (h.all C hC) hk'; have := hs k (A.sub k hk); omega
  · have := C.lt _ _ (h.all C hC) (C.sub k hk); have := hs k hk'; omega
/-- A part that writes nothing and reads what no part writes. -/
theorem Sep.share (h : Sep w l) (ha : A.holds w) (hf : ∀ k, ¬ A.foot k) (hs : ∀ C ∈ l, ∀ k, C.foot k → ¬ A.sees k) : Sep w (A :: l) :=
  ⟨ha, fun C hC => ⟨fun k hk => absurd hk (hf k), hs C hC⟩, h⟩
theorem Sep.al (h : Sep w l) (o : Obj) : Sep (w.alloc o) l := h.grown (grownBy_alloc w o none)
theorem Sep.dr (h : Sep w l) : Sep w.drew l := h.quiet (Only.drew _ w)
theorem Sep.drN (h : Sep w l) (n : Nat) : Sep (w.drewN n) l := h.quiet (Only.drewN _ w n)
end

/-! ### the parts -/
def KeepA (w0 : World) : Asrt := ⟨fun _ => False, fun k => k < w0.heap.size, fun w => w0.grownBy w none, fun _ h => h.elim, fun _ _ h hk => Nat.lt_of_lt_of_le hk h.size,
  fun w w' h ho => ⟨ho.os.trans h.os, ho.tape.trans h.tape, ho.output.trans h.output, Nat.le_trans h.size ho.size, fun k hk hn => (ho.block k (Nat.lt_of_lt_of_le hk h.size) fun h' => h' hk).trans (h.block k hk hn)⟩⟩
theorem Sep.start (w : World) : Sep w [KeepA w] := ⟨⟨rfl, rfl, rfl, Nat.le_refl _, fun _ _ _ => rfl⟩, by simp, trivial⟩
theorem blk_lt {w : World} {k : Nat} {o : Obj} (h : w.heap[k]? = some o) : k < w.heap.size := by
  rcases Nat.lt_or_ge k w.heap.size with h' | h'
  · exact h'
  · rw [Array.getElem?_eq_none h'] at h; cases h
def BxA (b : Nat) (cs : Array Value) (t : TypeId) : Asrt where
  foot := fun k => k = b
  sees := fun k => k = b
  holds := fun w => w.heap[b]? = some (.cells cs t (0, 0))
  sub := fun _ h => h
  lt := fun w k h hk => by have : k = b := hk; subst this; exact blk_lt h
  keep := fun w w' h ho => (ho.block b (blk_lt h) fun h' => h' rfl).trans h
def OI (v : Value) (zs : List Int) : Asrt := ⟨Hits v, Hits v, fun w => OwnInts 0 w v zs, fun _ h => h, fun w k h hk => (h.lt k hk).2, fun w w' h ho => h.only ho fun k hk h' => h' hk⟩
theorem OwnInts.rebase {B B' : Nat} {w : World} {v : Value} {zs : List Int} (h : OwnInts B w v zs) (hk : ∀ k, Hits v k → B' ≤ k) : OwnInts B' w v zs := by
  obtain ⟨h1, h2⟩ := h
  refine ⟨h1, ?_⟩
  rcases h2 with h2 | ⟨g, cap, cur, hv, hg, r⟩
  · exact Or.inl h2
  · exact Or.inr ⟨g, cap, cur, hv, hk g (by rw [hv]; rfl), r⟩
section
variable {w w0 w' : World} {l : List Asrt} {v u : Value} {zs : List Int}
theorem Sep.kept (h : Sep w (KeepA w0 :: l)) : w0.grownBy w none := h.1
theorem Sep.ints (h : Sep w (OI v zs :: KeepA w0 :: l)) : OwnInts w0.heap.size w v zs := h.hd.rebase fun k hk => Nat.le_of_not_lt (h.apt.1 k hk)
theorem Sep.newI (h : Sep w l) (hg : w.grownBy w' none) (ho : OwnInts w.heap.size w' v zs) : Sep w' (OI v zs :: l) := h.new hg (ho.rebase fun _ _ => Nat.zero_le _) fun k hk => (ho.lt k hk).1
theorem Sep.box (h : Sep w l) (cs : Array Value) (t : TypeId) : Sep (w.alloc (.cells cs t)) (BxA w.heap.size cs t :: l) :=
  h.new (grownBy_alloc w _ none) (alloc_heap_new w _) fun k hk => by have : k = w.heap.size := hk; omega
theorem Sep.nilI (h : Sep w l) : Sep w (OI nilS [] :: l) := h.new (⟨rfl, rfl, rfl, Nat.le_refl _, fun _ _ _ => rfl⟩) (OwnInts.nil _ _) fun k hk => absurd hk nil_hits
theorem Sep.emptyI (h : Sep w l) : Sep (w.alloc (.cells #[] 3)) (OI (.slice (some ⟨w.heap.size, 0, none⟩) 0 0) [] :: l) :=
  h.newI (grownBy_alloc w _ none) (OwnInts.empty (Nat.le_refl _) rfl)
theorem Sep.setI {g n cap : Nat} (h : Sep w (OI (.slice (some ⟨g, 0, none⟩) n cap) zs :: l)) (hn : n = zs.length) (j : Nat) (x : Int) : Sep (w.setCell ⟨g, j, none⟩ (.int .i64 x)) (OI (.slice (some ⟨g, 0, none⟩) n cap) (zs.set j x) :: l) := by
  obtain ⟨p1, p2⟩ := h.hd.put hn j x
  exact h.upd' (p2.mono fun k hk => by rw [hk]; rfl) p1 fun k hk => Or.inl hk
theorem Sep.setB {b : Nat} {cs : Array Value} {t : TypeId} (h : Sep w (BxA b cs t :: l)) (i : Nat) (x : Value) : Sep (w.setCell ⟨b, i, none⟩ x) (BxA b (cs.setIfInBounds i x) t :: l) :=
  h.upd' (A' := BxA b (cs.setIfInBounds i x) t) (set_only w ⟨b, i, none⟩ x) (heap_setCell_same w b i cs t x h.hd) fun k hk => Or.inl hk
end

/-! ### append -/
theorem news_one {w : World} {u : Value} {t : TypeId} : ∀ j x, [u][j]? = some x → (w.alloc (.cells #[u] t)).cell? ((⟨w.heap.size, 0, none⟩ : Addr).add j) = some x := by
  intro j x hj
  match j, hj with
  | 0, hj =>
    simp at hj
    subst hj
    simp only [Addr.add, if_true, World.cell?]
    rw [alloc_heap_new]
    rfl
  | j + 1, hj => simp at hj
section
variable {ops : Array Oper} {rest : List Oper} {o : Oper} {a : Act} {Q : Exit → Act → World → Prop} {K : Act → World → Prop} {E : Prop} {w : World} {v u : Value} {zs : List Int} {l : List Asrt} {n : Int}
/-- 'out = append(out, x)'. -/
theorem wp_app_int (s x : Operand) (ho : o.op = .call { callee := .builtin .append, args := #[s, x], argTypes := #[28, 28] })
    (hs : a.eval s = v) (hx : a.eval x = .slice (some ⟨w.heap.size, 0, none⟩) 1 1) (H : Sep w (OI v zs :: l)) (hl : zs.length ≤ 1000000000)
    (h : ∀ g cap w', Sep w' (OI (.slice (some ⟨g, 0, none⟩) (zs.length + 1) cap) (zs ++ [n]) :: l) → K (a.put o.dst (.slice (some ⟨g, 0, none⟩) (zs.length + 1) cap)) w') :
    o.wp Tryz.prog a (w.alloc (.cells #[.int .i64 n] 3)) K Q := by
  obtain ⟨i0, hi, hz0, hz1, hz2⟩ := info_parts info_int
  have H1 := H.al (.cells #[.int .i64 n] 3)
  refine wp_append_lies (P := Tryz.prog) _ s x 28 ho 0 3 i0 (.int .i64 0) 1 8 Tryz.underlying28 hi hz0 hz1 hz2 rfl (by decide) v zs.length (zs.map (Value.int .i64)) hs H1.hd
    ⟨w.heap.size, 0, none⟩ 1 1 [.int .i64 n] hx rfl news_one (fun u hu => by simp at hu; subst hu; rfl) (by omega) (by unfold maxLen; omega) (by omega) (Nat.zero_le _) _ rfl ?_
  intro g cap w1 hown' hgrow hg _
  have ho' : OwnInts 0 w1 (.slice (some ⟨g, 0, none⟩) (zs.length + 1) cap) (zs ++ [n]) := by simpa [OwnInts] using hown'
  refine h g cap w1 (H1.upd' (Only.of_grown (S := Hits v) hgrow fun k hk => hk) ho' fun k hk => ?_)
  have : g = k := by simpa [OI, Hits, Value.ownBlock] using hk
  subst this
  exact hg.imp id (fun h => Nat.le_of_eq h.symm)
theorem app_intS (hgd : o.guard = none) (s x : Operand) (ho : o.op = .call { callee := .builtin .append, args := #[s, x], argTypes := #[28, 28] })
    (hs : a.eval s = v) (hx : a.eval x = .slice (some ⟨w.heap.size, 0, none⟩) 1 1) (H : Sep w (OI v zs :: l)) (hl : zs.length ≤ 1000000000)
    (h : ∀ g cap w', Sep w' (OI (.slice (some ⟨g, 0, none⟩) (zs.length + 1) cap) (zs ++ [n]) :: l) → wpList Tryz.prog ops Q rest (a.put o.dst (.slice (some ⟨g, 0, none⟩) (zs.length + 1) cap)) w') :
    wpList Tryz.prog ops Q (o :: rest) a (w.alloc (.cells #[.int .i64 n] 3)) :=
  wpList_plain hgd fun _ hK => wp_app_int s x ho hs hx H hl fun g cap w' h1 => hK _ _ (h g cap w' h1)
theorem step_app_intS (hgd : o.guard = none) (s x : Operand) (ho : o.op = .call { callee := .builtin .append, args := #[s, x], argTypes := #[28, 28] })
    (hs : a.eval s = v) (hx : a.eval x = .slice (some ⟨w.heap.size, 0, none⟩) 1 1) (H : Sep w (OI v zs :: l)) (hl : zs.length ≤ 1000000000)
    (h : ∀ g cap w', Sep w' (OI (.slice (some ⟨g, 0, none⟩) (zs.length + 1) cap) (zs ++ [n]) :: l) → K (a.put o.dst (.slice (some ⟨g, 0, none⟩) (zs.length + 1) cap)) w') :
    if Region.wanted o (yielded ops a.tmps) = true then Oper.wp Tryz.prog o a (w.alloc (.cells #[.int .i64 n] 3)) K Q else E := by
  rw [if_pos (by simp [Region.wanted, hgd])]
  exact wp_app_int s x ho hs hx H hl h
end

end Go.Proofs.YtjagjhchnpmngaaGreatDoor

/-
  Lists of items of several cells: lists that can be read, lists that are the call's own. Conditions: lengths are small.
-/
namespace Go.Proofs.YtjagjhchnpmngaaGreatDoor
open Go.RowKit
set_option linter.unusedVariables false

/-- How an item lies in memory: its type's number, the number of its cells, its cells. -/
structure Lay (α : Type) where
  ty : TypeId
  sz : Nat
  cs : α → List Value
  len : ∀ x, (cs x).length = sz
  pos : 0 < sz
section
variable {α : Type} {E : Lay α} {B : Nat} {w w' : World} {v : Value} {xs : List α}

theorem flat_len (E : Lay α) (xs : List α) : (xs.flatMap E.cs).length = xs.length * E.sz := by
  induction xs with
  | nil => simp
  | cons x l ih => rw [List.flatMap_cons, List.length_append, E.len, ih, List.length_cons, Nat.add_mul, Nat.one_mul, Nat.add_comm]
theorem flat_at (E : Lay α) (xs : List α) {i j : Nat} (hi : i < xs.length) (hj : j < E.sz) : (xs.flatMap E.cs)[i * E.sz + j]? = (E.cs xs[i])[j]? := by
  induction xs generalizing i with
  | nil => simp at hi
  | cons x l ih =>
    rw [List.flatMap_cons]
    cases i with
    | zero => rw [List.getElem?_append_left (by rw [E.len]; omega)]; simp
    | succ i =>
      have h1 : E.sz ≤ (i + 1) * E.sz := by rw [Nat.add_mul, Nat.one_mul]; omega
      rw [List.getElem?_append_right (by rw [E.len]; omega), E.len, show (i + 1) * E.sz + j - E.sz = i * E.sz + j by rw [Nat.add_mul, Nat.one_mul]; omega]
      simpa using ih (by simpa using hi)
theorem flat_set (E : Lay α) (xs : List α) {i j : Nat} {y : α} {u : Value} (hi : i < xs.length) (hj : j < E.sz) (hy : E.cs y = (E.cs xs[i]).set j u) : (xs.flatMap E.cs).set (i * E.sz + j) u = (xs.set i y).flatMap E.cs := by
  induction xs generalizing i with
  | nil => simp at hi
  | cons x l ih =>
    rw [List.flatMap_cons]
    cases i with
    | zero =>
      rw [List.set_append_left _ _ (by rw [E.len]; omega)]
      simp only [List.set_cons_zero, List.flatMap_cons, Nat.zero_mul, Nat.zero_add]
      rw [hy]; rfl
    | succ i =>
      have h1 : E.sz ≤ (i + 1) * E.sz := by rw [Nat.add_mul, Nat.one_mul]; omega
      rw [List.set_append_right _ _ (by rw [E.len]; omega), E.len, show (i + 1) * E.sz + j - E.sz = i * E.sz + j by rw [Nat.add_mul, Nat.one_mul]; omega]
      simp only [List.set_cons_succ, List.flatMap_cons]
      rw [ih (by simpa using hi) (by simpa using hy)]
/-- A list of items that can be read. -/
def RdR (E : Lay α) (w : World) (v : Value) (xs : List α) : Prop :=
  ∃ a cap, v = .slice a xs.length cap ∧ (xs ≠ [] → ∃ d, a = some d ∧ d.spot = none ∧ d.block < w.heap.size ∧ ∀ i (h : i < xs.length) j, j < E.sz → w.cell? ⟨d.block, d.off + i * E.sz + j, none⟩ = (E.cs xs[i])[j]?)
/-- A list of items that is the call's own (blocks from B on). -/
def OwnR (E : Lay α) (B : Nat) (w : World) (v : Value) (xs : List α) : Prop := w.ownsRow B E.ty E.sz v xs.length (xs.flatMap E.cs)
theorem RdR.carry (h : RdR E w v xs) (hg : w.grownBy w' none) : RdR E w' v xs := by
  obtain ⟨a, cap, rfl, h⟩ := h
  refine ⟨a, cap, rfl, fun hz => ?_⟩
  obtain ⟨d, ha, hs, hd, hi⟩ := h hz
  exact ⟨d, ha, hs, Nat.lt_of_lt_of_le hd hg.size, fun i h j hj => (World.cell?_of_block (w := w) (a := ⟨d.block, d.off + i * E.sz + j, none⟩) (hg.block _ hd (by simp))).trans (hi i h j hj)⟩
theorem RdR.shape (h : RdR E w v xs) : ∃ a cap, v = .slice a xs.length cap := by
  obtain ⟨a, cap, rfl, _⟩ := h
  exact ⟨a, cap, rfl⟩
theorem RdR.at {a : Option Addr} {n cap : Nat} (h : RdR E w (.slice a n cap) xs) {i : Nat} (hi : i < xs.length) :
    ∃ b o, a = some ⟨b, o, none⟩ ∧ b < w.heap.size ∧ ∀ j, j < E.sz → w.cell? ⟨b, o + i * E.sz + j, none⟩ = (E.cs xs[i])[j]? := by
  obtain ⟨a', cap', he, h⟩ := h
  cases he
  obtain ⟨d, ha, hs, hd, hz⟩ := h (by intro h0; rw [h0] at hi; simp at hi)
  obtain ⟨db, dof, ds⟩ := d
  simp only at hs
  subst hs
  exact ⟨db, dof, ha, hd, hz i hi⟩
theorem RdR.nil (E : Lay α) (w : World) : RdR E w (.slice none 0 0) [] := ⟨none, 0, rfl, fun h => absurd rfl h⟩
theorem OwnR.nil (E : Lay α) (B : Nat) (w : World) : OwnR E B w (.slice none 0 0) [] := World.ownsRow_nil _ _ _ _
theorem OwnR.lt (h : OwnR E B w v xs) : ∀ k, Hits v k → B ≤ k ∧ k < w.heap.size := World.ownsRow.lt h
theorem OwnR.only {S : Nat → Prop} (h : OwnR E B w v xs) (ho : Only S w w') (hs : ∀ k, Hits v k → ¬ S k) : OwnR E B w' v xs := by
  obtain ⟨h1, h2⟩ := h
  refine ⟨h1, ?_⟩
  rcases h2 with h2 | ⟨g, cap, cur, hv, hg, hh, r⟩
  · exact Or.inl h2
  · have hlt : g < w.heap.size := by
      rcases Nat.lt_or_ge g w.heap.size with h | h
      · exact h
      · rw [Array.getElem?_eq_none h] at hh; cases hh
    exact Or.inr ⟨g, cap, cur, hv, hg, (ho.block g hlt (hs g (by rw [hv]; rfl))).trans hh, r⟩
theorem OwnR.rebase {B' : Nat} (h : OwnR E B w v xs) (hk : ∀ k, Hits v k → B' ≤ k) : OwnR E B' w v xs := by
  obtain ⟨h1, h2⟩ := h
  refine ⟨h1, ?_⟩
  rcases h2 with h2 | ⟨g, cap, cur, hv, hg, r⟩
  · exact Or.inl h2
  · exact Or.inr ⟨g, cap, cur, hv, hk g (by rw [hv]; rfl), r⟩
theorem OwnR.shape (h : OwnR E B w v xs) : ∃ a c, v = .slice a xs.length c := by
  rcases h.2 with ⟨rfl, h0⟩ | ⟨g, cap, cur, rfl, _⟩
  · exact ⟨none, 0, by rw [h0]⟩
  · exact ⟨_, _, rfl⟩
/-- the parts of an own list that is not empty -/
theorem OwnR.parts (h : OwnR E B w v xs) (hz : 0 < xs.length) : ∃ g cap, v = .slice (some ⟨g, 0, none⟩) xs.length cap ∧ B ≤ g ∧ g < w.heap.size ∧ xs.length ≤ cap := by
  obtain ⟨h1, h2⟩ := h
  rcases h2 with ⟨_, h0⟩ | ⟨g, cap, cur, rfl, hg, hh, hc, _⟩
  · omega
  · exact ⟨g, cap, rfl, hg, blk_lt hh, hc⟩
theorem OwnR.cell {g n cap : Nat} (h : OwnR E B w (.slice (some ⟨g, 0, none⟩) n cap) xs) (hn : n = xs.length) {i j : Nat} (hi : i < xs.length) (hj : j < E.sz) : w.cell? ⟨g, i * E.sz + j, none⟩ = (E.cs xs[i])[j]? := by
  subst hn
  have h1 : i * E.sz + j < xs.length * E.sz := by
    have : (i + 1) * E.sz ≤ xs.length * E.sz := Nat.mul_le_mul_right _ hi
    rw [Nat.add_mul, Nat.one_mul] at this
    omega
  rw [World.ownsRow.cellAt h _ h1, flat_at E xs hi hj]
theorem OwnR.free {g n cap : Nat} (h : OwnR E B w (.slice (some ⟨g, 0, none⟩) n cap) xs) (hn : n = xs.length) (j : Nat) : w.frozen? ⟨g, j, none⟩ = false := by
  subst hn
  exact World.ownsRow.frozenAt h j
theorem OwnR.put {g n cap : Nat} (h : OwnR E B w (.slice (some ⟨g, 0, none⟩) n cap) xs) (hn : n = xs.length) {i j : Nat} {y : α} {u : Value} (hi : i < xs.length) (hj : j < E.sz) (hy : E.cs y = (E.cs xs[i]).set j u) :
    OwnR E B (w.setCell ⟨g, i * E.sz + j, none⟩ u) (.slice (some ⟨g, 0, none⟩) n cap) (xs.set i y) ∧ Only (· = g) w (w.setCell ⟨g, i * E.sz + j, none⟩ u) := by
  subst hn
  have := World.ownsRow.stored h (i * E.sz + j) u
  refine ⟨?_, Only.of_grown this.2 fun k hk => (Option.some.inj hk).symm⟩
  have h1 := this.1
  unfold OwnR
  rw [List.length_set, ← flat_set E xs hi hj hy]
  exact h1
theorem OwnR.read (h : OwnR E B w v xs) : RdR E w v xs := by
  rcases h.2 with ⟨rfl, h0⟩ | ⟨g, cap, cur, rfl, hg, hh, hc, hm, hs, ht⟩
  · exact ⟨none, 0, by rw [h0], fun hz => absurd (List.eq_nil_of_length_eq_zero h0) hz⟩
  · refine ⟨some ⟨g, 0, none⟩, cap, rfl, fun _ => ⟨⟨g, 0, none⟩, rfl, rfl, blk_lt hh, fun i hi j hj => ?_⟩⟩
    simp only [Nat.zero_add]
    exact OwnR.cell h rfl hi hj
/-! ### the part -/
def OR (E : Lay α) (v : Value) (xs : List α) : Asrt := ⟨Hits v, Hits v, fun w => OwnR E 0 w v xs, fun _ h => h, fun w k h hk => (h.lt k hk).2, fun w w' h ho => h.only ho fun k hk h' => h' hk⟩
variable {w0 : World} {l : List Asrt} {u : Value}
theorem Sep.rows (h : Sep w (OR E v xs :: KeepA w0 :: l)) : OwnR E w0.heap.size w v xs := h.hd.rebase fun k hk => Nat.le_of_not_lt (h.apt.1 k hk)
theorem Sep.newR (h : Sep w l) (hg : w.grownBy w' none) (ho : OwnR E w.heap.size w' v xs) : Sep w' (OR E v xs :: l) := h.new hg (ho.rebase fun _ _ => Nat.zero_le _) fun k hk => (ho.lt k hk).1
theorem Sep.nilR (E : Lay α) (h : Sep w l) : Sep w (OR E nilS [] :: l) := h.new (⟨rfl, rfl, rfl, Nat.le_refl _, fun _ _ _ => rfl⟩) (OwnR.nil _ _ _) fun k hk => absurd hk nil_hits
theorem Sep.setR {g n cap : Nat} (h : Sep w (OR E (.slice (some ⟨g, 0, none⟩) n cap) xs :: l)) (hn : n = xs.length) {i j : Nat} {y : α} {u : Value} (hi : i < xs.length) (hj : j < E.sz) (hy : E.cs y = (E.cs xs[i]).set j u) :
    Sep (w.setCell ⟨g, i * E.sz + j, none⟩ u) (OR E (.slice (some ⟨g, 0, none⟩) n cap) (xs.set i y) :: l) := by
  obtain ⟨p1, p2⟩ := h.hd.put hn hi hj hy
  exact h.upd' (p2.mono fun k hk => by rw [hk]; rfl) p1 fun k hk => Or.inl hk
/-- 'make([]T, n)' -/
theorem OwnR.made {z : Value} {x : α} {n : Nat} {v : Value} (hz : z.cells.toList = E.cs x) (h : w.ownsRow B E.ty E.sz v n (madeCells z.cells (n * E.sz)).toList) : OwnR E B w v (List.replicate n x) := by
  have hs : z.cells.size = E.sz := by rw [← E.len x, ← hz]; simp
  have e : (madeCells z.cells (n * E.sz)).toList = (List.replicate n x).flatMap E.cs := by
    refine List.ext_getElem? fun k => ?_
    by_cases hk : k < n * E.sz
    · have h1 : k / E.sz < n := Nat.div_lt_of_lt_mul (by rw [Nat.mul_comm]; exact hk)
      have h2 : k % E.sz < E.sz := Nat.mod_lt _ E.pos
      have h3 := flat_at E (List.replicate n x) (i := k / E.sz) (j := k % E.sz) (by simpa using h1) h2
      rw [show k / E.sz * E.sz + k % E.sz = k by rw [Nat.mul_comm]; exact Nat.div_add_mod _ _] at h3
      rw [h3, List.getElem_replicate, ← hz]
      have h4 : k % z.cells.size < z.cells.size := by rw [hs]; exact h2
      rw [show k % E.sz = k % z.cells.size by rw [hs], Array.getElem?_toList, Array.getElem?_toList]
      unfold madeCells
      rw [Array.getElem?_map, Array.getElem?_range, if_pos hk, Option.map_some, getElem!_pos z.cells _ h4, Array.getElem?_eq_getElem h4]
    · rw [List.getElem?_eq_none (by simp [madeCells]; omega), List.getElem?_eq_none (by rw [flat_len, List.length_replicate]; omega)]
  unfold OwnR
  rw [List.length_replicate, ← e]
  exact h
end

/-! ### append -/
section
variable {α : Type} {E : Lay α} {ops : Array Oper} {rest : List Oper} {o : Oper} {a : Act} {Q : Exit → Act → World → Prop} {K : Act → World → Prop} {Ex : Prop} {w : World} {v u : Value} {xs : List α} {l : List Asrt} {y : α} {t : TypeId} {z : Value} {bytes : Nat}
theorem news_cells {w : World} {cs : Array Value} {t : TypeId} : ∀ j x, cs.toList[j]? = some x → (w.alloc (.cells cs t)).cell? ((⟨w.heap.size, 0, none⟩ : Addr).add j) = some x :=
  World.news_of_block (alloc_heap_new w _)
/-- 'out = append(out, x)'. -/
theorem wp_app_R (hinfo : (Tryz.prog.info? E.ty).map (fun i => (i.zero, i.size, i.bytes)) = some (some z, E.sz, bytes)) (hzs : z.cells.size = E.sz) (hby : bytes ≤ 10000) (ht : Tryz.prog.underlying t = some (.slice E.ty)) (hone : ∀ u ∈ E.cs y, u.oneCell' = true)
    (s x : Operand) (ho : o.op = .call { callee := .builtin .append, args := #[s, x], argTypes := #[t, t] })
    (hs : a.eval s = v) (hx : a.eval x = .slice (some ⟨w.heap.size, 0, none⟩) 1 1) {cs : Array Value} (hcs : cs.toList = E.cs y) (H : Sep w (OR E v xs :: l)) (hl : xs.length ≤ 10000000)
    (h : ∀ g cap w', Sep w' (OR E (.slice (some ⟨g, 0, none⟩) (xs.length + 1) cap) (xs ++ [y]) :: l) → K (a.put o.dst (.slice (some ⟨g, 0, none⟩) (xs.length + 1) cap)) w') :
    o.wp Tryz.prog a (w.alloc (.cells cs E.ty)) K Q := by
  obtain ⟨i0, hi, hz0, hz1, hz2⟩ := info_parts hinfo
  have H1 := H.al (.cells cs E.ty)
  have hb : (xs.length + 1) * bytes ≤ 140737488355328 := Nat.le_trans (Nat.mul_le_mul (show xs.length + 1 ≤ 10000001 by omega) hby) (by decide)
  refine wp_append_lies (P := Tryz.prog) _ s x t ho 0 E.ty i0 z E.sz bytes ht hi hz0 hz1 hz2 hzs E.pos v xs.length (xs.flatMap E.cs) hs H1.hd
    ⟨w.heap.size, 0, none⟩ 1 1 (E.cs y) hx (by rw [E.len]; omega) (fun j x hj => news_cells j x (by rw [hcs]; exact hj)) hone (by omega) (by unfold maxLen; omega) hb (Nat.zero_le _) _ rfl ?_
  intro g cap w1 hown' hgrow hg _
  have ho' : OwnR E 0 w1 (.slice (some ⟨g, 0, none⟩) (xs.length + 1) cap) (xs ++ [y]) := by simpa [OwnR] using hown'
  refine h g cap w1 (H1.upd' (Only.of_grown (S := Hits v) hgrow fun k hk => hk) ho' fun k hk => ?_)
  have : g = k := by simpa [OR, Hits, Value.ownBlock] using hk
  subst this
  exact hg.imp id (fun h => Nat.le_of_eq h.symm)
theorem app_R (hinfo : (Tryz.prog.info? E.ty).map (fun i => (i.zero, i.size, i.bytes)) = some (some z, E.sz, bytes)) (hzs : z.cells.size = E.sz) (hby : bytes ≤ 10000) (ht : Tryz.prog.underlying t = some (.slice E.ty)) (hone : ∀ u ∈ E.cs y, u.oneCell' = true)
    (hgd : o.guard = none) (s x : Operand) (ho : o.op = .call { callee := .builtin .append, args := #[s, x], argTypes := #[t, t] })
    (hs : a.eval s = v) (hx : a.eval x = .slice (some ⟨w.heap.size, 0, none⟩) 1 1) {cs : Array Value} (hcs : cs.toList = E.cs y) (H : Sep w (OR E v xs :: l)) (hl : xs.length ≤ 10000000)
    (h : ∀ g cap w', Sep w' (OR E (.slice (some ⟨g, 0, none⟩) (xs.length + 1) cap) (xs ++ [y]) :: l) → wpList Tryz.prog ops Q rest (a.put o.dst (.slice (some ⟨g, 0, none⟩) (xs.length + 1) cap)) w') :
    wpList Tryz.prog ops Q (o :: rest) a (w.alloc (.cells cs E.ty)) :=
  wpList_plain hgd fun _ hK => wp_app_R hinfo hzs hby ht hone s x ho hs hx hcs H hl fun g cap w' h1 => hK _ _ (h g cap w' h1)
end

end Go.Proofs.YtjagjhchnpmngaaGreatDoor

/-
  Gates and circuits in memory. Conditions: lengths are small.
-/
namespace Go.Proofs.YtjagjhchnpmngaaGreatDoor
open Go.RowKit
set_option linter.unusedVariables false

def boolE : Lay Bool := ⟨4, 1, fun b => [.bool b], fun _ => rfl, by decide⟩
theorem info_bool : (Tryz.prog.info? boolE.ty).map (fun i => (i.zero, i.size, i.bytes)) = some (some (.bool false), boolE.sz, 1) := by kernel_rfl
end Go.Proofs.YtjagjhchnpmngaaGreatDoor

/-
  Lists of bools that are the call's own. Conditions: lengths are small.
-/
namespace Go.Proofs.YtjagjhchnpmngaaGreatDoor
open Go.RowKit
set_option linter.unusedVariables false
set_option maxRecDepth 100000

theorem bool_cell {w : World} {g n cap B : Nat} {bs : List Bool} (h : OwnR boolE B w (.slice (some ⟨g, 0, none⟩) n cap) bs) (hn : n = bs.length) {i : Nat} (hi : i < n) : w.cell? ⟨g, i, none⟩ = some (.bool (bs.getD i false)) := by
  have h1 := h.cell (E := boolE) hn (i := i) (j := 0) (by omega) (by decide)
  have e : bs.getD i false = bs[i]'(by omega) := by rw [List.getD_eq_getElem?_getD, List.getElem?_eq_getElem (by omega)]; rfl
  rw [e]
  have e2 : i * boolE.sz + 0 = i := Nat.mul_one i
  rw [e2] at h1
  exact h1
theorem bool_free {w : World} {g n cap B : Nat} {bs : List Bool} (h : OwnR boolE B w (.slice (some ⟨g, 0, none⟩) n cap) bs) (hn : n = bs.length) (i : Nat) : w.frozen? ⟨g, i, none⟩ = false := h.free hn i
theorem Sep.setBo {w : World} {g n cap : Nat} {bs : List Bool} {l : List Asrt} (h : Sep w (OR boolE (.slice (some ⟨g, 0, none⟩) n cap) bs :: l)) (hn : n = bs.length) {i : Nat} (hi : i < n) (x : Bool) :
    Sep (w.setCell ⟨g, i, none⟩ (.bool x)) (OR boolE (.slice (some ⟨g, 0, none⟩) n cap) (bs.set i x) :: l) := by
  have h1 := h.setR (E := boolE) hn (i := i) (j := 0) (y := x) (u := .bool x) (by omega) (by decide) rfl
  have e2 : i * boolE.sz + 0 = i := Nat.mul_one i
  rw [e2] at h1
  exact h1
theorem falseCells : (Value.bool false).cells.toList = boolE.cs false := rfl
end Go.Proofs.YtjagjhchnpmngaaGreatDoor

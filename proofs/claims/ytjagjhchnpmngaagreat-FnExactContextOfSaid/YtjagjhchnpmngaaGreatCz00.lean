/-
 A fact laid aside, under a short name. Conditions: none.
-/
import Derived.Lib.Hide
import Derived.Test.YtjagjhchnpmngaaGreatProg
import Derived.WalkKit
import Derived.WalkSpells
import Derived.BigQuiet
import Derived.Deep.QuietTactic
import Derived.Laws.OwnMore
import Derived.BigRegion
import Derived.StillTailTactics
import Derived.Deep.AppendLies
import Derived.Deep.RegionLaw
import Derived.Deep.CutRange
import Derived.Deep.RegionHeld
set_option linter.unusedVariables false
set_option linter.unusedSimpArgs false
set_option maxRecDepth 100000
namespace Go.Proofs.YtjagjhchnpmngaaGreat
open Go.RowKit
theorem qd {p : Prop} (h : p) : Hid p := (Lib.hid) h
theorem grownBy_refl (w : World) (r : Option Nat) : w.grownBy w r := ⟨rfl, rfl, rfl, Nat.le_refl _, fun _ _ _ => rfl⟩
theorem grownBy_trans {a b c : World} {r : Option Nat} (h : a.grownBy b r) (k : b.grownBy c r) : a.grownBy c r :=
 ⟨k.os.trans h.os, k.tape.trans h.tape, k.output.trans h.output, Nat.le_trans h.size k.size, fun i hi hr => (k.block i (Nat.lt_of_lt_of_le hi h.size) hr).trans (h.block i hi hr)⟩
def IntsAt (w : World) (a : Addr) (zs : List Int) : Prop :=
 ∀ i (h : i < zs.length), w.cell? ⟨a.block, a.off + i, none⟩ = some (.int .i64 zs[i])
theorem alloc_heap_old (w : World) (o : Obj) (k : Nat) (h : k < w.heap.size) : (w.alloc o).heap[k]? = w.heap[k]? := Below.heap_alloc w o k h
theorem alloc_heap_new (w : World) (o : Obj) : (w.alloc o).heap[w.heap.size]? = some o := by
 show (w.heap.push o)[w.heap.size]? = _
 simp
theorem grownBy_alloc (w : World) (o : Obj) (r : Option Nat) : w.grownBy (w.alloc o) r :=
 ⟨rfl, rfl, rfl, by simp, fun k hk _ => alloc_heap_old w o k hk⟩
theorem info_int : (Tryz.prog.info? 3).map (fun i => (i.zero, i.size, i.bytes)) = some (some (.int .i64 0), 1, 8) := by kernel_rfl
def OwnInts (B : Nat) (w : World) (v : Value) (zs : List Int) : Prop := w.ownsRow B 3 1 v zs.length (zs.map (Value.int .i64))
theorem OwnInts.nil (B : Nat) (w : World) : OwnInts B w (.slice none 0 0) [] := World.ownsRow_nil _ _ _ _
theorem OwnInts.carry {B : Nat} {w w' : World} {v : Value} {zs : List Int} (h : OwnInts B w v zs) (hw : ∀ k, B ≤ k → k < w.heap.size → w'.heap[k]? = w.heap[k]?) : OwnInts B w' v zs := by
 obtain ⟨h1, h2⟩ := h
 refine ⟨h1, ?_⟩
 rcases h2 with h2 | ⟨g, cap, cur, hv, hg, hh, r⟩
 ·exact Or.inl h2
 ·have hlt : g < w.heap.size := by
   rcases Nat.lt_or_ge g w.heap.size with h | h
   ·exact h
   ·rw [Array.getElem?_eq_none h] at hh; cases hh
  exact Or.inr ⟨g, cap, cur, hv, hg, (hw g hg hlt).trans hh, r⟩
theorem OwnInts.alloc {B : Nat} {w : World} {v : Value} {zs : List Int} (h : OwnInts B w v zs) (o : Obj) : OwnInts B (w.alloc o) v zs :=
 h.carry fun k _ hk => alloc_heap_old w o k hk
theorem OwnInts.empty {B g : Nat} {w : World} (hB : B ≤ w.heap.size) (hg : g = w.heap.size) : OwnInts B (w.alloc (.cells #[] 3)) (.slice (some ⟨g, 0, none⟩) 0 0) [] := by
 subst hg
 exact ⟨rfl, Or.inr ⟨w.heap.size, 0, #[], rfl, hB, alloc_heap_new _ _, Nat.le_refl _, Nat.zero_le _, rfl, rfl⟩⟩
def IntsV (w : World) (v : Value) (zs : List Int) : Prop :=
 ∃ a cap, v = .slice a zs.length cap ∧ (zs ≠ [] → ∃ d, a = some d ∧ d.spot = none ∧ d.block < w.heap.size ∧ IntsAt w d zs)
theorem IntsV.carry {w w' : World} {v : Value} {zs : List Int} (h : IntsV w v zs) (hg : w.grownBy w' none) : IntsV w' v zs := by
 obtain ⟨a, cap, rfl, h⟩ := h
 refine ⟨a, cap, rfl, fun hz => ?_⟩
 obtain ⟨d, ha, hs, hd, hi⟩ := h hz
 exact ⟨d, ha, hs, Nat.lt_of_lt_of_le hd hg.size, fun i hi' => (World.cell?_of_block (w := w) (a := ⟨d.block, d.off + i, none⟩) (hg.block _ hd (by simp))).trans (hi i hi')⟩
theorem OwnInts.read {B : Nat} {w : World} {v : Value} {zs : List Int} (h : OwnInts B w v zs) : IntsV w v zs := by
 obtain ⟨h1, h2⟩ := h
 rcases h2 with ⟨rfl, h0⟩ | ⟨g, cap, cur, rfl, hg, hh, hc, hm, hs, ht⟩
 ·exact ⟨none, 0, by rw [h0], fun hz => absurd (List.eq_nil_of_length_eq_zero h0) hz⟩
 ·refine ⟨some ⟨g, 0, none⟩, cap, rfl, fun _ => ⟨⟨g, 0, none⟩, rfl, rfl, ?_, fun i hi => ?_⟩⟩
  ·rcases Nat.lt_or_ge g w.heap.size with h | h
   ·exact h
   ·rw [Array.getElem?_eq_none h] at hh; cases hh
  ·simp only [World.cell?, hh]
   have e : cur.toList[i]? = ((cur.toList.take (zs.length * 1))[i]?) := by rw [List.getElem?_take, if_pos (by omega)]
   have e2 : cur[0 + i]? = cur.toList[i]? := by rw [Nat.zero_add]; simp
   simp only [Option.isSome_none, Bool.false_eq_true, if_false]
   rw [e2, e, ht]
   simp [hi]
theorem IntsV.nil (w : World) : IntsV w (.slice none 0 0) [] := ⟨none, 0, rfl, fun h => absurd rfl h⟩
theorem grown_of_below {w w' : World} (h : Below w.heap.size w w') : w.grownBy w' none := ⟨h.os, h.tape, h.output, h.size, fun k hk _ => h.block k hk⟩
def Hits (v : Value) (k : Nat) : Prop := v.ownBlock = some k
def Apart (v u : Value) : Prop := ∀ k, Hits v k → ¬ Hits u k
theorem Apart.symm {v u : Value} (h : Apart v u) : Apart u v := fun k h1 h2 => h k h2 h1
structure Only (S : Nat → Prop) (w w' : World) : Prop where
 os : w'.os = w.os
 tape : w'.tape = w.tape
 output : w'.output = w.output
 size : w.heap.size ≤ w'.heap.size
 block : ∀ k, k < w.heap.size → ¬ S k → w'.heap[k]? = w.heap[k]?
theorem Only.refl (S : Nat → Prop) (w : World) : Only S w w := ⟨rfl, rfl, rfl, Nat.le_refl _, fun _ _ _ => rfl⟩
theorem Only.drew (S : Nat → Prop) (w : World) : Only S w w.drew := ⟨rfl, rfl, rfl, Nat.le_refl _, fun _ _ _ => rfl⟩
theorem Only.drewN (S : Nat → Prop) (w : World) (n : Nat) : Only S w (w.drewN n) := ⟨rfl, rfl, rfl, Nat.le_refl _, fun _ _ _ => rfl⟩
theorem Only.trans {S : Nat → Prop} {a b c : World} (h : Only S a b) (h' : Only S b c) : Only S a c :=
 ⟨h'.os.trans h.os, h'.tape.trans h.tape, h'.output.trans h.output, Nat.le_trans h.size h'.size,
  fun k hk hs => (h'.block k (Nat.lt_of_lt_of_le hk h.size) hs).trans (h.block k hk hs)⟩
theorem Only.mono {S S' : Nat → Prop} {a b : World} (h : Only S a b) (hs : ∀ k, S k → S' k) : Only S' a b :=
 ⟨h.os, h.tape, h.output, h.size, fun k hk hn => h.block k hk fun h' => hn (hs k h')⟩
theorem Only.of_grown {S : Nat → Prop} {a b : World} {r : Option Nat} (h : a.grownBy b r) (hs : ∀ k, r = some k → S k) : Only S a b :=
 ⟨h.os, h.tape, h.output, h.size, fun k hk hn => h.block k hk fun h' => hn (hs k h'.symm)⟩
theorem Only.grown {a b : World} (h : Only (fun _ => False) a b) : a.grownBy b none := ⟨h.os, h.tape, h.output, h.size, fun k hk _ => h.block k hk (fun x => x)⟩
theorem Only.below {S : Nat → Prop} {a b : World} {B : Nat} (h : Only S a b) (hB : B ≤ a.heap.size) (hs : ∀ k, S k → B ≤ k) : Below B a b :=
 ⟨h.os, h.tape, h.output, h.size, fun k hk => h.block k (Nat.lt_of_lt_of_le hk hB) fun h' => by have := hs k h'; omega⟩
theorem OwnInts.only {B : Nat} {S : Nat → Prop} {w w' : World} {v : Value} {zs : List Int} (h : OwnInts B w v zs) (ho : Only S w w') (hs : ∀ k, Hits v k → ¬ S k) : OwnInts B w' v zs := by
 obtain ⟨h1, h2⟩ := h
 refine ⟨h1, ?_⟩
 rcases h2 with h2 | ⟨g, cap, cur, hv, hg, hh, r⟩
 ·exact Or.inl h2
 ·have hlt : g < w.heap.size := by
   rcases Nat.lt_or_ge g w.heap.size with h | h
   ·exact h
   ·rw [Array.getElem?_eq_none h] at hh; cases hh
  exact Or.inr ⟨g, cap, cur, hv, hg, (ho.block g hlt (hs g (by rw [hv]; rfl))).trans hh, r⟩
theorem OwnInts.parts {B : Nat} {w : World} {v : Value} {zs : List Int} (h : OwnInts B w v zs) (hz : zs ≠ []) : ∃ g cap, v = .slice (some ⟨g, 0, none⟩) zs.length cap ∧ B ≤ g ∧ g < w.heap.size ∧ Hits v g := by
 obtain ⟨h1, h2⟩ := h
 rcases h2 with ⟨_, h0⟩ | ⟨g, cap, cur, rfl, hg, hh, _⟩
 ·exact absurd (List.eq_nil_of_length_eq_zero (by simpa using h0)) hz
 ·refine ⟨g, cap, rfl, hg, ?_, rfl⟩
  rcases Nat.lt_or_ge g w.heap.size with h | h
  ·exact h
  ·rw [Array.getElem?_eq_none h] at hh; cases hh
theorem OwnInts.cell {B g n cap : Nat} {w : World} {zs : List Int} (h : OwnInts B w (.slice (some ⟨g, 0, none⟩) n cap) zs) (hn : n = zs.length) {j : Nat} (hj : j < zs.length) : w.cell? ⟨g, j, none⟩ = some (.int .i64 zs[j]) := by
 subst hn
 have := World.ownsRow.cellAt h j (by omega)
 rw [this]
 simp [hj]
theorem OwnInts.free {B g n cap : Nat} {w : World} {zs : List Int} (h : OwnInts B w (.slice (some ⟨g, 0, none⟩) n cap) zs) (hn : n = zs.length) (j : Nat) : w.frozen? ⟨g, j, none⟩ = false := by
 subst hn
 exact World.ownsRow.frozenAt h j
theorem OwnInts.put {B g n cap : Nat} {w : World} {zs : List Int} (h : OwnInts B w (.slice (some ⟨g, 0, none⟩) n cap) zs) (hn : n = zs.length) (j : Nat) (x : Int) :
 OwnInts B (w.setCell ⟨g, j, none⟩ (.int .i64 x)) (.slice (some ⟨g, 0, none⟩) n cap) (zs.set j x) ∧ Only (· = g) w (w.setCell ⟨g, j, none⟩ (.int .i64 x)) := by
 subst hn
 have := World.ownsRow.stored h j (.int .i64 x)
 refine ⟨?_, Only.of_grown this.2 fun k hk => (Option.some.inj hk).symm⟩
 have h1 := this.1
 unfold OwnInts
 rw [List.length_set, List.map_set]
 exact h1
theorem OwnInts.lt {B : Nat} {w : World} {v : Value} {zs : List Int} (h : OwnInts B w v zs) : ∀ k, Hits v k → B ≤ k ∧ k < w.heap.size := World.ownsRow.lt h
theorem OwnInts.base {B B' : Nat} {w : World} {v : Value} {zs : List Int} (h : OwnInts B w v zs) (hB : B' ≤ B) : OwnInts B' w v zs := by
 obtain ⟨h1, h2⟩ := h
 refine ⟨h1, ?_⟩
 rcases h2 with h2 | ⟨g, cap, cur, hv, hg, r⟩
 ·exact Or.inl h2
 ·exact Or.inr ⟨g, cap, cur, hv, Nat.le_trans hB hg, r⟩
def Value.blk' : Value → Option Nat
 | .slice (some d) _ _ => some d.block
 | _ => none
theorem IntsV.only {S : Nat → Prop} {w w' : World} {v : Value} {zs : List Int} (h : IntsV w v zs) (ho : Only S w w') (hs : ∀ k, Value.blk' v = some k → ¬ S k) : IntsV w' v zs := by
 obtain ⟨a, cap, rfl, h⟩ := h
 refine ⟨a, cap, rfl, fun hz => ?_⟩
 obtain ⟨d, ha, hsp, hd, hi⟩ := h hz
 refine ⟨d, ha, hsp, Nat.lt_of_lt_of_le hd ho.size, fun i hi' => ?_⟩
 exact (World.cell?_of_block (w := w) (a := ⟨d.block, d.off + i, none⟩) (ho.block _ hd (hs _ (by rw [ha]; rfl)))).trans (hi i hi')
theorem OwnInts.blk {B : Nat} {w : World} {v : Value} {zs : List Int} (h : OwnInts B w v zs) : Value.blk' v = v.ownBlock := by
 obtain ⟨_, h2⟩ := h
 rcases h2 with ⟨rfl, _⟩ | ⟨g, cap, cur, rfl, _⟩ <;> rfl
theorem run_nil_any {P : Program} (w : World) (base : Nat) (t ty e : TypeId) (i : TypeInfo) (size : Nat) (ht : P.underlying t = some (.slice e)) (hi : P.info? e = some i)
 (v : Value) (n : Nat) (xs : List Value) (hown : w.ownsRow base e size v n xs) (c : Nat) : (Builtin.append_ #[t, t] ty #[v, .slice none 0 c]).run P w = .ok v w := by
 rcases hown.2 with ⟨rfl, rfl⟩ | ⟨g, cap, cur, rfl, _, _, hnc, _⟩
 ·simp [Builtin.append_, run_underlying ht, sizeOf, typeInfo, hi, Builtin.lenOf, Builtin.firstCells]
 ·simp [Builtin.append_, run_underlying ht, sizeOf, typeInfo, hi, Builtin.lenOf, Builtin.firstCells, hnc, storeCells]
theorem app_ints {ops : Array Oper} {rest : List Oper} {o : Oper} {a : Act} {Q : Exit → Act → World → Prop} (hgd : o.guard = none) (s x : Operand)
 (ho : o.op = .call { callee := .builtin .append, args := #[s, x], argTypes := #[23, 23] })
 {B : Nat} {w : World} {v u : Value} {zs ys : List Int} (hs : a.eval s = v) (hx : a.eval x = u) (hu : IntsV w u ys)
 (hown : OwnInts B w v zs) (hB : B ≤ w.heap.size) (hl : zs.length + ys.length ≤ 1000000000)
 (h : ∀ v' w', OwnInts B w' v' (zs ++ ys) → Below B w w' → wpList Tryz.prog ops Q rest (a.put o.dst v') w') :
 wpList Tryz.prog ops Q (o :: rest) a w := by
 obtain ⟨i0, hi, hz0, hz1, hz2⟩ := info_parts info_int
 obtain ⟨ua, ucap, rfl, hr⟩ := hu
 cases ua with
 | none =>
  have hy : ys = [] := by
   cases ys with
   | nil => rfl
   | cons z zs => obtain ⟨d, hd, _⟩ := hr (by simp); cases hd
  subst hy
  refine wpList_plain hgd fun K hK => ?_
  have hrun := run_nil_any (P := Tryz.prog) w B 23 o.type 3 i0 1 Tryz.underlying23 hi v zs.length _ hown ucap
  unfold Oper.wp execOp
  simp only [ho, resolve, invoke, builtin, Sem.run_bind, Sem.run_pure, Result.andThen_ok, List.map_toArray, List.map_cons, List.map_nil, hs, hx, List.length_nil, hrun]
  exact hK _ _ (h v w (by simpa using hown) (Below.refl _ _))
 | some d =>
  refine wpList_append_own _ hgd s x 23 ho B 3 i0 (.int .i64 0) 1 8 Tryz.underlying23 hi hz0 hz1 hz2 rfl (by decide) v zs.length (zs.map (Value.int .i64)) hs hown
   d ys.length ucap (ys.map (Value.int .i64)) hx (by simp) ?_ ?_ (by unfold maxLen; omega) (by omega) hB ?_
  ·intro j u hj
   have hjy : j < ys.length := by
    rcases Nat.lt_or_ge j ys.length with h | h
    ·exact h
    ·rw [List.getElem?_eq_none (by simpa using h)] at hj; cases hj
   obtain ⟨d', hd, hsp, hdb, hc⟩ := hr (by intro h; rw [h] at hjy; simp at hjy)
   cases hd
   have := hc j hjy
   simp [hjy] at hj
   subst hj
   obtain ⟨db, dof, _⟩ := d
   simp only at hsp
   subst hsp
   unfold Addr.add; split
   ·next h0 => subst h0; simpa using this
   ·exact this
  ·intro u hu
   obtain ⟨z, _, rfl⟩ := List.mem_map.1 hu
   rfl
  ·intro v' w1 hown' hgrow _
   refine h v' w1 (by unfold OwnInts; rw [List.length_append, List.map_append]; exact hown') ?_
   exact (Below.refl B w).grown hgrow hB fun k hk => (hown.lt k hk).1
theorem madeCells_int (n : Nat) : (madeCells (Value.int .i64 0).cells (n * 1)).toList = (List.replicate n (0 : Int)).map (Value.int .i64) := by
 rw [List.map_replicate]
 refine List.ext_getElem (by simp [madeCells]) fun j h1 h2 => ?_
 simp [madeCells, Value.cells, Nat.mod_one]
theorem own_shape {B : Nat} {w : World} {v : Value} {zs : List Int} (h : OwnInts B w v zs) : ∃ a c, v = .slice a zs.length c := by
 rcases h.2 with ⟨rfl, h0⟩ | ⟨g, cap, cur, rfl, _⟩
 ·exact ⟨none, 0, by rw [h0]⟩
 ·exact ⟨_, _, rfl⟩
def nilS : Value := .slice none 0 0
theorem nil_hits {k : Nat} : ¬ Hits nilS k := by simp [Hits, nilS, Value.ownBlock]
theorem set_only (w : World) (a : Addr) (x : Value) : Only (fun k => k = a.block) w (w.setCell a x) :=
 ⟨rfl, rfl, rfl, by simp [World.setCell], fun k _ hn => Below.heap_setCell _ _ _ _ hn⟩
structure Asrt where
 foot : Nat → Prop
 sees : Nat → Prop
 holds : World → Prop
 sub : ∀ k, foot k → sees k
 lt : ∀ w k, holds w → sees k → k < w.heap.size
 keep : ∀ w w', holds w → Only (fun k => ¬ sees k) w w' → holds w'
def Apt (A C : Asrt) : Prop := (∀ k, A.foot k → ¬ C.sees k) ∧ (∀ k, C.foot k → ¬ A.sees k)
theorem Apt.symm {A C : Asrt} (h : Apt A C) : Apt C A := ⟨h.2, h.1⟩
def Sep (w : World) : List Asrt → Prop
 | [] => True
 | A :: l => A.holds w ∧ (∀ C ∈ l, Apt A C) ∧ Sep w l
section
variable {w w' : World} {A A' C D E F : Asrt} {l l' : List Asrt}
theorem Sep.hd (h : Sep w (A :: l)) : A.holds w := h.1
theorem Sep.tl (h : Sep w (A :: l)) : Sep w l := h.2.2
theorem Sep.apt (h : Sep w (A :: C :: l)) : Apt A C := h.2.1 _ (by simp)
theorem Sep.s2 (h : Sep w (A :: C :: l)) : Sep w (C :: A :: l) := by
 obtain ⟨h1, h2, h3, h4, h5⟩ := h
 refine ⟨h3, fun D hD => ?_, h1, fun D hD => h2 D (List.mem_cons_of_mem _ hD), h5⟩
 rcases List.mem_cons.1 hD with rfl | hD
 ·exact (h2 C (by simp)).symm
 ·exact h4 D hD
theorem Sep.under (h : Sep w (A :: l)) (p : Sep w l → Sep w l') (hm : ∀ C ∈ l', C ∈ l) : Sep w (A :: l') := ⟨h.1, fun C hC => h.2.1 C (hm C hC), p h.2.2⟩
theorem Sep.s3 (h : Sep w (A :: C :: D :: l)) : Sep w (D :: A :: C :: l) := (h.under Sep.s2 (by simp +contextual)).s2
theorem Sep.s4 (h : Sep w (A :: C :: D :: E :: l)) : Sep w (E :: A :: C :: D :: l) := (h.under Sep.s3 (by simp +contextual)).s2
theorem Sep.s5 (h : Sep w (A :: C :: D :: E :: F :: l)) : Sep w (F :: A :: C :: D :: E :: l) := (h.under Sep.s4 (by simp +contextual)).s2
theorem Sep.drop2 (h : Sep w (A :: C :: l)) : Sep w (A :: l) := h.under Sep.tl (by simp +contextual)
theorem Sep.only {S : Nat → Prop} (h : Sep w l) (ho : Only S w w') (hs : ∀ A ∈ l, ∀ k, A.sees k → ¬ S k) : Sep w' l := by
 induction l with
 | nil => trivial
 | cons A l ih =>
  exact ⟨A.keep _ _ h.1 (ho.mono fun k hk hk' => hs A (by simp) k hk' hk), h.2.1, ih h.2.2 fun C hC => hs C (by simp [hC])⟩
theorem Sep.quiet (h : Sep w l) (ho : Only (fun _ => False) w w') : Sep w' l := h.only ho fun _ _ _ _ h => h
theorem Sep.grown (h : Sep w l) (hg : w.grownBy w' none) : Sep w' l := h.quiet (Only.of_grown hg (by simp))
theorem Sep.all (h : Sep w l) : ∀ A ∈ l, A.holds w := by
 induction l with
 | nil => simp
 | cons A l ih =>
  intro C hC
  rcases List.mem_cons.1 hC with rfl | hC
  ·exact h.1
  ·exact ih h.2.2 C hC
theorem Sep.upd (h : Sep w (A :: l)) (ho : Only A.foot w w') (ha : A'.holds w') (hf : ∀ k, A'.foot k → A.foot k ∨ w.heap.size ≤ k) (hs : ∀ k, A'.sees k → A.sees k ∨ w.heap.size ≤ k) : Sep w' (A' :: l) := by
 obtain ⟨h1, h2, h3⟩ := h
 refine ⟨ha, fun C hC => ⟨fun k hk hk' => ?_, fun k hk hk' => ?_⟩, h3.only ho fun C hC k hk hk' => (h2 C hC).1 k hk' hk⟩
 ·rcases hf k hk with h | h
  ·exact (h2 C hC).1 k h hk'
  ·have := C.lt _ _ (h3.all C hC) hk'; omega
 ·rcases hs k hk' with h | h
  ·exact (h2 C hC).2 k hk h
  ·have := C.lt _ _ (h3.all C hC) (C.sub k hk); omega
theorem Sep.upd' (h : Sep w (A :: l)) (ho : Only A.foot w w') (ha : A'.holds w') (hf : ∀ k, A'.sees k → A.foot k ∨ w.heap.size ≤ k) : Sep w' (A' :: l) :=
 h.upd ho ha (fun k hk => hf k (A'.sub k hk)) fun k hk => (hf k hk).imp (A.sub k) id
theorem Sep.join (h : Sep w (A :: C :: l)) (ho : Only (fun k => A.foot k ∨ C.foot k) w w') (ha : A'.holds w') (hf : ∀ k, A'.foot k → A.foot k ∨ C.foot k ∨ w.heap.size ≤ k) (hs : ∀ k, A'.sees k → A.sees k ∨ C.sees k ∨ w.heap.size ≤ k) : Sep w' (A' :: l) := by
 obtain ⟨h1, h2, h3, h4, h5⟩ := h
 refine ⟨ha, fun D hD => ⟨fun k hk hk' => ?_, fun k hk hk' => ?_⟩, h5.only ho fun D hD k hk hk' => ?_⟩
 ·rcases hf k hk with h | h | h
  ·exact (h2 D (by simp [hD])).1 k h hk'
  ·exact (h4 D hD).1 k h hk'
  ·have := D.lt _ _ (h5.all D hD) hk'; omega
 ·rcases hs k hk' with h | h | h
  ·exact (h2 D (by simp [hD])).2 k hk h
  ·exact (h4 D hD).2 k hk h
  ·have := D.lt _ _ (h5.all D hD) (D.sub k hk); omega
 ·rcases hk' with h | h
  ·exact (h2 D (by simp [hD])).1 k h hk
  ·exact (h4 D hD).1 k h hk
theorem Sep.new (h : Sep w l) (hg : w.grownBy w' none) (ha : A.holds w') (hs : ∀ k, A.sees k → w.heap.size ≤ k) : Sep w' (A :: l) := by
 have h' := h.grown hg
 refine ⟨ha, fun C hC => ⟨fun k hk hk' => ?_, fun k hk hk' => ?_⟩, h'⟩
 ·have := C.lt _ _ (h.all C hC) hk'; have := hs k (A.sub k hk); omega
 ·have := C.lt _ _ (h.all C hC) (C.sub k hk); have := hs k hk'; omega
theorem Sep.al (h : Sep w l) (o : Obj) : Sep (w.alloc o) l := h.grown (grownBy_alloc w o none)
theorem Sep.dr (h : Sep w l) : Sep w.drew l := h.quiet (Only.drew _ w)
end
def KeepA (w0 : World) : Asrt := ⟨fun _ => False, fun k => k < w0.heap.size, fun w => w0.grownBy w none, fun _ h => h.elim, fun _ _ h hk => Nat.lt_of_lt_of_le hk h.size,
 fun w w' h ho => ⟨ho.os.trans h.os, ho.tape.trans h.tape, ho.output.trans h.output, Nat.le_trans h.size ho.size, fun k hk hn => (ho.block k (Nat.lt_of_lt_of_le hk h.size) fun h' => h' hk).trans (h.block k hk hn)⟩⟩
theorem Sep.start (w : World) : Sep w [KeepA w] := ⟨⟨rfl, rfl, rfl, Nat.le_refl _, fun _ _ _ => rfl⟩, by simp, trivial⟩
theorem blk_lt {w : World} {k : Nat} {o : Obj} (h : w.heap[k]? = some o) : k < w.heap.size := by
 rcases Nat.lt_or_ge k w.heap.size with h' | h'
 ·exact h'
 ·rw [Array.getElem?_eq_none h'] at h; cases h
def BxA (b : Nat) (cs : Array Value) (t : TypeId) : Asrt where
 foot := fun k => k = b
 sees := fun k => k = b
 holds := fun w => w.heap[b]? = some (.cells cs t (0, 0))
 sub := fun _ h => h
 lt := fun w k h hk => by have : k = b := hk; subst this; exact blk_lt h
 keep := fun w w' h ho => (ho.block b (blk_lt h) fun h' => h' rfl).trans h
def OI (v : Value) (zs : List Int) : Asrt := ⟨Hits v, Hits v, fun w => OwnInts 0 w v zs, fun _ h => h, fun w k h hk => (h.lt k hk).2, fun w w' h ho => h.only ho fun k hk h' => h' hk⟩
theorem OwnInts.rebase {B B' : Nat} {w : World} {v : Value} {zs : List Int} (h : OwnInts B w v zs) (hk : ∀ k, Hits v k → B' ≤ k) : OwnInts B' w v zs := by
 obtain ⟨h1, h2⟩ := h
 refine ⟨h1, ?_⟩
 rcases h2 with h2 | ⟨g, cap, cur, hv, hg, r⟩
 ·exact Or.inl h2
 ·exact Or.inr ⟨g, cap, cur, hv, hk g (by rw [hv]; rfl), r⟩
section
variable {w w0 w' : World} {l : List Asrt} {v u : Value} {zs : List Int}
theorem Sep.newI (h : Sep w l) (hg : w.grownBy w' none) (ho : OwnInts w.heap.size w' v zs) : Sep w' (OI v zs :: l) := h.new hg (ho.rebase fun _ _ => Nat.zero_le _) fun k hk => (ho.lt k hk).1
theorem Sep.box (h : Sep w l) (cs : Array Value) (t : TypeId) : Sep (w.alloc (.cells cs t)) (BxA w.heap.size cs t :: l) :=
 h.new (grownBy_alloc w _ none) (alloc_heap_new w _) fun k hk => by have : k = w.heap.size := hk; omega
theorem Sep.nilI (h : Sep w l) : Sep w (OI nilS [] :: l) := h.new (⟨rfl, rfl, rfl, Nat.le_refl _, fun _ _ _ => rfl⟩) (OwnInts.nil _ _) fun k hk => absurd hk nil_hits
theorem Sep.emptyI (h : Sep w l) : Sep (w.alloc (.cells #[] 3)) (OI (.slice (some ⟨w.heap.size, 0, none⟩) 0 0) [] :: l) :=
 h.newI (grownBy_alloc w _ none) (OwnInts.empty (Nat.le_refl _) rfl)
theorem Sep.setI {g n cap : Nat} (h : Sep w (OI (.slice (some ⟨g, 0, none⟩) n cap) zs :: l)) (hn : n = zs.length) (j : Nat) (x : Int) : Sep (w.setCell ⟨g, j, none⟩ (.int .i64 x)) (OI (.slice (some ⟨g, 0, none⟩) n cap) (zs.set j x) :: l) := by
 obtain ⟨p1, p2⟩ := h.hd.put hn j x
 exact h.upd' (p2.mono fun k hk => by rw [hk]; rfl) p1 fun k hk => Or.inl hk
theorem Sep.setB {b : Nat} {cs : Array Value} {t : TypeId} (h : Sep w (BxA b cs t :: l)) (i : Nat) (x : Value) : Sep (w.setCell ⟨b, i, none⟩ x) (BxA b (cs.setIfInBounds i x) t :: l) :=
 h.upd' (A' := BxA b (cs.setIfInBounds i x) t) (set_only w ⟨b, i, none⟩ x) (heap_setCell_same w b i cs t x h.hd) fun k hk => Or.inl hk
end
theorem news_one {w : World} {u : Value} {t : TypeId} : ∀ j x, [u][j]? = some x → (w.alloc (.cells #[u] t)).cell? ((⟨w.heap.size, 0, none⟩ : Addr).add j) = some x := by
 intro j x hj
 match j, hj with
 | 0, hj =>
  simp at hj
  subst hj
  simp only [Addr.add, if_true, World.cell?]
  rw [alloc_heap_new]
  rfl
 | j + 1, hj => simp at hj
section
variable {ops : Array Oper} {rest : List Oper} {o : Oper} {a : Act} {Q : Exit → Act → World → Prop} {K : Act → World → Prop} {E : Prop} {w : World} {v u : Value} {zs : List Int} {l : List Asrt} {n : Int}
theorem wp_app_int (s x : Operand) (ho : o.op = .call { callee := .builtin .append, args := #[s, x], argTypes := #[23, 23] })
 (hs : a.eval s = v) (hx : a.eval x = .slice (some ⟨w.heap.size, 0, none⟩) 1 1) (H : Sep w (OI v zs :: l)) (hl : zs.length ≤ 1000000000)
 (h : ∀ g cap w', Sep w' (OI (.slice (some ⟨g, 0, none⟩) (zs.length + 1) cap) (zs ++ [n]) :: l) → K (a.put o.dst (.slice (some ⟨g, 0, none⟩) (zs.length + 1) cap)) w') :
 o.wp Tryz.prog a (w.alloc (.cells #[.int .i64 n] 3)) K Q := by
 obtain ⟨i0, hi, hz0, hz1, hz2⟩ := info_parts info_int
 have H1 := H.al (.cells #[.int .i64 n] 3)
 refine wp_append_lies (P := Tryz.prog) _ s x 23 ho 0 3 i0 (.int .i64 0) 1 8 Tryz.underlying23 hi hz0 hz1 hz2 rfl (by decide) v zs.length (zs.map (Value.int .i64)) hs H1.hd
  ⟨w.heap.size, 0, none⟩ 1 1 [.int .i64 n] hx rfl news_one (fun u hu => by simp at hu; subst hu; rfl) (by omega) (by unfold maxLen; omega) (by omega) (Nat.zero_le _) _ rfl ?_
 intro g cap w1 hown' hgrow hg _
 have ho' : OwnInts 0 w1 (.slice (some ⟨g, 0, none⟩) (zs.length + 1) cap) (zs ++ [n]) := by simpa [OwnInts] using hown'
 refine h g cap w1 (H1.upd' (Only.of_grown (S := Hits v) hgrow fun k hk => hk) ho' fun k hk => ?_)
 have : g = k := by simpa [OI, Hits, Value.ownBlock] using hk
 subst this
 exact hg.imp id (fun h => Nat.le_of_eq h.symm)
theorem app_intS (hgd : o.guard = none) (s x : Operand) (ho : o.op = .call { callee := .builtin .append, args := #[s, x], argTypes := #[23, 23] })
 (hs : a.eval s = v) (hx : a.eval x = .slice (some ⟨w.heap.size, 0, none⟩) 1 1) (H : Sep w (OI v zs :: l)) (hl : zs.length ≤ 1000000000)
 (h : ∀ g cap w', Sep w' (OI (.slice (some ⟨g, 0, none⟩) (zs.length + 1) cap) (zs ++ [n]) :: l) → wpList Tryz.prog ops Q rest (a.put o.dst (.slice (some ⟨g, 0, none⟩) (zs.length + 1) cap)) w') :
 wpList Tryz.prog ops Q (o :: rest) a (w.alloc (.cells #[.int .i64 n] 3)) :=
 wpList_plain hgd fun _ hK => wp_app_int s x ho hs hx H hl fun g cap w' h1 => hK _ _ (h g cap w' h1)
theorem step_app_intS (hgd : o.guard = none) (s x : Operand) (ho : o.op = .call { callee := .builtin .append, args := #[s, x], argTypes := #[23, 23] })
 (hs : a.eval s = v) (hx : a.eval x = .slice (some ⟨w.heap.size, 0, none⟩) 1 1) (H : Sep w (OI v zs :: l)) (hl : zs.length ≤ 1000000000)
 (h : ∀ g cap w', Sep w' (OI (.slice (some ⟨g, 0, none⟩) (zs.length + 1) cap) (zs ++ [n]) :: l) → K (a.put o.dst (.slice (some ⟨g, 0, none⟩) (zs.length + 1) cap)) w') :
 if Region.wanted o (yielded ops a.tmps) = true then Oper.wp Tryz.prog o a (w.alloc (.cells #[.int .i64 n] 3)) K Q else E := by
 rw [if_pos (by simp [Region.wanted, hgd])]
 exact wp_app_int s x ho hs hx H hl h
end
section
variable {P : Program} {ops : Array Oper} {Q : Exit → Act → World → Prop} {md : Region.Mode} {Se Sa : World → Prop} {ap : Nat}
def AnyL (P : Program) (md : Region.Mode) (ops : Array Oper) (Q : Exit → Act → World → Prop) (Se Sa : World → Prop) (ap : Nat) : Nat → Array Bool → Act → World → Prop
 | 0, listed, a, w => Region.ready md ops listed = [] ∧ Q .normal a w
 | fuel + 1, listed, a, w =>
  (Region.ready md ops listed = [] → Q .normal a w) ∧
  ∀ i ∈ Region.ready md ops listed, wpOp P ops Q i (fun a' w' => (Se w' ∧ ((listed.setIfInBounds i true).getD ap true = false → Sa w')) ∧ AnyL P md ops Q Se Sa ap fuel (listed.setIfInBounds i true) a' w') a w
theorem noTF {b : Bool} {p : Prop} (h1 : b = true) (h : b = false) : p := by rw [h1] at h; cases h
theorem op_at {ops : Array Oper} {i : Nat} {oi : Oper} {r : List Oper} (h : ops.toList.drop i = oi :: r) : ops[i]? = some oi := by
 have h1 : (ops.toList.drop i)[0]? = some oi := by rw [h]; rfl
 rw [List.getElem?_drop] at h1
 simpa using h1
theorem any_of_L : ∀ (fuel : Nat) (listed : Array Bool) (a : Act) (w : World), AnyL P md ops Q Se Sa ap fuel listed a w → wpAny P md ops Q fuel listed a w
 | 0, _, _, _, h => h
 | fuel + 1, _, _, _, h => ⟨h.1, fun i hi => wpOp_mono (fun a' w' h' => any_of_L fuel _ a' w' h'.2) (h.2 i hi)⟩
theorem AnyL.first {i : Nat} {oi : Oper} {v : Value} {C : World → Prop} (hi : ops[i]? = some oi) (hsel : ∀ (j : Nat) (o : Oper) cs b, ops[j]? = some o → o.op ≠ .select cs b)
 (hQ : ∀ c a w, Q (.panic c) (a.put oi.dst v) w → Q (.panic c) a w) (G : Array Bool → Prop)
 (hG : ∀ listed j, G listed → listed.getD i true = false → j ∈ Region.ready md ops listed → j ≠ i → G (listed.setIfInBounds j true))
 (hC : ∀ listed w, G listed → Se w → (listed.getD ap true = false → Sa w) → C w) (hia : i ≠ ap) :
 ∀ (fuel : Nat) (listed : Array Bool) (a : Act) (w : World), G listed →
  (∀ j oj, ops[j]? = some oj → j ≠ i → listed.getD j true = false → (∀ e ∈ oj.after, Region.binds md e = true → e.on ≠ i) → oi.apart ops oj = true) →
  i ∈ Region.ready md ops listed → YieldsIf P ops C oi v a → Se w → (listed.getD ap true = false → Sa w) →
  AnyL P md ops Q Se Sa ap fuel (listed.setIfInBounds i true) (a.put oi.dst v) w → AnyL P md ops Q Se Sa ap (fuel + 1) listed a w := by
 intro fuel
 induction fuel with
 | zero =>
  intro listed a w hg _ hr hy hS hA H
  refine ⟨fun h => (by rw [h] at hr; cases hr), fun j hj => ?_⟩
  by_cases hji : j = i
  ·subst hji; exact hy.wpOp hi (hC _ _ hg hS hA) ⟨⟨hS, by rw [getD_set_ne true hia]; exact hA⟩, H⟩
  ·have := ready_mono hj hji
   rw [H.1] at this
   cases this
 | succ fuel ih =>
  intro listed a w hg hfree hr hy hS hA H
  refine ⟨fun h => (by rw [h] at hr; cases hr), fun j hj => ?_⟩
  by_cases hji : j = i
  ·subst hji; exact hy.wpOp hi (hC _ _ hg hS hA) ⟨⟨hS, by rw [getD_set_ne true hia]; exact hA⟩, H⟩
  ·have h1 := H.2 j (ready_mono hj hji)
   have hun := (mem_ready.1 hr).1
   obtain ⟨hjun, oj, hoj, hall⟩ := mem_ready.1 hj
   have hnot : ∀ e ∈ oj.after, Region.binds md e = true → e.on ≠ i := fun e he hb heq => by
    have h1 := hall e he hb
    have h0 := hun
    rw [heq] at h1
    rcases Nat.lt_or_ge i listed.size with h' | h'
    ·simp [h'] at h0 h1; rw [h0] at h1; cases h1
    ·simp [Array.getElem?_eq_none h'] at h1
   have h2 := wpOp_putIf hoj (hfree j oj hoj hji hjun hnot) (fun cs b => hsel i oi cs b hi) (fun cs b => hsel j oj cs b hoj) hQ hy h1
   have hfree' : ∀ k ok, ops[k]? = some ok → k ≠ i → (listed.setIfInBounds j true).getD k true = false →
    (∀ e ∈ ok.after, Region.binds md e = true → e.on ≠ i) → oi.apart ops ok = true := fun k ok hk hki hun hno => by
    refine hfree k ok hk hki ?_ hno
    by_cases hjk : j = k
    ·subst hjk; exact hjun
    ·rw [getD_set_ne true hjk] at hun; exact hun
   refine wpOp_mono (fun a' w' h3 => ?_) h2
   have hA' : (listed.setIfInBounds j true).getD ap true = false → Sa w' := fun h => h3.2.1.2 (by
    rw [Array.setIfInBounds_comm _ _ (Ne.symm hji), getD_set_ne true hia]; exact h)
   refine ⟨⟨h3.2.1.1, hA'⟩, ih (listed.setIfInBounds j true) a' w' (hG listed j hg hun hj hji) hfree' (ready_mono hr (Ne.symm hji)) h3.1 h3.2.1.1 hA' ?_⟩
   rw [Array.setIfInBounds_comm _ _ hji]
   exact h3.2.2
theorem AnyL.take {i : Nat} {oi : Oper} {v : Value} {fuel : Nat} {listed : Array Bool} {a : Act} {w : World} {r : List Oper} (hi' : ops.toList.drop i = oi :: r)
 (hs : Region.noSelect ops = true) (hf : Region.free md ops listed i = true) (hr : (Region.ready md ops listed).contains i = true) (hia : (i == ap) = false)
 (hQ : ∀ c a w, Q (.panic c) (a.put oi.dst v) w → Q (.panic c) a w) (hw : Region.wanted oi (yielded ops a.tmps) = true) (hy : ∀ w, Se w → (execOp a.eval oi).run P w = .ok (.value v) w) (hS : Se w ∧ (listed.getD ap true = false → Sa w))
 (h : AnyL P md ops Q Se Sa ap fuel (listed.setIfInBounds i true) (a.put oi.dst v) w) : AnyL P md ops Q Se Sa ap (fuel + 1) listed a w :=
 have hi := op_at hi'
 AnyL.first (C := Se) hi (Region.noSelect_spec hs) hQ (fun _ => True) (fun _ _ _ _ _ _ => trivial) (fun _ _ _ h _ => h) (by simpa using hia) fuel listed a w trivial (Region.free_spec hi hf) (by simpa using hr) (Or.inl ⟨hw, hy⟩) hS.1 hS.2 h
theorem AnyL.takeA {i : Nat} {oi oa : Oper} {v : Value} {fuel : Nat} {listed : Array Bool} {a : Act} {w : World} {r : List Oper} (hi' : ops.toList.drop i = oi :: r)
 (hs : Region.noSelect ops = true) (hf : Region.free md ops listed i = true) (hr : (Region.ready md ops listed).contains i = true) (hia : (i == ap) = false)
 {r2 : List Oper} (ha' : ops.toList.drop ap = oa :: r2) (hed : (oa.after.any fun e => Region.binds md e && e.on == i) = true) (hun : listed.getD ap true = false)
 (hQ : ∀ c a w, Q (.panic c) (a.put oi.dst v) w → Q (.panic c) a w) (hw : Region.wanted oi (yielded ops a.tmps) = true) (hy : ∀ w, Sa w → (execOp a.eval oi).run P w = .ok (.value v) w) (hS : Se w ∧ (listed.getD ap true = false → Sa w))
 (h : AnyL P md ops Q Se Sa ap fuel (listed.setIfInBounds i true) (a.put oi.dst v) w) : AnyL P md ops Q Se Sa ap (fuel + 1) listed a w := by
 have hi := op_at hi'
 refine AnyL.first (C := Sa) hi (Region.noSelect_spec hs) hQ (fun l => l.getD ap true = false) (fun l j hg hu hj hji => ?_) (fun _ _ hg _ h => h hg) (by simpa using hia) fuel listed a w hun (Region.free_spec hi hf) (by simpa using hr) (Or.inl ⟨hw, hy⟩) hS.1 hS.2 h
 by_cases hja : j = ap
 ·exfalso
  subst hja
  obtain ⟨_, o, ho, hall⟩ := mem_ready.1 hj
  rw [op_at ha'] at ho
  cases ho
  obtain ⟨e, he, hb⟩ := Array.any_eq_true'.1 hed
  simp only [Bool.and_eq_true, beq_iff_eq] at hb
  have h1 := hall e he hb.1
  rw [hb.2] at h1
  rcases Nat.lt_or_ge i l.size with h' | h'
  ·simp [h'] at hu h1; rw [hu] at h1; cases h1
  ·simp [Array.getElem?_eq_none h'] at h1
 ·show (l.setIfInBounds j true).getD ap true = false
  rw [getD_set_ne true hja]
  exact hg
theorem AnyL.step {i : Nat} {oi : Oper} {fuel : Nat} {listed : Array Bool} {a : Act} {w : World} {r : List Oper} (hr : Region.ready md ops listed = [i]) (hi' : ops.toList.drop i = oi :: r)
 (h : ∀ K' : Act → World → Prop, Shut (∀ a' w', Se w' → ((listed.setIfInBounds i true).getD ap true = false → Sa w') → AnyL P md ops Q Se Sa ap fuel (listed.setIfInBounds i true) a' w' → K' a' w') → if Region.wanted oi (yielded ops a.tmps) = true then Oper.wp P oi a w K' Q else K' (a.put oi.dst undef) w) :
 AnyL P md ops Q Se Sa ap (fuel + 1) listed a w := by
 refine ⟨fun h0 => (by rw [hr] at h0; cases h0), fun j hj => ?_⟩
 rw [hr] at hj
 have hji : j = i := by simpa using hj
 subst hji
 exact wpOp_step (op_at hi') fun K' hK => h K' fun a w h1 h2 h3 => hK a w ⟨⟨h1, h2⟩, h3⟩
theorem AnyL.done {listed : Array Bool} {a : Act} {w : World} (hr : Region.ready md ops listed = []) (h : Q .normal a w) : ∀ fuel, AnyL P md ops Q Se Sa ap fuel listed a w
 | 0 => ⟨hr, h⟩
 | _ + 1 => ⟨fun _ => h, by rw [hr]; simp⟩
theorem AnyL.start {id : Nat} {a : Act} {w : World} (Se Sa : World → Prop) (ap : Nat) (hm : P.follows .mixedOrders = true) (h : AnyL P .any ops Q Se Sa ap ops.size (Array.replicate ops.size false) a w.drew) : (Code.region id ops true).wp P Q a w :=
 wp_region_any hm (any_of_L _ _ _ _ h)
end
section
variable {P : Program} {ops : Array Oper} {Q : Exit → Act → World → Prop} {md : Region.Mode} {Se Sa : World → Prop} {ap : Nat}
theorem AnyL.tk (i : Nat) {oi : Oper} {v : Value} {fuel : Nat} {listed l' : Array Bool} {a a' : Act} {w : World} {r : List Oper} (hS : Se w ∧ (listed.getD ap true = false → Sa w)) (h : AnyL P md ops Q Se Sa ap fuel l' a' w) (hi' : ops.toList.drop i = oi :: r := by rfl)
 (hs : Region.noSelect ops = true := by kernel_rfl) (hf : Region.free md ops listed i = true := by kernel_rfl) (hr : (Region.ready md ops listed).contains i = true := by kernel_rfl) (hia : (i == ap) = false := by rfl)
 (hQ : ∀ c a w, Q (.panic c) (a.put oi.dst v) w → Q (.panic c) a w := by exact fun _ _ _ h => h) (hw : Region.wanted oi (yielded ops a.tmps) = true := by rfl) (hy : ∀ w, Se w → (execOp a.eval oi).run P w = .ok (.value v) w := by intro W hSW; (try dsimp only at hSW); first | (go_simp; done) | (go_simp; with_reducible rfl))
 (ha : a.put oi.dst v = a' := by (try simp only [Act.put, List.setIfInBounds_toArray, List.set_cons_zero, List.set_cons_succ]); rfl) (hl : listed.setIfInBounds i true = l' := by (try simp only [Act.put, List.setIfInBounds_toArray, List.set_cons_zero, List.set_cons_succ]); rfl) : AnyL P md ops Q Se Sa ap (fuel + 1) listed a w := by
 subst ha hl
 exact AnyL.take hi' hs hf hr hia hQ hw hy hS h
theorem AnyL.tT (i : Nat) {oi : Oper} {v : Value} {fuel : Nat} {listed l' : Array Bool} {a a' : Act} {w : World} {r : List Oper} (hS : Se w) (h : AnyL P md ops Q Se (fun _ => True) ap fuel l' a' w) (hi' : ops.toList.drop i = oi :: r := by rfl)
 (hs : Region.noSelect ops = true := by kernel_rfl) (hf : Region.free md ops listed i = true := by kernel_rfl) (hr : (Region.ready md ops listed).contains i = true := by kernel_rfl) (hia : (i == ap) = false := by rfl)
 (hQ : ∀ c a w, Q (.panic c) (a.put oi.dst v) w → Q (.panic c) a w := by exact fun _ _ _ h => h) (hw : Region.wanted oi (yielded ops a.tmps) = true := by rfl) (hy : ∀ w, Se w → (execOp a.eval oi).run P w = .ok (.value v) w := by intro W hSW; (try dsimp only at hSW); first | (go_simp; done) | (go_simp; with_reducible rfl))
 (ha : a.put oi.dst v = a' := by (try simp only [Act.put, List.setIfInBounds_toArray, List.set_cons_zero, List.set_cons_succ]); rfl) (hl : listed.setIfInBounds i true = l' := by (try simp only [Act.put, List.setIfInBounds_toArray, List.set_cons_zero, List.set_cons_succ]); rfl) : AnyL P md ops Q Se (fun _ => True) ap (fuel + 1) listed a w := by
 subst ha hl
 exact AnyL.take hi' hs hf hr hia hQ hw hy ⟨hS, fun _ => trivial⟩ h
theorem AnyL.tkA (i : Nat) {oi oa : Oper} {v : Value} {fuel : Nat} {listed l' : Array Bool} {a a' : Act} {w : World} {r r2 : List Oper} (hS : Se w ∧ (listed.getD ap true = false → Sa w)) (h : AnyL P md ops Q Se Sa ap fuel l' a' w) (hi' : ops.toList.drop i = oi :: r := by rfl)
 (hs : Region.noSelect ops = true := by kernel_rfl) (hf : Region.free md ops listed i = true := by kernel_rfl) (hr : (Region.ready md ops listed).contains i = true := by kernel_rfl) (hia : (i == ap) = false := by rfl)
 (ha' : ops.toList.drop ap = oa :: r2 := by rfl) (hed : (oa.after.any fun e => Region.binds md e && e.on == i) = true := by kernel_rfl) (hun : listed.getD ap true = false := by kernel_rfl)
 (hQ : ∀ c a w, Q (.panic c) (a.put oi.dst v) w → Q (.panic c) a w := by exact fun _ _ _ h => h) (hw : Region.wanted oi (yielded ops a.tmps) = true := by rfl) (hy : ∀ w, Sa w → (execOp a.eval oi).run P w = .ok (.value v) w := by intro W hSW; (try dsimp only at hSW); first | (go_simp; done) | (go_simp; with_reducible rfl))
 (ha : a.put oi.dst v = a' := by (try simp only [Act.put, List.setIfInBounds_toArray, List.set_cons_zero, List.set_cons_succ]); rfl) (hl : listed.setIfInBounds i true = l' := by (try simp only [Act.put, List.setIfInBounds_toArray, List.set_cons_zero, List.set_cons_succ]); rfl) : AnyL P md ops Q Se Sa ap (fuel + 1) listed a w := by
 subst ha hl
 exact AnyL.takeA hi' hs hf hr hia ha' hed hun hQ hw hy hS h
theorem shutNx {K : Act → World → Prop} {fuel : Nat} {listed l' : Array Bool} {a a' : Act} (hK : Shut (∀ a' w', Se w' → (listed.getD ap true = false → Sa w') → AnyL P md ops Q Se Sa ap fuel listed a' w' → K a' w')) (w : World) (h1 : Se w) (h2 : listed.getD ap true = false → Sa w) (h : AnyL P md ops Q Se Sa ap fuel l' a' w)
 (ha : a = a' := by (try simp only [Act.put, List.setIfInBounds_toArray, List.set_cons_zero, List.set_cons_succ]); rfl) (hl : listed = l' := by (try simp only [Act.put, List.setIfInBounds_toArray, List.set_cons_zero, List.set_cons_succ]); rfl) : K a w := by
 subst ha hl
 exact hK.out _ _ h1 h2 h
end
structure Gt where
 k : Int
 a : Int
 b : Int
 v : Int
theorem Gt.ext' {x y : Gt} (h1 : x.k = y.k) (h2 : x.a = y.a) (h3 : x.b = y.b) (h4 : x.v = y.v) : x = y := by
 cases x; cases y; simp_all
instance : DecidableEq Gt := fun x y => decidable_of_iff (x.k = y.k ∧ x.a = y.a ∧ x.b = y.b ∧ x.v = y.v) ⟨fun ⟨h1, h2, h3, h4⟩ => Gt.ext' h1 h2 h3 h4, fun h => by subst h; exact ⟨rfl, rfl, rfl, rfl⟩⟩
def g0 : Gt := ⟨0, 0, 0, 0⟩
structure Circ where
 n : Int
 gs : List Gt
 os : List Int
theorem Circ.ext' {x y : Circ} (h1 : x.n = y.n) (h2 : x.gs = y.gs) (h3 : x.os = y.os) : x = y := by
 cases x; cases y; simp_all
instance : DecidableEq Circ := fun x y => decidable_of_iff (x.n = y.n ∧ x.gs = y.gs ∧ x.os = y.os) ⟨fun ⟨h1, h2, h3⟩ => Circ.ext' h1 h2 h3, fun h => by subst h; exact ⟨rfl, rfl, rfl⟩⟩
def opsL (g : Gt) : List Int := if g.k = 3 then [g.a, g.b] else if g.k = 4 ∨ g.k = 5 then [g.a] else []
def needsL (g : Gt) : List Int := if g.k = 3 ∨ g.k = 4 then opsL g else []
def inB (x lo hi : Int) : Bool := decide (lo ≤ x ∧ x ≤ hi)
def readyB (gs : List Gt) (op : List Bool) (i : Nat) : Bool := op.getD i false && !(needsL (gs.getD i g0)).any (fun k => op.getD k.toNat false)
def nOpen (op : List Bool) : Nat := op.countP (fun b => b)
def at3 (gs : List Gt) (k : Int) : Gt := gs.getD k.toNat g0
def standL (gs : List Gt) (k : Int) : Int :=
 if (at3 gs k).k = 4 ∧ (at3 gs k).v = 1 then (at3 gs k).a
 else if (at3 gs k).k = 3 ∧ (at3 gs (at3 gs k).a).k = 2 then (at3 gs k).b
 else if (at3 gs k).k = 3 ∧ (at3 gs (at3 gs k).b).k = 2 then (at3 gs k).a
 else k
structure Gates (gs : List Gt) : Prop where
 ops : ∀ g ∈ gs, ∀ x ∈ opsL g, 0 ≤ x ∧ x < gs.length
 rank : ∃ r : Nat → Nat, ∀ i, i < gs.length → ∀ k ∈ needsL (gs.getD i g0), r k.toNat < r i
theorem at3_mem {gs : List Gt} {k : Int} (h0 : 0 ≤ k) (h : k < gs.length) : at3 gs k ∈ gs := by
 unfold at3
 rw [List.getD_eq_getElem?_getD, List.getElem?_eq_getElem (by omega)]
 exact List.getElem_mem _
theorem stand_cases {gs : List Gt} {k : Int} : standL gs k = k ∨ standL gs k ∈ needsL (at3 gs k) := by
 unfold standL
 split
 ·next h => right; unfold needsL opsL; rw [if_pos (Or.inr h.1), if_neg (by omega), if_pos (Or.inl h.1)]; simp
 ·split
  ·next h => right; unfold needsL opsL; rw [if_pos (Or.inl h.1), if_pos h.1]; simp
  ·split
   ·next h => right; unfold needsL opsL; rw [if_pos (Or.inl h.1), if_pos h.1]; simp
   ·exact Or.inl rfl
theorem needs_ops {g : Gt} {x : Int} (h : x ∈ needsL g) : x ∈ opsL g := by
 unfold needsL at h
 split at h
 ·exact h
 ·cases h
theorem Gates.stand {gs : List Gt} (h : Gates gs) {k : Int} (h0 : 0 ≤ k) (hk : k < gs.length) : 0 ≤ standL gs k ∧ standL gs k < gs.length := by
 rcases stand_cases (gs := gs) (k := k) with h1 | h1
 ·rw [h1]; exact ⟨h0, hk⟩
 ·exact h.ops _ (at3_mem h0 hk) _ (needs_ops h1)
theorem inB_iff {x lo hi : Int} : inB x lo hi = true ↔ lo ≤ x ∧ x ≤ hi := by unfold inB; rw [decide_eq_true_iff]
end Go.Proofs.YtjagjhchnpmngaaGreat

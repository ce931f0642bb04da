/-
  More on lists of rows that are the call's own: a fresh row in a place, an element written, two lists' rows exchanged by four stores. Conditions: the indices are within.
-/
import Derived.Test.YtpeaeminjbjlnaaDoorMs08
import Derived.Deep.AppendLies
import Derived.Deep.RegionLaw
import Derived.Laws.CopyOwn
import Derived.Laws.Rows
import Derived.Laws.Tables
import Derived.Laws.StructEq
import Derived.Great.Walk
import Derived.Great.BuildSlice
import Derived.ChangeKeysEq
namespace Go.Proofs.YtpeaeminjbjlnaaDoor
open Go.RowKit
set_option linter.unusedVariables false

theorem getD_setV {vs : List Value} {i k : Nat} {u : Value} (hi : i < vs.length) : (vs.set i u).getD k nilS = if k = i then u else vs.getD k nilS := by
  simp only [List.getD_eq_getElem?_getD, List.getElem?_set]
  by_cases h : i = k
  · subst h; simp [hi]
  · simp [h, Ne.symm h]
theorem getD_setL {L : List (List Int)} {i k : Nat} {z : List Int} (hi : i < L.length) : (L.set i z).getD k [] = if k = i then z else L.getD k [] := by
  simp only [List.getD_eq_getElem?_getD, List.getElem?_set]
  by_cases h : i = k
  · subst h; simp [hi]
  · simp [h, Ne.symm h]

/-- a fresh row put into a place -/
theorem OwnM.putNew {B g n cap : Nat} {w : World} {vs : List Value} {L : List (List Int)} {u : Value} {zs : List Int} (h : OwnM B w (.slice (some ⟨g, 0, none⟩) n cap) vs L) (hn : n = L.length) {i : Nat} (hi : i < L.length)
    (hu : OwnInts B w u zs) (hua : ∀ j, Apart (vs.getD j nilS) u) :
    OwnM B (w.setCell ⟨g, i, none⟩ u) (.slice (some ⟨g, 0, none⟩) n cap) (vs.set i u) (L.set i zs) ∧ Only (· = g) w (w.setCell ⟨g, i, none⟩ u) := by
  subst hn
  have hlen := h.len
  have h2 := h.out
  rw [hlen] at h2
  have s1 := World.ownsRow.stored h2 i u
  have hon : Only (Hits (.slice (some ⟨g, 0, none⟩) L.length cap)) w (w.setCell ⟨g, i, none⟩ u) := Only.of_grown s1.2 fun k hk => hk
  refine ⟨⟨by simp [hlen], ?_, fun j => ?_, fun j k hjk => ?_⟩, hon.mono fun k hk => by simp [Hits, Value.ownBlock] at hk; exact hk.symm⟩
  · have e : (vs.set i u).length = L.length := by simp [hlen]
    rw [e]
    exact s1.1
  · rw [getD_setV (by omega), getD_setL hi]
    split
    · exact hu.only hon fun k hk hk' => apart_types h.out hu (by decide) k hk' hk
    · exact (h.row j).only hon fun k hk hk' => apart_types h.out (h.row j) (by decide) k hk' hk
  · rw [getD_setV (by omega), getD_setV (by omega)]
    split
    · rw [if_neg (by omega)]; exact (hua k).symm
    · split
      · exact hua j
      · exact h.ap j k hjk

/-- an element: where it lies, and writing it -/
theorem OwnM.elemAt {B g n cap : Nat} {w : World} {vs : List Value} {L : List (List Int)} (h : OwnM B w (.slice (some ⟨g, 0, none⟩) n cap) vs L) (hn : n = L.length) {i j : Nat} (hi : i < L.length) (hj : j < (L.getD i []).length) :
    ∃ gi ci, B ≤ gi ∧ gi ≠ g ∧ gi < w.heap.size ∧ Hits (vs.getD i nilS) gi ∧ w.cell? ⟨g, i, none⟩ = some (.slice (some ⟨gi, 0, none⟩) (L.getD i []).length ci) ∧ w.cell? ⟨gi, j, none⟩ = some (.int .i64 (at2 L i j)) ∧ w.frozen? ⟨gi, j, none⟩ = false ∧
      ∀ x, OwnM B (w.setCell ⟨gi, j, none⟩ (.int .i64 x)) (.slice (some ⟨g, 0, none⟩) n cap) vs (L.set i ((L.getD i []).set j x)) ∧ Only (· = gi) w (w.setCell ⟨gi, j, none⟩ (.int .i64 x)) := by
  have hrow := h.row i
  obtain ⟨gi, ci, he, hB, hlt, hh⟩ := hrow.parts (by intro h0; rw [h0] at hj; simp at hj)
  have hne : gi ≠ g := by
    intro e
    subst e
    exact apart_types h.out hrow (by decide) gi rfl hh
  have hc := h.cell hn hi
  have hrow' := hrow
  rw [he] at hc hrow'
  refine ⟨gi, ci, hB, hne, hlt, hh, hc, ?_, hrow'.free rfl j, fun x => ?_⟩
  · rw [hrow'.cell rfl hj]
    unfold at2
    rw [getD_lt hj]
  · obtain ⟨p1, p2⟩ := hrow'.put rfl j x
    refine ⟨h.setRow hi ?_ (by rw [he]; exact p1), p2⟩
    exact p2.mono fun k hk => by subst hk; exact hh

/-- two rows exchanged, whatever else was written in lists of rows -/
theorem OwnM.swapped {B g n cap : Nat} {w w' : World} {vs : List Value} {L : List (List Int)} {S : Nat → Prop} (h : OwnM B w (.slice (some ⟨g, 0, none⟩) n cap) vs L) {r i : Nat} (hr : r < L.length) (hi : i < L.length) (hne : r ≠ i)
    (ho : Only S w w') (hS : ∀ k, S k → ∀ j, ¬ Hits (vs.getD j nilS) k) (hout : w'.ownsRow B 24 1 (.slice (some ⟨g, 0, none⟩) n cap) vs.length ((vs.set i (vs.getD r nilS)).set r (vs.getD i nilS))) :
    OwnM B w' (.slice (some ⟨g, 0, none⟩) n cap) ((vs.set i (vs.getD r nilS)).set r (vs.getD i nilS)) (swapL L r i) ∧ (∀ x ∈ (vs.set i (vs.getD r nilS)).set r (vs.getD i nilS), x ∈ vs) := by
  have hlen := h.len
  have gv : ∀ k, ((vs.set i (vs.getD r nilS)).set r (vs.getD i nilS)).getD k nilS = vs.getD (La.tw r i k) nilS := by
    intro k
    unfold La.tw
    rw [getD_setV (by rw [List.length_set]; omega), getD_setV (by omega)]
    by_cases h1 : k = r
    · rw [if_pos h1, if_pos h1]
    · rw [if_neg h1, if_neg h1]
      by_cases h2 : k = i
      · rw [if_pos h2, if_pos h2]
      · rw [if_neg h2, if_neg h2]
  have tinj : ∀ a b, a ≠ b → La.tw r i a ≠ La.tw r i b := by
    intro a b hab
    unfold La.tw
    split <;> split <;> (try split) <;> (try split) <;> omega
  refine ⟨⟨by simp [swapL, hlen], by rw [List.length_set, List.length_set]; exact hout, fun k => ?_, fun a b hab => ?_⟩, fun x hx => ?_⟩
  · rw [gv, swapL_get hr hi]
    exact (h.row _).only ho fun q hq hq' => hS q hq' _ hq
  · rw [gv, gv]
    exact h.ap _ _ (tinj a b hab)
  · rcases List.mem_or_eq_of_mem_set hx with h1 | h1
    · rcases List.mem_or_eq_of_mem_set h1 with h3 | h3
      · exact h3
      · rw [h3, List.getD_eq_getElem?_getD, List.getElem?_eq_getElem (show r < vs.length by omega)]; exact List.getElem_mem _
    · rw [h1, List.getD_eq_getElem?_getD, List.getElem?_eq_getElem (show i < vs.length by omega)]; exact List.getElem_mem _

/-- four stores exchange two rows in two lists -/
theorem Two.swap4 {B ga gt m ca ct : Nat} {w : World} {vs us : List Value} {R T : List (List Int)} (h : Two B w (.slice (some ⟨ga, 0, none⟩) m ca) vs (.slice (some ⟨gt, 0, none⟩) m ct) us R T) (hR : R.length = m) (hT : T.length = m) {r i : Nat} (hr : r < m) (hi : i < m) (hne : r ≠ i) :
    ga ≠ gt ∧
    Two B ((((w.setCell ⟨ga, i, none⟩ (vs.getD r nilS)).setCell ⟨gt, i, none⟩ (us.getD r nilS)).setCell ⟨ga, r, none⟩ (vs.getD i nilS)).setCell ⟨gt, r, none⟩ (us.getD i nilS))
      (.slice (some ⟨ga, 0, none⟩) m ca) ((vs.set i (vs.getD r nilS)).set r (vs.getD i nilS)) (.slice (some ⟨gt, 0, none⟩) m ct) ((us.set i (us.getD r nilS)).set r (us.getD i nilS)) (swapL R r i) (swapL T r i) ∧
    (∀ x ∈ (vs.set i (vs.getD r nilS)).set r (vs.getD i nilS), x ∈ vs) ∧ (∀ x ∈ (us.set i (us.getD r nilS)).set r (us.getD i nilS), x ∈ us) ∧
    Only (fun k => k = ga ∨ k = gt) w ((((w.setCell ⟨ga, i, none⟩ (vs.getD r nilS)).setCell ⟨gt, i, none⟩ (us.getD r nilS)).setCell ⟨ga, r, none⟩ (vs.getD i nilS)).setCell ⟨gt, r, none⟩ (us.getD i nilS)) := by
  have lv := h.mR.len
  have lu := h.mT.len
  have o1 := h.mR.out
  have o2 := h.mT.out
  rw [lv, hR] at o1
  rw [lu, hT] at o2
  have hg : ga ≠ gt := fun e => h.ap ga (Or.inl rfl) (Or.inl (by rw [e]; rfl))
  have hitA : ∀ k, Hits (.slice (some ⟨ga, 0, none⟩) m ca) k → k = ga := fun k hk => by simp [Hits, Value.ownBlock] at hk; exact hk.symm
  have hitT : ∀ k, Hits (.slice (some ⟨gt, 0, none⟩) m ct) k → k = gt := fun k hk => by simp [Hits, Value.ownBlock] at hk; exact hk.symm
  have s1 := World.ownsRow.stored o1 i (vs.getD r nilS)
  have n1 : Only (· = ga) w _ := Only.of_grown s1.2 fun k hk => hitA k hk
  have t1 := owns_only o2 n1 fun k hk hk' => hg (hk'.symm.trans (hitT k hk))
  have s2 := World.ownsRow.stored t1 i (us.getD r nilS)
  have n2 : Only (· = gt) _ _ := Only.of_grown s2.2 fun k hk => hitT k hk
  have a2 := owns_only s1.1 n2 fun k hk hk' => hg ((hitA k hk).symm.trans hk')
  have s3 := World.ownsRow.stored a2 r (vs.getD i nilS)
  have n3 : Only (· = ga) _ _ := Only.of_grown s3.2 fun k hk => hitA k hk
  have t3 := owns_only s2.1 n3 fun k hk hk' => hg (hk'.symm.trans (hitT k hk))
  have s4 := World.ownsRow.stored t3 r (us.getD i nilS)
  have n4 : Only (· = gt) _ _ := Only.of_grown s4.2 fun k hk => hitT k hk
  have a4 := owns_only s3.1 n4 fun k hk hk' => hg ((hitA k hk).symm.trans hk')
  have n : Only (fun k => k = ga ∨ k = gt) w _ := (((n1.mono fun k hk => Or.inl hk).trans (n2.mono fun k hk => Or.inr hk)).trans (n3.mono fun k hk => Or.inl hk)).trans (n4.mono fun k hk => Or.inr hk)
  have S1 : ∀ k, (k = ga ∨ k = gt) → ∀ j, ¬ Hits (vs.getD j nilS) k := by
    intro k hk j hj
    rcases hk with rfl | rfl
    · exact apart_types h.mR.out (h.mR.row j) (by decide) _ rfl hj
    · exact h.ap _ (Foot.at hj) (Or.inl rfl)
  have S2 : ∀ k, (k = ga ∨ k = gt) → ∀ j, ¬ Hits (us.getD j nilS) k := by
    intro k hk j hj
    rcases hk with rfl | rfl
    · exact h.ap _ (Or.inl rfl) (Foot.at hj)
    · exact apart_types h.mT.out (h.mT.row j) (by decide) _ rfl hj
  obtain ⟨m1, b1⟩ := h.mR.swapped (by omega) (by omega) hne n S1 (by rw [lv, hR]; exact a4)
  obtain ⟨m2, b2⟩ := h.mT.swapped (by omega) (by omega) hne n S2 (by rw [lu, hT]; exact s4.1)
  exact ⟨hg, ⟨m1, m2, fun k hk hk' => h.ap k (hk.mono b1) (hk'.mono b2)⟩, b1, b2, n⟩

end Go.Proofs.YtpeaeminjbjlnaaDoor

/-
  What a walk knows about memory, in parts that are apart: each part names the blocks that it may write and those that it reads. Conditions: none.
-/
namespace Go.Proofs.YtpeaeminjbjlnaaDoor
open Go.RowKit
set_option linter.unusedVariables false

structure Asrt where
  foot : Nat → Prop
  sees : Nat → Prop
  holds : World → Prop
  sub : ∀ k, foot k → sees k
  lt : ∀ w k, holds w → sees k → k < w.heap.size
  keep : ∀ w w', holds w → Only (fun k => ¬ sees k) w w' → holds w'
def Apt (A C : Asrt) : Prop := (∀ k, A.foot k → ¬ C.sees k) ∧ (∀ k, C.foot k → ¬ A.sees k)
theorem Apt.symm {A C : Asrt} (h : Apt A C) : Apt C A := ⟨h.2, h.1⟩
def Sep (w : World) : List Asrt → Prop
  | [] => True
  | A :: l => A.holds w ∧ (∀ C ∈ l, Apt A C) ∧ Sep w l
section
variable {w w' : World} {A A' C D E F : Asrt} {l l' : List Asrt}
theorem Sep.hd (h : Sep w (A :: l)) : A.holds w := h.1
theorem Sep.tl (h : Sep w (A :: l)) : Sep w l := h.2.2
theorem Sep.apt (h : Sep w (A :: C :: l)) : Apt A C := h.2.1 _ (by simp)
theorem Sep.s2 (h : Sep w (A :: C :: l)) : Sep w (C :: A :: l) := by
  obtain ⟨h1, h2, h3, h4, h5⟩ := h
  refine ⟨h3, fun D hD => ?_, h1, fun D hD => h2 D (List.mem_cons_of_mem _ hD), h5⟩
  rcases List.mem_cons.1 hD with rfl | hD
  · exact (h2 C (by simp)).symm
  · exact h4 D hD
theorem Sep.under (h : Sep w (A :: l)) (p : Sep w l → Sep w l') (hm : ∀ C ∈ l', C ∈ l) : Sep w (A :: l') := ⟨h.1, fun C hC => h.2.1 C (hm C hC), p h.2.2⟩
theorem Sep.s3 (h : Sep w (A :: C :: D :: l)) : Sep w (D :: A :: C :: l) := (h.under Sep.s2 (by simp +contextual)).s2
theorem Sep.s4 (h : Sep w (A :: C :: D :: E :: l)) : Sep w (E :: A :: C :: D :: l) := (h.under Sep.s3 (by simp +contextual)).s2
theorem Sep.s5 (h : Sep w (A :: C :: D :: E :: F :: l)) : Sep w (F :: A :: C :: D :: E :: l) := (h.under Sep.s4 (by simp +contextual)).s2
theorem Sep.drop2 (h : Sep w (A :: C :: l)) : Sep w (A :: l) := h.under Sep.tl (by simp +contextual)
theorem Sep.only {S : Nat → Prop} (h : Sep w l) (ho : Only S w w') (hs : ∀ A ∈ l, ∀ k, A.sees k → ¬ S k) : Sep w' l := by
  induction l with
  | nil => trivial
  | cons A l ih =>
    exact ⟨A.keep _ _ h.1 (ho.mono fun k hk hk' => hs A (by simp) k hk' hk), h.2.1, ih h.2.2 fun C hC => hs C (by simp [hC])⟩
theorem Sep.quiet (h : Sep w l) (ho : Only (fun _ => False) w w') : Sep w' l := h.only ho fun _ _ _ _ h => h
theorem Sep.grown (h : Sep w l) (hg : w.grownBy w' none) : Sep w' l := h.quiet (Only.of_grown hg (by simp))
theorem Sep.all (h : Sep w l) : ∀ A ∈ l, A.holds w := by
  induction l with
  | nil => simp
  | cons A l ih =>
    intro C hC
    rcases List.mem_cons.1 hC with rfl | hC
    · exact h.1
    · exact ih h.2.2 C hC
/-- The first part is written, and may take new blocks. -/
theorem Sep.upd (h : Sep w (A :: l)) (ho : Only A.foot w w') (ha : A'.holds w') (hf : ∀ k, A'.foot k → A.foot k ∨ w.heap.size ≤ k) (hs : ∀ k, A'.sees k → A.sees k ∨ w.heap.size ≤ k) : Sep w' (A' :: l) := by
  obtain ⟨h1, h2, h3⟩ := h
  refine ⟨ha, fun C hC => ⟨fun k hk hk' => ?_, fun k hk hk' => ?_⟩, h3.only ho fun C hC k hk hk' => (h2 C hC).1 k hk' hk⟩
  · rcases hf k hk with h | h
    · exact (h2 C hC).1 k h hk'
    · have := C.lt _ _ (h3.all C hC) hk'; omega
  · rcases hs k hk' with h | h
    · exact (h2 C hC).2 k hk h
    · have := C.lt _ _ (h3.all C hC) (C.sub k hk); omega
/-- the same with parts whose blocks are all their own -/
theorem Sep.upd' (h : Sep w (A :: l)) (ho : Only A.foot w w') (ha : A'.holds w') (hf : ∀ k, A'.sees k → A.foot k ∨ w.heap.size ≤ k) : Sep w' (A' :: l) :=
  h.upd ho ha (fun k hk => hf k (A'.sub k hk)) fun k hk => (hf k hk).imp (A.sub k) id
/-- the first two parts become one -/
theorem Sep.join (h : Sep w (A :: C :: l)) (ho : Only (fun k => A.foot k ∨ C.foot k) w w') (ha : A'.holds w') (hf : ∀ k, A'.foot k → A.foot k ∨ C.foot k ∨ w.heap.size ≤ k) (hs : ∀ k, A'.sees k → A.sees k ∨ C.sees k ∨ w.heap.size ≤ k) : Sep w' (A' :: l) := by
  obtain ⟨h1, h2, h3, h4, h5⟩ := h
  refine ⟨ha, fun D hD => ⟨fun k hk hk' => ?_, fun k hk hk' => ?_⟩, h5.only ho fun D hD k hk hk' => ?_⟩
  · rcases hf k hk with h | h | h
    · exact (h2 D (by simp [hD])).1 k h hk'
    · exact (h4 D hD).1 k h hk'
    · have := D.lt _ _ (h5.all D hD) hk'; omega
  · rcases hs k hk' with h | h | h
    · exact (h2 D (by simp [hD])).2 k hk h
    · exact (h4 D hD).2 k hk h
    · have := D.lt _ _ (h5.all D hD) (D.sub k hk); omega
  · rcases hk' with h | h
    · exact (h2 D (by simp [hD])).1 k h hk
    · exact (h4 D hD).1 k h hk
/-- A new part, all of new blocks. -/
theorem Sep.new (h : Sep w l) (hg : w.grownBy w' none) (ha : A.holds w') (hs : ∀ k, A.sees k → w.heap.size ≤ k) : Sep w' (A :: l) := by
  have h' := h.grown hg
  refine ⟨ha, fun C hC => ⟨fun k hk hk' => ?_, fun k hk hk' => ?_⟩, h'⟩
  · have := C.lt _ _ (h.all C hC) hk'; have := hs k (A.sub k hk); omega
  · have := C.lt _ _ (h.all C hC) (C.sub k hk); have := hs k hk'; omega
/-- A part that writes nothing and reads what no part writes. -/
theorem Sep.share (h : Sep w l) (ha : A.holds w) (hf : ∀ k, ¬ A.foot k) (hs : ∀ C ∈ l, ∀ k, C.foot k → ¬ A.sees k) : Sep w (A :: l) :=
  ⟨ha, fun C hC => ⟨fun k hk => absurd hk (hf k), hs C hC⟩, h⟩
theorem Sep.al (h : Sep w l) (o : Obj) : Sep (w.alloc o) l := h.grown (grownBy_alloc w o none)
theorem Sep.dr (h : Sep w l) : Sep w.drew l := h.quiet (Only.drew _ w)
theorem Sep.drN (h : Sep w l) (n : Nat) : Sep (w.drewN n) l := h.quiet (Only.drewN _ w n)
end

/-! ### the parts -/
def KeepA (w0 : World) : Asrt := ⟨fun _ => False, fun k => k < w0.heap.size, fun w => w0.grownBy w none, fun _ h => h.elim, fun _ _ h hk => Nat.lt_of_lt_of_le hk h.size,
  fun w w' h ho => ⟨ho.os.trans h.os, ho.tape.trans h.tape, ho.output.trans h.output, Nat.le_trans h.size ho.size, fun k hk hn => (ho.block k (Nat.lt_of_lt_of_le hk h.size) fun h' => h' hk).trans (h.block k hk hn)⟩⟩
theorem Sep.start (w : World) : Sep w [KeepA w] := ⟨⟨rfl, rfl, rfl, Nat.le_refl _, fun _ _ _ => rfl⟩, by simp, trivial⟩
theorem blk_lt {w : World} {k : Nat} {o : Obj} (h : w.heap[k]? = some o) : k < w.heap.size := by
  rcases Nat.lt_or_ge k w.heap.size with h' | h'
  · exact h'
  · rw [Array.getElem?_eq_none h'] at h; cases h
def BxA (b : Nat) (cs : Array Value) (t : TypeId) : Asrt where
  foot := fun k => k = b
  sees := fun k => k = b
  holds := fun w => w.heap[b]? = some (.cells cs t (0, 0))
  sub := fun _ h => h
  lt := fun w k h hk => by have : k = b := hk; subst this; exact blk_lt h
  keep := fun w w' h ho => (ho.block b (blk_lt h) fun h' => h' rfl).trans h
def OI (v : Value) (zs : List Int) : Asrt := ⟨Hits v, Hits v, fun w => OwnInts 0 w v zs, fun _ h => h, fun w k h hk => (h.lt k hk).2, fun w w' h ho => h.only ho fun k hk h' => h' hk⟩
def OM (v : Value) (vs : List Value) (L : List (List Int)) : Asrt := ⟨Foot v vs, Foot v vs, fun w => OwnM 0 w v vs L, fun _ h => h, fun w k h hk => (h.lt hk).2, fun w w' h ho => h.only ho fun k hk h' => h' hk⟩
theorem OwnInts.rebase {B B' : Nat} {w : World} {v : Value} {zs : List Int} (h : OwnInts B w v zs) (hk : ∀ k, Hits v k → B' ≤ k) : OwnInts B' w v zs := by
  obtain ⟨h1, h2⟩ := h
  refine ⟨h1, ?_⟩
  rcases h2 with h2 | ⟨g, cap, cur, hv, hg, r⟩
  · exact Or.inl h2
  · exact Or.inr ⟨g, cap, cur, hv, hk g (by rw [hv]; rfl), r⟩
theorem OwnM.rebase {B B' : Nat} {w : World} {v : Value} {vs : List Value} {L : List (List Int)} (h : OwnM B w v vs L) (hk : ∀ k, Foot v vs k → B' ≤ k) : OwnM B' w v vs L := by
  refine ⟨h.len, ?_, fun i => (h.row i).rebase fun k hh => hk k (Foot.at hh), h.ap⟩
  obtain ⟨h1, h2⟩ := h.out
  refine ⟨h1, ?_⟩
  rcases h2 with h2 | ⟨g, cap, cur, hv, hg, r⟩
  · exact Or.inl h2
  · exact Or.inr ⟨g, cap, cur, hv, hk g (Or.inl (by rw [hv]; rfl)), r⟩
section
variable {w w0 w' : World} {l : List Asrt} {v u : Value} {vs : List Value} {L : List (List Int)} {zs : List Int}
theorem Sep.kept (h : Sep w (KeepA w0 :: l)) : w0.grownBy w none := h.1
theorem Sep.ints (h : Sep w (OI v zs :: KeepA w0 :: l)) : OwnInts w0.heap.size w v zs := h.hd.rebase fun k hk => Nat.le_of_not_lt (h.apt.1 k hk)
theorem Sep.mat (h : Sep w (OM v vs L :: KeepA w0 :: l)) : OwnM w0.heap.size w v vs L := h.hd.rebase fun k hk => Nat.le_of_not_lt (h.apt.1 k hk)
theorem Sep.newI (h : Sep w l) (hg : w.grownBy w' none) (ho : OwnInts w.heap.size w' v zs) : Sep w' (OI v zs :: l) := h.new hg (ho.rebase fun _ _ => Nat.zero_le _) fun k hk => (ho.lt k hk).1
theorem Sep.newM (h : Sep w l) (hg : w.grownBy w' none) (ho : OwnM w.heap.size w' v vs L) : Sep w' (OM v vs L :: l) := h.new hg (ho.rebase fun _ _ => Nat.zero_le _) fun k hk => (ho.lt hk).1
theorem Sep.box (h : Sep w l) (cs : Array Value) (t : TypeId) : Sep (w.alloc (.cells cs t)) (BxA w.heap.size cs t :: l) :=
  h.new (grownBy_alloc w _ none) (alloc_heap_new w _) fun k hk => by have : k = w.heap.size := hk; omega
theorem Sep.nilI (h : Sep w l) : Sep w (OI nilS [] :: l) := h.new (⟨rfl, rfl, rfl, Nat.le_refl _, fun _ _ _ => rfl⟩) (OwnInts.nil _ _) fun k hk => absurd hk nil_hits
theorem Sep.nilM (h : Sep w l) : Sep w (OM nilS [] [] :: l) := h.new (⟨rfl, rfl, rfl, Nat.le_refl _, fun _ _ _ => rfl⟩) (OwnM.start (World.ownsRow_nil _ _ _ _)) fun k hk => by
  rcases hk with hk | ⟨x, hx, _⟩
  · exact absurd hk nil_hits
  · simp at hx
theorem Sep.emptyI (h : Sep w l) : Sep (w.alloc (.cells #[] 3)) (OI (.slice (some ⟨w.heap.size, 0, none⟩) 0 0) [] :: l) :=
  h.newI (grownBy_alloc w _ none) (OwnInts.empty (Nat.le_refl _) rfl)
theorem Sep.emptyM (h : Sep w l) : Sep (w.alloc (.cells #[] 24)) (OM (.slice (some ⟨w.heap.size, 0, none⟩) 0 0) [] [] :: l) :=
  h.newM (grownBy_alloc w _ none) (OwnM.start (World.ownsRow_made w #[] 0 (Nat.le_refl _) (by unfold maxLen; omega) rfl))
theorem Sep.setI {g n cap : Nat} (h : Sep w (OI (.slice (some ⟨g, 0, none⟩) n cap) zs :: l)) (hn : n = zs.length) (j : Nat) (x : Int) : Sep (w.setCell ⟨g, j, none⟩ (.int .i64 x)) (OI (.slice (some ⟨g, 0, none⟩) n cap) (zs.set j x) :: l) := by
  obtain ⟨p1, p2⟩ := h.hd.put hn j x
  exact h.upd' (p2.mono fun k hk => by rw [hk]; rfl) p1 fun k hk => Or.inl hk
theorem Sep.setB {b : Nat} {cs : Array Value} {t : TypeId} (h : Sep w (BxA b cs t :: l)) (i : Nat) (x : Value) : Sep (w.setCell ⟨b, i, none⟩ x) (BxA b (cs.setIfInBounds i x) t :: l) :=
  h.upd' (A' := BxA b (cs.setIfInBounds i x) t) (set_only w ⟨b, i, none⟩ x) (heap_setCell_same w b i cs t x h.hd) fun k hk => Or.inl hk
/-- an element of a row is written -/
theorem Sep.setM {g n cap : Nat} (h : Sep w (OM (.slice (some ⟨g, 0, none⟩) n cap) vs L :: l)) (hn : n = L.length) {i j : Nat} (hi : i < L.length) (hj : j < (L.getD i []).length) :
    ∃ gi ci, gi ≠ g ∧ w.cell? ⟨g, i, none⟩ = some (.slice (some ⟨gi, 0, none⟩) (L.getD i []).length ci) ∧ w.cell? ⟨gi, j, none⟩ = some (.int .i64 (at2 L i j)) ∧ w.frozen? ⟨gi, j, none⟩ = false ∧
      ∀ x, Sep (w.setCell ⟨gi, j, none⟩ (.int .i64 x)) (OM (.slice (some ⟨g, 0, none⟩) n cap) vs (L.set i ((L.getD i []).set j x)) :: l) := by
  obtain ⟨gi, ci, h1, h2, h3, h4, h5, h6, h7, h8⟩ := h.hd.elemAt hn hi hj
  exact ⟨gi, ci, h2, h5, h6, h7, fun x => h.upd' ((h8 x).2.mono fun k hk => by rw [hk]; exact Foot.at h4) (h8 x).1 fun k hk => Or.inl hk⟩
/-- a new row is put into a place -/
theorem Sep.putM {g n cap : Nat} (h : Sep w (OI u zs :: OM (.slice (some ⟨g, 0, none⟩) n cap) vs L :: l)) (hn : n = L.length) {i : Nat} (hi : i < L.length) :
    Sep (w.setCell ⟨g, i, none⟩ u) (OM (.slice (some ⟨g, 0, none⟩) n cap) (vs.set i u) (L.set i zs) :: l) := by
  have hm := h.s2
  have hp := hm.hd.putNew hn hi h.hd fun j k hk => hm.apt.1 k (Foot.at hk)
  refine hm.join (hp.2.mono fun k hk => Or.inl (by rw [hk]; exact Or.inl rfl)) hp.1 (fun k hk => ?_) (fun k hk => ?_) <;>
  · rcases hk with hk | ⟨x, hx, hk⟩
    · exact Or.inl (Or.inl hk)
    · rcases List.mem_or_eq_of_mem_set hx with h' | rfl
      · exact Or.inl (Or.inr ⟨x, h', hk⟩)
      · exact Or.inr (Or.inl hk)
end

/-! ### append -/
theorem news_one {w : World} {u : Value} {t : TypeId} : ∀ j x, [u][j]? = some x → (w.alloc (.cells #[u] t)).cell? ((⟨w.heap.size, 0, none⟩ : Addr).add j) = some x := by
  intro j x hj
  match j, hj with
  | 0, hj =>
    simp at hj
    subst hj
    simp only [Addr.add, if_true, World.cell?]
    rw [alloc_heap_new]
    rfl
  | j + 1, hj => simp at hj
section
variable {ops : Array Oper} {rest : List Oper} {o : Oper} {a : Act} {Q : Exit → Act → World → Prop} {K : Act → World → Prop} {E : Prop} {w : World} {v u : Value} {vs : List Value} {zs : List Int} {L : List (List Int)} {l : List Asrt} {n : Int}
/-- 'out = append(out, x)'. -/
theorem wp_app_int (s x : Operand) (ho : o.op = .call { callee := .builtin .append, args := #[s, x], argTypes := #[24, 24] })
    (hs : a.eval s = v) (hx : a.eval x = .slice (some ⟨w.heap.size, 0, none⟩) 1 1) (H : Sep w (OI v zs :: l)) (hl : zs.length ≤ 1000000000)
    (h : ∀ g cap w', Sep w' (OI (.slice (some ⟨g, 0, none⟩) (zs.length + 1) cap) (zs ++ [n]) :: l) → K (a.put o.dst (.slice (some ⟨g, 0, none⟩) (zs.length + 1) cap)) w') :
    o.wp Tryd.prog a (w.alloc (.cells #[.int .i64 n] 3)) K Q := by
  obtain ⟨i0, hi, hz0, hz1, hz2⟩ := info_parts info_int
  have H1 := H.al (.cells #[.int .i64 n] 3)
  refine wp_append_lies (P := Tryd.prog) _ s x 24 ho 0 3 i0 (.int .i64 0) 1 8 Tryd.underlying24 hi hz0 hz1 hz2 rfl (by decide) v zs.length (zs.map (Value.int .i64)) hs H1.hd
    ⟨w.heap.size, 0, none⟩ 1 1 [.int .i64 n] hx rfl news_one (fun u hu => by simp at hu; subst hu; rfl) (by omega) (by unfold maxLen; omega) (by omega) (Nat.zero_le _) _ rfl ?_
  intro g cap w1 hown' hgrow hg _
  have ho' : OwnInts 0 w1 (.slice (some ⟨g, 0, none⟩) (zs.length + 1) cap) (zs ++ [n]) := by simpa [OwnInts] using hown'
  refine h g cap w1 (H1.upd' (Only.of_grown (S := Hits v) hgrow fun k hk => hk) ho' fun k hk => ?_)
  have : g = k := by simpa [OI, Hits, Value.ownBlock] using hk
  subst this
  exact hg.imp id (fun h => Nat.le_of_eq h.symm)
theorem app_intS (hgd : o.guard = none) (s x : Operand) (ho : o.op = .call { callee := .builtin .append, args := #[s, x], argTypes := #[24, 24] })
    (hs : a.eval s = v) (hx : a.eval x = .slice (some ⟨w.heap.size, 0, none⟩) 1 1) (H : Sep w (OI v zs :: l)) (hl : zs.length ≤ 1000000000)
    (h : ∀ g cap w', Sep w' (OI (.slice (some ⟨g, 0, none⟩) (zs.length + 1) cap) (zs ++ [n]) :: l) → wpList Tryd.prog ops Q rest (a.put o.dst (.slice (some ⟨g, 0, none⟩) (zs.length + 1) cap)) w') :
    wpList Tryd.prog ops Q (o :: rest) a (w.alloc (.cells #[.int .i64 n] 3)) :=
  wpList_plain hgd fun _ hK => wp_app_int s x ho hs hx H hl fun g cap w' h1 => hK _ _ (h g cap w' h1)
theorem step_app_intS (hgd : o.guard = none) (s x : Operand) (ho : o.op = .call { callee := .builtin .append, args := #[s, x], argTypes := #[24, 24] })
    (hs : a.eval s = v) (hx : a.eval x = .slice (some ⟨w.heap.size, 0, none⟩) 1 1) (H : Sep w (OI v zs :: l)) (hl : zs.length ≤ 1000000000)
    (h : ∀ g cap w', Sep w' (OI (.slice (some ⟨g, 0, none⟩) (zs.length + 1) cap) (zs ++ [n]) :: l) → K (a.put o.dst (.slice (some ⟨g, 0, none⟩) (zs.length + 1) cap)) w') :
    if Region.wanted o (yielded ops a.tmps) = true then Oper.wp Tryd.prog o a (w.alloc (.cells #[.int .i64 n] 3)) K Q else E := by
  rw [if_pos (by simp [Region.wanted, hgd])]
  exact wp_app_int s x ho hs hx H hl h
/-- 'out = append(out, row)': the row joins the list. -/
theorem wp_app_rowS (s x : Operand) (ho : o.op = .call { callee := .builtin .append, args := #[s, x], argTypes := #[37, 37] })
    (hs : a.eval s = v) (hx : a.eval x = .slice (some ⟨w.heap.size, 0, none⟩) 1 1) (H : Sep w (OI u zs :: OM v vs L :: l)) (hl : L.length ≤ 1000000)
    (h : ∀ g cap w', Sep w' (OM (.slice (some ⟨g, 0, none⟩) (L.length + 1) cap) (vs ++ [u]) (L ++ [zs]) :: l) → K (a.put o.dst (.slice (some ⟨g, 0, none⟩) (L.length + 1) cap)) w') :
    o.wp Tryd.prog a (w.alloc (.cells #[u] 24)) K Q := by
  obtain ⟨i0, hi, hz0, hz1, hz2⟩ := info_parts info_ints
  have H1 := H.al (.cells #[u] 24)
  have H2 := H1.s2
  have hown1 := H2.hd
  have hu1 := H1.hd
  have hlen := hown1.len
  refine wp_append_lies (P := Tryd.prog) _ s x 37 ho 0 24 i0 (.slice none 0 0) 1 24 Tryd.underlying37 hi hz0 hz1 hz2 rfl (by decide) v vs.length vs hs hown1.out
    ⟨w.heap.size, 0, none⟩ 1 1 [u] hx rfl news_one (fun u' hu' => by simp at hu'; subst hu'; exact ints_one hu1) (by omega) (by unfold maxLen; omega) (by omega) (Nat.zero_le _) _ rfl ?_
  intro g cap w1 hown' hgrow hg _
  have hon : Only (Hits v) (w.alloc (.cells #[u] 24)) w1 := Only.of_grown hgrow fun k hk => hk
  rw [hlen] at hown' ⊢
  refine h g cap w1 (H2.join (hon.mono fun k hk => Or.inl (Or.inl hk)) (OwnM.join hlen (fun i => (hown1.row i).only hon fun k hk hk' => ?_) hown1.ap (hu1.only hon fun k hk hk' => ?_) (fun i k hk => H2.apt.1 k (Foot.at hk)) (by simpa [hlen] using hown')) (fun k hk => ?_) fun k hk => ?_)
  · exact apart_types hown1.out (hown1.row i) (by decide) k hk' hk
  · exact apart_types hown1.out hu1 (by decide) k hk' hk
  all_goals
    rcases hk with hk | ⟨y, hy, hk⟩
    · have : g = k := by simpa [Hits, Value.ownBlock] using hk
      subst this
      rcases hg with h | h
      · exact Or.inl (Or.inl h)
      · exact Or.inr (Or.inr (Nat.le_of_eq h.symm))
    · rcases List.mem_append.1 hy with h' | h'
      · exact Or.inl (Or.inr ⟨y, h', hk⟩)
      · simp at h'
        subst h'
        exact Or.inr (Or.inl hk)
theorem app_rowS (hgd : o.guard = none) (s x : Operand) (ho : o.op = .call { callee := .builtin .append, args := #[s, x], argTypes := #[37, 37] })
    (hs : a.eval s = v) (hx : a.eval x = .slice (some ⟨w.heap.size, 0, none⟩) 1 1) (H : Sep w (OI u zs :: OM v vs L :: l)) (hl : L.length ≤ 1000000)
    (h : ∀ g cap w', Sep w' (OM (.slice (some ⟨g, 0, none⟩) (L.length + 1) cap) (vs ++ [u]) (L ++ [zs]) :: l) → wpList Tryd.prog ops Q rest (a.put o.dst (.slice (some ⟨g, 0, none⟩) (L.length + 1) cap)) w') :
    wpList Tryd.prog ops Q (o :: rest) a (w.alloc (.cells #[u] 24)) :=
  wpList_plain hgd fun _ hK => wp_app_rowS s x ho hs hx H hl fun g cap w' h1 => hK _ _ (h g cap w' h1)
theorem step_app_rowS (hgd : o.guard = none) (s x : Operand) (ho : o.op = .call { callee := .builtin .append, args := #[s, x], argTypes := #[37, 37] })
    (hs : a.eval s = v) (hx : a.eval x = .slice (some ⟨w.heap.size, 0, none⟩) 1 1) (H : Sep w (OI u zs :: OM v vs L :: l)) (hl : L.length ≤ 1000000)
    (h : ∀ g cap w', Sep w' (OM (.slice (some ⟨g, 0, none⟩) (L.length + 1) cap) (vs ++ [u]) (L ++ [zs]) :: l) → K (a.put o.dst (.slice (some ⟨g, 0, none⟩) (L.length + 1) cap)) w') :
    if Region.wanted o (yielded ops a.tmps) = true then Oper.wp Tryd.prog o a (w.alloc (.cells #[u] 24)) K Q else E := by
  rw [if_pos (by simp [Region.wanted, hgd])]
  exact wp_app_rowS s x ho hs hx H hl h
end

end Go.Proofs.YtpeaeminjbjlnaaDoor

/-
  A row with zeros behind it, and two of them compared. Conditions: the rows have at most 48 elements.
-/
namespace Go.Proofs.YtpeaeminjbjlnaaDoor
open Go.RowKit
set_option linter.unusedVariables false

theorem info_pad : (Tryd.prog.info? 243).map (·.size) = some 48 := by kernel_rfl
theorem info_int1 : (Tryd.prog.info? 3).map (·.size) = some 1 := by kernel_rfl
theorem under_pad : Tryd.prog.underlying 243 = some (.array 48 3) := by kernel_rfl
/-- a row with zeros behind it, 48 cells in all -/
def padZ (zs : List Int) : List Value := (zs ++ List.replicate (48 - zs.length) 0).map (Value.int .i64)
def padC (zs : List Int) : Array Value := (padZ zs).toArray
theorem padZ_len {zs : List Int} (h : zs.length ≤ 48) : (padZ zs).length = 48 := by simp [padZ]; omega
theorem padC_size {zs : List Int} (h : zs.length ≤ 48) : (padC zs).size = 48 := by simp [padC, padZ_len h]
theorem padC_one (zs : List Int) : (padC zs).all (·.oneCell') = true := by
  rw [Array.all_eq_true_iff_forall_mem]
  intro v hv
  simp only [padC, padZ, List.mem_toArray, List.mem_map] at hv
  obtain ⟨z, _, rfl⟩ := hv
  rfl
theorem pad_alloc (w : World) : (Instr.alloc 243 true (.tuple #[])).run Tryd.prog w = .ok (.pointer (some ⟨w.heap.size, 0, none⟩)) (w.alloc (.cells (padC []) 243)) := by kernel_rfl
theorem pad_built : Tryd.prog.built 243 [] = some (padC []) := by kernel_rfl
theorem pad_splice {zs : List Int} (h : zs.length ≤ 48) : splice (padZ []) 0 (zs.map (Value.int .i64)) = padZ zs := by
  unfold splice padZ
  have e : (zs.map (Value.int .i64)).length = zs.length := List.length_map ..
  rw [List.take_zero, List.nil_append, List.map_append, e, List.map_nil, List.nil_append, List.length_nil, Nat.zero_add, Nat.sub_zero, ← List.map_drop, List.drop_replicate, List.map_append]
set_option maxRecDepth 100000 in
theorem pad_any (v : Value) (zs : List Int) (w : World) (hv : IntsV w v zs) (hl : zs.length ≤ 48) :
    Calls Tryd.prog 296 #[v] w fun e w' => e = .returned (.agg (padC zs)) ∧ w.grownBy w' none := by
  obtain ⟨a, cap, rfl, hx⟩ := hv
  have HX := Lib.hid hx
  have s0 : (padC []).size = 48 := padC_size (by simp)
  have S0 := Lib.hid s0
  have SL := Lib.hid (padC_size hl)
  clear s0
  clear hx
  have h1 := alloc_heap_new w (.cells (padC []) 243)
  have hs1 : (w.alloc (.cells (padC []) 243)).heap.size = w.heap.size + 1 := by simp
  have h2 := alloc_heap_new (w.alloc (.cells (padC []) 243)) (.cells (padC []) 243)
  have h3 := (alloc_heap_old (w.alloc (.cells (padC []) 243)) (.cells (padC []) 243) w.heap.size (by omega)).trans h1
  rw [hs1] at h2
  have HS1 := Lib.hid hs1; have H2 := Lib.hid h2; have H3 := Lib.hid h3
  have PA := Lib.hid pad_alloc; have PB := Lib.hid pad_built
  generalize hP : padC [] = P0 at *
  have HP := Lib.hid hP
  clear hP h1 hs1 h2 h3
  generalize hPz : padC zs = Pz at *
  have HPZ := Lib.hid hPz
  clear hPz
  go_enter Tryd.func296, Tryd.ntmps296
  go_wp2_with (first
    | (with_reducible refine Great.wpList_allocTo rfl (some 2) rfl (.pointer (some ⟨w.heap.size, 0, none⟩)) (.cells P0 243) ?_ ?_
       · simp only [execOp, Sem.run_bind, PA.out w, Result.andThen_ok, Sem.run_pure])
    | (with_reducible refine Great.wpList_allocTo rfl (some 3) rfl (.pointer (some ⟨w.heap.size + 1, 0, none⟩)) (.cells P0 243) ?_ ?_
       · simp only [execOp, Sem.run_bind, PA.out _, Result.andThen_ok, Sem.run_pure, HS1.out])
    | (with_reducible refine wpList_buildTo rfl 243 #[] rfl (some 4) rfl P0 ?_ ?_
       · go_loud (simpa using PB.out))
    | (with_reducible refine wpList_store_rowTo rfl 243 (.tmp 3) (.tmp 4) rfl rfl (w.heap.size + 1) P0 ?_ ?_ 243 P0 H2.out ?_ rfl ?_ ?_
       · go_loud (rfl)
       · go_loud (rfl)
       · rw [info_pad, S0.out]
       · rw [← HP.out]; exact padC_one []
       have q1 := setRow_heap _ (w.heap.size + 1) P0 P0 243 (0, 0) H2.out
       have q2 := (setRow_other ((w.alloc (.cells P0 243)).alloc (.cells P0 243)) (w.heap.size + 1) w.heap.size P0 (by omega)).trans H3.out
       have q3 : Below w.heap.size w (((w.alloc (.cells P0 243)).alloc (.cells P0 243)).setRow (w.heap.size + 1) P0) := below_setRow (((Below.refl _ w).alloc (Nat.le_refl _) _).alloc (by simp) _) (by omega) _
       generalize ((w.alloc (.cells P0 243)).alloc (.cells P0 243)).setRow (w.heap.size + 1) P0 = w4 at *
       have Q1 := Lib.hid q1; have Q2 := Lib.hid q2; have Q3 := Lib.hid q3
       clear q1 q2 q3)
    | (with_reducible refine wpList_copy_splice rfl (.tmp 5) (.tmp 6) 24 24 rfl 3 Tryd.underlying24 info_int1 (some ⟨w.heap.size + 1, 0, none⟩) a 48 48 zs.length cap ?_ ?_ (w.heap.size + 1) 0 (padZ []) 243 ?_ (zs.map (Value.int .i64)) ?_ ?_ ?_ ?_ (w.heap.size + 1) w4 (Below.refl _ _) (Nat.le_refl _) ?_
       · go_loud (rfl)
       · go_loud (rfl)
       · go_loud (rw [Q1.out, ← HP.out]; rfl)
       · rw [List.length_map]; exact (Nat.min_eq_left hl).symm
       · intro h0
         rw [List.length_map] at h0
         obtain ⟨d, hd, hsp, hdb, hc⟩ := HX.out (by intro h; rw [h] at h0; simp at h0)
         refine ⟨rfl, d, hd, fun j x hj => ?_⟩
         obtain ⟨db, dof, _⟩ := d
         simp only at hsp
         subst hsp
         have hj' : j < zs.length := by
           rcases Nat.lt_or_ge j zs.length with h | h
           · exact h
           · rw [List.getElem?_eq_none (by simpa using h)] at hj; cases hj
         have hcj := (World.cell?_of_block (w := w) (a := ⟨db, dof + j, none⟩) (Q3.out.block db hdb)).trans (hc j hj')
         simp [hj'] at hj
         subst hj
         unfold Addr.add
         split
         · next h0 => subst h0; simpa using hcj
         · exact hcj
       · rw [List.length_map, padZ_len (by simp)]; omega
       · intro x hx
         obtain ⟨z, _, rfl⟩ := List.mem_map.1 hx
         rfl
       intro w5 H5 hb5
       have q5 : w5.heap[w.heap.size + 1]? = some (.cells Pz 243 (0, 0)) := by rw [H5.out, pad_splice hl, ← HPZ.out]; rfl
       have q6 := (hb5.block w.heap.size (by omega)).trans Q2.out
       have Q5 := Lib.hid q5; have Q6 := Lib.hid q6; have Q7 := Lib.hid (Q3.out.trans (hb5.mono (by omega)))
       clear q5 q6 hb5 H5)
    | (with_reducible refine wpList_load_row rfl 243 (.tmp 3) rfl (w.heap.size + 1) ?_ 243 Pz (0, 0) _ Q5.out under_pad rfl ?_ ?_
       · go_loud (rfl)
       · rw [info_pad, SL.out])
    | (with_reducible refine wpList_store_rowTo rfl 243 (.tmp 2) (.tmp 8) rfl rfl w.heap.size Pz ?_ ?_ 243 P0 Q6.out ?_ ?_ ?_ ?_
       · go_loud (rfl)
       · go_loud (rfl)
       · rw [info_pad, SL.out]
       · rw [S0.out, SL.out]
       · rw [← HPZ.out]; exact padC_one zs))
  refine bodyPost_ret_by (v := .agg Pz) ?_ rfl ?_
  · exact results_cell_row rfl _ _ w.heap.size 243 Pz (0, 0) _ rfl (setRow_heap _ w.heap.size P0 Pz 243 (0, 0) Q6.out) under_pad rfl (by rw [info_pad, SL.out])
  · exact ⟨rfl, grown_of_below (below_setRow Q7.out (Nat.le_refl _) _)⟩

theorem cells_int1 : Tryd.prog.cellsOf 3 = 1 := by kernel_rfl
theorem plain_int : Tryd.prog.plainKey 3 = true := by kernel_rfl
theorem pad_guard : Tryd.prog.eqGuardType Tryd.prog.depth 243 = false := by kernel_rfl
theorem padC_at {zs : List Int} (h : zs.length ≤ 48) {i : Nat} (hi : i < 48) : (padC zs)[i]? = some (.int .i64 (zs.getD i 0)) := by
  unfold padC padZ
  rw [List.getElem?_toArray, List.getElem?_map, List.getElem?_append]
  split
  · next h1 => rw [List.getElem?_eq_getElem h1, getD_lt h1]; rfl
  · next h1 =>
    rw [List.getElem?_replicate, if_pos (by omega), List.getD_eq_getElem?_getD, List.getElem?_eq_none (by omega)]
    rfl
theorem pad_items {x y : List Int} (hx : x.length ≤ 48) (hy : y.length ≤ 48) (w : World) : ∀ is : List Nat, (∀ i ∈ is, i < 48) →
    (Op.eqItems 9999 3 1 (padC x) (padC y) is).run Tryd.prog w = .ok (is.all fun i => x.getD i 0 == y.getD i 0) w
  | [], _ => rfl
  | i :: is, h => by
    have hi := h i (by simp)
    have ih := pad_items hx hy w is fun j hj => h j (by simp [hj])
    have e1 := run_part_plain (P := Tryd.prog) w plain_int (off := i * 1) (xs := padC x) (by rw [Nat.mul_one]; exact padC_at hx hi)
    have e2 := run_part_plain (P := Tryd.prog) w plain_int (off := i * 1) (xs := padC y) (by rw [Nat.mul_one]; exact padC_at hy hi)
    have e3 := run_equalIn_int (P := Tryd.prog) w 9998 3 .i64 .i64 (x.getD i 0) (y.getD i 0) Tryd.underlying3
    simp only [Op.eqItems, Sem.run_bind, e1, e2, e3, Result.andThen_ok, List.all_cons]
    cases hb : x.getD i 0 == y.getD i 0
    · simp
    · simp [ih]
theorem pad_eq {x y : List Int} (hx : x.length ≤ 48) (hl : x.length = y.length) (w : World) : (Op.equalIn 10000 243 (.agg (padC x)) (.agg (padC y))).run Tryd.prog w = .ok (x == y) w := by
  obtain ⟨i0, hi, hz0, hz1, hz2⟩ := info_parts info_int
  rw [run_equalIn_array w 9999 (padC x) (padC y) under_pad hi, cells_int1, pad_items hx (by omega) w _ (fun i hi => List.mem_range.1 hi)]
  refine congrArg (fun b => Result.ok b w) ?_
  generalize hr : List.range 48 = r
  rw [Bool.eq_iff_iff, List.all_eq_true, beq_iff_eq]
  constructor
  · intro h
    refine list_ext_getD hl fun j hj => ?_
    have := h j (by rw [← hr]; exact List.mem_range.2 (by omega))
    rwa [beq_iff_eq] at this
  · rintro rfl i _
    exact beq_self_eq_true _
end Go.Proofs.YtpeaeminjbjlnaaDoor

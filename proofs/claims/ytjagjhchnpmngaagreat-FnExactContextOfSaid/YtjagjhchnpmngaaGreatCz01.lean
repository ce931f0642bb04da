/-
 Lists of items of several cells: lists that can be read, lists that are the call's own. Conditions: lengths are small.
-/
import Derived.Test.YtjagjhchnpmngaaGreatCz00
import Derived.Deep.RegionHeld3
import Derived.Shelf.Abstract
import Derived.Maps.OwnSet
import Derived.Deep.CutRange
set_option linter.unusedVariables false
set_option linter.unusedSimpArgs false
set_option maxRecDepth 100000
namespace Go.Proofs.YtjagjhchnpmngaaGreat
open Go.RowKit
structure Lay (α : Type) where
 ty : TypeId
 sz : Nat
 cs : α → List Value
 len : ∀ x, (cs x).length = sz
 pos : 0 < sz
section
variable {α : Type} {E : Lay α} {B : Nat} {w w' : World} {v : Value} {xs : List α}
theorem flat_len (E : Lay α) (xs : List α) : (xs.flatMap E.cs).length = xs.length * E.sz := by
 induction xs with
 | nil => simp
 | cons x l ih => rw [List.flatMap_cons, List.length_append, E.len, ih, List.length_cons, Nat.add_mul, Nat.one_mul, Nat.add_comm]
theorem flat_at (E : Lay α) (xs : List α) {i j : Nat} (hi : i < xs.length) (hj : j < E.sz) : (xs.flatMap E.cs)[i * E.sz + j]? = (E.cs xs[i])[j]? := by
 induction xs generalizing i with
 | nil => simp at hi
 | cons x l ih =>
  rw [List.flatMap_cons]
  cases i with
  | zero => rw [List.getElem?_append_left (by rw [E.len]; omega)]; simp
  | succ i =>
   have h1 : E.sz ≤ (i + 1) * E.sz := by rw [Nat.add_mul, Nat.one_mul]; omega
   rw [List.getElem?_append_right (by rw [E.len]; omega), E.len, show (i + 1) * E.sz + j - E.sz = i * E.sz + j by rw [Nat.add_mul, Nat.one_mul]; omega]
   simpa using ih (by simpa using hi)
theorem flat_set (E : Lay α) (xs : List α) {i j : Nat} {y : α} {u : Value} (hi : i < xs.length) (hj : j < E.sz) (hy : E.cs y = (E.cs xs[i]).set j u) : (xs.flatMap E.cs).set (i * E.sz + j) u = (xs.set i y).flatMap E.cs := by
 induction xs generalizing i with
 | nil => simp at hi
 | cons x l ih =>
  rw [List.flatMap_cons]
  cases i with
  | zero =>
   rw [List.set_append_left _ _ (by rw [E.len]; omega)]
   simp only [List.set_cons_zero, List.flatMap_cons, Nat.zero_mul, Nat.zero_add]
   rw [hy]; rfl
  | succ i =>
   have h1 : E.sz ≤ (i + 1) * E.sz := by rw [Nat.add_mul, Nat.one_mul]; omega
   rw [List.set_append_right _ _ (by rw [E.len]; omega), E.len, show (i + 1) * E.sz + j - E.sz = i * E.sz + j by rw [Nat.add_mul, Nat.one_mul]; omega]
   simp only [List.set_cons_succ, List.flatMap_cons]
   rw [ih (by simpa using hi) (by simpa using hy)]
def RdR (E : Lay α) (w : World) (v : Value) (xs : List α) : Prop :=
 ∃ a cap, v = .slice a xs.length cap ∧ (xs ≠ [] → ∃ d, a = some d ∧ d.spot = none ∧ d.block < w.heap.size ∧ ∀ i (h : i < xs.length) j, j < E.sz → w.cell? ⟨d.block, d.off + i * E.sz + j, none⟩ = (E.cs xs[i])[j]?)
def OwnR (E : Lay α) (B : Nat) (w : World) (v : Value) (xs : List α) : Prop := w.ownsRow B E.ty E.sz v xs.length (xs.flatMap E.cs)
theorem RdR.carry (h : RdR E w v xs) (hg : w.grownBy w' none) : RdR E w' v xs := by
 obtain ⟨a, cap, rfl, h⟩ := h
 refine ⟨a, cap, rfl, fun hz => ?_⟩
 obtain ⟨d, ha, hs, hd, hi⟩ := h hz
 exact ⟨d, ha, hs, Nat.lt_of_lt_of_le hd hg.size, fun i h j hj => (World.cell?_of_block (w := w) (a := ⟨d.block, d.off + i * E.sz + j, none⟩) (hg.block _ hd (by simp))).trans (hi i h j hj)⟩
theorem RdR.shape (h : RdR E w v xs) : ∃ a cap, v = .slice a xs.length cap := by
 obtain ⟨a, cap, rfl, _⟩ := h
 exact ⟨a, cap, rfl⟩
theorem RdR.at {a : Option Addr} {n cap : Nat} (h : RdR E w (.slice a n cap) xs) {i : Nat} (hi : i < xs.length) :
 ∃ b o, a = some ⟨b, o, none⟩ ∧ b < w.heap.size ∧ ∀ j, j < E.sz → w.cell? ⟨b, o + i * E.sz + j, none⟩ = (E.cs xs[i])[j]? := by
 obtain ⟨a', cap', he, h⟩ := h
 cases he
 obtain ⟨d, ha, hs, hd, hz⟩ := h (by intro h0; rw [h0] at hi; simp at hi)
 obtain ⟨db, dof, ds⟩ := d
 simp only at hs
 subst hs
 exact ⟨db, dof, ha, hd, hz i hi⟩
theorem RdR.nil (E : Lay α) (w : World) : RdR E w (.slice none 0 0) [] := ⟨none, 0, rfl, fun h => absurd rfl h⟩
theorem OwnR.nil (E : Lay α) (B : Nat) (w : World) : OwnR E B w (.slice none 0 0) [] := World.ownsRow_nil _ _ _ _
theorem OwnR.lt (h : OwnR E B w v xs) : ∀ k, Hits v k → B ≤ k ∧ k < w.heap.size := World.ownsRow.lt h
theorem OwnR.only {S : Nat → Prop} (h : OwnR E B w v xs) (ho : Only S w w') (hs : ∀ k, Hits v k → ¬ S k) : OwnR E B w' v xs := by
 obtain ⟨h1, h2⟩ := h
 refine ⟨h1, ?_⟩
 rcases h2 with h2 | ⟨g, cap, cur, hv, hg, hh, r⟩
 ·exact Or.inl h2
 ·have hlt : g < w.heap.size := by
   rcases Nat.lt_or_ge g w.heap.size with h | h
   ·exact h
   ·rw [Array.getElem?_eq_none h] at hh; cases hh
  exact Or.inr ⟨g, cap, cur, hv, hg, (ho.block g hlt (hs g (by rw [hv]; rfl))).trans hh, r⟩
theorem OwnR.rebase {B' : Nat} (h : OwnR E B w v xs) (hk : ∀ k, Hits v k → B' ≤ k) : OwnR E B' w v xs := by
 obtain ⟨h1, h2⟩ := h
 refine ⟨h1, ?_⟩
 rcases h2 with h2 | ⟨g, cap, cur, hv, hg, r⟩
 ·exact Or.inl h2
 ·exact Or.inr ⟨g, cap, cur, hv, hk g (by rw [hv]; rfl), r⟩
theorem OwnR.shape (h : OwnR E B w v xs) : ∃ a c, v = .slice a xs.length c := by
 rcases h.2 with ⟨rfl, h0⟩ | ⟨g, cap, cur, rfl, _⟩
 ·exact ⟨none, 0, by rw [h0]⟩
 ·exact ⟨_, _, rfl⟩
theorem OwnR.parts (h : OwnR E B w v xs) (hz : 0 < xs.length) : ∃ g cap, v = .slice (some ⟨g, 0, none⟩) xs.length cap ∧ B ≤ g ∧ g < w.heap.size ∧ xs.length ≤ cap := by
 obtain ⟨h1, h2⟩ := h
 rcases h2 with ⟨_, h0⟩ | ⟨g, cap, cur, rfl, hg, hh, hc, _⟩
 ·omega
 ·exact ⟨g, cap, rfl, hg, blk_lt hh, hc⟩
theorem OwnR.cell {g n cap : Nat} (h : OwnR E B w (.slice (some ⟨g, 0, none⟩) n cap) xs) (hn : n = xs.length) {i j : Nat} (hi : i < xs.length) (hj : j < E.sz) : w.cell? ⟨g, i * E.sz + j, none⟩ = (E.cs xs[i])[j]? := by
 subst hn
 have h1 : i * E.sz + j < xs.length * E.sz := by
  have : (i + 1) * E.sz ≤ xs.length * E.sz := Nat.mul_le_mul_right _ hi
  rw [Nat.add_mul, Nat.one_mul] at this
  omega
 rw [World.ownsRow.cellAt h _ h1, flat_at E xs hi hj]
theorem OwnR.free {g n cap : Nat} (h : OwnR E B w (.slice (some ⟨g, 0, none⟩) n cap) xs) (hn : n = xs.length) (j : Nat) : w.frozen? ⟨g, j, none⟩ = false := by
 subst hn
 exact World.ownsRow.frozenAt h j
theorem OwnR.put {g n cap : Nat} (h : OwnR E B w (.slice (some ⟨g, 0, none⟩) n cap) xs) (hn : n = xs.length) {i j : Nat} {y : α} {u : Value} (hi : i < xs.length) (hj : j < E.sz) (hy : E.cs y = (E.cs xs[i]).set j u) :
 OwnR E B (w.setCell ⟨g, i * E.sz + j, none⟩ u) (.slice (some ⟨g, 0, none⟩) n cap) (xs.set i y) ∧ Only (· = g) w (w.setCell ⟨g, i * E.sz + j, none⟩ u) := by
 subst hn
 have := World.ownsRow.stored h (i * E.sz + j) u
 refine ⟨?_, Only.of_grown this.2 fun k hk => (Option.some.inj hk).symm⟩
 have h1 := this.1
 unfold OwnR
 rw [List.length_set, ← flat_set E xs hi hj hy]
 exact h1
theorem OwnR.read (h : OwnR E B w v xs) : RdR E w v xs := by
 rcases h.2 with ⟨rfl, h0⟩ | ⟨g, cap, cur, rfl, hg, hh, hc, hm, hs, ht⟩
 ·exact ⟨none, 0, by rw [h0], fun hz => absurd (List.eq_nil_of_length_eq_zero h0) hz⟩
 ·refine ⟨some ⟨g, 0, none⟩, cap, rfl, fun _ => ⟨⟨g, 0, none⟩, rfl, rfl, blk_lt hh, fun i hi j hj => ?_⟩⟩
  simp only [Nat.zero_add]
  exact OwnR.cell h rfl hi hj
def OR (E : Lay α) (v : Value) (xs : List α) : Asrt := ⟨Hits v, Hits v, fun w => OwnR E 0 w v xs, fun _ h => h, fun w k h hk => (h.lt k hk).2, fun w w' h ho => h.only ho fun k hk h' => h' hk⟩
variable {w0 : World} {l : List Asrt} {u : Value}
theorem Sep.newR (h : Sep w l) (hg : w.grownBy w' none) (ho : OwnR E w.heap.size w' v xs) : Sep w' (OR E v xs :: l) := h.new hg (ho.rebase fun _ _ => Nat.zero_le _) fun k hk => (ho.lt k hk).1
theorem Sep.nilR (E : Lay α) (h : Sep w l) : Sep w (OR E nilS [] :: l) := h.new (⟨rfl, rfl, rfl, Nat.le_refl _, fun _ _ _ => rfl⟩) (OwnR.nil _ _ _) fun k hk => absurd hk nil_hits
theorem Sep.setR {g n cap : Nat} (h : Sep w (OR E (.slice (some ⟨g, 0, none⟩) n cap) xs :: l)) (hn : n = xs.length) {i j : Nat} {y : α} {u : Value} (hi : i < xs.length) (hj : j < E.sz) (hy : E.cs y = (E.cs xs[i]).set j u) :
 Sep (w.setCell ⟨g, i * E.sz + j, none⟩ u) (OR E (.slice (some ⟨g, 0, none⟩) n cap) (xs.set i y) :: l) := by
 obtain ⟨p1, p2⟩ := h.hd.put hn hi hj hy
 exact h.upd' (p2.mono fun k hk => by rw [hk]; rfl) p1 fun k hk => Or.inl hk
theorem OwnR.made {z : Value} {x : α} {n : Nat} {v : Value} (hz : z.cells.toList = E.cs x) (h : w.ownsRow B E.ty E.sz v n (madeCells z.cells (n * E.sz)).toList) : OwnR E B w v (List.replicate n x) := by
 have hs : z.cells.size = E.sz := by rw [← E.len x, ← hz]; simp
 have e : (madeCells z.cells (n * E.sz)).toList = (List.replicate n x).flatMap E.cs := by
  refine List.ext_getElem? fun k => ?_
  by_cases hk : k < n * E.sz
  ·have h1 : k / E.sz < n := Nat.div_lt_of_lt_mul (by rw [Nat.mul_comm]; exact hk)
   have h2 : k % E.sz < E.sz := Nat.mod_lt _ E.pos
   have h3 := flat_at E (List.replicate n x) (i := k / E.sz) (j := k % E.sz) (by simpa using h1) h2
   rw [show k / E.sz * E.sz + k % E.sz = k by rw [Nat.mul_comm]; exact Nat.div_add_mod _ _] at h3
   rw [h3, List.getElem_replicate, ← hz]
   have h4 : k % z.cells.size < z.cells.size := by rw [hs]; exact h2
   rw [show k % E.sz = k % z.cells.size by rw [hs], Array.getElem?_toList, Array.getElem?_toList]
   unfold madeCells
   rw [Array.getElem?_map, Array.getElem?_range, if_pos hk, Option.map_some, getElem!_pos z.cells _ h4, Array.getElem?_eq_getElem h4]
  ·rw [List.getElem?_eq_none (by simp [madeCells]; omega), List.getElem?_eq_none (by rw [flat_len, List.length_replicate]; omega)]
 unfold OwnR
 rw [List.length_replicate, ← e]
 exact h
end
section
variable {α : Type} {E : Lay α} {ops : Array Oper} {rest : List Oper} {o : Oper} {a : Act} {Q : Exit → Act → World → Prop} {K : Act → World → Prop} {Ex : Prop} {w : World} {v u : Value} {xs : List α} {l : List Asrt} {y : α} {t : TypeId} {z : Value} {bytes : Nat}
theorem news_cells {w : World} {cs : Array Value} {t : TypeId} : ∀ j x, cs.toList[j]? = some x → (w.alloc (.cells cs t)).cell? ((⟨w.heap.size, 0, none⟩ : Addr).add j) = some x :=
 World.news_of_block (alloc_heap_new w _)
theorem wp_app_R (hinfo : (Tryz.prog.info? E.ty).map (fun i => (i.zero, i.size, i.bytes)) = some (some z, E.sz, bytes)) (hzs : z.cells.size = E.sz) (hby : bytes ≤ 10000) (ht : Tryz.prog.underlying t = some (.slice E.ty)) (hone : ∀ u ∈ E.cs y, u.oneCell' = true)
 (s x : Operand) (ho : o.op = .call { callee := .builtin .append, args := #[s, x], argTypes := #[t, t] })
 (hs : a.eval s = v) (hx : a.eval x = .slice (some ⟨w.heap.size, 0, none⟩) 1 1) {cs : Array Value} (hcs : cs.toList = E.cs y) (H : Sep w (OR E v xs :: l)) (hl : xs.length ≤ 10000000)
 (h : ∀ g cap w', Sep w' (OR E (.slice (some ⟨g, 0, none⟩) (xs.length + 1) cap) (xs ++ [y]) :: l) → K (a.put o.dst (.slice (some ⟨g, 0, none⟩) (xs.length + 1) cap)) w') :
 o.wp Tryz.prog a (w.alloc (.cells cs E.ty)) K Q := by
 obtain ⟨i0, hi, hz0, hz1, hz2⟩ := info_parts hinfo
 have H1 := H.al (.cells cs E.ty)
 have hb : (xs.length + 1) * bytes ≤ 140737488355328 := Nat.le_trans (Nat.mul_le_mul (show xs.length + 1 ≤ 10000001 by omega) hby) (by decide)
 refine wp_append_lies (P := Tryz.prog) _ s x t ho 0 E.ty i0 z E.sz bytes ht hi hz0 hz1 hz2 hzs E.pos v xs.length (xs.flatMap E.cs) hs H1.hd
  ⟨w.heap.size, 0, none⟩ 1 1 (E.cs y) hx (by rw [E.len]; omega) (fun j x hj => news_cells j x (by rw [hcs]; exact hj)) hone (by omega) (by unfold maxLen; omega) hb (Nat.zero_le _) _ rfl ?_
 intro g cap w1 hown' hgrow hg _
 have ho' : OwnR E 0 w1 (.slice (some ⟨g, 0, none⟩) (xs.length + 1) cap) (xs ++ [y]) := by simpa [OwnR] using hown'
 refine h g cap w1 (H1.upd' (Only.of_grown (S := Hits v) hgrow fun k hk => hk) ho' fun k hk => ?_)
 have : g = k := by simpa [OR, Hits, Value.ownBlock] using hk
 subst this
 exact hg.imp id (fun h => Nat.le_of_eq h.symm)
theorem app_R (hinfo : (Tryz.prog.info? E.ty).map (fun i => (i.zero, i.size, i.bytes)) = some (some z, E.sz, bytes)) (hzs : z.cells.size = E.sz) (hby : bytes ≤ 10000) (ht : Tryz.prog.underlying t = some (.slice E.ty)) (hone : ∀ u ∈ E.cs y, u.oneCell' = true)
 (hgd : o.guard = none) (s x : Operand) (ho : o.op = .call { callee := .builtin .append, args := #[s, x], argTypes := #[t, t] })
 (hs : a.eval s = v) (hx : a.eval x = .slice (some ⟨w.heap.size, 0, none⟩) 1 1) {cs : Array Value} (hcs : cs.toList = E.cs y) (H : Sep w (OR E v xs :: l)) (hl : xs.length ≤ 10000000)
 (h : ∀ g cap w', Sep w' (OR E (.slice (some ⟨g, 0, none⟩) (xs.length + 1) cap) (xs ++ [y]) :: l) → wpList Tryz.prog ops Q rest (a.put o.dst (.slice (some ⟨g, 0, none⟩) (xs.length + 1) cap)) w') :
 wpList Tryz.prog ops Q (o :: rest) a (w.alloc (.cells cs E.ty)) :=
 wpList_plain hgd fun _ hK => wp_app_R hinfo hzs hby ht hone s x ho hs hx hcs H hl fun g cap w' h1 => hK _ _ (h g cap w' h1)
end
def boolE : Lay Bool := ⟨4, 1, fun b => [.bool b], fun _ => rfl, by decide⟩
theorem info_bool : (Tryz.prog.info? boolE.ty).map (fun i => (i.zero, i.size, i.bytes)) = some (some (.bool false), boolE.sz, 1) := by kernel_rfl
theorem bool_cell {w : World} {g n cap B : Nat} {bs : List Bool} (h : OwnR boolE B w (.slice (some ⟨g, 0, none⟩) n cap) bs) (hn : n = bs.length) {i : Nat} (hi : i < n) : w.cell? ⟨g, i, none⟩ = some (.bool (bs.getD i false)) := by
 have h1 := h.cell (E := boolE) hn (i := i) (j := 0) (by omega) (by decide)
 have e : bs.getD i false = bs[i]'(by omega) := by rw [List.getD_eq_getElem?_getD, List.getElem?_eq_getElem (by omega)]; rfl
 rw [e]
 have e2 : i * boolE.sz + 0 = i := Nat.mul_one i
 rw [e2] at h1
 exact h1
theorem bool_free {w : World} {g n cap B : Nat} {bs : List Bool} (h : OwnR boolE B w (.slice (some ⟨g, 0, none⟩) n cap) bs) (hn : n = bs.length) (i : Nat) : w.frozen? ⟨g, i, none⟩ = false := h.free hn i
theorem Sep.setBo {w : World} {g n cap : Nat} {bs : List Bool} {l : List Asrt} (h : Sep w (OR boolE (.slice (some ⟨g, 0, none⟩) n cap) bs :: l)) (hn : n = bs.length) {i : Nat} (hi : i < n) (x : Bool) :
 Sep (w.setCell ⟨g, i, none⟩ (.bool x)) (OR boolE (.slice (some ⟨g, 0, none⟩) n cap) (bs.set i x) :: l) := by
 have h1 := h.setR (E := boolE) hn (i := i) (j := 0) (y := x) (u := .bool x) (by omega) (by decide) rfl
 have e2 : i * boolE.sz + 0 = i := Nat.mul_one i
 rw [e2] at h1
 exact h1
theorem falseCells : (Value.bool false).cells.toList = boolE.cs false := rfl
end Go.Proofs.YtjagjhchnpmngaaGreat
namespace Go.Proofs.YtjagjhchnpmngaaGreat
end Go.Proofs.YtjagjhchnpmngaaGreat
namespace Go.Proofs.YtjagjhchnpmngaaGreat
open Go.RowKit
theorem wrap_id {x : Int} (h0 : -9223372036854775808 ≤ x) (h1 : x ≤ 9223372036854775807) : IntKind.i64.wrap x = x := by
 rw [IntKind.wrap_i64]; omega
theorem szIntS_any (a : Option Addr) (n c : Nat) (left : Int) (w : World) (h0 : 0 ≤ left) (h1 : left ≤ 1048576) (hn : n ≤ 9223372036854775807) :
 Calls Tryz.prog 27 #[.slice a n c, .int .i64 left] w fun e w' => e = .returned (.int .i64 (if left - n < 0 then -1 else left - n)) ∧ w = w' := by
 have hw := wrap_id (x := left - n) (by omega) (by omega)
 by_cases h : left - n < 0
 ·rw [if_pos h]
  go_enter Tryz.func27, Tryz.ntmps27
  go_wp2
  go_ret
  exact ⟨rfl, rfl⟩
 ·rw [if_neg h]
  go_enter Tryz.func27, Tryz.ntmps27
  go_wp2
  go_ret
  exact ⟨rfl, rfl⟩
theorem fill_set {zs : List Int} {n k : Nat} (hl : zs.length = n) (hk : k < n) : (zs.take k ++ List.replicate (n - k) (0 : Int)).set k (zs.getD k 0) = zs.take (k + 1) ++ List.replicate (n - (k + 1)) 0 := by
 have h1 : (zs.take k).length = k := by rw [List.length_take]; omega
 have h2 : n - k = (n - (k + 1)) + 1 := by omega
 rw [List.set_append_right _ _ (by omega), h1, Nat.sub_self, h2, List.replicate_succ, List.set_cons_zero]
 rw [List.take_succ_eq_append_getElem (by omega), List.getD_eq_getElem?_getD, List.getElem?_eq_getElem (by omega), List.append_assoc]
 rfl
theorem IntsV.atD {w : World} {a : Option Addr} {n cap : Nat} {zs : List Int} (h : IntsV w (.slice a n cap) zs) {i : Nat} (hi : i < zs.length) :
 ∃ b o, a = some ⟨b, o, none⟩ ∧ b < w.heap.size ∧ w.cell? ⟨b, o + i, none⟩ = some (.int .i64 (zs.getD i 0)) := by
 obtain ⟨a', cap', he, h⟩ := h
 cases he
 obtain ⟨d, ha, hs, hd, hz⟩ := h (by intro h0; rw [h0] at hi; simp at hi)
 obtain ⟨db, dof, ds⟩ := d
 simp only at hs
 subst hs
 refine ⟨db, dof, ha, hd, ?_⟩
 rw [List.getD_eq_getElem?_getD, List.getElem?_eq_getElem hi]
 exact hz i hi
theorem OwnInts.cellQ {B g n cap : Nat} {w : World} {zs : List Int} (h : OwnInts B w (.slice (some ⟨g, 0, none⟩) n cap) zs) (hn : n = zs.length) {j : Nat} (hj : j < n) : ∃ q, w.cell? ⟨g, j, none⟩ = some (.int .i64 q) :=
 ⟨_, h.cell hn (by rw [← hn]; exact hj)⟩
theorem IntsV.shape {w : World} {v : Value} {zs : List Int} (h : IntsV w v zs) : ∃ a cap, v = .slice a zs.length cap := by
 obtain ⟨a, cap, rfl, _⟩ := h
 exact ⟨a, cap, rfl⟩
theorem toIntS_any (v : Value) (zs : List Int) (w : World) (hv : IntsV w v zs) (hl : zs.length ≤ 2000000) :
 Calls Tryz.prog 34 #[v] w fun e w' => ∃ g c, e = .returned (.slice (some ⟨g, 0, none⟩) zs.length c) ∧ Sep w' [OI (.slice (some ⟨g, 0, none⟩) zs.length c) zs, KeepA w] := by
 obtain ⟨i0, hi, hz0, hz1, hz2⟩ := info_parts info_int
 have HI := qd hi; have HZ0 := qd hz0; have HZ1 := qd hz1; have HZ2 := qd hz2
 have HV := qd hv
 obtain ⟨a, cap, rfl⟩ := hv.shape
 generalize hlen : zs.length = n at *
 have HL := qd hlen
 clear hi hz0 hz1 hz2 hv hlen
 go_enter Tryz.func34, Tryz.ntmps34
 go_wp2_with (
  at_make
  refine wpList_make_full _ rfl _ _ 23 rfl w.heap.size 3 i0 (.int .i64 0) 1 Tryz.underlying23 HI.out HZ0.out HZ1.out _ _ _ _ n rfl rfl rfl rfl (by rw [HZ2.out]; omega) (by unfold maxLen; omega) (Nat.le_refl _) ?_
  intro w1 hown' hgr'
  have hs0 : Sep w1 [OI (.slice (some ⟨w.heap.size, 0, none⟩) n n) (List.replicate n 0), KeepA w] := (Sep.start w).newI hgr' (by
   rw [madeCells_int] at hown'
   unfold OwnInts
   rw [List.length_replicate]
   exact hown')
  have HS := qd hs0
  clear hs0 hown' hgr')
 go_loopw [4] (fun i wr => ∃ k : Nat, k ≤ n ∧ i = .int .i64 k ∧ Sep wr [OI (.slice (some ⟨w.heap.size, 0, none⟩) n n) (zs.take k ++ List.replicate (n - k) 0), KeepA w]) (fun i _ => n - (intOf i).toNat)
 case atStart => exact ⟨0, by omega, rfl, by simpa using HS.out⟩
 case round =>
  obtain ⟨k, hk, rfl, hs⟩ := hrel
  have HSX := qd hs
  clear hs
  by_cases hlt : k < n
  ·obtain ⟨b, o, rfl, hb, hc⟩ := (HV.out.carry HSX.out.tl.hd).atD (i := k) (by rw [HL.out]; exact hlt)
   have hll : n = (zs.take k ++ List.replicate (n - k) (0 : Int)).length := by rw [List.length_append, List.length_take, List.length_replicate, HL.out]; omega
   have hf := HSX.out.hd.free hll k
   obtain ⟨q, hc0⟩ := HSX.out.hd.cellQ hll (j := k) hlt
   have hset := HSX.out.setI hll k (zs.getD k 0)
   rw [fill_set HL.out hlt] at hset
   have HSET := qd hset
   clear hll hset
   generalize zs.getD k 0 = z at *
   go_wp2
   go_roundw
   case rel => exact ⟨k + 1, by omega, by go_num, HSET.out⟩
   case measure => simp [intOf]; omega
  ·have hkn : k = n := by omega
   subst hkn
   clear hlt
   go_wp2
   go_ret
   have := HSX.out
   rw [List.take_of_length_le (by rw [HL.out]; omega), Nat.sub_self, List.replicate_zero, List.append_nil] at this
   exact ⟨_, _, rfl, this⟩
theorem l1In_any (n lo hi : Int) (w : World) : Calls Tryz.prog 91 #[.int .i64 n, .int .i64 lo, .int .i64 hi] w fun e w' => e = .returned (.bool (decide (lo ≤ n ∧ n ≤ hi))) ∧ w = w' := by
 by_cases h0 : lo ≤ n <;> by_cases h1 : n ≤ hi
 all_goals
  go_enter Tryz.func91, Tryz.ntmps91
  go_wp2
  go_ret
  exact ⟨by simp [h0, h1], rfl⟩
theorem IntsV.at {w : World} {a : Option Addr} {n cap : Nat} {zs : List Int} (h : IntsV w (.slice a n cap) zs) {i : Nat} (hi : i < zs.length) :
 ∃ d : Addr, a = some d ∧ d.spot = none ∧ d.block < w.heap.size ∧ w.cell? ⟨d.block, d.off + i, none⟩ = some (.int .i64 zs[i]) := by
 obtain ⟨a', cap', he, h⟩ := h
 cases he
 obtain ⟨d, ha, hs, hd, hz⟩ := h (by intro h0; rw [h0] at hi; simp at hi)
 exact ⟨d, ha, hs, hd, hz i hi⟩
theorem within_any (n lo hi : Int) (w : World) : Calls Tryz.prog 84 #[.int .i64 n, .int .i64 lo, .int .i64 hi] w fun e w' => e = .returned (.bool (decide (lo ≤ n ∧ n ≤ hi))) ∧ w = w' := by
 by_cases h0 : lo ≤ n <;> by_cases h1 : n ≤ hi
 all_goals
  go_enter Tryz.func84, Tryz.ntmps84
  go_wp2
  go_ret
  exact ⟨by simp [h0, h1], rfl⟩
theorem l1All_any (lo hi : Int) (v : Value) (zs : List Int) (w : World) (hv : IntsV w v zs) (hl : zs.length ≤ 1000000) :
 Calls Tryz.prog 92 #[v, .int .i64 lo, .int .i64 hi] w fun e w' => e = .returned (.bool (zs.all fun n => decide (lo ≤ n ∧ n ≤ hi))) ∧ w = w' := by
 have HV := qd hv
 obtain ⟨a, c, rfl, hx⟩ := hv
 clear hx
 generalize hlen : zs.length = l at *
 have HL := qd hlen
 clear hlen
 generalize hbb : (zs.all fun n => decide (lo ≤ n ∧ n ≤ hi)) = bb
 have HBB := qd hbb
 clear hbb
 go_enter Tryz.func92, Tryz.ntmps92
 go_wp2
 go_loop [11] (fun i => ∃ k : Nat, k ≤ l ∧ i = .int .i64 k ∧ ∀ j (h : j < zs.length), j < k → decide (lo ≤ zs[j] ∧ zs[j] ≤ hi) = true) (fun i => l - (intOf i).toNat)
 case atStart => exact ⟨0, by omega, rfl, fun _ _ h => absurd h (by omega)⟩
 case round =>
  obtain ⟨k, hk, rfl, ho⟩ := hrel
  have HO := qd ho
  clear ho
  by_cases hlt : k < l
  ·have hkl : k < zs.length := by rw [HL.out]; exact hlt
   obtain ⟨d, rfl, hs, hd, hc⟩ := HV.out.at hkl
   obtain ⟨db, dof, _⟩ := d
   simp only at hs hc
   subst hs
   generalize hz : zs[k] = z at *
   have HZ := qd hz
   clear hz hd
   have A := qd (l1In_any z lo hi w)
   cases he : decide (lo ≤ z ∧ z ≤ hi)
   ·rw [he] at A
    have hfin : (zs.all fun n => decide (lo ≤ n ∧ n ≤ hi)) = false := by
     refine List.all_eq_false.2 ⟨zs[k], List.getElem_mem _, ?_⟩
     rw [HZ.out, he]
     simp
    have HF := qd hfin
    clear hfin he
    go_wp2_with (go_at_call 91; with_reducible refine A.out.mono ?_; rintro e w' ⟨rfl, rfl⟩)
    go_ret
    exact ⟨by rw [← HBB.out, HF.out]; rfl, rfl⟩
   ·rw [he] at A
    have HE := qd he
    clear he
    go_wp2_with (go_at_call 91; with_reducible refine A.out.mono ?_; rintro e w' ⟨rfl, rfl⟩)
    go_round
    case rel => exact ⟨k + 1, by omega, by go_num, fun j h hj => by
     by_cases hjk : j = k
     ·subst hjk; rw [HZ.out]; exact HE.out
     ·exact HO.out j h (by omega)⟩
    case measure => simp [intOf]; omega
  ·have hfin : (zs.all fun n => decide (lo ≤ n ∧ n ≤ hi)) = true := by
    refine List.all_eq_true.2 fun x hx => ?_
    obtain ⟨j, hj, rfl⟩ := List.getElem_of_mem hx
    exact HO.out j hj (by have := HL.out; omega)
   have HF := qd hfin
   clear hfin
   go_wp2
   go_ret
   exact ⟨by rw [← HBB.out, HF.out]; rfl, rfl⟩
theorem eqIntS_any (v1 v2 : Value) (x y : List Int) (w : World) (h1 : IntsV w v1 x) (h2 : IntsV w v2 y) (l1 : x.length ≤ 1000000000) (l2 : y.length ≤ 1000000000) :
 Calls Tryz.prog 44 #[v1, v2] w fun e w' => e = .returned (.bool (decide (x = y))) ∧ w.grownBy w' none := by
 have H1 := qd h1; have H2 := qd h2
 obtain ⟨a1, c1, rfl⟩ := h1.shape
 obtain ⟨a2, c2, rfl⟩ := h2.shape
 clear h1 h2
 by_cases hl : x.length = y.length
 ·generalize hlx : x.length = l at *
  have HLX := qd hlx; have HLY := qd hl
  rw [← HLY.out]
  clear hlx hl
  go_enter Tryz.func44, Tryz.ntmps44
  go_wp2
  go_loopw [5] (fun i wr => ∃ k : Nat, k ≤ l ∧ i = .int .i64 k ∧ (∀ j, j < k → x.getD j 0 = y.getD j 0) ∧ w.grownBy wr none) (fun i _ => l - (intOf i).toNat)
  case atStart => exact ⟨0, by omega, rfl, fun _ h => absurd h (by omega), grownBy_refl _ _⟩
  case round =>
   obtain ⟨k, hk, rfl, ho, hg⟩ := hrel
   have HO := qd ho; have HG := qd hg
   clear ho hg
   by_cases hlt : k < l
   ·obtain ⟨b1, o1, rfl, hb1, hc1⟩ := (H1.out.carry HG.out).atD (i := k) (by rw [HLX.out]; exact hlt)
    obtain ⟨b2, o2, rfl, hb2, hc2⟩ := (H2.out.carry HG.out).atD (i := k) (by rw [← HLY.out]; exact hlt)
    generalize hzx : x.getD k 0 = zx at hc1
    generalize hzy : y.getD k 0 = zy at hc2
    have HZX := qd hzx; have HZY := qd hzy
    clear hzx hzy hb1 hb2
    by_cases he : zx = zy
    ·subst he
     go_wp2
     go_quiet (fail)
     go_wp2
     go_roundw
     case rel => exact ⟨k + 1, by omega, by go_num, fun j hj => by
      by_cases hjk : j = k
      ·subst hjk; rw [HZX.out, HZY.out]
      ·exact HO.out j (by omega), ⟨HG.out.os, HG.out.tape, HG.out.output, HG.out.size, HG.out.block⟩⟩
     case measure => simp [intOf]; omega
    ·have hb : (zx != zy) = true := by rw [bne_iff_ne]; exact he
     have hfin : decide (x = y) = false := by
      rw [decide_eq_false_iff_not]
      intro h
      subst h
      exact he (HZX.out.symm.trans HZY.out)
     have HF := qd hfin
     clear hfin he
     go_wp2
     go_quiet (fail)
     go_wp2
     go_ret
     exact ⟨by rw [HF.out]; rfl, ⟨HG.out.os, HG.out.tape, HG.out.output, HG.out.size, HG.out.block⟩⟩
   ·have hfin : decide (x = y) = true := by
     rw [decide_eq_true_iff]
     refine List.ext_getElem (by rw [HLX.out, HLY.out]) fun j h h' => ?_
     have := HO.out j (by have := HLX.out; omega)
     rwa [List.getD_eq_getElem?_getD, List.getElem?_eq_getElem h, List.getD_eq_getElem?_getD, List.getElem?_eq_getElem h'] at this
    have HF := qd hfin
    clear hfin
    go_wp2
    go_ret
    exact ⟨by rw [HF.out]; rfl, HG.out⟩
 ·have hfin : decide (x = y) = false := by
   rw [decide_eq_false_iff_not]
   intro h
   exact hl (by rw [h])
  have hb : ((x.length : Int) != y.length) = true := by rw [bne_iff_ne]; omega
  have HF := qd hfin
  clear hfin hl
  go_enter Tryz.func44, Tryz.ntmps44
  go_wp2
  go_ret
  exact ⟨by rw [HF.out]; rfl, grownBy_refl _ _⟩
def cntI (k : Int) (n : Nat) : List Int := (List.range n).map fun (i : Nat) => k + (i : Int)
theorem cntI_len (k : Int) (n : Nat) : (cntI k n).length = n := by simp [cntI]
theorem cntI_at (k : Int) {n i : Nat} (h : i < n) : (cntI k n).getD i 0 = k + i := by
 unfold cntI
 rw [List.getD_eq_getElem?_getD, List.getElem?_map, List.getElem?_range h]
 rfl
theorem cntI_succ (k : Int) (n : Nat) : cntI k (n + 1) = cntI k n ++ [k + n] := by simp [cntI, List.range_succ]
theorem mark_set {zs : List Int} {n j : Nat} {k : Int} (hl : zs.length = n) (hj : j < n) : (cntI k j ++ zs.drop j).set j (k + j) = cntI k (j + 1) ++ zs.drop (j + 1) := by
 rw [List.set_append_right _ _ (by rw [cntI_len]; omega), cntI_len, Nat.sub_self, List.drop_eq_getElem_cons (by omega), List.set_cons_zero, cntI_succ]
 simp
theorem markIntS_any (a : Option Addr) (n c : Nat) (zs : List Int) (k : Int) (w : World) (l : List Asrt) (hs : Sep w (OI (.slice a n c) zs :: l)) (hn : n = zs.length) (hl : n ≤ 2000000) (h0 : 0 ≤ k) (h1 : k ≤ 100000000) :
 Calls Tryz.prog 47 #[.slice a n c, .int .i64 k] w fun e w' => e = .returned (.int .i64 (k + n)) ∧ Sep w' (OI (.slice a n c) (cntI k n) :: l) := by
 have HS := qd hs; have HL := qd hn.symm
 clear hs hn
 go_enter Tryz.func47, Tryz.ntmps47
 go_wp2
 go_loopw [1, 5] (fun kv i wr => ∃ j : Nat, j ≤ n ∧ i = .int .i64 j ∧ kv = .int .i64 (k + j) ∧ Sep wr (OI (.slice a n c) (cntI k j ++ zs.drop j) :: l)) (fun _ i _ => n - (intOf i).toNat)
 case atStart => exact ⟨0, by omega, rfl, by simp, by simpa [cntI] using HS.out⟩
 case round =>
  obtain ⟨j, hj, rfl, rfl, hs⟩ := hrel
  have HSX := qd hs
  clear hs
  by_cases hlt : j < n
  ·have hll : n = (cntI k j ++ zs.drop j).length := by rw [List.length_append, cntI_len, List.length_drop, HL.out]; omega
   obtain ⟨g, cap, he, _, _, _⟩ := HSX.out.hd.parts (by intro h; have := congrArg List.length h; rw [← hll, List.length_nil] at this; omega)
   rw [← hll] at he
   cases he
   have hf := HSX.out.hd.free hll j
   obtain ⟨q, hc⟩ := HSX.out.hd.cellQ hll (j := j) hlt
   have hset := HSX.out.setI hll j (k + j)
   rw [mark_set HL.out hlt] at hset
   have HSET := qd hset
   have hw := wrap_id (x := k + j + 1) (by omega) (by omega)
   have hw2 := wrap_id (x := (j : Int) + 1) (by omega) (by omega)
   clear hll hset
   go_wp2
   go_roundw
   case rel => exact ⟨j + 1, by omega, by go_num, by congr 1; omega, HSET.out⟩
   case measure => simp [intOf]; omega
  ·have hjn : j = n := by omega
   subst hjn
   clear hlt
   go_wp2
   go_ret
   have := HSX.out
   rw [List.drop_of_length_le (by rw [HL.out]; omega), List.append_nil] at this
   exact ⟨rfl, this⟩
theorem heldIntS_any (a : Option Addr) (n c : Nat) (k : Int) (w : World) (hv : IntsV w (.slice a n c) (cntI k n)) (hl : n ≤ 2000000) (h0 : 0 ≤ k) (h1 : k ≤ 100000000) :
 Calls Tryz.prog 50 #[.slice a n c, .int .i64 k] w fun e w' => e = .returned (.int .i64 (k + n)) ∧ w = w' := by
 have HV := qd hv
 clear hv
 go_enter Tryz.func50, Tryz.ntmps50
 go_wp2
 go_loop [1, 5] (fun kv i => ∃ j : Nat, j ≤ n ∧ i = .int .i64 j ∧ kv = .int .i64 (k + j)) (fun _ i => n - (intOf i).toNat)
 case atStart => exact ⟨0, by omega, rfl, by simp⟩
 case round =>
  obtain ⟨j, hj, rfl, rfl⟩ := hrel
  by_cases hlt : j < n
  ·obtain ⟨b, o, rfl, hb, hc⟩ := HV.out.atD (i := j) (by rw [cntI_len]; exact hlt)
   rw [cntI_at k hlt] at hc
   have hw := wrap_id (x := k + j + 1) (by omega) (by omega)
   go_wp2
   go_round
   case rel => exact ⟨j + 1, by omega, by go_num, by congr 1; omega⟩
   case measure => simp [intOf]; omega
  ·have hjn : j = n := by omega
   subst hjn
   clear hlt
   go_wp2
   go_ret
   exact ⟨rfl, rfl⟩
theorem gr1 (w : World) (a : Obj) : w.grownBy (w.alloc a) none := World.grownBy_alloc w a none
theorem gr2 (w : World) (a b : Obj) : w.grownBy ((w.alloc a).alloc b) none := grownBy_trans (gr1 w a) (gr1 _ b)
theorem gr3 (w : World) (a b c : Obj) : w.grownBy (((w.alloc a).alloc b).alloc c) none := grownBy_trans (gr2 w a b) (gr1 _ c)
theorem getD_mem' {zs : List Int} {k : Nat} (h : k < zs.length) : zs.getD k 0 ∈ zs := by
 rw [List.getD_eq_getElem?_getD, List.getElem?_eq_getElem h]
 exact List.getElem_mem _
def upL (n : Nat) : List Int := (List.range n).map fun (i : Nat) => (i : Int)
theorem upL_len (n : Nat) : (upL n).length = n := by simp [upL]
theorem upL_succ (n : Nat) : upL (n + 1) = upL n ++ [(n : Int)] := by simp [upL, List.range_succ]
theorem up_set {n k : Nat} (hk : k < n) : (upL k ++ List.replicate (n - k) (0 : Int)).set k (k : Int) = upL (k + 1) ++ List.replicate (n - (k + 1)) 0 := by
 rw [List.set_append_right _ _ (by rw [upL_len]; omega), upL_len, Nat.sub_self, show n - k = (n - (k + 1)) + 1 by omega, List.replicate_succ, List.set_cons_zero, upL_succ]
 simp
theorem zeros_full (n : Nat) (w : World) (hl : n ≤ 1000000) :
 Calls Tryz.prog 82 #[.int .i64 n] w fun e w' => ∃ g c, e = .returned (.slice (some ⟨g, 0, none⟩) n c) ∧ Sep w' [OI (.slice (some ⟨g, 0, none⟩) n c) (List.replicate n 0), KeepA w] := by
 obtain ⟨i0, hi, hz0, hz1, hz2⟩ := info_parts info_int
 have HI := qd hi; have HZ0 := qd hz0; have HZ1 := qd hz1; have HZ2 := qd hz2
 clear hi hz0 hz1 hz2
 go_enter Tryz.func82, Tryz.ntmps82
 go_wp2_with (
  at_make
  refine wpList_make_full _ rfl _ _ 23 rfl w.heap.size 3 i0 (.int .i64 0) 1 Tryz.underlying23 HI.out HZ0.out HZ1.out _ _ _ _ n rfl rfl rfl rfl (by rw [HZ2.out]; omega) (by unfold maxLen; omega) (Nat.le_refl _) ?_
  intro w1 hown' hgr'
  have hs0 : Sep w1 [OI (.slice (some ⟨w.heap.size, 0, none⟩) n n) (List.replicate n 0), KeepA w] := (Sep.start w).newI hgr' (by
   rw [madeCells_int] at hown'
   unfold OwnInts
   rw [List.length_replicate]
   exact hown')
  have HS := qd hs0
  clear hs0 hown' hgr')
 go_ret
 exact ⟨_, _, rfl, HS.out⟩
theorem upTo_any (n : Nat) (w : World) (hl : n ≤ 1000000) :
 Calls Tryz.prog 77 #[.int .i64 n] w fun e w' => ∃ g c, e = .returned (.slice (some ⟨g, 0, none⟩) n c) ∧ Sep w' [OI (.slice (some ⟨g, 0, none⟩) n c) (upL n), KeepA w] := by
 have HZ := qd (zeros_full n w hl)
 go_enter Tryz.func77, Tryz.ntmps77
 go_wp2_with (
  go_at_call 82
  refine HZ.out.mono ?_
  rintro e w2 ⟨g, c, rfl, hs⟩
  have HS := qd hs
  clear hs)
 go_loopw [4, 9] (fun _ i wr => ∃ k : Nat, k ≤ n ∧ i = .int .i64 k ∧ Sep wr [OI (.slice (some ⟨g, 0, none⟩) n c) (upL k ++ List.replicate (n - k) 0), KeepA w]) (fun _ i _ => n - (intOf i).toNat)
 case atStart => exact ⟨0, by omega, rfl, by simpa [upL] using HS.out⟩
 case round =>
  obtain ⟨k, hk, rfl, hs⟩ := hrel
  have HSX := qd hs
  clear hs
  by_cases hlt : k < n
  ·have hll : n = (upL k ++ List.replicate (n - k) (0 : Int)).length := by rw [List.length_append, upL_len, List.length_replicate]; omega
   have hf := HSX.out.hd.free hll k
   obtain ⟨q, hc0⟩ := HSX.out.hd.cellQ hll (j := k) hlt
   have hset := HSX.out.setI hll k (k : Int)
   rw [up_set hlt] at hset
   have HSET := qd hset
   clear hll hset
   go_wp2
   go_roundw
   case rel => exact ⟨k + 1, by omega, by go_num, HSET.out⟩
   case measure => simp [intOf]; omega
  ·have hkn : k = n := by omega
   subst hkn
   clear hlt
   go_wp2
   go_ret
   have := HSX.out
   rw [Nat.sub_self, List.replicate_zero, List.append_nil] at this
   exact ⟨_, _, rfl, this⟩
end Go.Proofs.YtjagjhchnpmngaaGreat
namespace Go.Proofs.YtjagjhchnpmngaaGreat
open Go.RowKit Go.Maps
def MapIs (w : World) (b : Nat) (op : List Bool) : Prop :=
 ∃ D, w.ownsMap Tryz.prog 3 (plainElem (H := Unit) Tryz.prog 4) b (nOpen op) D ∧ size D = nOpen op ∧
  ∀ i : Nat, has D (.int .i64 i) = op.getD i false ∧ D.atKey (.int .i64 i) (.lit (.bool false)) = .lit (.bool (op.getD i false))
theorem tight {w : World} {b n : Nat} {D : DataW Unit} (h : w.ownsMap Tryz.prog 3 (plainElem Tryz.prog 4) b n D) : w.ownsMap Tryz.prog 3 (plainElem Tryz.prog 4) b (size D) D := by
 obtain ⟨es, clock, hb, F, hs, rfl⟩ := h
 exact ⟨es, clock, hb, F, by rw [size_eq, length_sorted]; simp, rfl⟩
theorem MapIs.of {w : World} {b n : Nat} {D : DataW Unit} {op : List Bool} (h : w.ownsMap Tryz.prog 3 (plainElem Tryz.prog 4) b n D) (hs : size D = nOpen op) (hv : ∀ i : Nat, has D (.int .i64 i) = op.getD i false ∧ D.atKey (.int .i64 i) (.lit (.bool false)) = .lit (.bool (op.getD i false))) : MapIs w b op :=
 ⟨D, hs ▸ tight h, hs, hv⟩
theorem MapIs.lt {w : World} {b : Nat} {op : List Bool} (h : MapIs w b op) : b < w.heap.size := by
 obtain ⟨D, h, _⟩ := h
 exact h.lt
theorem MapIs.only {w w' : World} {b : Nat} {op : List Bool} (h : MapIs w b op) (ho : Only (fun k => ¬ k = b) w w') : MapIs w' b op := by
 obtain ⟨D, h, h2⟩ := h
 have hlt := h.lt
 obtain ⟨es, clock, hb, F, hs, hD⟩ := h
 exact ⟨D, ⟨es, clock, (ho.block b hlt fun h => h rfl).trans hb, F, hs, hD⟩, h2⟩
theorem MapIs.grown {w w' : World} {b : Nat} {op : List Bool} (h : MapIs w b op) (hg : w.grownBy w' none) : MapIs w' b op := h.only (Only.of_grown hg (by simp))
theorem nOpen_false (n : Nat) : nOpen (List.replicate n false) = 0 := by
 unfold nOpen
 rw [List.countP_eq_zero]
 intro x hx
 rw [List.eq_of_mem_replicate hx]
 simp
theorem getD_false (n i : Nat) : (List.replicate n false).getD i false = false := by
 rw [List.getD_eq_getElem?_getD, List.getElem?_replicate]
 split <;> rfl
theorem MapIs.made (w : World) (n : Nat) : MapIs (w.alloc (.map #[] 0)) w.heap.size (List.replicate n false) :=
 MapIs.of (World.ownsMap_made w _ _ _) (by rw [nOpen_false]; rfl) fun i => by
  rw [getD_false]
  exact ⟨rfl, atKey_of_not_has rfl _⟩
section
variable {ops : Array Oper} {rest : List Oper} {o : Oper} {a : Act} {Q : Exit → Act → World → Prop} {w : World} {b i : Nat} {op : List Bool}
end
end Go.Proofs.YtjagjhchnpmngaaGreat
namespace Go.Proofs.YtjagjhchnpmngaaGreat
open Go.RowKit
def LeB (m m' : List Bool) : Prop := ∀ i, m.getD i false = true → m'.getD i false = true
def nT (m : List Bool) : Nat := m.countP (fun b => b)
def z2 : Gt := ⟨2, 0, 0, 0⟩
theorem wrap64_id {x : Int} (h0 : -9223372036854775808 ≤ x) (h1 : x ≤ 9223372036854775807) : wrap64 x = x := by
 unfold wrap64
 omega
theorem Sep.graft1 {w w' : World} {A : Asrt} {l : List Asrt} (h : Sep w l) (h' : Sep w' [A, KeepA w]) (hA : ∀ k, A.sees k → A.foot k) : Sep w' (A :: l) :=
 h.new h'.tl.hd h'.hd fun k hk => Nat.le_of_not_lt fun hlt => h'.apt.1 k (hA k hk) hlt
theorem Sep.graft2 {w w' : World} {A C : Asrt} {l : List Asrt} (h : Sep w l) (h' : Sep w' [A, C, KeepA w]) (hA : ∀ k, A.sees k → A.foot k) (hC : ∀ k, C.sees k → C.foot k) : Sep w' (A :: C :: l) := by
 have h1 := h.graft1 h'.tl hC
 have h2 := h.graft1 (h'.under Sep.tl (by simp +contextual)) hA
 refine ⟨h'.hd, fun D hD => ?_, h1⟩
 rcases List.mem_cons.1 hD with rfl | hD
 ·exact h'.apt
 ·exact h2.2.1 D hD
theorem OI_own {v : Value} {zs : List Int} : ∀ k, (OI v zs).sees k → (OI v zs).foot k := fun _ h => h
def lft (left : Int) (n : Nat) : Int := if left - n < 0 then -1 else left - n
end Go.Proofs.YtjagjhchnpmngaaGreat
namespace Go.Proofs.YtjagjhchnpmngaaGreat
open Go.RowKit Go.Maps
end Go.Proofs.YtjagjhchnpmngaaGreat
namespace Go.Proofs.YtjagjhchnpmngaaGreat
open Go.RowKit
end Go.Proofs.YtjagjhchnpmngaaGreat
namespace Go.Proofs.YtjagjhchnpmngaaGreat
open Go.RowKit Go.Maps
end Go.Proofs.YtjagjhchnpmngaaGreat

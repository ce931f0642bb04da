/-
 The order in which gates are made, in the reference. Conditions: at most 1000 gates, whose operands are gates.
-/
import Derived.Test.YtjagjhchnpmngaaGreatCz01
import Derived.Test.YtjagjhchnpmngaaGreatCz00
import Derived.Shelf.Abstract
import Derived.Lib.SliceRun
import Derived.WalkMore
import Derived.ScopeJumps
import Derived.Deep.AppendSrc
import Derived.Deep.Upon
import Derived.Deep.CutRange
set_option linter.unusedVariables false
set_option linter.unusedSimpArgs false
set_option maxRecDepth 100000
namespace Go.Proofs.YtjagjhchnpmngaaGreat
open Go.RowKit
def atK (gs : List Gt) (op : List Bool) (k : Nat) : Int := ((List.range k).find? (readyB gs op)).elim (-1) fun i => (i : Int)
theorem app_intG {ops : Array Oper} {rest : List Oper} {o : Oper} {a : Act} {Q : Exit → Act → World → Prop} {w : World} {v : Value} {zs : List Int} {l : List Asrt} {n : Int} {q : Nat} (hgd : o.guard = none) (s x : Operand) (ho : o.op = .call { callee := .builtin .append, args := #[s, x], argTypes := #[23, 23] })
 (hs : a.eval s = v) (hx : a.eval x = .slice (some ⟨q, 0, none⟩) 1 1) (hq : q = w.heap.size) (H : Sep w (OI v zs :: l)) (hl : zs.length ≤ 1000000000)
 (h : ∀ g cap w', Sep w' (OI (.slice (some ⟨g, 0, none⟩) (zs.length + 1) cap) (zs ++ [n]) :: l) → wpList Tryz.prog ops Q rest (a.put o.dst (.slice (some ⟨g, 0, none⟩) (zs.length + 1) cap)) w') :
 wpList Tryz.prog ops Q (o :: rest) a (w.alloc (.cells #[.int .i64 n] 3)) := by
 subst hq
 exact app_intS hgd s x ho hs hx H hl h
theorem OwnR.empty {α : Type} (E : Lay α) {B g : Nat} {w : World} (hB : B ≤ w.heap.size) (hg : g = w.heap.size) : OwnR E B (w.alloc (.cells #[] E.ty)) (.slice (some ⟨g, 0, none⟩) 0 0) [] := by
 subst hg
 exact ⟨by simp, Or.inr ⟨w.heap.size, 0, #[], rfl, hB, alloc_heap_new _ _, Nat.le_refl _, Nat.zero_le _, by simp, by simp⟩⟩
set_option maxRecDepth 1000000
set_option maxRecDepth 1000000
theorem l1Own_any (u : Value) (ys : List Int) (w : World) (hu : IntsV w u ys) (hl : ys.length ≤ 1000000) :
 Calls Tryz.prog 62 #[u] w fun e w' => ∃ a c, e = .returned (.slice a ys.length c) ∧ Sep w' [OI (.slice a ys.length c) ys, KeepA w] := by
 have HU := qd hu
 obtain ⟨ua, ucap, rfl, hx⟩ := hu
 clear hx
 go_enter Tryz.func62, Tryz.ntmps62
 go_wp2_with (
  at_builtin
  go_loud (refine app_ints rfl (.tmp 3) (.tmp 4) rfl rfl rfl (HU.out.carry (grownBy_alloc _ _ _)) (OwnInts.empty (Nat.le_refl _) rfl) (by simp) (by simp; omega) ?_)
  intro v' w' ho hb
  rw [List.nil_append] at ho
  obtain ⟨a', c', rfl⟩ := own_shape ho
  have HS := qd ((Sep.start w).newI (grown_of_below (((Below.refl _ _).alloc (Nat.le_refl _) _).trans hb)) ho)
  clear ho hb)
 go_ret
 exact ⟨_, _, rfl, HS.out⟩
section
variable {α : Type} {E : Lay α} {ops : Array Oper} {o : Oper} {a : Act} {Q : Exit → Act → World → Prop} {K : Act → World → Prop} {Ex : Prop} {w : World} {v : Value} {xs ys : List α} {l : List Asrt} {t : TypeId} {z : Value} {bytes : Nat}
end
def QRow (w : World) (v : Value) (zs : List Int) : Prop :=
 ∃ a cap, v = .slice a zs.length cap ∧ zs.length ≤ cap ∧ cap ≤ maxLen ∧ (0 < cap → ∃ g off, a = some ⟨g, off, none⟩ ∧ g < w.heap.size ∧
  (∀ j, j < cap → (w.cell? ⟨g, off + j, none⟩).isSome = true ∧ w.frozen? ⟨g, off + j, none⟩ = false) ∧ ∀ j, j < zs.length → w.cell? ⟨g, off + j, none⟩ = some (.int .i64 (zs.getD j 0)))
def QHits : Value → Nat → Prop
 | .slice (some ad) _ cap, k => 0 < cap ∧ ad.block = k
 | _, _ => False
theorem QRow.lt {w : World} {v : Value} {zs : List Int} (h : QRow w v zs) : ∀ k, QHits v k → k < w.heap.size := by
 obtain ⟨a, cap, rfl, _, _, h⟩ := h
 intro k hk
 cases a with
 | none => exact hk.elim
 | some ad =>
  obtain ⟨hc, rfl⟩ := hk
  obtain ⟨g, off, ha, hg, _⟩ := h hc
  injection ha with ha
  subst ha
  exact hg
theorem QRow.only {S : Nat → Prop} {w w' : World} {v : Value} {zs : List Int} (h : QRow w v zs) (ho : Only S w w') (hs : ∀ k, QHits v k → ¬ S k) : QRow w' v zs := by
 obtain ⟨a, cap, rfl, h1, h2, h⟩ := h
 refine ⟨a, cap, rfl, h1, h2, fun hc => ?_⟩
 obtain ⟨g, off, rfl, hg, h3, h4⟩ := h hc
 have hb : w'.heap[g]? = w.heap[g]? := ho.block g hg (hs g ⟨hc, rfl⟩)
 refine ⟨g, off, rfl, Nat.lt_of_lt_of_le hg ho.size, fun j hj => ?_, fun j hj => ?_⟩
 ·obtain ⟨h5, h6⟩ := h3 j hj
  refine ⟨?_, (World.frozen?_of_block (a := ⟨g, off + j, none⟩) hb).trans h6⟩
  rw [World.cell?_of_block (a := ⟨g, off + j, none⟩) hb]
  exact h5
 ·exact (World.cell?_of_block (a := ⟨g, off + j, none⟩) hb).trans (h4 j hj)
def UseC (gs : List Gt) (os : List Int) (m : List Bool) : Prop :=
 (∀ x ∈ os, m.getD x.toNat false = true) ∧ ∀ i, m.getD i false = true → ∀ x ∈ opsL (gs.getD i g0), m.getD x.toNat false = true
def BotU (gs : List Gt) (os : List Int) (m : List Bool) : Prop := m.length = gs.length ∧ ∀ m', m'.length = gs.length → UseC gs os m' → LeB m m'
def IsUse (gs : List Gt) (os : List Int) (m : List Bool) : Prop := BotU gs os m ∧ UseC gs os m
structure UInv (gs : List Gt) (os : List Int) (m : List Bool) (td : List Int) : Prop where
 bot : BotU gs os m
 todo : ∀ m', m'.length = gs.length → UseC gs os m' → ∀ x ∈ td, m'.getD x.toNat false = true
 outs : ∀ x ∈ os, m.getD x.toNat false = true ∨ x ∈ td
 ops : ∀ i, m.getD i false = true → ∀ x ∈ opsL (gs.getD i g0), m.getD x.toNat false = true ∨ x ∈ td
 rng : ∀ x ∈ td, 0 ≤ x ∧ x < gs.length
theorem UInv.start {gs : List Gt} {os : List Int} (hos : ∀ x ∈ os, 0 ≤ x ∧ x < gs.length) : UInv gs os (List.replicate gs.length false) os :=
 ⟨⟨by simp, (fun m' _ _ i hi => by rw [getD_false] at hi; cases hi)⟩, fun m' _ h x hx => h.1 x hx, fun x hx => Or.inr hx, (fun i hi => by rw [getD_false] at hi; cases hi), hos⟩
theorem UInv.skip {gs : List Gt} {os : List Int} {m : List Bool} {x : Int} {td : List Int} (h : UInv gs os m (x :: td)) (hx : m.getD x.toNat false = true) : UInv gs os m td := by
 refine ⟨h.bot, fun m' h1 h2 y hy => h.todo m' h1 h2 y (List.mem_cons_of_mem _ hy), fun y hy => ?_, fun i hi y hy => ?_, fun y hy => h.rng y (List.mem_cons_of_mem _ hy)⟩
 ·rcases h.outs y hy with h1 | h1
  ·exact Or.inl h1
  ·rcases List.mem_cons.1 h1 with rfl | h1
   ·exact Or.inl hx
   ·exact Or.inr h1
 ·rcases h.ops i hi y hy with h1 | h1
  ·exact Or.inl h1
  ·rcases List.mem_cons.1 h1 with rfl | h1
   ·exact Or.inl hx
   ·exact Or.inr h1
theorem UInv.done {gs : List Gt} {os : List Int} {m : List Bool} (h : UInv gs os m []) : IsUse gs os m :=
 ⟨h.bot, fun x hx => (h.outs x hx).resolve_right (by simp), fun i hi x hx => (h.ops i hi x hx).resolve_right (by simp)⟩
theorem nT_mark {m : List Bool} {i : Nat} (hi : i < m.length) (h : m.getD i false = false) : nT (m.set i true) = nT m + 1 := by
 have h1 : m = (m.set i true).set i false := by
  rw [List.set_set]
  apply List.ext_getElem (by simp)
  intro j h1 h2
  rw [List.getElem_set]
  split
  ·rename_i e
   subst e
   rw [List.getD_eq_getElem?_getD, List.getElem?_eq_getElem hi] at h
   exact h
  ·rfl
 unfold nT
 rw [List.getD_eq_getElem?_getD, List.getElem?_eq_getElem hi, Option.getD_some] at h
 clear h1
 induction m generalizing i with
 | nil => simp at hi
 | cons x m ih =>
  cases i with
  | zero =>
   simp only [List.getElem_cons_zero] at h
   subst h
   simp
  | succ i =>
   simp only [List.getElem_cons_succ] at h
   simp only [List.length_cons] at hi
   have := ih (by omega) h
   simp only [List.set_cons_succ, List.countP_cons]
   omega
set_option maxRecDepth 1000000
theorem QRow.shape {w : World} {v : Value} {zs : List Int} (h : QRow w v zs) : ∃ a c, v = .slice a zs.length c := by
 obtain ⟨a, cap, rfl, _⟩ := h
 exact ⟨a, cap, rfl⟩
def ofL (zs : List Int) (x : Int) : Int := zs.getD x.toNat 0
theorem takeS {zs : List Int} {k : Nat} (h : k < zs.length) (f : Int → Int) : (zs.take (k + 1)).map f = (zs.take k).map f ++ [f (zs.getD k 0)] := by
 rw [List.take_succ_eq_append_getElem h, List.map_append, List.getD_eq_getElem?_getD, List.getElem?_eq_getElem h]
 rfl
theorem hgList_any (v u : Value) (l zs : List Int) (w : World) (hv : IntsV w v l) (hu : IntsV w u zs) (hl : l.length ≤ 1000000) (hin : ∀ x ∈ l, 0 ≤ x ∧ x < zs.length) :
 Calls Tryz.prog 61 #[v, u] w fun e w' => ∃ a c, e = .returned (.slice a l.length c) ∧ Sep w' [OI (.slice a l.length c) (l.map (ofL zs)), KeepA w] := by
 have HV := qd hv; have HU := qd hu; have HIN := qd hin
 obtain ⟨a1, c1, rfl⟩ := hv.shape
 obtain ⟨a2, c2, rfl⟩ := hu.shape
 generalize hn : l.length = n at *
 have HN := qd hn
 generalize hm : zs.length = m at *
 have HM := qd hm
 clear hv hu hin hn hm
 have HS0 := qd (Sep.start w).nilI
 go_enter Tryz.func61, Tryz.ntmps61
 go_wp2_with fail
 go_loopw [5, 10] (fun ov i wr => ∃ (k : Nat) (oa : Option Addr) (oc : Nat), k ≤ n ∧ i = .int .i64 k ∧ ov = .slice oa k oc ∧ Sep wr [OI (.slice oa k oc) ((l.take k).map (ofL zs)), KeepA w]) (fun _ i _ => n - (intOf i).toNat)
 case atStart => exact ⟨0, none, 0, by omega, rfl, rfl, HS0.out⟩
 case round =>
  obtain ⟨k, oa, oc, hk, rfl, rfl, hs⟩ := hrel
  have HS := qd hs
  by_cases hlt : k < n
  ·have hkl : k < l.length := by rw [HN.out]; exact hlt
   obtain ⟨b1, o1, rfl, _, q1⟩ := (HV.out.carry hs.tl.hd).atD hkl
   obtain ⟨hx0, hx1⟩ := HIN.out _ (getD_mem' hkl)
   have HT := qd (takeS hkl (ofL zs))
   have hkl2 : ((l.take k).map (ofL zs)).length = k := by rw [List.length_map, List.length_take]; omega
   have HKL := qd hkl2
   generalize l.getD k 0 = x at *
   obtain ⟨j, rfl⟩ := Int.eq_ofNat_of_zero_le hx0
   have hjm : j < m := by omega
   obtain ⟨b2, o2, rfl, _, q2⟩ := (HU.out.carry hs.tl.hd).atD (i := j) (by rw [HM.out]; exact hjm)
   have HOF := qd (show ofL zs j = zs.getD j 0 by unfold ofL; rw [Int.toNat_natCast])
   rw [← HOF.out] at q2
   clear hs hx0 hx1 hkl hkl2 HOF
   generalize ofL zs j = y at *
   generalize (l.take k).map (ofL zs) = L at *
   go_wp2_with (
    at_builtin
    refine app_intS rfl _ _ rfl rfl rfl HS.out (by rw [HKL.out]; omega) ?_
    intro g c w3 h3
    rw [HKL.out] at h3 ⊢
    have HS3 := qd h3
    clear h3)
   go_roundw
   case rel => exact ⟨k + 1, _, _, by omega, by go_num, rfl, by rw [HT.out]; exact HS3.out⟩
   case measure => simp [intOf]; omega
  ·have hkn : k = n := by omega
   subst hkn
   have hs1 := hs
   rw [List.take_of_length_le (by rw [HN.out]; exact Nat.le_refl _)] at hs1
   have HS1 := qd hs1
   clear hs hs1 hlt
   go_wp2_with fail
   go_ret
   exact ⟨oa, oc, rfl, HS1.out⟩
theorem IntsV.cellN {w : World} {b o n cap : Nat} {zs : List Int} (h : IntsV w (.slice (some ⟨b, o, none⟩) n cap) zs) {i : Nat} (hi : i < zs.length) : w.cell? ⟨b, o + i, none⟩ = some (.int .i64 (zs.getD i 0)) := by
 obtain ⟨b', o', he, _, h⟩ := h.atD hi
 cases he
 exact h
theorem make_cap (n : Nat) (hn : n ≤ 1000000) (w : World) : (Instr.makeSlice 23 (.int .i64 0) (.int .i64 n)).run Tryz.prog w = .ok (.slice (some ⟨w.heap.size, 0, none⟩) 0 n) (w.alloc (.cells (madeCells (Value.int .i64 0).cells (n * 1)) 3)) := by
 obtain ⟨i0, hi, hz0, hz1, hz2⟩ := info_parts info_int
 have h := run_make (P := Tryz.prog) w 23 3 i0 (.int .i64 0) Tryz.underlying23 hi hz0 .i64 .i64 0 n (by omega) (by omega) (by rw [hz2]; omega) (by omega)
 rw [hz1] at h
 simp only [Int.toNat_natCast] at h
 exact h
theorem Sep.capI {w : World} {l : List Asrt} (h : Sep w l) (n b : Nat) (hn : n ≤ 1000000) (hb : b = w.heap.size) : Sep (w.alloc (.cells (madeCells (Value.int .i64 0).cells (n * 1)) 3)) (OI (.slice (some ⟨b, 0, none⟩) 0 n) [] :: l) := by
 subst hb
 refine h.newI (grownBy_alloc _ _ none) ⟨by simp, Or.inr ⟨w.heap.size, n, _, rfl, Nat.le_refl _, alloc_heap_new _ _, Nat.zero_le _, by unfold maxLen; omega, size_madeCells _ _, by simp⟩⟩
theorem IntsV.addr {w : World} {a : Option Addr} {n c : Nat} {zs : List Int} (h : IntsV w (.slice a n c) zs) (hz : 0 < zs.length) : ∃ b o, a = some ⟨b, o, none⟩ := by
 obtain ⟨a', c', he, hr⟩ := h
 obtain ⟨d, hd, hsp, _⟩ := hr (by intro e; rw [e] at hz; simp at hz)
 injection he with e1
 obtain ⟨b, o, sp⟩ := d
 simp only at hsp
 subst hsp
 exact ⟨b, o, e1.trans hd⟩
set_option maxHeartbeats 2000000 in
theorem chosen_any (u v : Value) (zs xs : List Int) (w : World) (hu : IntsV w u zs) (hv : IntsV w v xs) (hl : xs.length ≤ 1000000) (hr : ∀ x ∈ xs, 0 ≤ x ∧ x < zs.length) :
 Calls Tryz.prog 113 #[u, v] w fun e w' => ∃ a c, e = .returned (.slice a xs.length c) ∧ Sep w' [OI (.slice a xs.length c) (xs.map (ofL zs)), KeepA w] := by
 have HU := qd hu; have HV := qd hv; have HR := qd hr
 obtain ⟨ua, uc, rfl⟩ := hu.shape
 obtain ⟨va, vc, rfl⟩ := hv.shape
 generalize hm : xs.length = m at *
 generalize hm2 : zs.length = m2 at *
 have HM := qd hm; have HM2 := qd hm2
 clear hu hv hr hm hm2
 have hmk := make_cap m (by omega)
 have HS0 := qd ((Sep.start w).capI m _ hl rfl)
 go_enter Tryz.func113, Tryz.ntmps113
 go_wp2_with fail
 go_loopw [5, 7, 13] (fun ov _ i wr => ∃ (k : Nat) (oa : Option Addr) (oc : Nat), k ≤ m ∧ i = .int .i64 k ∧ ov = .slice oa k oc ∧ Sep wr [OI (.slice oa k oc) ((xs.take k).map (ofL zs)), KeepA w]) (fun _ _ i _ => m - (intOf i).toNat)
 case atStart => exact ⟨0, _, _, by omega, rfl, rfl, by have h := HS0.out; simp only [Value.cells, Nat.mul_one] at h; simpa using h⟩
 case round =>
  obtain ⟨k, oa, oc, hk, rfl, rfl, hs⟩ := hrel
  have HSX := qd hs
  clear hs HS0 hmk
  by_cases hlt : k < m
  ·have hkx : k < xs.length := by rw [HM.out]; exact hlt
   obtain ⟨b, o, rfl⟩ := IntsV.addr HV.out (by omega)
   have hc0 := (HV.out.carry HSX.out.tl.hd).cellN hkx
   obtain ⟨h0, h1⟩ := HR.out _ (getD_mem' hkx)
   have HT := qd (takeS hkx (ofL zs))
   generalize hx : xs.getD k 0 = x at *
   obtain ⟨nx, rfl⟩ := Int.eq_ofNat_of_zero_le h0
   have hnx : nx < zs.length := by rw [HM2.out]; omega
   obtain ⟨b2, o2, rfl⟩ := IntsV.addr HU.out (by omega)
   have hd0 := (HU.out.carry HSX.out.tl.hd).cellN hnx
   have ho : ofL zs (nx : Int) = zs.getD nx 0 := by unfold ofL; rw [Int.toNat_natCast]
   rw [ho] at HT
   generalize zs.getD nx 0 = y at *
   have HTL := qd (show ((xs.take k).map (ofL zs)).length = k by rw [List.length_map, List.length_take]; omega)
   clear hx hkx hnx ho
   go_wp2_with (
    at_builtin
    go_loud (refine app_intG rfl (.tmp 17) (.tmp 22) rfl rfl rfl (by simp) HSX.out (by rw [HTL.out]; omega) ?_)
    intro g cg w3 h3
    rw [HTL.out, ← HT.out] at h3
    rw [HTL.out]
    have HS3 := qd h3
    clear h3)
   go_roundw
   case rel => exact ⟨k + 1, some ⟨g, 0, none⟩, cg, by omega, by go_num, rfl, HS3.out⟩
   case measure => simp [intOf]; omega
  ·have hkm : k = m := by omega
   subst hkm
   clear hlt
   go_wp2
   go_ret
   have h := HSX.out
   rw [List.take_of_length_le (by rw [HM.out]; exact Nat.le_refl _)] at h
   exact ⟨oa, oc, rfl, h⟩
theorem mapped_any (u v : Value) (zs xs : List Int) (w : World) (hu : IntsV w u zs) (hv : IntsV w v xs) (hl : xs.length ≤ 1000000) (hr : ∀ x ∈ xs, 0 ≤ x ∧ x < zs.length) :
 Calls Tryz.prog 76 #[v, u] w fun e w' => ∃ a c, e = .returned (.slice a xs.length c) ∧ Sep w' [OI (.slice a xs.length c) (xs.map (ofL zs)), KeepA w] := by
 have HC := qd (chosen_any u v zs xs w hu hv hl hr)
 clear hu hv hr
 go_enter Tryz.func76, Tryz.ntmps76
 go_wp2_with (
  go_at_call 113
  refine HC.out.mono ?_
  rintro e w2 ⟨a, c, rfl, hs⟩
  have HS := qd hs
  clear hs)
 go_ret
 exact ⟨_, _, rfl, HS.out⟩
section
variable {α : Type} {E : Lay α} {ops : Array Oper} {o : Oper} {a : Act} {Q : Exit → Act → World → Prop} {K : Act → World → Prop} {Ex : Prop} {w : World} {v : Value} {xs : List α} {l : List Asrt} {y : α} {t : TypeId} {z : Value} {bytes q : Nat}
theorem step_app_RG (hinfo : (Tryz.prog.info? E.ty).map (fun i => (i.zero, i.size, i.bytes)) = some (some z, E.sz, bytes)) (hzs : z.cells.size = E.sz) (hby : bytes ≤ 10000) (ht : Tryz.prog.underlying t = some (.slice E.ty)) (hone : ∀ u ∈ E.cs y, u.oneCell' = true)
 (hgd : o.guard = none) (s x : Operand) (ho : o.op = .call { callee := .builtin .append, args := #[s, x], argTypes := #[t, t] })
 (hs : a.eval s = v) (hx : a.eval x = .slice (some ⟨q, 0, none⟩) 1 1) (hq : q = w.heap.size) {cs : Array Value} (hcs : cs.toList = E.cs y) (H : Sep w (OR E v xs :: l)) (hl : xs.length ≤ 10000000)
 (h : ∀ g cap w', Sep w' (OR E (.slice (some ⟨g, 0, none⟩) (xs.length + 1) cap) (xs ++ [y]) :: l) → K (a.put o.dst (.slice (some ⟨g, 0, none⟩) (xs.length + 1) cap)) w') :
 if Region.wanted o (yielded ops a.tmps) = true then Oper.wp Tryz.prog o a (w.alloc (.cells cs E.ty)) K Q else Ex := by
 subst hq
 rw [if_pos (by simp [Region.wanted, hgd])]
 exact wp_app_R hinfo hzs hby ht hone s x ho hs hx hcs H hl h
end
def Bag (l : List Asrt) : Asrt where
 foot := fun k => ∃ A ∈ l, A.foot k
 sees := fun k => ∃ A ∈ l, A.sees k
 holds := fun w => Sep w l
 sub := fun k ⟨A, hA, hk⟩ => ⟨A, hA, A.sub k hk⟩
 lt := fun w k h ⟨A, hA, hk⟩ => A.lt w k (h.all A hA) hk
 keep := fun w w' h ho => h.only ho fun A hA k hk hn => hn ⟨A, hA, hk⟩
section
variable {w w' : World} {A C D : Asrt} {l r : List Asrt}
theorem Apt.bag (h : ∀ C ∈ l, Apt A C) : Apt A (Bag l) := ⟨fun k hk ⟨C, hC, hs⟩ => (h C hC).1 k hk hs, fun k ⟨C, hC, hf⟩ hs => (h C hC).2 k hf hs⟩
theorem Apt.of_bag (h : Apt A (Bag l)) (hC : C ∈ l) : Apt A C := ⟨fun k hk hs => h.1 k hk ⟨C, hC, hs⟩, fun k hk hs => h.2 k ⟨C, hC, hk⟩ hs⟩
theorem Sep.bag : ∀ {l : List Asrt}, Sep w (l ++ r) → Sep w (Bag l :: r)
 | [], h => ⟨trivial, fun C _ => ⟨(fun k ⟨A, hA, _⟩ => by cases hA), (fun k _ ⟨A, hA, _⟩ => by cases hA)⟩, h⟩
 | A :: l, h => by
  obtain ⟨h1, h2, h3⟩ := h
  obtain ⟨h4, h5, h6⟩ := Sep.bag (l := l) h3
  refine ⟨⟨h1, fun C hC => h2 C (List.mem_append_left _ hC), h4⟩, fun C hC => ?_, h6⟩
  have h7 := h2 C (List.mem_append_right _ hC)
  have h8 := h5 C hC
  refine ⟨fun k ⟨D, hD, hf⟩ hs => ?_, fun k hf ⟨D, hD, hs⟩ => ?_⟩
  ·rcases List.mem_cons.1 hD with rfl | hD
   ·exact h7.1 k hf hs
   ·exact h8.1 k ⟨D, hD, hf⟩ hs
  ·rcases List.mem_cons.1 hD with rfl | hD
   ·exact h7.2 k hf hs
   ·exact h8.2 k hf ⟨D, hD, hs⟩
theorem Sep.unbag : ∀ {l : List Asrt}, Sep w (Bag l :: r) → Sep w (l ++ r)
 | [], h => h.tl
 | A :: l, h => by
  obtain ⟨⟨h1, h2, h3⟩, h4, h5⟩ := h
  refine ⟨h1, fun C hC => ?_, Sep.unbag (l := l) ⟨h3, fun C hC => ?_, h5⟩⟩
  ·rcases List.mem_append.1 hC with hC | hC
   ·exact h2 C hC
   ·exact (h4 C hC).symm.of_bag (by simp) |>.symm
  ·have := h4 C hC
   exact ⟨fun k ⟨D, hD, hf⟩ hs => this.1 k ⟨D, List.mem_cons_of_mem _ hD, hf⟩ hs, fun k hf ⟨D, hD, hs⟩ => this.2 k hf ⟨D, List.mem_cons_of_mem _ hD, hs⟩⟩
theorem Sep.append : ∀ {l : List Asrt}, Sep w (l ++ r) → Sep w l ∧ Sep w r
 | [], h => ⟨trivial, h⟩
 | A :: l, h => by
  obtain ⟨h1, h2, h3⟩ := h
  obtain ⟨h4, h5⟩ := Sep.append (l := l) h3
  exact ⟨⟨h1, fun C hC => h2 C (List.mem_append_left _ hC), h4⟩, h5⟩
theorem Sep.perm (p : l.Perm r) : Sep w l → Sep w r := by
 induction p with
 | nil => exact id
 | cons A q ih => exact fun h => h.under ih fun C hC => q.mem_iff.2 hC
 | swap A C l => exact Sep.s2
 | trans _ _ ih1 ih2 => exact fun h => ih2 (ih1 h)
theorem Sep.intoBag (h : Sep w (A :: Bag l :: r)) : Sep w (Bag (A :: l) :: r) := by
 have h1 := h.s2
 have h2 := Sep.unbag (l := l) h1
 refine Sep.bag (l := A :: l) ?_
 refine Sep.perm ?_ h2
 exact (List.perm_middle (a := A) (l₁ := l) (l₂ := r))
theorem Sep.outBag (h : Sep w (Bag (A :: l) :: r)) : Sep w (A :: Bag l :: r) := by
 have h1 := Sep.unbag (l := A :: l) h
 have h2 : Sep w (l ++ (A :: r)) := Sep.perm (List.perm_middle (a := A) (l₁ := l) (l₂ := r)).symm h1
 exact (Sep.bag h2).s2
theorem Sep.noBag (h : Sep w r) : Sep w (Bag [] :: r) := Sep.bag (l := []) h
end
structure Ed where
 k : Int
 v : Int
 i : List Int
 o : List Int
deriving DecidableEq
structure Gr where
 n : Int
 es : List Ed
 i : List Int
 o : List Int
deriving DecidableEq
def gr0 : Gr := ⟨0, [], [], []⟩
def edW (k : Int) : Nat × Nat := if k = 3 ∨ k = 11 then (1, 2) else if k = 4 ∨ k = 12 then (1, 0) else if k = 5 ∨ k = 9 then (2, 1) else if k = 6 ∨ k = 10 then (0, 1) else (1, 1)
def valB (k v : Int) : Bool := if k = 7 ∨ k = 13 then inB v 0 96 else decide (v = 0)
def edB (e : Ed) : Bool := inB e.k 3 14 && valB e.k e.v && decide ((e.i.length, e.o.length) = edW e.k)
def wiresE (es : List Ed) : List Int := es.flatMap fun e => e.i ++ e.o
def wiresL (g : Gr) : List Int := g.i ++ (g.o ++ wiresE g.es)
def rngB (n : Int) (l : List Int) : Bool := l.all fun x => inB x 0 (n - 1)
def grB (g : Gr) : Bool :=
 inB g.n 0 100 && decide (g.es.length ≤ 60 ∧ g.i.length ≤ 12 ∧ g.o.length ≤ 12) && g.es.all edB && rngB g.n (wiresL g) && (List.range g.n.toNat).all fun w => decide ((w : Int) ∈ wiresL g)
def fromL (g : Gr) : List Int := g.i ++ g.es.flatMap fun e => e.o
def toL (g : Gr) : List Int := g.o ++ g.es.flatMap fun e => e.i
def permB (l : List Int) (n : Int) : Bool := decide ((l.length : Int) = n) && rngB n l && decide l.Nodup
def monB (g : Gr) : Bool := permB (fromL g) g.n && permB (toL g) g.n
theorem mem_wires {g : Gr} {x : Int} : x ∈ wiresL g ↔ x ∈ fromL g ∨ x ∈ toL g := by
 unfold wiresL fromL toL wiresE
 simp only [List.mem_append, List.mem_flatMap]
 constructor
 ·rintro (h | h | ⟨e, he, h | h⟩)
  ·exact Or.inl (Or.inl h)
  ·exact Or.inr (Or.inl h)
  ·exact Or.inr (Or.inr ⟨e, he, h⟩)
  ·exact Or.inl (Or.inr ⟨e, he, h⟩)
 ·rintro ((h | ⟨e, he, h⟩) | (h | ⟨e, he, h⟩))
  ·exact Or.inl h
  ·exact Or.inr (Or.inr ⟨e, he, Or.inr h⟩)
  ·exact Or.inr (Or.inl h)
  ·exact Or.inr (Or.inr ⟨e, he, Or.inl h⟩)
theorem rngB_iff {n : Int} {l : List Int} : rngB n l = true ↔ ∀ x ∈ l, 0 ≤ x ∧ x < n := by
 unfold rngB inB
 simp only [List.all_eq_true, decide_eq_true_iff]
 constructor
 ·intro h x hx
  have := h x hx
  omega
 ·intro h x hx
  have := h x hx
  omega
theorem perm_count {l : List Int} {n : Nat} (hr : ∀ x ∈ l, 0 ≤ x ∧ x < (n : Int)) : (l.length = n ∧ l.Nodup) ↔ ∀ w, w < n → l.count (w : Int) = 1 := by
 have hperm : ∀ l : List Int, (∀ x ∈ l, 0 ≤ x ∧ x < (n : Int)) → l.Nodup → l.length ≤ n := by
  intro l hr hd
  have h1 := List.Nodup.length_le_of_subset (l₁ := l) (l₂ := (List.range n).map fun i : Nat => (i : Int)) hd (fun x hx => by
   have := hr x hx
   exact List.mem_map.2 ⟨x.toNat, List.mem_range.2 (by omega), by omega⟩)
  simpa using h1
 constructor
 ·rintro ⟨hl, hd⟩ w hw
  have hle : l.count (w : Int) ≤ 1 := List.nodup_iff_count.1 hd _
  rcases Nat.lt_or_ge 0 (l.count (w : Int)) with h | h
  ·omega
  ·exfalso
   have hn : ¬ (w : Int) ∈ l := List.count_eq_zero.1 (by omega)
   have h2 := hperm ((w : Int) :: l) (fun x hx => by
    rcases List.mem_cons.1 hx with rfl | hx
    ·omega
    ·exact hr x hx) (List.nodup_cons.2 ⟨hn, hd⟩)
   simp at h2
   omega
 ·intro h
  have hd : l.Nodup := List.nodup_iff_count.2 fun a => by
   by_cases ha : a ∈ l
   ·have hx := hr a ha
    have := h a.toNat (by omega)
    rw [Int.toNat_of_nonneg hx.1] at this
    omega
   ·rw [List.count_eq_zero.2 ha]
    omega
  refine ⟨?_, hd⟩
  have h1 := hperm l hr hd
  have h2 : ((List.range n).map fun i : Nat => (i : Int)).length ≤ l.length := List.Nodup.length_le_of_subset (by
   rw [List.nodup_iff_pairwise_ne] 
   refine List.Pairwise.map _ (fun a b hab => ?_) (List.nodup_range)
   intro e
   exact hab (by omega)) (fun x hx => by
   obtain ⟨i, hi, rfl⟩ := List.mem_map.1 hx
   have := h i (List.mem_range.1 hi)
   exact List.count_pos_iff.1 (by omega))
  simp at h2
  omega
structure XE where
 ed : Ed
 iv : Value
 ov : Value
def edgeC (x : XE) : List Value := [.int .i64 x.ed.k, .int .i64 x.ed.v, x.iv, x.ov]
def edgeE : Lay XE := ⟨104, 4, edgeC, fun _ => rfl, by decide⟩
def argEdE : Lay XE := ⟨97, 4, edgeC, fun _ => rfl, by decide⟩
def e0 : Ed := ⟨0, 0, [], []⟩
def xe0 : XE := ⟨e0, nilS, nilS⟩
def eds (xs : List XE) : List Ed := xs.map XE.ed
def RdE (E : Lay XE) (w : World) (v : Value) (es : List Ed) : Prop :=
 ∃ xs : List XE, eds xs = es ∧ RdR E w v xs ∧ ∀ x ∈ xs, IntsV w x.iv x.ed.i ∧ IntsV w x.ov x.ed.o
def grV (n : Int) (ev iv ov : Value) : Value := .agg #[.int .i64 n, ev, iv, ov]
def rowsE (xs : List XE) : List Asrt := xs.flatMap fun x => [OI x.iv x.ed.i, OI x.ov x.ed.o]
def OE (v : Value) (xs : List XE) : Asrt := Bag (OR edgeE v xs :: rowsE xs)
theorem RdE.carry {E : Lay XE} {w w' : World} {v : Value} {es : List Ed} (h : RdE E w v es) (hg : w.grownBy w' none) : RdE E w' v es := by
 obtain ⟨xs, h1, h2, h3⟩ := h
 exact ⟨xs, h1, h2.carry hg, fun x hx => ⟨(h3 x hx).1.carry hg, (h3 x hx).2.carry hg⟩⟩
theorem RdE.shape {E : Lay XE} {w : World} {v : Value} {es : List Ed} (h : RdE E w v es) : ∃ a c, v = .slice a es.length c := by
 obtain ⟨xs, h1, h2, _⟩ := h
 obtain ⟨a, c, rfl, _⟩ := h2
 exact ⟨a, c, by rw [← h1]; simp [eds]⟩
theorem OE.read {w : World} {v : Value} {xs : List XE} (h : (OE v xs).holds w) : RdE edgeE w v (eds xs) := by
 have ha := Sep.all (show Sep w (OR edgeE v xs :: rowsE xs) from h)
 refine ⟨xs, rfl, OwnR.read (show OwnR edgeE 0 w v xs from ha (OR edgeE v xs) (by simp)), fun x hx => ?_⟩
 exact ⟨OwnInts.read (show OwnInts 0 w x.iv x.ed.i from ha (OI x.iv x.ed.i) (List.mem_cons_of_mem _ (List.mem_flatMap.2 ⟨x, hx, by simp⟩))), OwnInts.read (show OwnInts 0 w x.ov x.ed.o from ha (OI x.ov x.ed.o) (List.mem_cons_of_mem _ (List.mem_flatMap.2 ⟨x, hx, by simp⟩)))⟩
theorem rowsE_snoc (xs : List XE) (x : XE) : rowsE (xs ++ [x]) = rowsE xs ++ [OI x.iv x.ed.i, OI x.ov x.ed.o] := by
 unfold rowsE
 rw [List.flatMap_append]
 simp
theorem eds_at {xs : List XE} {i : Nat} : (eds xs).getD i e0 = (xs.getD i xe0).ed := by
 unfold eds
 rw [List.getD_eq_getElem?_getD, List.getElem?_map, List.getD_eq_getElem?_getD]
 cases xs[i]? <;> rfl
theorem RdE.at {E : Lay XE} (h1 : E.sz = 4) (h2 : E.cs = edgeC) {w : World} {a : Option Addr} {n c : Nat} {es : List Ed} (h : RdE E w (.slice a n c) es) {i : Nat} (hi : i < es.length) :
 ∃ b o iv ov, a = some ⟨b, o, none⟩ ∧ b < w.heap.size ∧ w.cell? ⟨b, o + i * 4, none⟩ = some (.int .i64 (es.getD i e0).k) ∧ w.cell? ⟨b, o + i * 4 + 1, none⟩ = some (.int .i64 (es.getD i e0).v) ∧
  w.cell? ⟨b, o + i * 4 + 2, none⟩ = some iv ∧ w.cell? ⟨b, o + i * 4 + 3, none⟩ = some ov ∧ IntsV w iv (es.getD i e0).i ∧ IntsV w ov (es.getD i e0).o := by
 obtain ⟨xs, rfl, hr, hx⟩ := h
 have hil : i < xs.length := by simpa [eds] using hi
 obtain ⟨b, o, rfl, hb, hc⟩ := hr.at hil
 rw [eds_at, List.getD_eq_getElem?_getD, List.getElem?_eq_getElem hil]
 simp only [Option.getD_some]
 have hm := hx xs[i] (List.getElem_mem _)
 refine ⟨b, o, xs[i].iv, xs[i].ov, rfl, hb, ?_, ?_, ?_, ?_, hm.1, hm.2⟩
 ·have := hc 0 (by omega)
  rw [h1, h2] at this
  exact this
 ·have := hc 1 (by omega)
  rw [h1, h2] at this
  exact this
 ·have := hc 2 (by omega)
  rw [h1, h2] at this
  exact this
 ·have := hc 3 (by omega)
  rw [h1, h2] at this
  exact this
theorem Sep.s6 {w : World} {A C D E F G : Asrt} {l : List Asrt} (h : Sep w (A :: C :: D :: E :: F :: G :: l)) : Sep w (G :: A :: C :: D :: E :: F :: l) := (h.under Sep.s5 (by simp +contextual)).s2
theorem bq4 {w : World} {k : Nat} {x y z u : Value} {t : TypeId} (h : w.heap[k]? = some (.cells #[x, y, z, u] t (0, 0))) :
 w.cell? ⟨k, 0, none⟩ = some x ∧ w.cell? ⟨k, 1, none⟩ = some y ∧ w.cell? ⟨k, 2, none⟩ = some z ∧ w.cell? ⟨k, 3, none⟩ = some u ∧ w.frozen? ⟨k, 0, none⟩ = false ∧ w.frozen? ⟨k, 1, none⟩ = false ∧ w.frozen? ⟨k, 2, none⟩ = false ∧ w.frozen? ⟨k, 3, none⟩ = false :=
 ⟨cell_of_row w k 0 _ _ _ h, cell_of_row w k 1 _ _ _ h, cell_of_row w k 2 _ _ _ h, cell_of_row w k 3 _ _ _ h, frozen_of_row w k 0 _ _ h, frozen_of_row w k 1 _ _ h, frozen_of_row w k 2 _ _ h, frozen_of_row w k 3 _ _ h⟩
def totE (e : Ed) : Nat := e.i.length + e.o.length
def totEs : List Ed → Nat
 | [] => 0
 | e :: es => totE e + totEs es
def totG (g : Gr) : Nat := g.es.length + totEs g.es + g.i.length + g.o.length
theorem totEs_take (es : List Ed) (k : Nat) (hk : k < es.length) : totEs (es.take (k + 1)) = totEs (es.take k) + totE (es.getD k e0) := by
 induction es generalizing k with
 | nil => simp at hk
 | cons e es ih =>
  cases k with
  | zero => simp [totEs]
  | succ k =>
   have := ih k (by simpa using hk)
   simp only [List.take_succ_cons, totEs, List.getD_cons_succ]
   omega
theorem totEs_le (es : List Ed) (k : Nat) : totEs (es.take k) ≤ totEs es := by
 induction es generalizing k with
 | nil => simp
 | cons e es ih =>
  cases k with
  | zero => simp [totEs]
  | succ k =>
   have := ih k
   simp only [List.take_succ_cons, totEs]
   omega
theorem tot_mem {es : List Ed} {e : Ed} (h : e ∈ es) : e.i.length + e.o.length ≤ totEs es := by
 induction es with
 | nil => cases h
 | cons x es ih =>
  unfold totEs totE
  rcases List.mem_cons.1 h with rfl | h
  ·omega
  ·have := ih h
   omega
def okEd (e : Ed) : Prop := e.i.length ≤ 9223372036854775807 ∧ e.o.length ≤ 9223372036854775807
theorem szEdge_any (k v : Int) (iv ov : Value) (e : Ed) (left : Int) (w : World) (hi : IntsV w iv e.i) (ho : IntsV w ov e.o) (h0 : 0 ≤ left) (h1 : left ≤ 1048576) (hok : okEd e) :
 Calls Tryz.prog 54 #[.agg #[.int .i64 k, .int .i64 v, iv, ov], .int .i64 left] w fun x w' => x = .returned (.int .i64 (lft left (totE e))) ∧ w.grownBy w' none := by
 obtain ⟨ia, ic, rfl⟩ := hi.shape
 obtain ⟨oa, oc, rfl⟩ := ho.shape
 obtain ⟨hk1, hk2⟩ := hok
 unfold totE lft
 clear hi ho
 generalize e.i.length = n1 at *
 generalize e.o.length = n2 at *
 have HC := qd fun W => szIntS_any ia n1 ic left W h0 h1 hk1
 by_cases h : left - n1 < 0
 ·rw [if_pos (by omega)]
  rw [if_pos h] at HC
  go_enter Tryz.func54, Tryz.ntmps54
  go_wp2_with (go_at_call 27; refine (HC.out _).mono ?_; rintro e w' ⟨rfl, rfl⟩)
  go_ret
  exact ⟨rfl, gr1 _ _⟩
 ·rw [if_neg h] at HC
  obtain ⟨m, hm⟩ : ∃ m, m = left - n1 := ⟨_, rfl⟩
  rw [← hm] at HC
  have hm0 : 0 ≤ m := by omega
  have HD := qd fun W => szIntS_any oa n2 oc m W (by omega) (by omega) hk2
  by_cases h' : m - n2 < 0
  ·rw [if_pos h'] at HD
   rw [if_pos (by omega)]
   clear hm
   go_enter Tryz.func54, Tryz.ntmps54
   go_wp2_with (first
    |(go_at_call 27; with_reducible refine (HC.out _).mono ?_; rintro e w' ⟨rfl, rfl⟩)
    |(go_at_call 27; with_reducible refine (HD.out _).mono ?_; rintro e w' ⟨rfl, rfl⟩))
   go_ret
   exact ⟨rfl, gr1 _ _⟩
  ·rw [if_neg h'] at HD
   rw [if_neg (by omega), show left - ((n1 + n2 : Nat) : Int) = m - n2 by omega]
   obtain ⟨m2, hm2⟩ : ∃ m2, m2 = m - n2 := ⟨_, rfl⟩
   rw [← hm2] at HD ⊢
   have hm20 : 0 ≤ m2 := by omega
   clear hm hm2
   go_enter Tryz.func54, Tryz.ntmps54
   go_wp2_with (first
    |(go_at_call 27; with_reducible refine (HC.out _).mono ?_; rintro e w' ⟨rfl, rfl⟩)
    |(go_at_call 27; with_reducible refine (HD.out _).mono ?_; rintro e w' ⟨rfl, rfl⟩))
   go_ret
   exact ⟨rfl, gr1 _ _⟩
set_option maxHeartbeats 2000000 in
theorem szEdgeS_any (a : Option Addr) (n c : Nat) (es : List Ed) (left : Int) (w : World) (hv : RdE argEdE w (.slice a n c) es) (hn : n = es.length) (h0 : 0 ≤ left) (h1 : left ≤ 1048576) (hl : n ≤ 9223372036854775807) (hok : ∀ e ∈ es, okEd e) :
 Calls Tryz.prog 26 #[.slice a n c, .int .i64 left] w fun x w' => x = .returned (.int .i64 (lft left (es.length + totEs es))) ∧ w.grownBy w' none := by
 have HV := qd hv; have HOK := qd hok
 have HN := qd hn
 clear hv hok
 have hwr := wrap_id (x := left - n) (by omega) (by omega)
 by_cases h : left - n < 0
 ·rw [show lft left (es.length + totEs es) = -1 by unfold lft; rw [if_pos (by omega)]]
  clear hn
  go_enter Tryz.func26, Tryz.ntmps26
  go_wp2
  go_ret
  exact ⟨rfl, grownBy_refl _ _⟩
 ·obtain ⟨m, hm⟩ : ∃ m, m = left - n := ⟨_, rfl⟩
  have hre : lft left (es.length + totEs es) = lft m (totEs es) := by
   unfold lft
   rw [← hn, show left - ((n + totEs es : Nat) : Int) = m - (totEs es : Int) by omega]
  rw [hre]
  have hm0 : 0 ≤ m := by omega
  have hm1 : m ≤ 1048576 := by omega
  have HMM := qd hm
  have hwr2 : IntKind.i64.wrap (left - (n : Int)) = m := by rw [hm]; exact hwr
  have hm00 : ¬ m < 0 := by omega
  clear hre hn hwr h hm
  go_enter Tryz.func26, Tryz.ntmps26
  go_wp2_with fail
  go_loopw [1, 5] (fun lv i wr => ∃ k : Nat, k ≤ n ∧ i = .int .i64 k ∧ lv = .int .i64 (m - totEs (es.take k)) ∧ 0 ≤ m - (totEs (es.take k) : Int) ∧ w.grownBy wr none) (fun _ i _ => n - (intOf i).toNat)
  case atStart => exact ⟨0, by omega, rfl, by simp [totEs], by simp [totEs]; exact hm0, grownBy_refl _ _⟩
  case round =>
   obtain ⟨k, hk, rfl, rfl, hp, hg⟩ := hrel
   have HG := qd hg
   clear hg
   by_cases hlt : k < n
   ·have hke : k < es.length := by rw [← HN.out]; exact hlt
    obtain ⟨b, o, iv, ov, rfl, _, q0, q1, q2, q3, hi, ho⟩ := (HV.out.carry HG.out).at rfl rfl hke
    have HT := qd (totEs_take es k hke)
    have HLE := qd (totEs_le es (k + 1))
    have HC := qd (szEdge_any (es.getD k e0).k (es.getD k e0).v iv ov (es.getD k e0) (m - totEs (es.take k)) wr hi ho hp (by omega) (HOK.out _ (by rw [List.getD_eq_getElem?_getD, List.getElem?_eq_getElem hke]; exact List.getElem_mem _)))
    generalize es.getD k e0 = e at *
    generalize totEs (es.take k) = t at *
    generalize hS : totEs (es.take (k + 1)) = s at *
    clear hi ho hke
    by_cases h2 : m - (s : Int) < 0
    ·have he : lft (m - t) (totE e) = -1 := by unfold lft; rw [if_pos (by have := HT.out; omega)]
     rw [he] at HC
     have hfin : lft m (totEs es) = -1 := by unfold lft; rw [if_pos (by have := HLE.out; omega)]
     have HF := qd hfin
     clear he hfin hp h2
     obtain ⟨ek, ev, ei, eo⟩ := e
     simp only at q0 q1 HC
     go_wp2_with (
      go_at_call 54
      with_reducible refine HC.out.mono ?_
      rintro x w2 ⟨rfl, hg2⟩
      have HG2 := qd (grownBy_trans HG.out hg2)
      clear hg2)
     go_ret
     exact ⟨(by rw [HF.out]; try rfl), HG2.out⟩
    ·have he : lft (m - t) (totE e) = m - s := by unfold lft; rw [if_neg (by have := HT.out; omega)]; have := HT.out; omega
     rw [he] at HC
     have hp2 : ¬ (m - (s : Int)) < 0 := h2
     obtain ⟨r, hr⟩ : ∃ r, r = m - (s : Int) := ⟨_, rfl⟩
     rw [← hr] at HC hp2
     have HR := qd hr
     clear he h2 hr hp
     obtain ⟨ek, ev, ei, eo⟩ := e
     simp only at q0 q1 HC
     go_wp2_with (
      go_at_call 54
      with_reducible refine HC.out.mono ?_
      rintro x w2 ⟨rfl, hg2⟩
      have HG2 := qd (grownBy_trans HG.out hg2)
      clear hg2)
     go_roundw
     case rel => exact ⟨k + 1, by omega, by go_num, by rw [hS, HR.out], by rw [hS, ← HR.out]; omega, HG2.out⟩
     case measure => simp [intOf]; omega
   ·have hkn : k = n := by omega
    subst hkn
    have htk : es.take k = es := List.take_of_length_le (by rw [← HN.out]; exact Nat.le_refl _)
    have hfin : lft m (totEs es) = m - totEs es := by unfold lft; rw [htk] at hp; rw [if_neg (by omega)]
    rw [htk]
    have HF := qd hfin
    clear hfin hlt
    go_wp2
    go_ret
    exact ⟨(by rw [HF.out]; try rfl), HG.out⟩
end Go.Proofs.YtjagjhchnpmngaaGreat

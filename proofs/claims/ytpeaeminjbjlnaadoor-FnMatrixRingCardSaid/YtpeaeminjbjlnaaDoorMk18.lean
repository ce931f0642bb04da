/-
  The specification's reduction. Conditions: the elements are small.
-/
import Derived.Test.YtpeaeminjbjlnaaDoorMk16
import Derived.Deep.CutRange
import Derived.Test.YtpeaeminjbjlnaaDoorMk08
namespace Go.Proofs.YtpeaeminjbjlnaaDoor
open Go.RowKit
set_option linter.unusedVariables false

theorem MidS.drewN {B : Nat} {v u : Value} {vs0 us0 : List Value} {w0 : World} {R T : List (List Int)} {w : World} (h : MidS B v u vs0 us0 w0 R T w) (q : Nat) : MidS B v u vs0 us0 w0 R T (w.drewN q) := by
  obtain ⟨vs, us, t, s1, s2⟩ := h.ex
  exact h.next t s1 s2 ⟨t.mR.only (Only.drewN (fun _ => False) w q) (fun _ _ h => h), t.mT.only (Only.drewN (fun _ => False) w q) (fun _ _ h => h), t.ap⟩ (fun x h => h) (fun x h => h) (Only.drewN _ _ _)
theorem set4_drewN (w : World) (q : Nat) (a b c d : Addr) (x y z t : Value) : ((((w.drewN q).setCell a x).setCell b y).setCell c z).setCell d t = ((((w.setCell a x).setCell b y).setCell c z).setCell d t).drewN q := rfl
theorem grown_drew {w W : World} (h : w.grownBy W none) : w.grownBy W.drew none := ⟨h.os, h.tape, h.output, h.size, h.block⟩
theorem b1of {w1 w2 : World} {o : Obj} (hg : (w1.alloc o).drew.grownBy w2 none) : w2.heap[w1.heap.size]? = some o ∧ w1.heap.size + 1 ≤ w2.heap.size := by
  have hs : (w1.alloc o).drew.heap.size = w1.heap.size + 1 := by show (w1.alloc o).heap.size = _; simp
  have := hg.size
  exact ⟨(hg.block w1.heap.size (by omega) (by simp)).trans (alloc_heap_new w1 o), by omega⟩
theorem b2of {w1 w2 : World} {o o' : Obj} (hg : ((w1.alloc o).alloc o').drew.grownBy w2 none) : w2.heap[w1.heap.size]? = some o ∧ w2.heap[w1.heap.size + 1]? = some o' ∧ w1.heap.size + 1 + 1 ≤ w2.heap.size := by
  have hs : ((w1.alloc o).alloc o').drew.heap.size = w1.heap.size + 1 + 1 := by show ((w1.alloc o).alloc o').heap.size = _; simp
  have h1 := alloc_heap_new (w1.alloc o) o'
  have h2 := alloc_heap_old (w1.alloc o) o' w1.heap.size (by simp)
  have hs1 : (w1.alloc o).heap.size = w1.heap.size + 1 := by simp
  rw [hs1] at h1
  have := hg.size
  exact ⟨(hg.block w1.heap.size (by omega) (by simp)).trans (h2.trans (alloc_heap_new w1 o)), (hg.block _ (by omega) (by simp)).trans h1, by omega⟩
abbrev Bx (x y : Value) : Obj := .cells #[x, y] 39 (0, 0)
theorem set2 {w : World} {x : Nat} {a0 c0 a c : Value} (h : w.heap[x]? = some (Bx a0 c0)) :
    ((w.setCell ⟨x, 0, none⟩ a).setCell ⟨x, 1, none⟩ c).heap[x]? = some (Bx a c) ∧ (∀ k, k ≠ x → ((w.setCell ⟨x, 0, none⟩ a).setCell ⟨x, 1, none⟩ c).heap[k]? = w.heap[k]?) ∧
      ((w.setCell ⟨x, 0, none⟩ a).setCell ⟨x, 1, none⟩ c).heap.size = w.heap.size ∧ Only (fun k => k = x) w ((w.setCell ⟨x, 0, none⟩ a).setCell ⟨x, 1, none⟩ c) := by
  refine ⟨?_, fun k hk => ?_, by simp [World.setCell], one_set x a c⟩
  · simp only [World.setCell]
    rw [Array.getElem?_modify, if_pos rfl, Array.getElem?_modify, if_pos rfl, h]
    rfl
  · rw [Below.heap_setCell _ _ _ _ hk, Below.heap_setCell _ _ _ _ hk]
/-- two boxes laid, and nothing else done -/
def Res (w E : World) (x y : Nat) (ox oy : Obj) : Prop := E.heap[x]? = some ox ∧ E.heap[y]? = some oy ∧ Only (fun k => k = x ∨ k = y) w E
theorem Res.symm {w E : World} {x y : Nat} {ox oy : Obj} (h : Res w E x y ox oy) : Res w E y x oy ox := ⟨h.2.1, h.1, h.2.2.mono fun k hk => hk.symm⟩
theorem res1 (w : World) (ox oy : Obj) : Res w ((w.alloc ox).alloc oy) w.heap.size (w.heap.size + 1) ox oy := by
  have h := alloc_heap_new (w.alloc ox) oy
  rw [show (w.alloc ox).heap.size = w.heap.size + 1 by simp] at h
  exact ⟨(alloc_heap_old (w.alloc ox) oy w.heap.size (by simp)).trans (alloc_heap_new w ox), h, Only.of_grown ((grownBy_alloc w ox none).trans (grownBy_alloc _ oy none)) (by simp)⟩
theorem res2 {w : World} {x : Nat} {a0 c0 : Value} (h : w.heap[x]? = some (Bx a0 c0)) (a c : Value) (oy : Obj) : Res w (((w.alloc oy).setCell ⟨x, 0, none⟩ a).setCell ⟨x, 1, none⟩ c) x w.heap.size (Bx a c) oy := by
  have hx := lt_of_blk h
  have s := set2 (a := a) (c := c) ((alloc_heap_old w oy x hx).trans h)
  exact ⟨s.1, (s.2.1 _ (by omega)).trans (alloc_heap_new w oy), (Only.of_grown (S := fun k => k = x ∨ k = w.heap.size) (grownBy_alloc w oy none) (by simp)).trans (s.2.2.2.mono fun k hk => Or.inl hk)⟩
theorem res3 {w : World} {x : Nat} {a0 c0 b0 d0 : Value} (h : w.heap[x]? = some (Bx a0 c0)) (a c b d : Value) :
    Res w (((((w.alloc (Bx b0 d0)).setCell ⟨x, 0, none⟩ a).setCell ⟨x, 1, none⟩ c).setCell ⟨w.heap.size, 0, none⟩ b).setCell ⟨w.heap.size, 1, none⟩ d) x w.heap.size (Bx a c) (Bx b d) := by
  have hx := lt_of_blk h
  obtain ⟨r1, r2, r3⟩ := res2 h a c (Bx b0 d0)
  have s := set2 (a := b) (c := d) r2
  exact ⟨(s.2.1 _ (by omega)).trans r1, s.1, r3.trans (s.2.2.2.mono fun k hk => Or.inr hk)⟩
theorem res4 {w : World} {x y : Nat} {a0 c0 b0 d0 : Value} (h : w.heap[x]? = some (Bx a0 c0)) (h' : w.heap[y]? = some (Bx b0 d0)) (hne : x ≠ y) (a c b d : Value) :
    Res w ((((w.setCell ⟨x, 0, none⟩ a).setCell ⟨x, 1, none⟩ c).setCell ⟨y, 0, none⟩ b).setCell ⟨y, 1, none⟩ d) x y (Bx a c) (Bx b d) := by
  have s := set2 (a := a) (c := c) h
  have s' := set2 (a := b) (c := d) ((s.2.1 y (Ne.symm hne)).trans h')
  exact ⟨(s'.2.1 x hne).trans s.1, s'.1, (s.2.2.2.mono fun k hk => Or.inl hk).trans (s'.2.2.2.mono fun k hk => Or.inr hk)⟩
theorem pair_close {w1 w2 w3 E : World} {v u : Value} {vs us : List Value} {L T : List (List Int)} {x y : Nat} {ox oy : Obj} (h1 : OwnM w1.heap.size w2 v vs L) (hg : w2.grownBy w3 none) (h2 : OwnM w2.heap.size w3 u us T) (hs : w1.grownBy w2 none)
    (hx : w3.heap.size ≤ x ∨ ∃ a c, w3.heap[x]? = some (Bx a c)) (hy : w3.heap.size ≤ y ∨ ∃ a c, w3.heap[y]? = some (Bx a c)) (lx : w1.heap.size ≤ x) (ly : w1.heap.size ≤ y) (r : Res w3 E x y ox oy) :
    E.heap[x]? = some ox ∧ E.heap[y]? = some oy ∧ Two w1.heap.size E v vs u us L T ∧ w1.grownBy E none ∧ w1.heap.size ≤ x ∧ w1.heap.size ≤ y := by
  obtain ⟨r1, r2, r3⟩ := r
  have t1 := h1.carry hg
  have t2 := h2.base hs.size
  have hap : ∀ k, Foot v vs k → ¬ Foot u us k := fun k hk hk' => by
    have h3 := (h1.lt hk).2
    have h4 := (h2.lt hk').1
    omega
  have nf : ∀ k, (k = x ∨ k = y) → ∀ {v : Value} {vs : List Value} {L : List (List Int)}, OwnM w1.heap.size w3 v vs L → ¬ Foot v vs k := by
    intro k hk v vs L ho hf
    have hlt := (ho.lt hf).2
    rcases hk with rfl | rfl
    · rcases hx with h | ⟨a, c, h⟩
      · omega
      · exact foot_ne h ho hf
    · rcases hy with h | ⟨a, c, h⟩
      · omega
      · exact foot_ne h ho hf
  refine ⟨r1, r2, ⟨t1.only r3 fun k hk hk' => nf k hk' t1 hk, t2.only r3 fun k hk hk' => nf k hk' t2 hk, hap⟩, ?_, lx, ly⟩
  have hb := (hs.trans hg)
  exact grown_of_below ((Below.grown (Below.refl _ w1) hb (Nat.le_refl _) (by simp)).trans (r3.below hb.size fun k hk => by rcases hk with rfl | rfl <;> assumption))
/-- what a box of a matrix gives the walk -/
theorem box_facts {w : World} {k : Nat} {x y : Value} (h : w.heap[k]? = some (.cells #[x, y] 39 (0, 0))) :
    (w.cell? ⟨k, 0, none⟩ = some x ∧ w.cell? ⟨k, 1, none⟩ = some y ∧ w.frozen? ⟨k, 0, none⟩ = false ∧ w.frozen? ⟨k, 1, none⟩ = false) ∧
    (∀ o, (w.alloc o).cell? ⟨k, 0, none⟩ = some x ∧ (w.alloc o).cell? ⟨k, 1, none⟩ = some y ∧ (w.alloc o).frozen? ⟨k, 0, none⟩ = false ∧ (w.alloc o).frozen? ⟨k, 1, none⟩ = false) ∧
    (∀ o o', ((w.alloc o).alloc o').cell? ⟨k, 0, none⟩ = some x ∧ ((w.alloc o).alloc o').cell? ⟨k, 1, none⟩ = some y ∧ ((w.alloc o).alloc o').frozen? ⟨k, 0, none⟩ = false ∧ ((w.alloc o).alloc o').frozen? ⟨k, 1, none⟩ = false) := by
  have f : ∀ {w : World}, w.heap[k]? = some (.cells #[x, y] 39 (0, 0)) → (w.cell? ⟨k, 0, none⟩ = some x ∧ w.cell? ⟨k, 1, none⟩ = some y ∧ w.frozen? ⟨k, 0, none⟩ = false ∧ w.frozen? ⟨k, 1, none⟩ = false) :=
    fun h => ⟨cell_blk h 0, cell_blk h 1, free_blk h 0, free_blk h 1⟩
  have g : ∀ {w : World} o, w.heap[k]? = some (.cells #[x, y] 39 (0, 0)) → (w.alloc o).heap[k]? = some (.cells #[x, y] 39 (0, 0)) := fun o h => (alloc_heap_old _ o k (lt_of_blk h)).trans h
  exact ⟨f h, fun o => f (g o h), fun o o' => f (g o' (g o h))⟩
theorem held_set {w : World} {b k : Nat} {x y u v : Value} (h : w.cell? ⟨b, 0, none⟩ = some x ∧ w.cell? ⟨b, 1, none⟩ = some y) (hne : b ≠ k) :
    ((w.setCell ⟨k, 0, none⟩ u).setCell ⟨k, 1, none⟩ v).cell? ⟨b, 0, none⟩ = some x ∧ ((w.setCell ⟨k, 0, none⟩ u).setCell ⟨k, 1, none⟩ v).cell? ⟨b, 1, none⟩ = some y := by
  have hb : ((w.setCell ⟨k, 0, none⟩ u).setCell ⟨k, 1, none⟩ v).heap[b]? = w.heap[b]? := by rw [Below.heap_setCell _ _ _ _ hne, Below.heap_setCell _ _ _ _ hne]
  exact ⟨(World.cell?_of_block (a := ⟨b, 0, none⟩) hb).trans h.1, (World.cell?_of_block (a := ⟨b, 1, none⟩) hb).trans h.2⟩
theorem b1of' {w1 w2 : World} {o : Obj} (hg : (w1.alloc o).grownBy w2 none) : w2.heap[w1.heap.size]? = some o ∧ w1.heap.size + 1 ≤ w2.heap.size := b1of (w1 := w1) (o := o) ⟨hg.os, hg.tape, hg.output, hg.size, hg.block⟩
theorem b2of' {w1 w2 : World} {o o' : Obj} (hg : ((w1.alloc o).alloc o').grownBy w2 none) : w2.heap[w1.heap.size]? = some o ∧ w2.heap[w1.heap.size + 1]? = some o' ∧ w1.heap.size + 1 + 1 ≤ w2.heap.size :=
  b2of (w1 := w1) ⟨hg.os, hg.tape, hg.output, hg.size, hg.block⟩

set_option maxRecDepth 100000 in
set_option maxHeartbeats 4000000 in
theorem mxReduce_any (p : Nat) [NeZero p] (n : Nat) (u : Value) (L : List (List Int)) (w : World) (hfld : fldN p = true) (hp2 : p ≤ 1000) (hv : MatV w u L) (hL : RowsOk p n L) (hm : L.length ≤ 1000) (hn : n ≤ 1000) :
    Calls Tryd.prog 122 #[.int .i64 p, mxV n u] w fun e w' => ∃ o1 o2 det, e = .returned (.tuple #[mxV n o1, mxV L.length o2, .int .i64 (redTo p L (idL L.length) n).r, .int .i64 det]) ∧ (0 ≤ det ∧ det < p) ∧
      (∃ vs us, Two w.heap.size w' o1 vs o2 us (redTo p L (idL L.length) n).R (redTo p L (idL L.length) n).T) ∧ w.grownBy w' none := by
  have hp1 := lt_p hfld
  have HC := Lib.hid fun w1 (hg : w.grownBy w1 none) => mxCopy_any n u L w1 (hv.carry hg) hm (fun row hrow => by rw [(hL row hrow).1]; exact hn)
  have hsh := hv.shape
  have HFIT0 := Lib.hid (show Fit p L.length n L.length L (idL L.length) from ⟨rfl, idL_len _, hL, idL_ok hp1⟩)
  unfold mxV at *
  obtain ⟨ua, uc, rfl⟩ := hsh
  clear hv hL
  generalize hml : L.length = m at *
  have HML := Lib.hid hml
  clear hml
  go_enter Tryd.func122, Tryd.ntmps122
  go_wp2_with fail
  have HB := Lib.hid (blk3 w (.cells #[.int .i64 n, .slice ua m uc] 39) (.cells #[.int .i64 0, .slice none 0 0] 39) (.cells #[.int .i64 0, .slice none 0 0] 39) (grownBy_refl _ none))
  have hg1 : w.grownBy (((w.alloc (.cells #[.int .i64 n, .slice ua m uc] 39)).alloc (.cells #[.int .i64 0, .slice none 0 0] 39)).alloc (.cells #[.int .i64 0, .slice none 0 0] 39)) none :=
    ((grownBy_alloc _ _ none).trans (grownBy_alloc _ _ none)).trans (grownBy_alloc _ _ none)
  generalize ((w.alloc (.cells #[.int .i64 n, .slice ua m uc] 39)).alloc (.cells #[.int .i64 0, .slice none 0 0] 39)).alloc (.cells #[.int .i64 0, .slice none 0 0] 39) = w1 at *
  have HWD := Lib.hid (show w.grownBy w1.drew none from ⟨hg1.os, hg1.tape, hg1.output, hg1.size, hg1.block⟩)
  have c1 := Lib.hid (box_facts HB.out.1)
  have D0 := Lib.hid (show w1.drew.cell? ⟨w.heap.size, 0, none⟩ = some (.int .i64 n) ∧ w1.drew.cell? ⟨w.heap.size, 1, none⟩ = some (.slice ua m uc) from ⟨c1.out.1.1, c1.out.1.2.1⟩)
  have D1 := Lib.hid (show ∀ o, (w1.alloc o).drew.cell? ⟨w.heap.size, 0, none⟩ = some (.int .i64 n) ∧ (w1.alloc o).drew.cell? ⟨w.heap.size, 1, none⟩ = some (.slice ua m uc) from fun o => ⟨(c1.out.2.1 o).1, (c1.out.2.1 o).2.1⟩)
  have D2 := Lib.hid (show ∀ o o', ((w1.alloc o).alloc o').drew.cell? ⟨w.heap.size, 0, none⟩ = some (.int .i64 n) ∧ ((w1.alloc o).alloc o').drew.cell? ⟨w.heap.size, 1, none⟩ = some (.slice ua m uc) from fun o o' => ⟨(c1.out.2.2 o o').1, (c1.out.2.2 o o').2.1⟩)
  have HG1 := Lib.hid hg1
  have hbl : w.heap.size < w1.heap.size := lt_of_blk HB.out.1
  clear hg1
  generalize hbe : w.heap.size = b at *
  have HBE := Lib.hid hbe
  clear hbe
  have hcw : ∀ W, w1.grownBy W none → Calls Tryd.prog 255 #[.agg #[.int .i64 n, .slice ua m uc]] W fun e w2 => ∃ va vc vs, e = .returned (.agg #[.int .i64 n, .slice va m vc]) ∧ OwnM w1.heap.size w2 (.slice va m vc) vs L ∧ w1.grownBy w2 none ∧ W.grownBy w2 none ∧
      w2.heap[b]? = some (.cells #[.int .i64 n, .slice ua m uc] 39 (0, 0)) := by
    intro W hW
    refine (HC.out W (HG1.out.trans hW)).mono ?_
    rintro e w2 ⟨o, vs, rfl, hown, hg⟩
    obtain ⟨va, vc, hve, hvi, hcap⟩ := own_form hown
    rw [HML.out] at hve
    subst hve
    have hb := lt_of_blk HB.out.1
    have q2 := (hg.block b (Nat.lt_of_lt_of_le hb hW.size) (by simp)).trans ((hW.block b hb (by simp)).trans HB.out.1)
    exact ⟨va, vc, vs, rfl, hown.base hW.size, hW.trans hg, hg, q2⟩
  have HCW := Lib.hid hcw
  clear hcw
  have hid' : ∀ w2 W : World, w2.grownBy W none → Calls Tryd.prog 256 #[.int .i64 m] W fun e w3 => ∃ va vc vs, e = .returned (.agg #[.int .i64 m, .slice va m vc]) ∧ OwnM w2.heap.size w3 (.slice va m vc) vs (idL m) ∧ w2.grownBy w3 none ∧ W.grownBy w3 none := by
    intro w2 W hW
    refine (mxId_any m W hm).mono ?_
    rintro e w3 ⟨o, vs, rfl, hown, hg⟩
    obtain ⟨va, vc, hve, hvi, hcap⟩ := own_form hown
    rw [idL_len] at hve
    subst hve
    exact ⟨va, vc, vs, rfl, hown.base hW.size, hW.trans hg, hg⟩
  have HID := Lib.hid hid'
  clear hid'
  go_upto_region 1 with fail
  go_cut [8, 9] from 19 to 24 (fun ta tt wx => ∃ (ba bt : Nat) (va : Option Addr) (vc : Nat) (va2 : Option Addr) (vc2 : Nat) (vs us : List Value), ta = .pointer (some ⟨ba, 0, none⟩) ∧ tt = .pointer (some ⟨bt, 0, none⟩) ∧
    wx.heap[ba]? = some (Bx (.int .i64 n) (.slice va m vc)) ∧ wx.heap[bt]? = some (Bx (.int .i64 m) (.slice va2 m vc2)) ∧ Two w1.heap.size wx (.slice va m vc) vs (.slice va2 m vc2) us L (idL m) ∧ w1.grownBy wx none ∧ w1.heap.size ≤ ba ∧ w1.heap.size ≤ bt)
  case first =>
    go_region_held3 (fun w' => w'.cell? ⟨b, 0, none⟩ = some (.int .i64 n) ∧ w'.cell? ⟨b, 1, none⟩ = some (.slice ua m uc)) (first | with_reducible exact D0.out | with_reducible exact D1.out _ | with_reducible exact D2.out _ _ | with_reducible exact ⟨q1.out.1.1, q1.out.1.2.1⟩ | with_reducible exact ⟨(q1.out.2.1 _).1, (q1.out.2.1 _).2.1⟩ | with_reducible exact ⟨(q1.out.2.2 _ _).1, (q1.out.2.2 _ _).2.1⟩ | with_reducible exact ⟨r1.out.1.1, r1.out.1.2.1⟩ | with_reducible exact ⟨(r1.out.2.1 _).1, (r1.out.2.1 _).2.1⟩ | with_reducible exact ⟨(r1.out.2.2 _ _).1, (r1.out.2.2 _ _).2.1⟩ | with_reducible exact held_set (by assumption) (by omega) | go_keep)
      (first
        | (go_at_call 255
           refine (HCW.out _ ?_).mono ?_
           · first
               | with_reducible exact grown_drew (grownBy_refl _ _)
               | with_reducible exact grown_drew (grownBy_alloc w1 _ none)
               | with_reducible exact grown_drew ((grownBy_alloc w1 _ none).trans (grownBy_alloc _ _ none))
           rintro e w2 ⟨va, vc, vs, rfl, hown, hgs, hg, q0⟩
           have q1 := Lib.hid (box_facts q0)
           have Q0 := Lib.hid q0
           clear q0
           have HO := Lib.hid hown; have HG := Lib.hid hg
           have N12 : w1.heap.size ≤ w2.heap.size := hgs.size
           have HGS := Lib.hid hgs
           first
             | (with_reducible have k0 := b2of hg
                have K1 := Lib.hid k0.1; have K2 := Lib.hid k0.2.1
                have N1 := Lib.hid k0.2.2)
             | (with_reducible have k0 := b1of hg
                have K1 := Lib.hid k0.1
                have N1 := Lib.hid k0.2)
             | skip
           clear hown hg hgs)
        | (go_at_call 256
           refine (HID.out w2 _ ?_).mono ?_
           · first
               | with_reducible exact grownBy_refl _ _
               | with_reducible exact grownBy_alloc w2 _ none
               | with_reducible exact (grownBy_alloc w2 _ none).trans (grownBy_alloc _ _ none)
           rintro e w3 ⟨va2, vc2, vs2, rfl, hown2, HCW2, hg2⟩
           have HO2 := Lib.hid hown2; have HG2 := Lib.hid hg2
           have r1 := Lib.hid (box_facts ((HCW2.block b (lt_of_blk Q0.out) (by simp)).trans Q0.out))
           try (have A1 := (HCW2.block _ (lt_of_blk K1.out) (by simp)).trans K1.out
                have B1 := Lib.hid A1
                have A1 := box_facts A1)
           try (have A2 := (HCW2.block _ (lt_of_blk K2.out) (by simp)).trans K2.out
                have B2 := Lib.hid A2
                have A2 := box_facts A2)
           first
             | (with_reducible have k0 := b2of' hg2
                have B3 := Lib.hid k0.1; have B4 := Lib.hid k0.2.1
                have A3 := box_facts k0.1
                have A4 := box_facts k0.2.1
                have N3 := k0.2.2
                clear k0)
             | (with_reducible have k0 := b1of' hg2
                have B3 := Lib.hid k0.1
                have A3 := box_facts k0.1
                have N3 := k0.2
                clear k0)
             | skip
           have HPC := Lib.hid fun E x y ox oy => pair_close (E := E) (x := x) (y := y) (ox := ox) (oy := oy) HO.out HCW2 hown2 HGS.out
           have N23 := HCW2.size
           have L13 := Nat.le_trans N12 N23
           have HCW3 := Lib.hid HCW2
           try have N5 : w1.heap.size ≠ w2.heap.size := by have := N1.out; omega
           try have N6 : w1.heap.size ≠ w3.heap.size := by have := N1.out; omega
           try have N7 : w1.heap.size ≠ w3.heap.size := by omega
           try have N8 : w2.heap.size ≠ w3.heap.size := by omega
           clear hown2 hg2 HCW2))
    all_goals
      go_wp2_with fail
      go_meet
      refine ⟨_, _, va, vc, va2, vc2, vs, vs2, rfl, rfl, ?_⟩
      first
        | with_reducible exact HPC.out _ _ _ _ _ (Or.inl (Nat.le_refl _)) (Or.inl (Nat.le_succ _)) (L13) (Nat.le_succ_of_le L13) (res1 _ _ _)
        | with_reducible exact HPC.out _ _ _ _ _ (Or.inl (Nat.le_succ _)) (Or.inl (Nat.le_refl _)) (Nat.le_succ_of_le L13) (L13) ((res1 _ _ _).symm)
        | with_reducible exact HPC.out _ _ _ _ _ (Or.inr ⟨_, _, B1.out⟩) (Or.inl (Nat.le_refl _)) (Nat.le_refl _) (L13) (res3 B1.out _ _ _ _)
        | with_reducible exact HPC.out _ _ _ _ _ (Or.inr ⟨_, _, B3.out⟩) (Or.inl (Nat.le_refl _)) (N12) (L13) (res3 B3.out _ _ _ _)
        | with_reducible exact HPC.out _ _ _ _ _ (Or.inl (Nat.le_refl _)) (Or.inr ⟨_, _, B1.out⟩) (L13) (Nat.le_refl _) ((res2 B1.out _ _ _).symm)
        | with_reducible exact HPC.out _ _ _ _ _ (Or.inl (Nat.le_refl _)) (Or.inr ⟨_, _, B3.out⟩) (L13) (N12) ((res2 B3.out _ _ _).symm)
        | with_reducible exact HPC.out _ _ _ _ _ (Or.inr ⟨_, _, B3.out⟩) (Or.inr ⟨_, _, B4.out⟩) (N12) (Nat.le_succ_of_le N12) (res4 B3.out B4.out (Nat.ne_of_lt (Nat.lt_succ_self _)) _ _ _ _)
        | with_reducible exact HPC.out _ _ _ _ _ (Or.inr ⟨_, _, B4.out⟩) (Or.inr ⟨_, _, B3.out⟩) (Nat.le_succ_of_le N12) (N12) (res4 B4.out B3.out (Nat.ne_of_gt (Nat.lt_succ_self _)) _ _ _ _)
        | with_reducible exact HPC.out _ _ _ _ _ (Or.inr ⟨_, _, B1.out⟩) (Or.inr ⟨_, _, B2.out⟩) (Nat.le_refl _) (Nat.le_succ _) (res4 B1.out B2.out (Nat.ne_of_lt (Nat.lt_succ_self _)) _ _ _ _)
        | with_reducible exact HPC.out _ _ _ _ _ (Or.inr ⟨_, _, B2.out⟩) (Or.inr ⟨_, _, B1.out⟩) (Nat.le_succ _) (Nat.le_refl _) (res4 B2.out B1.out (Nat.ne_of_gt (Nat.lt_succ_self _)) _ _ _ _)
        | with_reducible exact HPC.out _ _ _ _ _ (Or.inr ⟨_, _, B1.out⟩) (Or.inr ⟨_, _, B3.out⟩) (Nat.le_refl _) (N12) (res4 B1.out B3.out (N5) _ _ _ _)
        | with_reducible exact HPC.out _ _ _ _ _ (Or.inr ⟨_, _, B3.out⟩) (Or.inr ⟨_, _, B1.out⟩) (N12) (Nat.le_refl _) (res4 B3.out B1.out (Ne.symm N5) _ _ _ _)
  case rest =>
    obtain ⟨ba, bt, va, vc, va2, vc2, vs, us, rfl, rfl, hka, hkt, htw, hgr, hNa, hNt⟩ := hcut
    obtain ⟨w9, hw9⟩ : ∃ w9, w9 = wc := ⟨_, rfl⟩
    subst hw9
    have HM0 := Lib.hid (show MidS w1.heap.size (.slice va m vc) (.slice va2 m vc2) vs us w9 L (idL m) w9 from ⟨⟨vs, us, htw, fun x h => h, fun x h => h⟩, Only.refl _ _, fun k cs h => h⟩)
    have HGR := Lib.hid hgr
    have hkm := (hgr.block b (lt_of_blk HB.out.1) (by simp)).trans HB.out.1
    have hk4 := (hgr.block (b + 1) (lt_of_blk HB.out.2.1) (by simp)).trans HB.out.2.1
    have hk5 := (hgr.block (b + 1 + 1) (lt_of_blk HB.out.2.2.1) (by simp)).trans HB.out.2.2.1
    have KA := Lib.hid hka; have KT := Lib.hid hkt; have KM := Lib.hid hkm; have K4 := Lib.hid hk4; have K5 := Lib.hid hk5
    have HTW := Lib.hid htw
    have HAT := Lib.hid (fun k (hk : k ≤ n) => at_round hfld HFIT0.out hk)
    have HP := Lib.hid hfld
    have hbl' : b + 1 + 1 < w1.heap.size := lt_of_blk HB.out.2.2.1
    clear hka hkt hkm hk4 hk5 htw hgr hfld HC HCW HID c1 D0 D1 D2 hbl
    generalize w1.heap.size = N at *
    go_wp2_with fail
    go_loopw [10, 11, 12] (fun r det c wr => ∃ (k : Nat) (d : Int), k ≤ n ∧ c = .int .i64 k ∧ r = .int .i64 (redTo p L (idL m) k).r ∧ det = .int .i64 d ∧ 0 ≤ d ∧ d < p ∧ MidS N (.slice va m vc) (.slice va2 m vc2) vs us w9 (redTo p L (idL m) k).R (redTo p L (idL m) k).T wr) (fun _ _ c _ => n - (intOf c).toNat)
    case atStart => exact ⟨0, 1, by omega, rfl, rfl, rfl, by omega, by omega, HM0.out⟩
    case round =>
      obtain ⟨k, d, hk, rfl, rfl, rfl, hd0, hd1, hmid⟩ := hrel
      have HMID := Lib.hid hmid
      obtain ⟨hfit, hrm⟩ := HAT.out k hk
      have HFIT := Lib.hid hfit
      have ea := hmid.keep _ _ KA.out
      have et := hmid.keep _ _ KT.out
      have em := hmid.keep _ _ KM.out
      have ca1 := cell_blk ea 1
      have cm0 := cell_blk em 0
      simp only [List.getElem?_toArray, List.getElem?_cons_zero, List.getElem?_cons_succ] at ca1 cm0
      clear hmid hfit ea et em
      have hnext : redTo p L (idL m) (k + 1) = stepL p k (redTo p L (idL m) k) := rfl
      have HNEXT := Lib.hid hnext
      clear hnext
      generalize hs : redTo p L (idL m) k = s at *
      have HS := Lib.hid hs
      clear hs
      generalize hsr : s.r = r at *
      have HSR := Lib.hid hsr
      clear hsr
      by_cases hkn : k < n
      · go_wp2_with fail
        go_loop [13] (fun i => ∃ j : Nat, j ≤ m ∧ i = .int .i64 j ∧ r ≤ j ∧ ∀ l, r ≤ l → l < j → at2 s.R l k = 0) (fun i => m - (intOf i).toNat)
        case atStart => exact ⟨r, hrm, rfl, Nat.le_refl _, fun l h1 h2 => absurd h1 (by omega)⟩
        case round =>
          obtain ⟨j, hjm, rfl, hrj, hz⟩ := hrel
          have HZ := Lib.hid hz
          clear hz
          by_cases hj : j < m
          · obtain ⟨g, cap, gj, cj, hve, e1, e2⟩ := HMID.out.elem HFIT.out hj hkn
            simp only [Value.slice.injEq, true_and] at hve
            obtain ⟨rfl, rfl⟩ := hve
            have hyb0 : 0 ≤ at2 s.R j k ∧ at2 s.R j k < p := at2_ok HFIT.out.oR
            generalize hy : at2 s.R j k = y at *
            have HY := Lib.hid hy
            clear hy
            by_cases hy0 : y = 0
            · subst hy0
              go_wp2
              go_round
              case rel => exact ⟨j + 1, by omega, by go_num, by omega, fun l h1 h2 => by
                by_cases hlj : l = j
                · rw [hlj]; exact HY.out
                · exact HZ.out l h1 (by omega)⟩
              case measure => simp [intOf]; omega
            · have hyb : (y == 0) = false := by rw [beq_eq_false_iff_ne]; exact hy0
              have hjb : ((j : Int) == m) = false := by rw [beq_eq_false_iff_ne]; omega
              have hrlt : r < m := by omega
              have hpiv : pivAt s.R k r = some j := pivAt_is_some (by rw [HFIT.out.lR]; exact hrm) HZ.out hrj (by rw [HFIT.out.lR]; exact hj) (by rw [HY.out]; exact hy0)
              have hstep : stepL p k s = stepWith p k j s := by unfold stepL; rw [HSR.out, hpiv]
              have HSTEP := Lib.hid hstep
              have hfit1 := fit_swap HFIT.out hrlt hj
              have HFIT1 := Lib.hid hfit1
              have hyy : at2 (swapL s.R r j) r k = y := by
                rw [← HY.out]
                unfold at2
                rw [swapL_get (by rw [HFIT.out.lR]; exact hrlt) (by rw [HFIT.out.lR]; exact hj)]
                unfold La.tw
                rw [if_pos rfl]
              have HYY := Lib.hid hyy
              clear hstep hpiv hfit1 hyy
              go_upto_if 57 with fail
              clear e1 e2 hyb hjb ca1 cm0
              go_cut [11, 14, 15] from 25 to 180 (fun det x1 y1 wx => ∃ d : Int, det = .int .i64 d ∧ 0 ≤ d ∧ d < p ∧ MidS N (.slice (some ⟨g, 0, none⟩) m vc) (.slice va2 m vc2) vs us w9 (swapL s.R r j) (swapL s.T r j) wx)
              case first =>
                by_cases hrj2 : r = j
                · subst hrj2
                  have hself1 := swapL_self (L := s.R) (r := r) (by rw [HFIT.out.lR]; exact hj)
                  have hself2 := swapL_self (L := s.T) (r := r) (by rw [HFIT.out.lT]; exact hj)
                  have HS1 := Lib.hid hself1; have HS2 := Lib.hid hself2
                  clear hself1 hself2
                  go_wp2_with fail
                  go_meet
                  exact ⟨d, rfl, hd0, hd1, by rw [HS1.out, HS2.out]; exact HMID.out⟩
                · obtain ⟨ga, ca, gt, ct, xr, xi, yr, yi, hv, hu, hgg, hbox, ⟨a1, c1, rfl⟩, ⟨a2, c2, rfl⟩, ⟨a3, c3, rfl⟩, ⟨a4, c4, rfl⟩, d1, d2, d3, d4, f1, f2, f3, f4, hsw⟩ := HMID.out.swap HFIT.out hrlt hj hrj2
                  simp only [Value.slice.injEq, Option.some.injEq, Addr.mk.injEq, and_true, true_and] at hv
                  obtain ⟨rfl, rfl⟩ := hv
                  simp only [Value.slice.injEq, true_and] at hu
                  obtain ⟨rfl, rfl⟩ := hu
                  obtain ⟨n1, n2⟩ := hbox _ _ KA.out
                  obtain ⟨n3, n4⟩ := hbox _ _ KT.out
                  have ea := cell_blk (HMID.out.keep _ _ KA.out) 1
                  have et := cell_blk (HMID.out.keep _ _ KT.out) 1
                  simp only [List.getElem?_toArray, List.getElem?_cons_zero, List.getElem?_cons_succ] at ea et
                  have hjr : j ≠ r := fun e => hrj2 e.symm
                  have hgg' : gt ≠ g := fun e => hgg e.symm
                  have n1' : g ≠ ba := fun e => n1 e.symm
                  have n2' : gt ≠ ba := fun e => n2 e.symm
                  have n3' : g ≠ bt := fun e => n3 e.symm
                  have n4' : gt ≠ bt := fun e => n4 e.symm
                  have HSW := Lib.hid hsw
                  clear hsw hbox
                  have hlt2 : r < j := by omega
                  go_wp2_with fail
                  go_quiet (fail)
                  go_wp2_with fail
                  go_region
                  go_wp2_with fail
                  go_region
                  go_wp2_with (go_at_call 237; refine (fdNegS_any p d _ (by omega) (by omega) hd0 (by omega)).mono ?_; rintro e w' ⟨d', rfl, hd0', hd1', rfl⟩)
                  go_meet
                  exact ⟨d', rfl, hd0', hd1', by rw [set4_drewN]; exact (HSW.out.drewN _).drew.drew⟩
              case rest =>
                obtain ⟨d2, rfl, hd20, hd21, hmid1⟩ := hcut
                have HM1 := Lib.hid hmid1
                have hyp : 0 < y := by omega
                obtain ⟨hi1, hi2, hi3⟩ := inv_ok HP.out hyp hyb0.2
                have HINV := Lib.hid fun w1 => fdInvS_any p y w1 HP.out hp2 hyp hyb0.2
                have HMUL := Lib.hid fun w1 => fdMulS_any p d2 y w1 (by omega) (by omega) hd20 (by omega) hyb0.1 (by omega)
                obtain ⟨g1, cap1, gr1, cr1, hve1, b1, b2⟩ := hmid1.elem HFIT1.out hrlt hkn
                simp only [Value.slice.injEq, Option.some.injEq, Addr.mk.injEq, and_true, true_and] at hve1
                obtain ⟨rfl, rfl⟩ := hve1
                rw [HYY.out] at b2
                have ea := cell_blk (hmid1.keep _ _ KA.out) 1
                have et := cell_blk (hmid1.keep _ _ KT.out) 1
                have HM1D := Lib.hid hmid1.drew
                simp only [List.getElem?_toArray, List.getElem?_cons_zero, List.getElem?_cons_succ] at ea et
                have m0 := Int.emod_nonneg (d2 * y) (show (p : Int) ≠ 0 by omega)
                have m1 := Int.emod_lt_of_pos (d2 * y) (show 0 < (p : Int) by omega)
                clear hmid1
                generalize hR1 : swapL s.R r j = R1 at *
                generalize hT1 : swapL s.T r j = T1 at *
                have HR1 := Lib.hid hR1; have HT1 := Lib.hid hT1
                clear hR1 hT1
                obtain ⟨g2, cap2, a5, c5, hv5, e5, hcall5⟩ := HM1D.out.scaleR HFIT1.out hrlt (invI p y) hn (by omega) (by omega) (by omega) (by omega)
                simp only [Value.slice.injEq, Option.some.injEq, Addr.mk.injEq, and_true, true_and] at hv5
                obtain ⟨rfl, rfl⟩ := hv5
                have HC5 := Lib.hid hcall5
                have HFIT2 := Lib.hid (fit_div HFIT1.out hrlt (invI p y))
                have HFITM := Lib.hid (show Fit p m n m (divL p R1 r (invI p y)) T1 from ⟨HFIT2.out.lR, HFIT1.out.lT, HFIT2.out.oR, HFIT1.out.oT⟩)
                clear hcall5
                generalize hiv : invI p y = iv at *
                have HIV := Lib.hid hiv
                clear hiv
                have e5' := e5
                change wc.cell? _ = _ at e5'
                generalize hR2 : divL p R1 r iv = R2 at *
                generalize hT2 : divL p T1 r iv = T2 at *
                have HR2 := Lib.hid hR2; have HT2 := Lib.hid hT2
                clear hR2 hT2
                have X0 := Lib.hid (show wc.drew.cell? ⟨ba, 1, none⟩ = some (.slice (some ⟨g, 0, none⟩) m vc) ∧ wc.drew.cell? ⟨g, r, none⟩ = some (.slice a5 n c5) from ⟨ea, e5⟩)
                clear e5
                go_wp2_with (go_at_call 199; refine (HMUL.out _).mono ?_; rintro e w' ⟨rfl, rfl⟩)
                clear b1 b2
                go_region_held3 (fun w' => w'.cell? ⟨ba, 1, none⟩ = some (.slice (some ⟨g, 0, none⟩) m vc) ∧ w'.cell? ⟨g, r, none⟩ = some (.slice a5 n c5)) (first | with_reducible exact X0.out | with_reducible exact X1.out)
                  (first
                    | (go_at_call 198
                       refine (HINV.out _).mono ?_
                       rintro e w' ⟨rfl, rfl⟩)
                    | (go_at_call 257
                       with_reducible refine HC5.out.mono ?_
                       rintro e w2 ⟨rfl, hm2, hc2⟩
                       have hx1 := cell_blk (hm2.keep _ _ KA.out) 1
                       have hx2 := cell_blk (hm2.keep _ _ KT.out) 1
                       simp only [List.getElem?_toArray, List.getElem?_cons_zero, List.getElem?_cons_succ] at hx1 hx2
                       have X1 := Lib.hid (And.intro hx1 hc2)
                       have HM2 := Lib.hid hm2
                       clear hm2 hc2 hx1))
                clear X0 X1 e5' ea et HC5
                obtain ⟨g3, cap3, a6, c6, hv6, e6, hcall6⟩ := HM2.out.drew.scaleT HFITM.out hrlt iv hm (by omega) (by omega) (by omega) (by omega)
                simp only [Value.slice.injEq, true_and] at hv6
                obtain ⟨rfl, rfl⟩ := hv6
                have HC6 := Lib.hid hcall6
                have X2 := Lib.hid (show w2.drew.cell? ⟨bt, 1, none⟩ = some (.slice (some ⟨g3, 0, none⟩) m vc2) ∧ w2.drew.cell? ⟨g3, r, none⟩ = some (.slice a6 m c6) from ⟨hx2, e6⟩)
                clear hcall6 e6 hx2
                go_wp2_with fail
                go_region_held3 (fun w' => w'.cell? ⟨bt, 1, none⟩ = some (.slice (some ⟨g3, 0, none⟩) m vc2) ∧ w'.cell? ⟨g3, r, none⟩ = some (.slice a6 m c6)) (first | with_reducible exact X2.out | with_reducible exact X3.out)
                  (first
                    | (go_at_call 198
                       refine (HINV.out _).mono ?_
                       rintro e w' ⟨rfl, rfl⟩)
                    | (go_at_call 257
                       with_reducible refine HC6.out.mono ?_
                       rintro e w3 ⟨rfl, hm3, hc3⟩
                       have hx2 := cell_blk (hm3.keep _ _ KT.out) 1
                       have hx1 := cell_blk (hm3.keep _ _ KA.out) 1
                       simp only [List.getElem?_toArray, List.getElem?_cons_zero, List.getElem?_cons_succ] at hx1 hx2
                       have X3 := Lib.hid (And.intro hx2 hc3)
                       have HM3 := Lib.hid hm3
                       clear hm3 hc3 hx2))
                clear X2 X3 HC6 HINV HMUL
                go_wp2_with fail
                go_loopw [134] (fun i wx => ∃ l : Nat, l ≤ m ∧ i = .int .i64 l ∧ MidS N (.slice (some ⟨g, 0, none⟩) m vc) (.slice (some ⟨g3, 0, none⟩) m vc2) vs us w9 (clearTo p R2 k r R2 l) (clearTo p R2 k r T2 l) wx) (fun i _ => m - (intOf i).toNat)
                case atStart => exact ⟨0, by omega, rfl, by rw [clearTo_zero, clearTo_zero, ← HT2.out]; exact HM3.out⟩
                case round =>
                  obtain ⟨l, hlm, rfl, hmid4⟩ := hrel
                  have HM4 := Lib.hid hmid4
                  have ka1 := cell_blk (hmid4.keep _ _ KA.out) 1
                  have kt1 := cell_blk (hmid4.keep _ _ KT.out) 1
                  simp only [List.getElem?_toArray, List.getElem?_cons_zero, List.getElem?_cons_succ] at ka1 kt1
                  clear hmid4
                  by_cases hl : l < m
                  · have hfit4 := fit_clear HFIT2.out hrlt k l
                    obtain ⟨g4, cap4, gl4, cl4, hve, d1', d2'⟩ := HM4.out.elem hfit4 hl hkn
                    simp only [Value.slice.injEq, Option.some.injEq, Addr.mk.injEq, and_true, true_and] at hve
                    obtain ⟨rfl, rfl⟩ := hve
                    rw [clearTo_at] at d2'
                    have hzb := at2_ok (i := l) (c := k) HFIT2.out.oR
                    by_cases hlr : l = r
                    · have hb1 : ((l : Int) != r) = false := by rw [bne_eq_false_iff_eq]; omega
                      have hskip : ¬ (l ≠ r ∧ at2 R2 l k ≠ 0) := fun h => h.1 hlr
                      have A1 := Lib.hid (clearTo_skip (p := p) (A := R2) hskip)
                      have A2 := Lib.hid (clearTo_skip (p := p) (A := T2) hskip)
                      clear hskip hfit4 hlr
                      go_wp2
                      go_roundw
                      case rel => exact ⟨l + 1, by omega, by go_num, by rw [A1.out, A2.out]; exact HM4.out⟩
                      case measure => simp [intOf]; omega
                    · have hb1 : ((l : Int) != r) = true := by rw [bne_iff_ne]; omega
                      by_cases hz0 : at2 R2 l k = 0
                      · have hskip : ¬ (l ≠ r ∧ at2 R2 l k ≠ 0) := fun h => h.2 hz0
                        have A1 := Lib.hid (clearTo_skip (p := p) (A := R2) hskip)
                        have A2 := Lib.hid (clearTo_skip (p := p) (A := T2) hskip)
                        rw [hz0] at d2'
                        clear hskip hfit4 hz0
                        go_wp2
                        go_roundw
                        case rel => exact ⟨l + 1, by omega, by go_num, by rw [A1.out, A2.out]; exact HM4.out⟩
                        case measure => simp [intOf]; omega
                      · have A1 := Lib.hid (clearTo_do (p := p) (A := R2) (by rw [HFIT2.out.lR]; exact hl) ⟨hlr, hz0⟩)
                        have A2 := Lib.hid (clearTo_do (p := p) (A := T2) (by rw [HFIT2.out.lT]; exact hl) ⟨hlr, hz0⟩)
                        generalize at2 R2 l k = z at *
                        have hb2 : (z != 0) = true := by rw [bne_iff_ne]; exact hz0
                        obtain ⟨g7, cap7, a7, c7, a8, c8, hv7, e7, e8, hcall7⟩ := HM4.out.drew.lessR hfit4 hl hrlt hlr z hn (by omega) (by omega) (by omega) (by omega)
                        simp only [Value.slice.injEq, Option.some.injEq, Addr.mk.injEq, and_true, true_and] at hv7
                        obtain ⟨rfl, rfl⟩ := hv7
                        have hq7 := d1'.symm.trans e7
                        simp only [Option.some.injEq, Value.slice.injEq, true_and] at hq7
                        obtain ⟨rfl, rfl⟩ := hq7
                        have HC7 := Lib.hid hcall7
                        change wr.cell? _ = _ at e7
                        change wr.cell? _ = _ at e8
                        have HFIT4 := Lib.hid hfit4
                        have hfit5 : Fit p m n m (subL p (clearTo p R2 k r R2 l) l r z) (clearTo p R2 k r T2 l) := by
                          refine ⟨by unfold subL; rw [List.length_set]; exact hfit4.lR, hfit4.lT, ?_, hfit4.oT⟩
                          exact set_ok hfit4.oR (addT_ok _ (hfit4.oR _ (getD_mem (by rw [hfit4.lR]; exact hl))).1 (hfit4.oR _ (getD_mem (by rw [hfit4.lR]; exact hrlt))).1) _
                        have HFIT5 := Lib.hid hfit5
                        clear hcall7 hfit4 hfit5
                        go_wp2_with fail
                        go_still_tail 12, (by kernel_rfl)
                        go_wp2_with (
                          go_at_call 258
                          with_reducible refine HC7.out.mono ?_
                          rintro e w5 ⟨rfl, hm5⟩
                          have kt5 := cell_blk (hm5.keep _ _ KT.out) 1
                          simp only [List.getElem?_toArray, List.getElem?_cons_zero, List.getElem?_cons_succ] at kt5
                          have HM5 := Lib.hid hm5
                          clear hm5)
                        clear e7 e8 HC7 d1' d2' ka1 kt1
                        obtain ⟨g9, cap9, a9, c9, a10, c10, hv9, e9, e10, hcall9⟩ := HM5.out.drew.lessT HFIT5.out hl hrlt hlr z hm (by omega) (by omega) (by omega) (by omega)
                        simp only [Value.slice.injEq, Option.some.injEq, Addr.mk.injEq, and_true, true_and] at hv9
                        obtain ⟨rfl, rfl⟩ := hv9
                        have HC9 := Lib.hid hcall9
                        change w5.cell? _ = _ at e9
                        change w5.cell? _ = _ at e10
                        clear hcall9
                        go_still_tail 12, (by kernel_rfl)
                        go_wp2_with (
                          go_at_call 258
                          with_reducible refine HC9.out.mono ?_
                          rintro e w6 ⟨rfl, hm6⟩
                          have HM6 := Lib.hid hm6
                          clear hm6)
                        go_roundw
                        case rel => exact ⟨l + 1, by omega, by go_num, by rw [A1.out, A2.out]; exact HM6.out⟩
                        case measure => simp [intOf]; omega
                  · have A1 : clearTo p R2 k r R2 l = clearL p R2 k r R2 := by
                      have e : l = R2.length := by rw [HFIT2.out.lR]; omega
                      rw [e]; exact clearTo_all _ _ _ _ _
                    have A2 : clearTo p R2 k r T2 l = clearL p R2 k r T2 := by
                      have e : l = T2.length := by rw [HFIT2.out.lT]; omega
                      rw [e]; exact clearTo_all _ _ _ _ _
                    have B1 := Lib.hid A1; have B2 := Lib.hid A2
                    clear A1 A2
                    have hfin : stepWith p k j s = ⟨clearL p R2 k r R2, clearL p R2 k r T2, r + 1⟩ := by
                      unfold stepWith
                      simp only [HSR.out, HR1.out, HT1.out, HYY.out, HIV.out, HR2.out, HT2.out]
                    have HFIN := Lib.hid hfin
                    clear hfin
                    go_wp2
                    go_roundw
                    case rel =>
                      exact ⟨k + 1, d2 * y % p, by omega, by go_num, by rw [HNEXT.out, HSTEP.out, HFIN.out]; go_num, rfl, m0, m1, by rw [HNEXT.out, HSTEP.out, HFIN.out]; have := HM4.out; rw [B1.out, B2.out] at this; exact this⟩
                    case measure => simp [intOf]; omega
          · have hpiv : pivAt s.R k r = none := pivAt_is_none (by rw [HFIT.out.lR]; exact hrm) fun l h1 h2 => HZ.out l h1 (by have := HFIT.out.lR; omega)
            have hstep : stepL p k s = s := by unfold stepL; rw [HSR.out, hpiv]
            have HSTEP := Lib.hid hstep
            clear hstep hpiv
            have hjb : ((j : Int) == m) = true := by rw [beq_iff_eq]; omega
            go_wp2
            go_roundw
            case rel => exact ⟨k + 1, d, by omega, by go_num, by rw [HNEXT.out, HSTEP.out, HSR.out], rfl, hd0, hd1, by rw [HNEXT.out, HSTEP.out]; exact HMID.out⟩
            case measure => simp [intOf]; omega
      · have hkn' : k = n := by omega
        subst hkn'
        have e4 := HMID.out.keep _ _ K4.out
        have e5 := HMID.out.keep _ _ K5.out
        have ea := HMID.out.keep _ _ KA.out
        have et := HMID.out.keep _ _ KT.out
        have ca0 := cell_blk ea 0
        have ct0 := cell_blk et 0
        have ct1 := cell_blk et 1
        have c40 := cell_blk e4 0
        have c41 := cell_blk e4 1
        have c50 := cell_blk e5 0
        have c51 := cell_blk e5 1
        have f40 := free_blk e4 0
        have f41 := free_blk e4 1
        have f50 := free_blk e5 0
        have f51 := free_blk e5 1
        simp only [List.getElem?_toArray, List.getElem?_cons_zero, List.getElem?_cons_succ] at ca0 ct0 ct1 c40 c41 c50 c51
        have q1 : ba ≠ b + 1 := by omega
        have q2 : ba ≠ b + 1 + 1 := by omega
        have q3 : bt ≠ b + 1 := by omega
        have q4 : bt ≠ b + 1 + 1 := by omega
        clear e4 e5 ea et hkn
        go_wp2_with fail
        go_region
        go_wp2_with fail
        refine bodyPost_ret_by (v := .tuple #[.agg #[.int .i64 k, .slice va m vc], .agg #[.int .i64 m, .slice va2 m vc2], .int .i64 r, .int .i64 d]) ?_ rfl ?_
        · simp [results, go_sem, *]
        · have o5 := (two_set (w := wr) (b + 1) (b + 1 + 1) (.int .i64 k) (.slice va m vc) (.int .i64 m) (.slice va2 m vc2)).trans (Only.drew _ _)
          have g1 : w.grownBy w9 none := HG1.out.trans HGR.out
          refine ⟨_, _, d, by rw [HS.out, HSR.out], ⟨hd0, hd1⟩, ?_, ?_⟩
          · rw [HS.out]
            obtain ⟨vs', us', t, _, _⟩ := HMID.out.ex
            exact ⟨vs', us', ⟨(t.mR.only o5 fun q hq hq' => by have := (t.mR.lt hq).1; omega).base (by have := HBE.out; omega), (t.mT.only o5 fun q hq hq' => by have := (t.mT.lt hq).1; omega).base (by have := HBE.out; omega), t.ap⟩⟩
          · have hb1 := Below.grown (Below.refl _ w) g1 (Nat.le_refl _) (by simp)
            have hb2 := HMID.out.on.below (B := w.heap.size) g1.size (fun q hq => by have := HTW.out.base hq; rw [HBE.out]; omega)
            have hb3 := o5.below (B := w.heap.size) (Nat.le_trans g1.size HMID.out.on.size) (fun q hq => by rw [HBE.out]; omega)
            exact grown_of_below ((hb1.trans hb2).trans hb3)

end Go.Proofs.YtpeaeminjbjlnaaDoor

/-
  A row of a list grows, and is put back into its place. Conditions: none.
-/
namespace Go.Proofs.YtpeaeminjbjlnaaDoor
open Go.RowKit
set_option linter.unusedVariables false

theorem OwnM.putGrown {B g n cap : Nat} {w w6 : World} {vs : List Value} {L : List (List Int)} {u : Value} {zs : List Int} (h : OwnM B w (.slice (some ⟨g, 0, none⟩) n cap) vs L) (hn : n = L.length) {i : Nat} (hi : i < L.length)
    (hu : OwnInts B w6 u zs) (hon : Only (Hits (vs.getD i nilS)) w w6) (hb : ∀ q, Hits u q → Hits (vs.getD i nilS) q ∨ w.heap.size ≤ q) :
    w6.cell? ⟨g, i, none⟩ = some (vs.getD i nilS) ∧ w6.frozen? ⟨g, i, none⟩ = false ∧ OwnM B (w6.setCell ⟨g, i, none⟩ u) (.slice (some ⟨g, 0, none⟩) n cap) (vs.set i u) (L.set i zs) := by
  subst hn
  have hlen := h.len
  have hout := owns_only h.out hon fun k hk hk' => apart_types h.out (h.row i) (by decide) k hk hk'
  have h2 := hout
  rw [hlen] at h2
  have hc := World.ownsRow.cellAt h2 i (by omega)
  have s1 := World.ownsRow.stored h2 i u
  have ho2 : Only (Hits (.slice (some ⟨g, 0, none⟩) L.length cap)) w6 (w6.setCell ⟨g, i, none⟩ u) := Only.of_grown s1.2 fun k hk => hk
  refine ⟨?_, World.ownsRow.frozenAt h2 i, ⟨by simp [hlen], by rw [List.length_set, hlen]; exact s1.1, fun j => ?_, fun j k hjk => ?_⟩⟩
  · rw [hc, List.getD_eq_getElem?_getD, List.getElem?_eq_getElem (show i < vs.length by omega)]
    rfl
  · rw [getD_setV (by omega), getD_setL hi]
    split
    · exact hu.only ho2 fun k hk hk' => apart_types hout hu (by decide) k hk' hk
    · next hne =>
      have hj := (h.row j).only hon fun k hk hk' => h.ap j i hne k hk hk'
      exact hj.only ho2 fun k hk hk' => apart_types hout hj (by decide) k hk' hk
  · have key : ∀ j, j ≠ i → Apart (vs.getD j nilS) u := by
      intro j hj q hq hq'
      rcases hb q hq' with h1 | h1
      · exact h.ap j i hj q hq h1
      · have := ((h.row j).lt q hq).2; omega
    rw [getD_setV (by omega), getD_setV (by omega)]
    split
    · next h1 => rw [if_neg (by omega)]; exact (key k (by omega)).symm
    · next h1 =>
      split
      · exact key j h1
      · exact h.ap j k hjk
end Go.Proofs.YtpeaeminjbjlnaaDoor

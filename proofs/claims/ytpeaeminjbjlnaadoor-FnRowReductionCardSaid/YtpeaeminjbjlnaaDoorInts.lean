/-
  Slices of integers: as a call's own, grown by append; as values that can be read. Conditions: none.
-/
import Derived.Test.YtpeaeminjbjlnaaDoorCur
namespace Go.Proofs.YtpeaeminjbjlnaaDoor
open Go.RowKit
set_option linter.unusedVariables false

theorem info_int : (Tryd.prog.info? 3).map (fun i => (i.zero, i.size, i.bytes)) = some (some (.int .i64 0), 1, 8) := by kernel_rfl

/-- A slice value whose cells are the call's own (blocks from B on) and hold zs. -/
def OwnInts (B : Nat) (w : World) (v : Value) (zs : List Int) : Prop := w.ownsRow B 3 1 v zs.length (zs.map (Value.int .i64))
theorem OwnInts.nil (B : Nat) (w : World) : OwnInts B w (.slice none 0 0) [] := World.ownsRow_nil _ _ _ _
theorem OwnInts.carry {B : Nat} {w w' : World} {v : Value} {zs : List Int} (h : OwnInts B w v zs) (hw : ∀ k, B ≤ k → k < w.heap.size → w'.heap[k]? = w.heap[k]?) : OwnInts B w' v zs := by
  obtain ⟨h1, h2⟩ := h
  refine ⟨h1, ?_⟩
  rcases h2 with h2 | ⟨g, cap, cur, hv, hg, hh, r⟩
  · exact Or.inl h2
  · have hlt : g < w.heap.size := by
      rcases Nat.lt_or_ge g w.heap.size with h | h
      · exact h
      · rw [Array.getElem?_eq_none h] at hh; cases hh
    exact Or.inr ⟨g, cap, cur, hv, hg, (hw g hg hlt).trans hh, r⟩
theorem OwnInts.alloc {B : Nat} {w : World} {v : Value} {zs : List Int} (h : OwnInts B w v zs) (o : Obj) : OwnInts B (w.alloc o) v zs :=
  h.carry fun k _ hk => alloc_heap_old w o k hk
/-- '[]int{}' that has just been laid. -/
theorem OwnInts.empty {B g : Nat} {w : World} (hB : B ≤ w.heap.size) (hg : g = w.heap.size) : OwnInts B (w.alloc (.cells #[] 3)) (.slice (some ⟨g, 0, none⟩) 0 0) [] := by
  subst hg
  exact ⟨rfl, Or.inr ⟨w.heap.size, 0, #[], rfl, hB, alloc_heap_new _ _, Nat.le_refl _, Nat.zero_le _, rfl, rfl⟩⟩

theorem mul_bd {x y X Y : Int} (h0 : 0 ≤ x) (h1 : x ≤ X) (h2 : 0 ≤ y) (h3 : y ≤ Y) : 0 ≤ x * y ∧ x * y ≤ X * Y :=
  ⟨Int.mul_nonneg h0 h2, Int.mul_le_mul h1 h3 h2 (by omega)⟩

/-- 'out = append(out, x)': the one new element lies in a block of its own. -/
theorem app_int {ops : Array Oper} {rest : List Oper} {o : Oper} {a : Act} {Q : Exit → Act → World → Prop} (hgd : o.guard = none) (s x : Operand)
    (ho : o.op = .call { callee := .builtin .append, args := #[s, x], argTypes := #[24, 24] })
    {B : Nat} {w : World} {v : Value} {zs : List Int} {n : Int} (hs : a.eval s = v) (hx : a.eval x = .slice (some ⟨w.heap.size, 0, none⟩) 1 1)
    (hown : OwnInts B w v zs) (hB : B ≤ w.heap.size) (hl : zs.length ≤ 1000000000)
    (h : ∀ v' w', OwnInts B w' v' (zs ++ [n]) → Below B w w' → wpList Tryd.prog ops Q rest (a.put o.dst v') w') :
    wpList Tryd.prog ops Q (o :: rest) a (w.alloc (.cells #[.int .i64 n] 3)) := by
  obtain ⟨i0, hi, hz0, hz1, hz2⟩ := info_parts info_int
  refine wpList_append_own _ hgd s x 24 ho B 3 i0 (.int .i64 0) 1 8 Tryd.underlying24 hi hz0 hz1 hz2 rfl (by decide) v zs.length (zs.map (Value.int .i64)) hs (hown.alloc _)
    ⟨w.heap.size, 0, none⟩ 1 1 [.int .i64 n] hx rfl ?_ ?_ (by unfold maxLen; omega) (by omega) (by simp; omega) ?_
  · intro j u hj
    match j, hj with
    | 0, hj =>
      simp at hj
      subst hj
      exact intsAt_new w [n] _ 0 (by simp)
    | j + 1, hj => simp at hj
  · intro u hu
    simp at hu
    subst hu
    rfl
  · intro v' w1 hown' hgrow _
    refine h v' w1 (by simpa [OwnInts] using hown') ?_
    refine Below.grown ((Below.refl B w).alloc hB _) hgrow (by simp; omega) fun k hk => ?_
    rcases hown.2 with ⟨hv, _⟩ | ⟨g, cap, cur, hv, hg, _⟩
    · rw [hv] at hk; cases hk
    · rw [hv] at hk
      simp only [Value.ownBlock, Option.some.injEq] at hk
      omega

/-- A slice of integers that can be read. -/
def IntsV (w : World) (v : Value) (zs : List Int) : Prop :=
  ∃ a cap, v = .slice a zs.length cap ∧ (zs ≠ [] → ∃ d, a = some d ∧ d.spot = none ∧ d.block < w.heap.size ∧ IntsAt w d zs)
theorem IntsV.carry {w w' : World} {v : Value} {zs : List Int} (h : IntsV w v zs) (hg : w.grownBy w' none) : IntsV w' v zs := by
  obtain ⟨a, cap, rfl, h⟩ := h
  refine ⟨a, cap, rfl, fun hz => ?_⟩
  obtain ⟨d, ha, hs, hd, hi⟩ := h hz
  exact ⟨d, ha, hs, Nat.lt_of_lt_of_le hd hg.size, fun i hi' => (World.cell?_of_block (w := w) (a := ⟨d.block, d.off + i, none⟩) (hg.block _ hd (by simp))).trans (hi i hi')⟩
theorem OwnInts.read {B : Nat} {w : World} {v : Value} {zs : List Int} (h : OwnInts B w v zs) : IntsV w v zs := by
  obtain ⟨h1, h2⟩ := h
  rcases h2 with ⟨rfl, h0⟩ | ⟨g, cap, cur, rfl, hg, hh, hc, hm, hs, ht⟩
  · exact ⟨none, 0, by rw [h0], fun hz => absurd (List.eq_nil_of_length_eq_zero h0) hz⟩
  · refine ⟨some ⟨g, 0, none⟩, cap, rfl, fun _ => ⟨⟨g, 0, none⟩, rfl, rfl, ?_, fun i hi => ?_⟩⟩
    · rcases Nat.lt_or_ge g w.heap.size with h | h
      · exact h
      · rw [Array.getElem?_eq_none h] at hh; cases hh
    · simp only [World.cell?, hh]
      have e : cur.toList[i]? = ((cur.toList.take (zs.length * 1))[i]?) := by rw [List.getElem?_take, if_pos (by omega)]
      have e2 : cur[0 + i]? = cur.toList[i]? := by rw [Nat.zero_add]; simp
      simp only [Option.isSome_none, Bool.false_eq_true, if_false]
      rw [e2, e, ht]
      simp [hi]
theorem IntsV.nil (w : World) : IntsV w (.slice none 0 0) [] := ⟨none, 0, rfl, fun h => absurd rfl h⟩
theorem grown_of_below {w w' : World} (h : Below w.heap.size w w') : w.grownBy w' none := ⟨h.os, h.tape, h.output, h.size, fun k hk _ => h.block k hk⟩

/-- sameInts. -/
theorem sameInts_any (v1 v2 : Value) (x y : List Int) (w : World) (h1 : IntsV w v1 x) (h2 : IntsV w v2 y) (l1 : x.length ≤ 1000000000) (l2 : y.length ≤ 1000000000) :
    Calls Tryd.prog 17 #[v1, v2] w fun e w' => e = .returned (.bool (x == y)) ∧ w.grownBy w' none := by
  obtain ⟨a1, c1, rfl, r1⟩ := h1
  obtain ⟨a2, c2, rfl, r2⟩ := h2
  have R1 := Lib.hid r1; have R2 := Lib.hid r2
  clear r1 r2
  by_cases hl : x.length = y.length
  · generalize hlx : x.length = l at *
    have HLX := Lib.hid hlx; have HLY := Lib.hid hl
    rw [← HLY.out]
    clear hlx hl
    go_enter Tryd.func17, Tryd.ntmps17
    go_wp2
    go_loopw [13] (fun i wr => ∃ k : Nat, k ≤ l ∧ i = .int .i64 k ∧ (∀ j (h : j < x.length) (h' : j < y.length), j < k → x[j] = y[j]) ∧ w.grownBy wr none) (fun i _ => l - (intOf i).toNat)
    case atStart => exact ⟨0, by omega, rfl, fun _ _ _ h => absurd h (by omega), grownBy_refl _ _⟩
    case round =>
      obtain ⟨k, hk, rfl, ho, hg⟩ := hrel
      have HO := Lib.hid ho; have HG := Lib.hid hg
      clear ho hg
      by_cases hlt : k < l
      · have hkx : k < x.length := by rw [HLX.out]; exact hlt
        have hky : k < y.length := by rw [← HLY.out]; exact hlt
        obtain ⟨d1, ha1, hs1, hd1, hi1⟩ := R1.out (by intro h; rw [h] at hkx; simp at hkx)
        obtain ⟨d2, ha2, hs2, hd2, hi2⟩ := R2.out (by intro h; rw [h] at hky; simp at hky)
        subst ha1 ha2
        obtain ⟨b1, o1, _⟩ := d1
        obtain ⟨b2, o2, _⟩ := d2
        simp only at hs1 hs2 hd1 hd2
        subst hs1 hs2
        have hc1 := (World.cell?_of_block (w := w) (a := ⟨b1, o1 + k, none⟩) (HG.out.block b1 hd1 (by simp))).trans (hi1 k hkx)
        have hc2 := (World.cell?_of_block (w := w) (a := ⟨b2, o2 + k, none⟩) (HG.out.block b2 hd2 (by simp))).trans (hi2 k hky)
        generalize hzx : x[k] = zx at hc1
        generalize hzy : y[k] = zy at hc2
        have HZX := Lib.hid hzx; have HZY := Lib.hid hzy
        clear hzx hzy hi1 hi2 hd1 hd2
        by_cases he : zx = zy
        · subst he
          go_wp2
          go_quiet (fail)
          go_wp2
          go_roundw
          case rel => exact ⟨k + 1, by omega, by go_num, fun j h h' hj => by
            by_cases hjk : j = k
            · subst hjk; rw [HZX.out, HZY.out]
            · exact HO.out j h h' (by omega), ⟨HG.out.os, HG.out.tape, HG.out.output, HG.out.size, HG.out.block⟩⟩
          case measure => simp [intOf]; omega
        · have hb : (zx != zy) = true := by rw [bne_iff_ne]; exact he
          have hfin : (x == y) = false := by
            rw [beq_eq_false_iff_ne]
            intro h
            subst h
            exact he (HZX.out.symm.trans HZY.out)
          have HF := Lib.hid hfin
          clear hfin he
          go_wp2
          go_quiet (fail)
          go_wp2
          go_ret
          exact ⟨by rw [HF.out]; rfl, ⟨HG.out.os, HG.out.tape, HG.out.output, HG.out.size, HG.out.block⟩⟩
      · have hfin : (x == y) = true := by
          rw [beq_iff_eq]
          refine List.ext_getElem (by rw [HLX.out, HLY.out]) fun j h h' => HO.out j h h' (by have := HLX.out; omega)
        have HF := Lib.hid hfin
        clear hfin
        go_wp2
        go_ret
        exact ⟨by rw [HF.out]; rfl, HG.out⟩
  · have hfin : (x == y) = false := by
      rw [beq_eq_false_iff_ne]
      intro h
      exact hl (by rw [h])
    have hb : ((x.length : Int) != y.length) = true := by rw [bne_iff_ne]; omega
    have HF := Lib.hid hfin
    clear hfin hl
    go_enter Tryd.func17, Tryd.ntmps17
    go_wp2
    go_ret
    exact ⟨by rw [HF.out]; rfl, grownBy_refl _ _⟩

end Go.Proofs.YtpeaeminjbjlnaaDoor

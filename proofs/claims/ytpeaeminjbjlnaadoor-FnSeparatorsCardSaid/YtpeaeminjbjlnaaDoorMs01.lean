/-
  The walks of chapter 1's functions, of the program and of the reference. Conditions: the table of small primes holds what its text lays; arguments within some bounds.
-/
import Derived.Test.YtpeaeminjbjlnaaDoorMs00
import Derived.Test.YtpeaeminjbjlnaaDoorCards
import Derived.Test.YtpeaeminjbjlnaaDoorTie
import Derived.WalkKit
import Derived.ProofKit
import Derived.OpenShut
import Derived.ShutString
import Derived.ChangeOld
import Derived.OpenVars
import Derived.Below
import Derived.Deep.DeepHandedRow
import Derived.Lib.LaidTab
namespace Go.Proofs.YtpeaeminjbjlnaaDoor
open Go.RowKit
set_option linter.unusedVariables false

/-- The table of small primes. -/
structure Tab (w : World) : Prop where
  c0 : w.cell? ⟨0, 0, none⟩ = some (.int .i64 2)
  c1 : w.cell? ⟨0, 1, none⟩ = some (.int .i64 3)
  c2 : w.cell? ⟨0, 2, none⟩ = some (.int .i64 5)
  c3 : w.cell? ⟨0, 3, none⟩ = some (.int .i64 7)
  lt : 0 < w.heap.size
theorem Tab.carry {w w' : World} (h : Tab w) (hw : ∀ k, k < w.heap.size → w'.heap[k]? = w.heap[k]?) (hs : w.heap.size ≤ w'.heap.size) : Tab w' := by
  have e := hw 0 h.lt
  exact ⟨(World.cell?_of_block (a := ⟨0, 0, none⟩) e).trans h.c0, (World.cell?_of_block (a := ⟨0, 1, none⟩) e).trans h.c1, (World.cell?_of_block (a := ⟨0, 2, none⟩) e).trans h.c2, (World.cell?_of_block (a := ⟨0, 3, none⟩) e).trans h.c3, Nat.lt_of_lt_of_le h.lt hs⟩
theorem Tab.grown {w w' : World} (h : Tab w) (hg : w.grownBy w' none) : Tab w' := h.carry (fun k hk => hg.block k hk (by simp)) hg.size
theorem Tab.alloc {w : World} (h : Tab w) (o : Obj) : Tab (w.alloc o) := h.carry (fun k hk => alloc_heap_old w o k hk) (by simp)

theorem bit_any (b : Bool) (w : World) : Calls Tryd.prog 250 #[.bool b] w fun e w' => e = .returned (.int .i64 (if b then 1 else 0)) ∧ w = w' := by
  cases b
  all_goals
    go_enter Tryd.func250, Tryd.ntmps250
    go_wp2
    go_ret
    exact ⟨rfl, rfl⟩

theorem isElement_any (p a : Int) (w : World) : Calls Tryd.prog 114 #[.int .i64 p, .int .i64 a] w fun e w' => e = .returned (.bool (elB p a)) ∧ w = w' := by
  by_cases h0 : 0 ≤ a <;> by_cases h1 : a < p
  all_goals
    go_enter Tryd.func114, Tryd.ntmps114
    go_wp2
    go_ret
    exact ⟨by simp [elB, h0, h1], rfl⟩

theorem l1In_any (n lo hi : Int) (w : World) : Calls Tryd.prog 137 #[.int .i64 n, .int .i64 lo, .int .i64 hi] w fun e w' => e = .returned (.bool (decide (lo ≤ n ∧ n ≤ hi))) ∧ w = w' := by
  by_cases h0 : lo ≤ n <;> by_cases h1 : n ≤ hi
  all_goals
    go_enter Tryd.func137, Tryd.ntmps137
    go_wp2
    go_ret
    exact ⟨by simp [h0, h1], rfl⟩

theorem mod_any (p a : Int) (hp : 1 ≤ p) (hp2 : p ≤ 1000) (h0 : 0 ≤ a) (ha : a ≤ 1000000000) (w : World) : Calls Tryd.prog 236 #[.int .i64 p, .int .i64 a] w fun e w' => e = .returned (.int .i64 (a % p)) ∧ w = w' := by
  have h1 := Int.emod_nonneg a (show p ≠ 0 by omega)
  have h2 := Int.emod_lt_of_pos a (show 0 < p by omega)
  go_enter Tryd.func236, Tryd.ntmps236
  go_wp2
  go_ret
  exact ⟨rfl, rfl⟩

/-! ### isField -/
def okTo (p : Int) : Nat → Prop
  | 0 => True
  | 1 => p % 2 ≠ 0 ∨ p = 2
  | 2 => (p % 2 ≠ 0 ∨ p = 2) ∧ (p % 3 ≠ 0 ∨ p = 3)
  | 3 => (p % 2 ≠ 0 ∨ p = 2) ∧ (p % 3 ≠ 0 ∨ p = 3) ∧ (p % 5 ≠ 0 ∨ p = 5)
  | _ => (p % 2 ≠ 0 ∨ p = 2) ∧ (p % 3 ≠ 0 ∨ p = 3) ∧ (p % 5 ≠ 0 ∨ p = 5) ∧ (p % 7 ≠ 0 ∨ p = 7)

theorem isField_in (p : Int) (w : World) (ht : Tab w) (h0 : 2 ≤ p) (h1 : p ≤ 97) : Calls Tryd.prog 204 #[.int .i64 p] w fun e w' => e = .returned (.bool (fldB p)) ∧ w = w' := by
  obtain ⟨c0, c1, c2, c3, _⟩ := ht
  have i0 : ∀ w, (Instr.index 231 (.agg #[.int .i64 2, .int .i64 3, .int .i64 5, .int .i64 7]) (.int .i64 0)).run Tryd.prog w = .ok (.int .i64 2) w := fun _ => by kernel_rfl
  have i1 : ∀ w, (Instr.index 231 (.agg #[.int .i64 2, .int .i64 3, .int .i64 5, .int .i64 7]) (.int .i64 1)).run Tryd.prog w = .ok (.int .i64 3) w := fun _ => by kernel_rfl
  have i2 : ∀ w, (Instr.index 231 (.agg #[.int .i64 2, .int .i64 3, .int .i64 5, .int .i64 7]) (.int .i64 2)).run Tryd.prog w = .ok (.int .i64 5) w := fun _ => by kernel_rfl
  have i3 : ∀ w, (Instr.index 231 (.agg #[.int .i64 2, .int .i64 3, .int .i64 5, .int .i64 7]) (.int .i64 3)).run Tryd.prog w = .ok (.int .i64 7) w := fun _ => by kernel_rfl
  have m2 := Int.emod_nonneg p (show (2 : Int) ≠ 0 by omega)
  have m3 := Int.emod_nonneg p (show (3 : Int) ≠ 0 by omega)
  have m5 := Int.emod_nonneg p (show (5 : Int) ≠ 0 by omega)
  have m7 := Int.emod_nonneg p (show (7 : Int) ≠ 0 by omega)
  go_enter Tryd.func204, Tryd.ntmps204
  go_wp2
  go_loop [12] (fun i => ∃ k : Nat, k ≤ 4 ∧ i = .int .i64 k ∧ okTo p k) (fun i => 4 - (intOf i).toNat)
  case atStart => exact ⟨0, by omega, rfl, trivial⟩
  case round =>
    obtain ⟨k, hk, rfl, ho⟩ := hrel
    have HO := Lib.hid ho
    clear ho
    match k, hk with
    | 0, _ =>
      by_cases hd : p % 2 = 0
      · by_cases he : p = 2
        · obtain rfl := he
          go_wp2
          go_round
          case rel => exact ⟨1, by omega, by go_num, Or.inr rfl⟩
          case measure => simp [intOf]
        · have hdb : (p % 2 == 0) = true := by simp [hd]
          have heb : (p != 2) = true := by simp [he]
          have hfin : fldB p = false := by simp [fldB, hd, he]
          clear hd
          go_wp2
          go_ret
          exact ⟨by simp, rfl⟩
      · have hdb : (p % 2 == 0) = false := by simp [hd]
        have HD := Lib.hid hd
        clear hd
        go_wp2
        go_round
        case rel => exact ⟨1, by omega, by go_num, Or.inl HD.out⟩
        case measure => simp [intOf]
    | 1, _ =>
      by_cases hd : p % 3 = 0
      · by_cases he : p = 3
        · obtain rfl := he
          go_wp2
          go_round
          case rel => exact ⟨2, by omega, by go_num, HO.out, Or.inr rfl⟩
          case measure => simp [intOf]
        · have hdb : (p % 3 == 0) = true := by simp [hd]
          have heb : (p != 3) = true := by simp [he]
          have hfin : fldB p = false := by simp [fldB, hd, he]
          clear hd
          go_wp2
          go_ret
          exact ⟨by simp, rfl⟩
      · have hdb : (p % 3 == 0) = false := by simp [hd]
        have HD := Lib.hid hd
        clear hd
        go_wp2
        go_round
        case rel => exact ⟨2, by omega, by go_num, HO.out, Or.inl HD.out⟩
        case measure => simp [intOf]
    | 2, _ =>
      by_cases hd : p % 5 = 0
      · by_cases he : p = 5
        · obtain rfl := he
          go_wp2
          go_round
          case rel => exact ⟨3, by omega, by go_num, HO.out.1, HO.out.2, Or.inr rfl⟩
          case measure => simp [intOf]
        · have hdb : (p % 5 == 0) = true := by simp [hd]
          have heb : (p != 5) = true := by simp [he]
          have hfin : fldB p = false := by simp [fldB, hd, he]
          clear hd
          go_wp2
          go_ret
          exact ⟨by simp, rfl⟩
      · have hdb : (p % 5 == 0) = false := by simp [hd]
        have HD := Lib.hid hd
        clear hd
        go_wp2
        go_round
        case rel => exact ⟨3, by omega, by go_num, HO.out.1, HO.out.2, Or.inl HD.out⟩
        case measure => simp [intOf]
    | 3, _ =>
      by_cases hd : p % 7 = 0
      · by_cases he : p = 7
        · obtain rfl := he
          go_wp2
          go_round
          case rel => exact ⟨4, by omega, by go_num, HO.out.1, HO.out.2.1, HO.out.2.2, Or.inr rfl⟩
          case measure => simp [intOf]
        · have hdb : (p % 7 == 0) = true := by simp [hd]
          have heb : (p != 7) = true := by simp [he]
          have hfin : fldB p = false := by simp [fldB, hd, he]
          clear hd
          go_wp2
          go_ret
          exact ⟨by simp, rfl⟩
      · have hdb : (p % 7 == 0) = false := by simp [hd]
        have HD := Lib.hid hd
        clear hd
        go_wp2
        go_round
        case rel => exact ⟨4, by omega, by go_num, HO.out.1, HO.out.2.1, HO.out.2.2, Or.inl HD.out⟩
        case measure => simp [intOf]
    | 4, _ =>
      have hfin : fldB p = true := fldB_iff.2 ⟨h0, h1, HO.out⟩
      go_wp2
      go_ret
      exact ⟨by simp, rfl⟩

theorem isField_any (p : Int) (w : World) (ht : Tab w) : Calls Tryd.prog 204 #[.int .i64 p] w fun e w' => e = .returned (.bool (fldB p)) ∧ w = w' := by
  by_cases h2 : p < 2
  · have hf : fldB p = false := by simp [fldB]; omega
    have HF := Lib.hid hf
    clear hf
    clear ht
    go_enter Tryd.func204, Tryd.ntmps204
    go_wp2
    go_ret
    exact ⟨by rw [HF.out]; rfl, rfl⟩
  · by_cases h : 97 < p
    · have hf : fldB p = false := by simp [fldB]; omega
      have HF := Lib.hid hf
      clear hf
      clear ht
      go_enter Tryd.func204, Tryd.ntmps204
      go_wp2
      go_ret
      exact ⟨by rw [HF.out]; rfl, rfl⟩
    · exact isField_in p w ht (by omega) (by omega)

end Go.Proofs.YtpeaeminjbjlnaaDoor

/-
  What the frames of the laws over two lists of bytes share. Conditions: none.
-/
namespace Go.Proofs.YtpeaeminjbjlnaaDoor
open Go.ChangeShapes Go.WideShapes Go.ChangeAt Go.RowKit

theorem own : ownKnob Tryd.prog.godebug = none := by kernel_rfl
theorem laidOut : laidOutB Tryd.prog = true := by kernel_rfl
theorem gTab : Tryd.prog.globalNamed "loop.example/g01073/impl.smallPrimes" = some 0 := by kernel_rfl
theorem gTabType : (Tryd.prog.globals[0]?).map (·.type) = some 231 := by kernel_rfl
theorem cellsTab : Tryd.prog.cellsOf 231 = 4 := by kernel_rfl
theorem cellsInt : Tryd.prog.cellsOf 3 = 1 := by kernel_rfl

theorem below_of_grown {w w' : World} (h : w.grownBy w' none) : Below w.heap.size w w' := ⟨h.os, h.tape, h.output, h.size, fun k hk => h.block k hk (by simp)⟩

set_option maxRecDepth 100000 in
/-- A list of bytes that came in. -/
theorem raw_of_slice {H : Type} {enc : TypeId × Value → H} {W : World} {v : Value} {d : DataW H} {p : List MemPlace} {base : Nat}
    (hv : Value.okWide Tryd.prog W .any base 22 v) (h : DataW.Trod enc Tryd.prog W 0 (fun _ => true) true 22 v d p) : CodeRaw W v := by
  obtain ⟨a0, len0, cap0, rfl⟩ := okWide_slice Tryd.underlying22 hv
  have lt0 : ∀ x ∈ p, x.block < W.heap.size := by obtain ⟨m, hm⟩ := h; exact DataW.trod_lt m _ _ _ hm
  obtain ⟨fuel, hf⟩ := h
  rcases open_ints Tryd.underlying22 Tryd.underlying5 (by kernel_rfl) hf with ⟨hcs, _⟩ | ⟨x, l, c, zs, hcs, _, hl, hm, hz, _, hcell, hwz⟩
  · simp [Value.cells] at hcs
    obtain ⟨rfl, rfl, rfl⟩ := hcs
    exact ⟨none, 0, 0, rfl, by omega, fun k hk => by omega⟩
  · simp [Value.cells] at hcs
    obtain ⟨rfl, rfl, rfl⟩ := hcs
    have hzl : zs.length = cap0 := by simpa using hz
    unfold maxLen at hm
    refine ⟨some x, len0, cap0, rfl, by omega, fun k hk => ?_⟩
    have hk' : k < zs.length := by omega
    have h0 := hcell 0 (by omega)
    have hk1 := hcell k hk'
    obtain ⟨b, off, spot⟩ := x
    have hspot : spot = none := by
      have := World.cell?_spot h0
      simpa [Addr.add] using this
    subst hspot
    have e : (⟨b, off, none⟩ : Addr).add k = ⟨b, off + k, none⟩ := by
      unfold Addr.add
      split
      · rename_i h; subst h; rfl
      · rfl
    rw [e] at hk1
    have hw := hwz (zs.getD k 0) (by rw [List.getD_eq_getElem?_getD, List.getElem?_eq_getElem hk']; exact List.getElem_mem _)
    have hb : 0 ≤ zs.getD k 0 ∧ zs.getD k 0 ≤ 255 := by simpa [Lit.wf, IntKind.min, IntKind.max, IntKind.signed, IntKind.bits] using hw
    refine ⟨⟨b, off, none⟩, zs.getD k 0, rfl, ?_, rfl, hk1, hb.1, hb.2⟩
    simp only [World.cell?] at hk1
    rcases Nat.lt_or_ge b W.heap.size with h | h
    · exact h
    · rw [Array.getElem?_eq_none h] at hk1; cases hk1

end Go.Proofs.YtpeaeminjbjlnaaDoor

/-
  Slices of integers: as a call's own, grown by append; as values that can be read. Conditions: none.
-/
namespace Go.Proofs.YtpeaeminjbjlnaaDoor
open Go.RowKit
set_option linter.unusedVariables false

theorem info_int : (Tryd.prog.info? 3).map (fun i => (i.zero, i.size, i.bytes)) = some (some (.int .i64 0), 1, 8) := by kernel_rfl

/-- A slice value whose cells are the call's own (blocks from B on) and hold zs. -/
def OwnInts (B : Nat) (w : World) (v : Value) (zs : List Int) : Prop := w.ownsRow B 3 1 v zs.length (zs.map (Value.int .i64))
theorem OwnInts.nil (B : Nat) (w : World) : OwnInts B w (.slice none 0 0) [] := World.ownsRow_nil _ _ _ _
theorem OwnInts.carry {B : Nat} {w w' : World} {v : Value} {zs : List Int} (h : OwnInts B w v zs) (hw : ∀ k, B ≤ k → k < w.heap.size → w'.heap[k]? = w.heap[k]?) : OwnInts B w' v zs := by
  obtain ⟨h1, h2⟩ := h
  refine ⟨h1, ?_⟩
  rcases h2 with h2 | ⟨g, cap, cur, hv, hg, hh, r⟩
  · exact Or.inl h2
  · have hlt : g < w.heap.size := by
      rcases Nat.lt_or_ge g w.heap.size with h | h
      · exact h
      · rw [Array.getElem?_eq_none h] at hh; cases hh
    exact Or.inr ⟨g, cap, cur, hv, hg, (hw g hg hlt).trans hh, r⟩
theorem OwnInts.alloc {B : Nat} {w : World} {v : Value} {zs : List Int} (h : OwnInts B w v zs) (o : Obj) : OwnInts B (w.alloc o) v zs :=
  h.carry fun k _ hk => alloc_heap_old w o k hk
/-- '[]int{}' that has just been laid. -/
theorem OwnInts.empty {B g : Nat} {w : World} (hB : B ≤ w.heap.size) (hg : g = w.heap.size) : OwnInts B (w.alloc (.cells #[] 3)) (.slice (some ⟨g, 0, none⟩) 0 0) [] := by
  subst hg
  exact ⟨rfl, Or.inr ⟨w.heap.size, 0, #[], rfl, hB, alloc_heap_new _ _, Nat.le_refl _, Nat.zero_le _, rfl, rfl⟩⟩

theorem mul_bd {x y X Y : Int} (h0 : 0 ≤ x) (h1 : x ≤ X) (h2 : 0 ≤ y) (h3 : y ≤ Y) : 0 ≤ x * y ∧ x * y ≤ X * Y :=
  ⟨Int.mul_nonneg h0 h2, Int.mul_le_mul h1 h3 h2 (by omega)⟩

/-- 'out = append(out, x)': the one new element lies in a block of its own. -/
theorem app_int {ops : Array Oper} {rest : List Oper} {o : Oper} {a : Act} {Q : Exit → Act → World → Prop} (hgd : o.guard = none) (s x : Operand)
    (ho : o.op = .call { callee := .builtin .append, args := #[s, x], argTypes := #[24, 24] })
    {B : Nat} {w : World} {v : Value} {zs : List Int} {n : Int} (hs : a.eval s = v) (hx : a.eval x = .slice (some ⟨w.heap.size, 0, none⟩) 1 1)
    (hown : OwnInts B w v zs) (hB : B ≤ w.heap.size) (hl : zs.length ≤ 1000000000)
    (h : ∀ v' w', OwnInts B w' v' (zs ++ [n]) → Below B w w' → wpList Tryd.prog ops Q rest (a.put o.dst v') w') :
    wpList Tryd.prog ops Q (o :: rest) a (w.alloc (.cells #[.int .i64 n] 3)) := by
  obtain ⟨i0, hi, hz0, hz1, hz2⟩ := info_parts info_int
  refine wpList_append_own _ hgd s x 24 ho B 3 i0 (.int .i64 0) 1 8 Tryd.underlying24 hi hz0 hz1 hz2 rfl (by decide) v zs.length (zs.map (Value.int .i64)) hs (hown.alloc _)
    ⟨w.heap.size, 0, none⟩ 1 1 [.int .i64 n] hx rfl ?_ ?_ (by unfold maxLen; omega) (by omega) (by simp; omega) ?_
  · intro j u hj
    match j, hj with
    | 0, hj =>
      simp at hj
      subst hj
      exact intsAt_new w [n] _ 0 (by simp)
    | j + 1, hj => simp at hj
  · intro u hu
    simp at hu
    subst hu
    rfl
  · intro v' w1 hown' hgrow _
    refine h v' w1 (by simpa [OwnInts] using hown') ?_
    refine Below.grown ((Below.refl B w).alloc hB _) hgrow (by simp; omega) fun k hk => ?_
    rcases hown.2 with ⟨hv, _⟩ | ⟨g, cap, cur, hv, hg, _⟩
    · rw [hv] at hk; cases hk
    · rw [hv] at hk
      simp only [Value.ownBlock, Option.some.injEq] at hk
      omega

/-- A slice of integers that can be read. -/
def IntsV (w : World) (v : Value) (zs : List Int) : Prop :=
  ∃ a cap, v = .slice a zs.length cap ∧ (zs ≠ [] → ∃ d, a = some d ∧ d.spot = none ∧ d.block < w.heap.size ∧ IntsAt w d zs)
theorem IntsV.carry {w w' : World} {v : Value} {zs : List Int} (h : IntsV w v zs) (hg : w.grownBy w' none) : IntsV w' v zs := by
  obtain ⟨a, cap, rfl, h⟩ := h
  refine ⟨a, cap, rfl, fun hz => ?_⟩
  obtain ⟨d, ha, hs, hd, hi⟩ := h hz
  exact ⟨d, ha, hs, Nat.lt_of_lt_of_le hd hg.size, fun i hi' => (World.cell?_of_block (w := w) (a := ⟨d.block, d.off + i, none⟩) (hg.block _ hd (by simp))).trans (hi i hi')⟩
theorem OwnInts.read {B : Nat} {w : World} {v : Value} {zs : List Int} (h : OwnInts B w v zs) : IntsV w v zs := by
  obtain ⟨h1, h2⟩ := h
  rcases h2 with ⟨rfl, h0⟩ | ⟨g, cap, cur, rfl, hg, hh, hc, hm, hs, ht⟩
  · exact ⟨none, 0, by rw [h0], fun hz => absurd (List.eq_nil_of_length_eq_zero h0) hz⟩
  · refine ⟨some ⟨g, 0, none⟩, cap, rfl, fun _ => ⟨⟨g, 0, none⟩, rfl, rfl, ?_, fun i hi => ?_⟩⟩
    · rcases Nat.lt_or_ge g w.heap.size with h | h
      · exact h
      · rw [Array.getElem?_eq_none h] at hh; cases hh
    · simp only [World.cell?, hh]
      have e : cur.toList[i]? = ((cur.toList.take (zs.length * 1))[i]?) := by rw [List.getElem?_take, if_pos (by omega)]
      have e2 : cur[0 + i]? = cur.toList[i]? := by rw [Nat.zero_add]; simp
      simp only [Option.isSome_none, Bool.false_eq_true, if_false]
      rw [e2, e, ht]
      simp [hi]
theorem IntsV.nil (w : World) : IntsV w (.slice none 0 0) [] := ⟨none, 0, rfl, fun h => absurd rfl h⟩
theorem grown_of_below {w w' : World} (h : Below w.heap.size w w') : w.grownBy w' none := ⟨h.os, h.tape, h.output, h.size, fun k hk _ => h.block k hk⟩

/-- sameInts. -/
theorem sameInts_any (v1 v2 : Value) (x y : List Int) (w : World) (h1 : IntsV w v1 x) (h2 : IntsV w v2 y) (l1 : x.length ≤ 1000000000) (l2 : y.length ≤ 1000000000) :
    Calls Tryd.prog 17 #[v1, v2] w fun e w' => e = .returned (.bool (x == y)) ∧ w.grownBy w' none := by
  obtain ⟨a1, c1, rfl, r1⟩ := h1
  obtain ⟨a2, c2, rfl, r2⟩ := h2
  have R1 := Lib.hid r1; have R2 := Lib.hid r2
  clear r1 r2
  by_cases hl : x.length = y.length
  · generalize hlx : x.length = l at *
    have HLX := Lib.hid hlx; have HLY := Lib.hid hl
    rw [← HLY.out]
    clear hlx hl
    go_enter Tryd.func17, Tryd.ntmps17
    go_wp2
    go_loopw [13] (fun i wr => ∃ k : Nat, k ≤ l ∧ i = .int .i64 k ∧ (∀ j (h : j < x.length) (h' : j < y.length), j < k → x[j] = y[j]) ∧ w.grownBy wr none) (fun i _ => l - (intOf i).toNat)
    case atStart => exact ⟨0, by omega, rfl, fun _ _ _ h => absurd h (by omega), grownBy_refl _ _⟩
    case round =>
      obtain ⟨k, hk, rfl, ho, hg⟩ := hrel
      have HO := Lib.hid ho; have HG := Lib.hid hg
      clear ho hg
      by_cases hlt : k < l
      · have hkx : k < x.length := by rw [HLX.out]; exact hlt
        have hky : k < y.length := by rw [← HLY.out]; exact hlt
        obtain ⟨d1, ha1, hs1, hd1, hi1⟩ := R1.out (by intro h; rw [h] at hkx; simp at hkx)
        obtain ⟨d2, ha2, hs2, hd2, hi2⟩ := R2.out (by intro h; rw [h] at hky; simp at hky)
        subst ha1 ha2
        obtain ⟨b1, o1, _⟩ := d1
        obtain ⟨b2, o2, _⟩ := d2
        simp only at hs1 hs2 hd1 hd2
        subst hs1 hs2
        have hc1 := (World.cell?_of_block (w := w) (a := ⟨b1, o1 + k, none⟩) (HG.out.block b1 hd1 (by simp))).trans (hi1 k hkx)
        have hc2 := (World.cell?_of_block (w := w) (a := ⟨b2, o2 + k, none⟩) (HG.out.block b2 hd2 (by simp))).trans (hi2 k hky)
        generalize hzx : x[k] = zx at hc1
        generalize hzy : y[k] = zy at hc2
        have HZX := Lib.hid hzx; have HZY := Lib.hid hzy
        clear hzx hzy hi1 hi2 hd1 hd2
        by_cases he : zx = zy
        · subst he
          go_wp2
          go_quiet (fail)
          go_wp2
          go_roundw
          case rel => exact ⟨k + 1, by omega, by go_num, fun j h h' hj => by
            by_cases hjk : j = k
            · subst hjk; rw [HZX.out, HZY.out]
            · exact HO.out j h h' (by omega), ⟨HG.out.os, HG.out.tape, HG.out.output, HG.out.size, HG.out.block⟩⟩
          case measure => simp [intOf]; omega
        · have hb : (zx != zy) = true := by rw [bne_iff_ne]; exact he
          have hfin : (x == y) = false := by
            rw [beq_eq_false_iff_ne]
            intro h
            subst h
            exact he (HZX.out.symm.trans HZY.out)
          have HF := Lib.hid hfin
          clear hfin he
          go_wp2
          go_quiet (fail)
          go_wp2
          go_ret
          exact ⟨by rw [HF.out]; rfl, ⟨HG.out.os, HG.out.tape, HG.out.output, HG.out.size, HG.out.block⟩⟩
      · have hfin : (x == y) = true := by
          rw [beq_iff_eq]
          refine List.ext_getElem (by rw [HLX.out, HLY.out]) fun j h h' => HO.out j h h' (by have := HLX.out; omega)
        have HF := Lib.hid hfin
        clear hfin
        go_wp2
        go_ret
        exact ⟨by rw [HF.out]; rfl, HG.out⟩
  · have hfin : (x == y) = false := by
      rw [beq_eq_false_iff_ne]
      intro h
      exact hl (by rw [h])
    have hb : ((x.length : Int) != y.length) = true := by rw [bne_iff_ne]; omega
    have HF := Lib.hid hfin
    clear hfin hl
    go_enter Tryd.func17, Tryd.ntmps17
    go_wp2
    go_ret
    exact ⟨by rw [HF.out]; rfl, grownBy_refl _ _⟩

end Go.Proofs.YtpeaeminjbjlnaaDoor

/-
  Linear algebra over a field of p elements, on functions: sums, combinations, spans, reduced lists and their uniqueness, elimination. Plain mathematics: no program in sight. Conditions: every element other than 0 has an inverse (InvOk), where it is asked.
-/
namespace Go.Proofs.YtpeaeminjbjlnaaDoor.La
set_option linter.unusedVariables false
variable {p : Nat} [NeZero p]

abbrev Vec (p : Nat) := Nat → Fin p
abbrev Mx (p : Nat) := Nat → Nat → Fin p

theorem f0m (x : Fin p) : 0 * x = 0 := by grind
theorem fm0 (x : Fin p) : x * 0 = 0 := by grind
theorem f1m (x : Fin p) : 1 * x = x := by grind
theorem fm1 (x : Fin p) : x * 1 = x := by grind
theorem fa0 (x : Fin p) : x + 0 = x := by grind
theorem f0a (x : Fin p) : 0 + x = x := by grind

/-! ### sums -/
def S : Nat → (Nat → Fin p) → Fin p
  | 0, _ => 0
  | n + 1, f => S n f + f n
theorem S_congr {n : Nat} {f g : Nat → Fin p} (h : ∀ i, i < n → f i = g i) : S n f = S n g := by
  induction n with
  | zero => rfl
  | succ n ih => simp only [S]; rw [ih (fun i hi => h i (by omega)), h n (by omega)]
theorem S_zero (n : Nat) : S n (fun _ => (0 : Fin p)) = 0 := by
  induction n with
  | zero => rfl
  | succ n ih => simp only [S, ih]; grind
theorem S_zero' {n : Nat} {f : Nat → Fin p} (h : ∀ i, i < n → f i = 0) : S n f = 0 := by
  rw [S_congr h, S_zero]
theorem S_add (n : Nat) (f g : Nat → Fin p) : S n (fun i => f i + g i) = S n f + S n g := by
  induction n with
  | zero => simp [S]
  | succ n ih => simp only [S, ih]; grind
theorem S_sub (n : Nat) (f g : Nat → Fin p) : S n (fun i => f i - g i) = S n f - S n g := by
  induction n with
  | zero => simp [S]
  | succ n ih => simp only [S, ih]; grind
theorem S_mul (n : Nat) (k : Fin p) (f : Nat → Fin p) : S n (fun i => k * f i) = k * S n f := by
  induction n with
  | zero => simp only [S]; grind
  | succ n ih => simp only [S, ih]; grind
theorem S_mulr (n : Nat) (k : Fin p) (f : Nat → Fin p) : S n (fun i => f i * k) = S n f * k := by
  induction n with
  | zero => simp only [S]; grind
  | succ n ih => simp only [S, ih]; grind
theorem S_comm (m n : Nat) (f : Nat → Nat → Fin p) : S m (fun i => S n (fun j => f i j)) = S n (fun j => S m (fun i => f i j)) := by
  induction m with
  | zero => exact (S_zero n).symm
  | succ m ih => simp only [S, ih, S_add]
/-- A sum with one term alone. -/
theorem S_one {n k : Nat} (hk : k < n) {f : Nat → Fin p} (h : ∀ i, i < n → i ≠ k → f i = 0) : S n f = f k := by
  induction n with
  | zero => omega
  | succ n ih =>
    simp only [S]
    by_cases e : k = n
    · subst e
      rw [S_zero' (fun i hi => h i (by omega) (by omega))]
      grind
    · rw [ih (by omega) (fun i hi hn => h i (by omega) hn), h n (by omega) (by omega)]
      grind
theorem S_delta {n k : Nat} (hk : k < n) (c : Fin p) : S n (fun i => if i = k then c else 0) = c := by
  rw [S_one hk (fun i _ hn => by simp [hn])]
  simp
/-- A sum, one term set apart. -/
theorem S_split {n k : Nat} (hk : k < n) (f : Nat → Fin p) : S n f = f k + S n (fun i => if i = k then 0 else f i) := by
  have e : S n f = S n (fun i => (if i = k then f k else 0) + (if i = k then 0 else f i)) := by
    refine S_congr fun i _ => ?_
    by_cases h : i = k
    · subst h; simp
    · simp [h]
  rw [e, S_add, S_one hk (fun i _ hn => by simp [hn])]
  simp
theorem S_append (m n : Nat) (f : Nat → Fin p) : S (m + n) f = S m f + S n (fun i => f (m + i)) := by
  induction n with
  | zero => simp only [S, Nat.add_zero]; grind
  | succ n ih => rw [← Nat.add_assoc]; simp only [S, ih]; grind

/-! ### combinations and spans -/
def comb (m : Nat) (x : Vec p) (A : Mx p) : Vec p := fun j => S m (fun i => x i * A i j)
/-- v is a combination of the rows of A. -/
def In (m n : Nat) (A : Mx p) (v : Vec p) : Prop := ∃ x : Vec p, ∀ j, j < n → v j = comb m x A j
theorem In.congr {m n : Nat} {A : Mx p} {v w : Vec p} (h : In m n A v) (e : ∀ j, j < n → w j = v j) : In m n A w := by
  obtain ⟨x, hx⟩ := h
  exact ⟨x, fun j hj => (e j hj).trans (hx j hj)⟩
theorem In.rows {m n : Nat} {A B : Mx p} {v : Vec p} (h : In m n A v) (e : ∀ i, i < m → ∀ j, j < n → A i j = B i j) : In m n B v := by
  obtain ⟨x, hx⟩ := h
  exact ⟨x, fun j hj => (hx j hj).trans (S_congr fun i hi => by rw [e i hi j hj])⟩
theorem In.zero (m n : Nat) (A : Mx p) : In m n A (fun _ => 0) := ⟨fun _ => 0, fun j _ => (S_zero' fun i _ => by grind).symm⟩
theorem In.add {m n : Nat} {A : Mx p} {v w : Vec p} (h : In m n A v) (k : In m n A w) : In m n A (fun j => v j + w j) := by
  obtain ⟨x, hx⟩ := h
  obtain ⟨y, hy⟩ := k
  refine ⟨fun i => x i + y i, fun j hj => ?_⟩
  dsimp only
  rw [hx j hj, hy j hj]
  unfold comb
  rw [← S_add]
  exact S_congr fun i _ => by grind
theorem In.smul {m n : Nat} {A : Mx p} {v : Vec p} (h : In m n A v) (k : Fin p) : In m n A (fun j => k * v j) := by
  obtain ⟨x, hx⟩ := h
  refine ⟨fun i => k * x i, fun j hj => ?_⟩
  dsimp only
  rw [hx j hj]
  unfold comb
  rw [← S_mul]
  exact S_congr fun i _ => by grind
theorem In.row {m n : Nat} {A : Mx p} {i : Nat} (hi : i < m) : In m n A (A i) := by
  refine ⟨fun k => if k = i then 1 else 0, fun j _ => ?_⟩
  unfold comb
  rw [S_one hi (fun k _ hk => by simp only [hk, if_false]; grind)]
  simp only [if_true]
  grind
theorem In.comb {m m' n : Nat} {A B : Mx p} (h : ∀ i, i < m → In m' n B (A i)) (x : Vec p) : In m' n B (comb m x A) := by
  induction m with
  | zero => exact In.zero _ _ _
  | succ m ih => exact (ih (fun i hi => h i (by omega))).add ((h m (by omega)).smul (x m))
theorem In.trans {m m' n : Nat} {A B : Mx p} {v : Vec p} (hv : In m n A v) (h : ∀ i, i < m → In m' n B (A i)) : In m' n B v := by
  obtain ⟨x, hx⟩ := hv
  exact (In.comb h x).congr hx
/-- What vanishes on each row vanishes on the span. -/
theorem In.dot {m n : Nat} {A : Mx p} {v w : Vec p} (hv : In m n A v) (h : ∀ i, i < m → S n (fun j => A i j * w j) = 0) : S n (fun j => v j * w j) = 0 := by
  obtain ⟨x, hx⟩ := hv
  have e : S n (fun j => v j * w j) = S n (fun j => S m (fun i => x i * (A i j * w j))) := by
    refine S_congr fun j hj => ?_
    rw [hx j hj]
    unfold La.comb
    rw [← S_mulr]
    exact S_congr fun i _ => by grind
  rw [e, S_comm]
  refine S_zero' fun i hi => ?_
  rw [S_mul, h i hi]
  grind
/-- The rows are independent. -/
def Indep (m n : Nat) (A : Mx p) : Prop := ∀ x : Vec p, (∀ j, j < n → comb m x A j = 0) → ∀ i, i < m → x i = 0

/-! ### reduced lists -/
structure RR (r n : Nat) (A : Mx p) (piv : Nat → Nat) : Prop where
  lt : ∀ i, i < r → piv i < n
  inc : ∀ i j, i < j → j < r → piv i < piv j
  one : ∀ i, i < r → A i (piv i) = 1
  col : ∀ i k, i < r → k < r → k ≠ i → A k (piv i) = 0
  left : ∀ i j, i < r → j < piv i → A i j = 0
section rr
variable {r n : Nat} {A : Mx p} {piv : Nat → Nat}
theorem RR.comb_at (h : RR r n A piv) (x : Vec p) {i : Nat} (hi : i < r) : comb r x A (piv i) = x i := by
  unfold comb
  rw [S_one hi (fun k hk hn => by rw [h.col i k hi hk hn]; grind), h.one i hi]
  grind
theorem RR.coords (h : RR r n A piv) {v : Vec p} (hv : In r n A v) : ∀ j, j < n → v j = comb r (fun i => v (piv i)) A j := by
  obtain ⟨x, hx⟩ := hv
  intro j hj
  rw [hx j hj]
  refine S_congr fun i hi => ?_
  dsimp only
  rw [hx (piv i) (h.lt i hi), h.comb_at x hi]
theorem RR.indep (h : RR r n A piv) : Indep r n A := fun x hx i hi => by rw [← h.comb_at x hi]; exact hx _ (h.lt i hi)
/-- The leading index of a vector of the span is a pivot. -/
theorem RR.lead (h : RR r n A piv) {v : Vec p} (hv : In r n A v) {c : Nat} (hc : c < n) (h0 : ∀ j, j < c → v j = 0) (h1 : v c ≠ 0) : ∃ i, i < r ∧ piv i = c := by
  refine Classical.byContradiction fun hno => h1 ?_
  rw [h.coords hv c hc]
  refine S_zero' fun i hi => ?_
  dsimp only
  rcases Nat.lt_or_ge (piv i) c with hlt | hge
  · rw [h0 _ hlt]; grind
  · have : c < piv i := by
      rcases Nat.lt_or_ge c (piv i) with h | h
      · exact h
      · exact absurd ⟨i, hi, by omega⟩ hno
    rw [h.left i c hi this]; grind
end rr

/-- Increasing lists with the same members are equal. -/
theorem inc_eq : ∀ {l l' : List Nat}, l.Pairwise (· < ·) → l'.Pairwise (· < ·) → (∀ x, x ∈ l ↔ x ∈ l') → l = l'
  | [], [], _, _, _ => rfl
  | [], b :: _, _, _, h => absurd ((h b).2 (by simp)) (by simp)
  | a :: _, [], _, _, h => absurd ((h a).1 (by simp)) (by simp)
  | a :: l, b :: l', h1, h2, h => by
    rw [List.pairwise_cons] at h1 h2
    have hab : a = b := by
      have ha := (h a).1 (by simp)
      have hb := (h b).2 (by simp)
      rcases List.mem_cons.1 ha with e | ha
      · exact e
      · rcases List.mem_cons.1 hb with e | hb
        · exact e.symm
        · have := h2.1 a ha
          have := h1.1 b hb
          omega
    subst hab
    refine congrArg _ (inc_eq h1.2 h2.2 fun x => ?_)
    constructor
    · intro hx
      rcases List.mem_cons.1 ((h x).1 (List.mem_cons_of_mem _ hx)) with e | hx'
      · have := h1.1 x hx; omega
      · exact hx'
    · intro hx
      rcases List.mem_cons.1 ((h x).2 (List.mem_cons_of_mem _ hx)) with e | hx'
      · have := h2.1 x hx; omega
      · exact hx'
theorem piv_sorted {r : Nat} {piv : Nat → Nat} (h : ∀ i j, i < j → j < r → piv i < piv j) : ((List.range r).map piv).Pairwise (· < ·) := by
  rw [List.pairwise_map]
  have : (List.range r).Pairwise (fun a b => a < b ∧ b < r) := by
    rw [List.pairwise_iff_getElem]
    intro i j hi hj hij
    simp at hi hj ⊢
    omega
  exact this.imp fun h' => h _ _ h'.1 h'.2

/-- A space has one reduced list. -/
theorem RR.unique {r r' n : Nat} {A B : Mx p} {piv piv' : Nat → Nat} (h : RR r n A piv) (h' : RR r' n B piv') (h10 : (1 : Fin p) ≠ 0)
    (hs : ∀ v, In r n A v ↔ In r' n B v) : r = r' ∧ (∀ i, i < r → piv i = piv' i) ∧ ∀ i, i < r → ∀ j, j < n → A i j = B i j := by
  have key : (List.range r).map piv = (List.range r').map piv' := by
    refine inc_eq (piv_sorted h.inc) (piv_sorted h'.inc) fun x => ?_
    simp only [List.mem_map, List.mem_range]
    constructor
    · rintro ⟨i, hi, rfl⟩
      exact h'.lead ((hs _).1 (In.row hi)) (h.lt i hi) (fun j hj => h.left i j hi hj) (by rw [h.one i hi]; exact h10)
    · rintro ⟨i, hi, rfl⟩
      exact h.lead ((hs _).2 (In.row hi)) (h'.lt i hi) (fun j hj => h'.left i j hi hj) (by rw [h'.one i hi]; exact h10)
  have hr : r = r' := by simpa using congrArg List.length key
  subst hr
  have hp : ∀ i, i < r → piv i = piv' i := by
    intro i hi
    have := congrArg (fun l => l[i]?) key
    simpa [hi] using this
  refine ⟨rfl, hp, fun i hi j hj => ?_⟩
  rw [h'.coords ((hs _).1 (In.row hi)) j hj]
  unfold comb
  rw [S_one hi (fun k hk hn => by dsimp only; rw [← hp k hk, h.col k i hk hi (Ne.symm hn)]; grind)]
  dsimp only
  rw [← hp i hi, h.one i hi]
  grind
end Go.Proofs.YtpeaeminjbjlnaaDoor.La

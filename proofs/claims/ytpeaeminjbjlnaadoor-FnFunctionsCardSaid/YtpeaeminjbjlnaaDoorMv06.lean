/-
  Lists whose rows are partly shared: appending the rows of a list that is read to a list of the call's own. Conditions: small sizes.
-/
import Derived.Test.YtpeaeminjbjlnaaDoorMv05
import Derived.Deep.Upon
import Derived.Laws.CopyOwn
import Derived.Laws.Rows
import Derived.Laws.Tables
import Derived.Laws.StructEq
import Derived.Great.Walk
import Derived.Great.BuildSlice
import Derived.ChangeKeysEq
import Derived.Test.YtpeaeminjbjlnaaDoorMv03
import Derived.Test.YtpeaeminjbjlnaaDoorMv04
import Derived.BigQuiet
namespace Go.Proofs.YtpeaeminjbjlnaaDoor
open Go.RowKit
set_option linter.unusedVariables false

/-- the values that a list of rows holds -/
theorem MatV.vals {w : World} {u : Value} {L : List (List Int)} (h : MatV w u L) (hne : L ≠ []) :
    ∃ (b o c : Nat) (us : List Value), u = .slice (some ⟨b, o, none⟩) L.length c ∧ us.length = L.length ∧ (∀ j x, us[j]? = some x → w.cell? ((⟨b, o, none⟩ : Addr).add j) = some x) ∧ ∀ i, i < L.length → IntsV w (us.getD i nilS) (L.getD i []) := by
  obtain ⟨a, c, rfl, h⟩ := h
  obtain ⟨⟨b, o, sp⟩, rfl, hs, hd, hi⟩ := h hne
  simp only at hs
  subst hs
  have key : ∀ i, ∃ x, i < L.length → w.cell? ⟨b, o + i, none⟩ = some x ∧ IntsV w x (L.getD i []) := by
    intro i
    by_cases hl : i < L.length
    · obtain ⟨x, h1, h2⟩ := hi i hl
      rw [← show L.getD i [] = L[i] by rw [List.getD_eq_getElem?_getD, List.getElem?_eq_getElem hl, Option.getD_some]] at h2
      exact ⟨x, fun _ => ⟨h1, h2⟩⟩
    · exact ⟨nilS, fun h => absurd h hl⟩
  obtain ⟨F, hF⟩ := Classical.axiomOfChoice key
  refine ⟨b, o, c, (List.range L.length).map F, rfl, by simp, fun j x hj => ?_, fun i hl => ?_⟩
  · rw [List.getElem?_map] at hj
    by_cases hl : j < L.length
    · rw [List.getElem?_range hl] at hj
      simp only [Option.map_some, Option.some.injEq] at hj
      subst hj
      rw [Addr.add_lit]
      exact (hF j hl).1
    · rw [List.getElem?_eq_none (by simpa using hl)] at hj
      cases hj
  · rw [List.getD_eq_getElem?_getD, List.getElem?_map, List.getElem?_range hl]
    exact (hF i hl).2

structure Mixed (w0 : World) (B : Nat) (w : World) (v : Value) (us : List Value) (L : List (List Int)) : Prop where
  len : us.length = L.length
  out : w.ownsRow B 24 1 v us.length us
  row : ∀ i, OwnInts B w (us.getD i nilS) (L.getD i []) ∨ IntsV w0 (us.getD i nilS) (L.getD i [])
theorem OwnM.mixed {w0 w : World} {B : Nat} {v : Value} {vs : List Value} {L : List (List Int)} (h : OwnM B w v vs L) : Mixed w0 B w v vs L := ⟨h.len, h.out, fun i => Or.inl (h.row i)⟩
theorem Mixed.carry {w0 w w' : World} {B : Nat} {v : Value} {us : List Value} {L : List (List Int)} (h : Mixed w0 B w v us L) (hg : w.grownBy w' none) : Mixed w0 B w' v us L :=
  ⟨h.len, owns_only h.out (Only.of_grown (S := fun _ => False) hg (by simp)) (fun k _ h => h), fun i => (h.row i).imp (fun h => h.only (Only.of_grown (S := fun _ => False) hg (by simp)) fun k _ h => h) id⟩
theorem Mixed.row' {w0 w : World} {B : Nat} {v : Value} {us : List Value} {L : List (List Int)} (h : Mixed w0 B w v us L) (hg : w0.grownBy w none) (i : Nat) : IntsV w (us.getD i nilS) (L.getD i []) := by
  rcases h.row i with h | h
  · exact h.read
  · exact h.carry hg
theorem Mixed.read {w0 w : World} {B : Nat} {v : Value} {us : List Value} {L : List (List Int)} (h : Mixed w0 B w v us L) (hg : w0.grownBy w none) : MatV w v L := by
  obtain ⟨h1, h2⟩ := h.out
  rcases h2 with ⟨rfl, h0⟩ | ⟨g, cap, cur, rfl, hg', hh, hc, hm, hs, ht⟩
  · refine ⟨none, 0, by rw [← h.len, h0], fun hz => absurd (List.eq_nil_of_length_eq_zero (by rw [← h.len, h0])) hz⟩
  · refine ⟨some ⟨g, 0, none⟩, cap, by rw [← h.len], fun _ => ⟨⟨g, 0, none⟩, rfl, rfl, blk_lt hh, fun i hi => ?_⟩⟩
    have hi' : i < us.length := by rw [h.len]; exact hi
    refine ⟨us[i], ?_, ?_⟩
    · have hc := World.ownsRow.cellAt h.out i (by omega)
      simp only [Nat.zero_add]
      rw [hc]
      exact List.getElem?_eq_getElem hi'
    · have := h.row' hg i
      rwa [List.getD_eq_getElem?_getD, List.getElem?_eq_getElem hi', Option.getD_some, List.getD_eq_getElem?_getD, List.getElem?_eq_getElem hi, Option.getD_some] at this
theorem Mixed.form {w0 w : World} {B : Nat} {v : Value} {us : List Value} {L : List (List Int)} (h : Mixed w0 B w v us L) : ∃ a c, v = .slice a L.length c := by
  obtain ⟨h1, h2⟩ := h.out
  rcases h2 with ⟨rfl, h0⟩ | ⟨g, cap, cur, rfl, _⟩
  · exact ⟨none, 0, by rw [← h.len, h0]⟩
  · exact ⟨_, cap, by rw [h.len]⟩

section
variable {ops : Array Oper} {rest : List Oper} {o : Oper} {a : Act} {Q : Exit → Act → World → Prop} {K : Act → World → Prop} {E : Prop} {w w0 : World} {B : Nat} {v u : Value} {us : List Value} {L M : List (List Int)}
/-- 'append(out, rows...)': the rows of the second list join the first. -/
theorem wp_app_rows (s x : Operand) (ho : o.op = .call { callee := .builtin .append, args := #[s, x], argTypes := #[37, 37] })
    (hs : a.eval s = v) (hx : a.eval x = u) (hv : Mixed w0 B w v us L) (hu : MatV w0 u M) (hB : w0.heap.size ≤ B) (hBw : B ≤ w.heap.size) (hg : w0.grownBy w none) (hl : L.length ≤ 1000000) (hm : M.length ≤ 1000000)
    (h : ∀ (a' : Option Addr) (c : Nat) (us' : List Value) (w' : World), Mixed w0 B w' (.slice a' (L.length + M.length) c) us' (L ++ M) → B ≤ w'.heap.size → w0.grownBy w' none → K (a.put o.dst (.slice a' (L.length + M.length) c)) w') :
    o.wp Tryd.prog a w K Q := by
  obtain ⟨i0, hi, hz0, hz1, hz2⟩ := info_parts info_ints
  by_cases hne : M = []
  · subst hne
    have hsrc : Src Tryd.prog i0.size 37 u 0 [] w := by
      obtain ⟨ad, c, rfl, _⟩ := hu
      cases ad with
      | none => exact Src.ofNil w Tryd.underlying37 c
      | some ad => exact Src.ofSlice w Tryd.underlying37 ad 0 c [] (by simp) (fun j x hj => by simp at hj) (fun x hx => by cases hx)
    obtain ⟨va, vc, rfl, hle⟩ : ∃ va vc, v = .slice va L.length vc ∧ L.length ≤ vc := by
      obtain ⟨h1, h2⟩ := hv.out
      rcases h2 with ⟨rfl, h0⟩ | ⟨g, cap, cur, rfl, _, _, hnc, _⟩
      · exact ⟨none, 0, by rw [← hv.len, h0], by rw [← hv.len, h0]; exact Nat.le_refl _⟩
      · exact ⟨_, cap, by rw [hv.len], by rw [← hv.len]; exact hnc⟩
    have hr := run_append_nothing (P := Tryd.prog) w 37 37 o.type 24 i0 Tryd.underlying37 hi va L.length vc hle u hsrc
    unfold Oper.wp execOp
    simp only [ho, resolve, invoke, builtin, Sem.run_bind, Sem.run_pure, Result.andThen_ok, List.map_toArray, List.map_cons, List.map_nil, hs, hx, hr]
    have h2 := h va vc us w (by simpa using hv) hBw hg
    have h3 : K (a.put o.dst (.slice va L.length vc)) w := by simpa using h2
    exact h3
  · obtain ⟨b, o', c, us2, rfl, hlen2, hcell, hrow⟩ := hu.vals hne
    have hlen := hv.len
    have hone : ∀ x ∈ us2, x.oneCell' = true := by
      intro x hx'
      obtain ⟨j, hj, rfl⟩ := List.getElem_of_mem hx'
      obtain ⟨a', c', he, _⟩ := hrow j (by omega)
      rw [List.getD_eq_getElem?_getD, List.getElem?_eq_getElem hj, Option.getD_some] at he
      rw [he]
      rfl
    have hpos : 0 < M.length := by cases M with | nil => exact absurd rfl hne | cons _ _ => simp
    have hd : b < w0.heap.size := by
      obtain ⟨_, _, he, h⟩ := hu
      obtain ⟨d, hd, _, hlt, _⟩ := h hne
      cases he
      cases hd
      exact hlt
    refine wp_append_lies (P := Tryd.prog) _ s x 37 ho B 24 i0 (.slice none 0 0) 1 24 Tryd.underlying37 hi hz0 hz1 hz2 rfl (by decide) v us.length us hs hv.out
      ⟨b, o', none⟩ M.length c us2 hx (by omega) (fun j x hj => by
        have h1 := hcell j x hj
        rw [Addr.add_lit] at h1 ⊢
        exact (World.cell?_of_block (w := w0) (a := ⟨b, o' + j, none⟩) (hg.block b hd (by simp))).trans h1) hone hpos (by unfold maxLen; omega) (by omega) hBw _ rfl ?_
    intro g cap w1 hown' hgrow hg1 _
    have hon : Only (Hits v) w w1 := Only.of_grown hgrow fun k hk => hk
    have hon0 : w0.grownBy w1 none := by
      refine ⟨hgrow.os.trans hg.os, hgrow.tape.trans hg.tape, hgrow.output.trans hg.output, Nat.le_trans hg.size hgrow.size, fun k hk _ => ?_⟩
      refine (hon.block k (Nat.lt_of_lt_of_le hk hg.size) fun h' => ?_).trans (hg.block k hk (by simp))
      have := (World.ownsRow.lt hv.out k h').1
      omega
    rw [hlen] at hown' ⊢
    have hout : w1.ownsRow B 24 1 (.slice (some ⟨g, 0, none⟩) (L.length + M.length) cap) (us ++ us2).length (us ++ us2) := by rw [List.length_append, hlen, hlen2]; exact hown'
    refine h _ _ (us ++ us2) w1 ⟨by rw [List.length_append, List.length_append, hlen, hlen2], hout, fun i => ?_⟩ (Nat.le_trans hBw hgrow.size) hon0
    rcases Nat.lt_or_ge i L.length with hi' | hi'
    · have e1 : (us ++ us2).getD i nilS = us.getD i nilS := by rw [List.getD_eq_getElem?_getD, List.getElem?_append_left (by omega), ← List.getD_eq_getElem?_getD]
      have e2 : (L ++ M).getD i [] = L.getD i [] := by rw [List.getD_eq_getElem?_getD, List.getElem?_append_left (by omega), ← List.getD_eq_getElem?_getD]
      rw [e1, e2]
      rcases hv.row i with h' | h'
      · exact Or.inl (h'.only hon fun k hk hk' => apart_types hv.out h' (by decide) k hk' hk)
      · exact Or.inr h'
    · have e1 : (us ++ us2).getD i nilS = us2.getD (i - L.length) nilS := by rw [List.getD_eq_getElem?_getD, List.getElem?_append_right (by omega), ← List.getD_eq_getElem?_getD, hlen]
      have e2 : (L ++ M).getD i [] = M.getD (i - L.length) [] := by rw [List.getD_eq_getElem?_getD, List.getElem?_append_right (by omega), ← List.getD_eq_getElem?_getD]
      rw [e1, e2]
      rcases Nat.lt_or_ge (i - L.length) M.length with hk | hk
      · exact Or.inr (hrow _ hk)
      · rw [List.getD_eq_getElem?_getD, List.getElem?_eq_none (by omega), List.getD_eq_getElem?_getD, List.getElem?_eq_none (by omega)]
        exact Or.inl (OwnInts.nil _ _)
theorem app_rows (hgd : o.guard = none) (s x : Operand) (ho : o.op = .call { callee := .builtin .append, args := #[s, x], argTypes := #[37, 37] })
    (hs : a.eval s = v) (hx : a.eval x = u) (hv : Mixed w0 B w v us L) (hu : MatV w0 u M) (hB : w0.heap.size ≤ B) (hBw : B ≤ w.heap.size) (hg : w0.grownBy w none) (hl : L.length ≤ 1000000) (hm : M.length ≤ 1000000)
    (h : ∀ (a' : Option Addr) (c : Nat) (us' : List Value) (w' : World), Mixed w0 B w' (.slice a' (L.length + M.length) c) us' (L ++ M) → B ≤ w'.heap.size → w0.grownBy w' none → wpList Tryd.prog ops Q rest (a.put o.dst (.slice a' (L.length + M.length) c)) w') :
    wpList Tryd.prog ops Q (o :: rest) a w :=
  wpList_plain hgd fun _ hK => wp_app_rows s x ho hs hx hv hu hB hBw hg hl hm fun a' c us' w' h1 h2 h3 => hK _ _ (h a' c us' w' h1 h2 h3)
theorem step_app_rows (hgd : o.guard = none) (s x : Operand) (ho : o.op = .call { callee := .builtin .append, args := #[s, x], argTypes := #[37, 37] })
    (hs : a.eval s = v) (hx : a.eval x = u) (hv : Mixed w0 B w v us L) (hu : MatV w0 u M) (hB : w0.heap.size ≤ B) (hBw : B ≤ w.heap.size) (hg : w0.grownBy w none) (hl : L.length ≤ 1000000) (hm : M.length ≤ 1000000)
    (h : ∀ (a' : Option Addr) (c : Nat) (us' : List Value) (w' : World), Mixed w0 B w' (.slice a' (L.length + M.length) c) us' (L ++ M) → B ≤ w'.heap.size → w0.grownBy w' none → K (a.put o.dst (.slice a' (L.length + M.length) c)) w') :
    if Region.wanted o (yielded ops a.tmps) = true then Oper.wp Tryd.prog o a w K Q else E := by
  rw [if_pos (by simp [Region.wanted, hgd])]
  exact wp_app_rows s x ho hs hx hv hu hB hBw hg hl hm h
end
end Go.Proofs.YtpeaeminjbjlnaaDoor

/-
  A row with zeros behind it, and two of them compared. Conditions: the rows have at most 48 elements.
-/
namespace Go.Proofs.YtpeaeminjbjlnaaDoor
open Go.RowKit
set_option linter.unusedVariables false

theorem info_pad : (Tryd.prog.info? 243).map (·.size) = some 48 := by kernel_rfl
theorem info_int1 : (Tryd.prog.info? 3).map (·.size) = some 1 := by kernel_rfl
theorem under_pad : Tryd.prog.underlying 243 = some (.array 48 3) := by kernel_rfl
/-- a row with zeros behind it, 48 cells in all -/
def padZ (zs : List Int) : List Value := (zs ++ List.replicate (48 - zs.length) 0).map (Value.int .i64)
def padC (zs : List Int) : Array Value := (padZ zs).toArray
theorem padZ_len {zs : List Int} (h : zs.length ≤ 48) : (padZ zs).length = 48 := by simp [padZ]; omega
theorem padC_size {zs : List Int} (h : zs.length ≤ 48) : (padC zs).size = 48 := by simp [padC, padZ_len h]
theorem padC_one (zs : List Int) : (padC zs).all (·.oneCell') = true := by
  rw [Array.all_eq_true_iff_forall_mem]
  intro v hv
  simp only [padC, padZ, List.mem_toArray, List.mem_map] at hv
  obtain ⟨z, _, rfl⟩ := hv
  rfl
theorem pad_alloc (w : World) : (Instr.alloc 243 true (.tuple #[])).run Tryd.prog w = .ok (.pointer (some ⟨w.heap.size, 0, none⟩)) (w.alloc (.cells (padC []) 243)) := by kernel_rfl
theorem pad_built : Tryd.prog.built 243 [] = some (padC []) := by kernel_rfl
theorem pad_splice {zs : List Int} (h : zs.length ≤ 48) : splice (padZ []) 0 (zs.map (Value.int .i64)) = padZ zs := by
  unfold splice padZ
  have e : (zs.map (Value.int .i64)).length = zs.length := List.length_map ..
  rw [List.take_zero, List.nil_append, List.map_append, e, List.map_nil, List.nil_append, List.length_nil, Nat.zero_add, Nat.sub_zero, ← List.map_drop, List.drop_replicate, List.map_append]
set_option maxRecDepth 100000 in
theorem pad_any (v : Value) (zs : List Int) (w : World) (hv : IntsV w v zs) (hl : zs.length ≤ 48) :
    Calls Tryd.prog 296 #[v] w fun e w' => e = .returned (.agg (padC zs)) ∧ w.grownBy w' none := by
  obtain ⟨a, cap, rfl, hx⟩ := hv
  have HX := Lib.hid hx
  have s0 : (padC []).size = 48 := padC_size (by simp)
  have S0 := Lib.hid s0
  have SL := Lib.hid (padC_size hl)
  clear s0
  clear hx
  have h1 := alloc_heap_new w (.cells (padC []) 243)
  have hs1 : (w.alloc (.cells (padC []) 243)).heap.size = w.heap.size + 1 := by simp
  have h2 := alloc_heap_new (w.alloc (.cells (padC []) 243)) (.cells (padC []) 243)
  have h3 := (alloc_heap_old (w.alloc (.cells (padC []) 243)) (.cells (padC []) 243) w.heap.size (by omega)).trans h1
  rw [hs1] at h2
  have HS1 := Lib.hid hs1; have H2 := Lib.hid h2; have H3 := Lib.hid h3
  have PA := Lib.hid pad_alloc; have PB := Lib.hid pad_built
  generalize hP : padC [] = P0 at *
  have HP := Lib.hid hP
  clear hP h1 hs1 h2 h3
  generalize hPz : padC zs = Pz at *
  have HPZ := Lib.hid hPz
  clear hPz
  go_enter Tryd.func296, Tryd.ntmps296
  go_wp2_with (first
    | (with_reducible refine Great.wpList_allocTo rfl (some 2) rfl (.pointer (some ⟨w.heap.size, 0, none⟩)) (.cells P0 243) ?_ ?_
       · simp only [execOp, Sem.run_bind, PA.out w, Result.andThen_ok, Sem.run_pure])
    | (with_reducible refine Great.wpList_allocTo rfl (some 3) rfl (.pointer (some ⟨w.heap.size + 1, 0, none⟩)) (.cells P0 243) ?_ ?_
       · simp only [execOp, Sem.run_bind, PA.out _, Result.andThen_ok, Sem.run_pure, HS1.out])
    | (with_reducible refine wpList_buildTo rfl 243 #[] rfl (some 4) rfl P0 ?_ ?_
       · go_loud (simpa using PB.out))
    | (with_reducible refine wpList_store_rowTo rfl 243 (.tmp 3) (.tmp 4) rfl rfl (w.heap.size + 1) P0 ?_ ?_ 243 P0 H2.out ?_ rfl ?_ ?_
       · go_loud (rfl)
       · go_loud (rfl)
       · rw [info_pad, S0.out]
       · rw [← HP.out]; exact padC_one []
       have q1 := setRow_heap _ (w.heap.size + 1) P0 P0 243 (0, 0) H2.out
       have q2 := (setRow_other ((w.alloc (.cells P0 243)).alloc (.cells P0 243)) (w.heap.size + 1) w.heap.size P0 (by omega)).trans H3.out
       have q3 : Below w.heap.size w (((w.alloc (.cells P0 243)).alloc (.cells P0 243)).setRow (w.heap.size + 1) P0) := below_setRow (((Below.refl _ w).alloc (Nat.le_refl _) _).alloc (by simp) _) (by omega) _
       generalize ((w.alloc (.cells P0 243)).alloc (.cells P0 243)).setRow (w.heap.size + 1) P0 = w4 at *
       have Q1 := Lib.hid q1; have Q2 := Lib.hid q2; have Q3 := Lib.hid q3
       clear q1 q2 q3)
    | (with_reducible refine wpList_copy_splice rfl (.tmp 5) (.tmp 6) 24 24 rfl 3 Tryd.underlying24 info_int1 (some ⟨w.heap.size + 1, 0, none⟩) a 48 48 zs.length cap ?_ ?_ (w.heap.size + 1) 0 (padZ []) 243 ?_ (zs.map (Value.int .i64)) ?_ ?_ ?_ ?_ (w.heap.size + 1) w4 (Below.refl _ _) (Nat.le_refl _) ?_
       · go_loud (rfl)
       · go_loud (rfl)
       · go_loud (rw [Q1.out, ← HP.out]; rfl)
       · rw [List.length_map]; exact (Nat.min_eq_left hl).symm
       · intro h0
         rw [List.length_map] at h0
         obtain ⟨d, hd, hsp, hdb, hc⟩ := HX.out (by intro h; rw [h] at h0; simp at h0)
         refine ⟨rfl, d, hd, fun j x hj => ?_⟩
         obtain ⟨db, dof, _⟩ := d
         simp only at hsp
         subst hsp
         have hj' : j < zs.length := by
           rcases Nat.lt_or_ge j zs.length with h | h
           · exact h
           · rw [List.getElem?_eq_none (by simpa using h)] at hj; cases hj
         have hcj := (World.cell?_of_block (w := w) (a := ⟨db, dof + j, none⟩) (Q3.out.block db hdb)).trans (hc j hj')
         simp [hj'] at hj
         subst hj
         unfold Addr.add
         split
         · next h0 => subst h0; simpa using hcj
         · exact hcj
       · rw [List.length_map, padZ_len (by simp)]; omega
       · intro x hx
         obtain ⟨z, _, rfl⟩ := List.mem_map.1 hx
         rfl
       intro w5 H5 hb5
       have q5 : w5.heap[w.heap.size + 1]? = some (.cells Pz 243 (0, 0)) := by rw [H5.out, pad_splice hl, ← HPZ.out]; rfl
       have q6 := (hb5.block w.heap.size (by omega)).trans Q2.out
       have Q5 := Lib.hid q5; have Q6 := Lib.hid q6; have Q7 := Lib.hid (Q3.out.trans (hb5.mono (by omega)))
       clear q5 q6 hb5 H5)
    | (with_reducible refine wpList_load_row rfl 243 (.tmp 3) rfl (w.heap.size + 1) ?_ 243 Pz (0, 0) _ Q5.out under_pad rfl ?_ ?_
       · go_loud (rfl)
       · rw [info_pad, SL.out])
    | (with_reducible refine wpList_store_rowTo rfl 243 (.tmp 2) (.tmp 8) rfl rfl w.heap.size Pz ?_ ?_ 243 P0 Q6.out ?_ ?_ ?_ ?_
       · go_loud (rfl)
       · go_loud (rfl)
       · rw [info_pad, SL.out]
       · rw [S0.out, SL.out]
       · rw [← HPZ.out]; exact padC_one zs))
  refine bodyPost_ret_by (v := .agg Pz) ?_ rfl ?_
  · exact results_cell_row rfl _ _ w.heap.size 243 Pz (0, 0) _ rfl (setRow_heap _ w.heap.size P0 Pz 243 (0, 0) Q6.out) under_pad rfl (by rw [info_pad, SL.out])
  · exact ⟨rfl, grown_of_below (below_setRow Q7.out (Nat.le_refl _) _)⟩

theorem cells_int1 : Tryd.prog.cellsOf 3 = 1 := by kernel_rfl
theorem plain_int : Tryd.prog.plainKey 3 = true := by kernel_rfl
theorem pad_guard : Tryd.prog.eqGuardType Tryd.prog.depth 243 = false := by kernel_rfl
theorem padC_at {zs : List Int} (h : zs.length ≤ 48) {i : Nat} (hi : i < 48) : (padC zs)[i]? = some (.int .i64 (zs.getD i 0)) := by
  unfold padC padZ
  rw [List.getElem?_toArray, List.getElem?_map, List.getElem?_append]
  split
  · next h1 => rw [List.getElem?_eq_getElem h1, getD_lt h1]; rfl
  · next h1 =>
    rw [List.getElem?_replicate, if_pos (by omega), List.getD_eq_getElem?_getD, List.getElem?_eq_none (by omega)]
    rfl
theorem pad_items {x y : List Int} (hx : x.length ≤ 48) (hy : y.length ≤ 48) (w : World) : ∀ is : List Nat, (∀ i ∈ is, i < 48) →
    (Op.eqItems 9999 3 1 (padC x) (padC y) is).run Tryd.prog w = .ok (is.all fun i => x.getD i 0 == y.getD i 0) w
  | [], _ => rfl
  | i :: is, h => by
    have hi := h i (by simp)
    have ih := pad_items hx hy w is fun j hj => h j (by simp [hj])
    have e1 := run_part_plain (P := Tryd.prog) w plain_int (off := i * 1) (xs := padC x) (by rw [Nat.mul_one]; exact padC_at hx hi)
    have e2 := run_part_plain (P := Tryd.prog) w plain_int (off := i * 1) (xs := padC y) (by rw [Nat.mul_one]; exact padC_at hy hi)
    have e3 := run_equalIn_int (P := Tryd.prog) w 9998 3 .i64 .i64 (x.getD i 0) (y.getD i 0) Tryd.underlying3
    simp only [Op.eqItems, Sem.run_bind, e1, e2, e3, Result.andThen_ok, List.all_cons]
    cases hb : x.getD i 0 == y.getD i 0
    · simp
    · simp [ih]
theorem pad_eq {x y : List Int} (hx : x.length ≤ 48) (hl : x.length = y.length) (w : World) : (Op.equalIn 10000 243 (.agg (padC x)) (.agg (padC y))).run Tryd.prog w = .ok (x == y) w := by
  obtain ⟨i0, hi, hz0, hz1, hz2⟩ := info_parts info_int
  rw [run_equalIn_array w 9999 (padC x) (padC y) under_pad hi, cells_int1, pad_items hx (by omega) w _ (fun i hi => List.mem_range.1 hi)]
  refine congrArg (fun b => Result.ok b w) ?_
  generalize hr : List.range 48 = r
  rw [Bool.eq_iff_iff, List.all_eq_true, beq_iff_eq]
  constructor
  · intro h
    refine list_ext_getD hl fun j hj => ?_
    have := h j (by rw [← hr]; exact List.mem_range.2 (by omega))
    rwa [beq_iff_eq] at this
  · rintro rfl i _
    exact beq_self_eq_true _
end Go.Proofs.YtpeaeminjbjlnaaDoor

/-
  What the law of row reduction asks, for lists: the transforming matrix makes the reduced one, its inverse is one at both sides, rank and kernel add up, and kernel times matrix is zero. Plain mathematics. Conditions: the number of elements is a field of the program's kind; rows of one length with elements.
-/
namespace Go.Proofs.YtpeaeminjbjlnaaDoor
open La
set_option linter.unusedVariables false
section rr
variable {p : Nat} [NeZero p]

theorem vec_combTo {n k j : Nat} {x : List Int} {L : List (List Int)} (hp : 1 < p) (hL : RowsOk p n L) (hk : k ≤ L.length) (hj : j < n) :
    vec p (combTo p x L n k) j = S k (fun i => vec p x i * mx p L i j) := by
  induction k with
  | zero =>
    unfold combTo S
    rw [vec_at (by simp; exact hj), List.getElem_replicate]
    exact toF_zero
  | succ k ih =>
    unfold combTo S
    rw [vec_addT _ (by rw [(combTo_ok hp hL k (by omega)).1, (hL _ (getD_mem (show k < L.length by omega))).1]), ih (by omega)]
    rfl
theorem timesL_len (q : Int) (X L : List (List Int)) (n : Nat) : (timesL q X L n).length = X.length := by simp [timesL]
theorem timesL_ok {n : Nat} {X L : List (List Int)} (hp : 1 < p) (hL : RowsOk p n L) : RowsOk p n (timesL p X L n) := by
  intro row hrow
  obtain ⟨x, _, rfl⟩ := List.mem_map.1 hrow
  exact combTo_ok hp hL _ (Nat.le_refl _)
theorem mx_timesL {n i j : Nat} {X L : List (List Int)} (hp : 1 < p) (hL : RowsOk p n L) (hi : i < X.length) (hj : j < n) :
    mx p (timesL p X L n) i j = comb L.length (mx p X i) (mx p L) j := by
  rw [mx_at (by rw [timesL_len]; exact hi)]
  have e : (timesL p X L n)[i]'(by rw [timesL_len]; exact hi) = combTo p X[i] L n L.length := by simp [timesL]
  rw [e, vec_combTo hp hL (Nat.le_refl _) hj, mx_at hi]
  rfl
theorem comb_comb {k m : Nat} (x : Vec p) (A B : Mx p) (j : Nat) : comb m (fun t => comb k x A t) B j = comb k x (fun i => comb m (A i) B) j := by
  unfold comb
  have e : ∀ t, S k (fun i => x i * A i t) * B t j = S k (fun i => x i * (A i t * B t j)) := by
    intro t
    rw [← S_mulr]
    exact S_congr fun i _ => by grind
  simp only [e]
  rw [S_comm]
  exact S_congr fun i _ => by rw [S_mul]
theorem comb_delta {m j : Nat} (hj : j < m) (x : Vec p) {A : Mx p} (hA : ∀ i, i < m → A i j = if i = j then 1 else 0) : comb m x A j = x j := by
  unfold comb
  rw [S_one hj (fun i hi hn => by rw [hA i hi]; simp [hn, fm0]), hA j hj]
  simp [fm1]
theorem comb_delta' {m i : Nat} (hi : i < m) (A : Mx p) (j : Nat) : comb m (fun t => if i = t then 1 else 0) A j = A i j := by
  unfold comb
  rw [S_one hi (fun t ht hn => by simp [Ne.symm hn, f0m])]
  simp [f1m]
theorem comb_congr {m j : Nat} {x y : Vec p} {A B : Mx p} (h : ∀ t, t < m → x t = y t) (hA : ∀ t, t < m → A t j = B t j) : comb m x A j = comb m y B j := by
  unfold comb
  exact S_congr fun t ht => by rw [h t ht, hA t ht]

/-- The inverse at the left is the inverse at the right. -/
theorem right_inverse {m : Nat} {A : List (List Int)} (hf : fldN p = true) (hA : RowsOk p m A) (hl : A.length = m) (hi : Indep m m (mx p A)) :
    ∀ i, i < m → ∀ j, j < m → comb m (mx p A i) (mx p (redTo p A (idL m) m).T) j = if i = j then 1 else 0 := by
  have g := ge hf hA hl
  obtain ⟨hBA, _⟩ := left_inverse hf hA hl hi
  obtain ⟨hCB, _⟩ := left_inverse hf g.okT g.lenT g.inv.indep
  generalize redTo (p : Int) A (idL m) m = s at *
  generalize mx p (redTo (p : Int) s.T (idL m) m).T = C at *
  have hAC : ∀ i, i < m → ∀ j, j < m → mx p A i j = C i j := by
    intro i hi j hj
    rw [← comb_delta' hi (mx p A) j, comb_congr (B := mx p A) (fun t ht => (hCB i hi t ht).symm) (fun _ _ => rfl), comb_comb]
    exact comb_delta hj _ fun t ht => hBA t ht j hj
  intro i hi j hj
  rw [comb_congr (hAC i hi) (fun _ _ => rfl)]
  exact hCB i hi j hj

/-- The transforming matrix makes the reduced one. -/
theorem rr_made {n : Nat} {M : List (List Int)} (hf : fldN p = true) (hM : RowsOk p n M) :
    timesL p (redTo p M (idL M.length) n).T M n = (redTo p M (idL M.length) n).R := by
  have g := ge hf hM rfl
  generalize redTo (p : Int) M (idL M.length) n = s at *
  refine rows_ext (timesL_ok (lt_p hf) hM) g.okR (by rw [timesL_len]; exact g.lenT) g.lenR fun i hi j hj => ?_
  rw [mx_timesL (lt_p hf) hM (by rw [g.lenT]; exact hi) hj, g.inv.made i hi j hj]
theorem rr_back {n : Nat} {M : List (List Int)} (hf : fldN p = true) (hM : RowsOk p n M) :
    (redTo p (redTo p M (idL M.length) n).T (idL M.length) M.length).r = M.length ∧
    timesL p (redTo p M (idL M.length) n).T (redTo p (redTo p M (idL M.length) n).T (idL M.length) M.length).T M.length = idL M.length := by
  have g := ge hf hM rfl
  generalize redTo (p : Int) M (idL M.length) n = s at *
  have hr := indep_rank hf g.okT g.lenT g.inv.indep
  rw [rankL_eq _ _ _ (idL M.length)] at hr
  refine ⟨hr, ?_⟩
  have h2 := right_inverse hf g.okT g.lenT g.inv.indep
  have g2 := ge hf g.okT g.lenT
  generalize redTo (p : Int) s.T (idL M.length) M.length = t at *
  refine rows_ext (timesL_ok (lt_p hf) g2.okT) (idL_ok (lt_p hf)) (by rw [timesL_len]; exact g.lenT) (idL_len _) fun i hi j hj => ?_
  rw [mx_timesL (lt_p hf) g2.okT (by rw [g.lenT]; exact hi) hj, g2.lenT, h2 i hi j hj, mx_idL hi hj]
theorem rr_sum {n : Nat} {M : List (List Int)} (hf : fldN p = true) (hM : RowsOk p n M) : rankL p n M + (kernelL p n M).length = M.length := by
  rw [kernelL_len hf hM]
  have := rank_le hf hM
  omega
/-- Kernel times matrix is zero. -/
theorem rr_zero {n : Nat} {M : List (List Int)} (hf : fldN p = true) (hM : RowsOk p n M) {x : List Int} (hx : x ∈ kernelL p n M) : ∀ z ∈ combTo p x M n M.length, z = 0 := by
  have hsp : ∀ j, j < n → comb M.length (vec p x) (mx p M) j = 0 := by
    rw [← kernelL_span hf hM]
    obtain ⟨i, hi, rfl⟩ := List.getElem_of_mem hx
    have := In.row (n := M.length) (A := mx p (kernelL p n M)) hi
    rw [mx_at hi] at this
    exact this
  have hok := combTo_ok (x := x) (lt_p hf) hM _ (Nat.le_refl _)
  intro z hz
  obtain ⟨j, hj, rfl⟩ := List.getElem_of_mem hz
  have hb := hok.2 _ (List.getElem_mem hj)
  have hjn : j < n := by rw [← hok.1]; exact hj
  refine Classical.byContradiction fun hne => toF_ne hb.1 hb.2 hne ?_
  rw [← vec_at hj, vec_combTo (lt_p hf) hM (Nat.le_refl _) hjn]
  exact hsp j hjn
end rr
end Go.Proofs.YtpeaeminjbjlnaaDoor

/-
  Orthogonal lists, null rows, coordinates and separators, for lists of lists of integers. Plain mathematics. Conditions: the number of elements is a field of the program's kind; rows of one length with elements.
-/
namespace Go.Proofs.YtpeaeminjbjlnaaDoor
open La
set_option linter.unusedVariables false
section orth
variable {p : Nat} [NeZero p]

def transL (L : List (List Int)) (n : Nat) : List (List Int) := (List.range n).map fun j => L.map fun row => row.getD j 0
def orthL (p : Int) (L : List (List Int)) (n : Nat) : List (List Int) := kernelL p L.length (transL L n)
theorem transL_len (L : List (List Int)) (n : Nat) : (transL L n).length = n := by simp [transL]
omit [NeZero p] in
theorem transL_ok {n : Nat} {L : List (List Int)} (h : RowsOk p n L) : RowsOk p L.length (transL L n) := by
  intro row hrow
  obtain ⟨j, hj, rfl⟩ := List.mem_map.1 hrow
  refine ⟨by simp, fun x hx => ?_⟩
  obtain ⟨r, hr, rfl⟩ := List.mem_map.1 hx
  have := h r hr
  rw [getD_lt (by rw [this.1]; exact List.mem_range.1 hj)]
  exact this.2 _ (List.getElem_mem _)
theorem mx_transL {n i j : Nat} {L : List (List Int)} (hj : j < n) (hi : i < L.length) : mx p (transL L n) j i = mx p L i j := by
  rw [mx_at (by rw [transL_len]; exact hj)]
  have e : (transL L n)[j]'(by rw [transL_len]; exact hj) = L.map fun row => row.getD j 0 := by simp [transL]
  rw [e, vec_at (by simpa using hi)]
  simp only [List.getElem_map]
  rw [mx_at hi]
  rfl
def Perp (p n : Nat) [NeZero p] (L : List (List Int)) (w : Vec p) : Prop := ∀ i, i < L.length → S n (fun j => w j * mx p L i j) = 0
theorem orth_span {n : Nat} {L : List (List Int)} (hf : fldN p = true) (h : RowsOk p n L) (w : Vec p) : Spn p n (orthL p L n) w ↔ Perp p n L w := by
  have := kernelL_span hf (transL_ok h) w
  rw [transL_len] at this
  unfold orthL
  rw [this]
  unfold Perp comb
  constructor
  · intro h1 i hi
    rw [← h1 i hi]
    exact S_congr fun j hj => by rw [mx_transL hj hi]
  · intro h1 i hi
    rw [← h1 i hi]
    exact S_congr fun j hj => by rw [mx_transL hj hi]
theorem orth_red {n : Nat} {L : List (List Int)} (hf : fldN p = true) (h : RowsOk p n L) : IsRed p n (orthL p L n) := by
  have := kernelL_red hf (transL_ok h)
  rw [transL_len] at this
  exact this
theorem perp_span {n : Nat} {L M : List (List Int)} {w : Vec p} (hs : ∀ v, Spn p n L v → Spn p n M v) (h : Perp p n M w) : Perp p n L w := by
  intro i hi
  have h1 := hs (mx p L i) (In.row hi)
  have h2 := In.dot h1 (w := w) fun k hk => by
    rw [← h k hk]
    exact S_congr fun j _ => by grind
  rw [← h2]
  exact S_congr fun j _ => by grind

/-! ### null rows -/
def leadL (v : List Int) : Nat := v.findIdx fun x => x != 0
theorem lead_piv {n i : Nat} {piv : Nat → Nat} {m : List (List Int)} (hf : fldN p = true) (hok : RowsOk p n m) (h : RR m.length n (mx p m) piv) (hi : i < m.length) : leadL (m.getD i []) = piv i := by
  have hr := hok _ (getD_mem hi)
  have hp := h.lt i hi
  have e : ∀ j, mx p m i j = toF p ((m.getD i []).getD j 0) := fun j => rfl
  have h1 := h.one i hi
  rw [e] at h1
  have h2 := fun j hj => h.left i j hi hj
  simp only [e] at h2
  generalize m.getD i [] = r at *
  unfold leadL
  rw [List.findIdx_eq (by rw [hr.1]; exact hp)]
  refine ⟨?_, fun j hj => ?_⟩
  · rw [bne_iff_ne, ← getD_lt (by rw [hr.1]; exact hp)]
    intro h0
    rw [h0, toF_zero] at h1
    exact one_ne hf h1.symm
  · have hjl : j < r.length := by rw [hr.1]; omega
    rw [bne_eq_false_iff_eq, ← getD_lt hjl]
    have hb := hr.2 _ (List.getElem_mem hjl)
    rw [← getD_lt hjl] at hb
    exact Classical.byContradiction fun hne => toF_ne hb.1 hb.2 hne (h2 j hj)
def nullTo (p : Int) (n : Nat) (m : List (List Int)) (j : Nat) : Nat → List Int
  | 0 => unitL n j
  | i + 1 => (nullTo p n m j i).set (leadL (m.getD i [])) ((p - at2 m i j) % p)
def isLead (m : List (List Int)) (j : Nat) : Bool := m.any fun r => leadL r == j
def nullRows (p : Int) (n : Nat) (m : List (List Int)) : List (List Int) := ((List.range n).filter fun j => !isLead m j).map fun j => nullTo p n m j m.length
def spNullL (p : Int) (n : Nat) (L : List (List Int)) : List (List Int) := reducedL p n (nullRows p n (reducedL p n L))
omit [NeZero p] in
theorem nullTo_ok {n j : Nat} {m : List (List Int)} (hp : 1 < p) : ∀ i, VecOk p n (nullTo p n m j i) := by
  intro i
  induction i with
  | zero => exact unitL_ok hp
  | succ i ih =>
    refine ⟨by simp only [nullTo]; rw [List.length_set]; exact ih.1, fun x hx => ?_⟩
    simp only [nullTo] at hx
    rcases List.mem_or_eq_of_mem_set hx with h | h
    · exact ih.2 x h
    · rw [h]
      exact ⟨Int.emod_nonneg _ (by omega), Int.emod_lt_of_pos _ (by omega)⟩
omit [NeZero p] in
theorem nullRows_ok {n : Nat} {m : List (List Int)} (hp : 1 < p) : RowsOk p n (nullRows p n m) := by
  intro row hrow
  obtain ⟨j, _, rfl⟩ := List.mem_map.1 hrow
  exact nullTo_ok hp _
theorem isLead_iff {n j : Nat} {piv : Nat → Nat} {m : List (List Int)} (hf : fldN p = true) (hok : RowsOk p n m) (h : RR m.length n (mx p m) piv) : isLead m j = true ↔ ∃ i, i < m.length ∧ piv i = j := by
  unfold isLead
  rw [List.any_eq_true]
  constructor
  · rintro ⟨r, hr, hj⟩
    obtain ⟨i, hi, rfl⟩ := List.getElem_of_mem hr
    refine ⟨i, hi, ?_⟩
    have := lead_piv hf hok h hi
    rw [List.getD_eq_getElem?_getD, List.getElem?_eq_getElem hi, Option.getD_some] at this
    rw [← this]
    exact beq_iff_eq.1 hj
  · rintro ⟨i, hi, hj⟩
    refine ⟨m.getD i [], getD_mem hi, ?_⟩
    rw [lead_piv hf hok h hi, hj]
    exact beq_self_eq_true _
theorem toF_p : toF p (p : Int) = 0 := by
  rw [← toF_zero, toF_eq, Int.emod_self, Int.zero_emod]
theorem piv_inj {n r : Nat} {A : Mx p} {piv : Nat → Nat} (h : RR r n A piv) {i k : Nat} (hi : i < r) (hk : k < r) (e : piv i = piv k) : i = k := by
  rcases Nat.lt_trichotomy i k with h1 | h1 | h1
  · have := h.inc i k h1 hk; omega
  · exact h1
  · have := h.inc k i h1 hi; omega
theorem nullTo_at {n j : Nat} {piv : Nat → Nat} {m : List (List Int)} (hf : fldN p = true) (hok : RowsOk p n m) (h : RR m.length n (mx p m) piv) :
    ∀ i, i ≤ m.length → (∀ k, k < i → vec p (nullTo p n m j i) (piv k) = - mx p m k j) ∧ ∀ c, c < n → (∀ k, k < i → piv k ≠ c) → vec p (nullTo p n m j i) c = if j = c then 1 else 0 := by
  intro i
  induction i with
  | zero => intro _; exact ⟨fun k hk => by omega, fun c hc _ => vec_unitL hc⟩
  | succ i ih =>
    intro hi
    obtain ⟨h1, h2⟩ := ih (by omega)
    have hl := lead_piv hf hok h (show i < m.length by omega)
    have hlen := (nullTo_ok (p := p) (n := n) (j := j) (m := m) (lt_p hf) i).1
    have hlt := h.lt i (by omega)
    refine ⟨fun k hk => ?_, fun c hc hne => ?_⟩
    · unfold vec
      simp only [nullTo]
      rw [hl]
      by_cases hki : k = i
      · subst hki
        rw [getD_set_self (by omega), toF_emod, toF_sub, toF_p, ← mx_at2]
        grind
      · have : piv i ≠ piv k := fun e => hki (piv_inj h (by omega) (by omega) e.symm)
        rw [getD_set_ne this]
        exact h1 k (by omega)
    · unfold vec
      simp only [nullTo]
      rw [hl, getD_set_ne (hne i (by omega))]
      exact h2 c hc fun k hk => hne k (by omega)
theorem null_mem {n j : Nat} {m : List (List Int)} (hj : j < n) (h : isLead m j = false) : Spn p n (nullRows p n m) (vec p (nullTo p n m j m.length)) := by
  have hm : nullTo p n m j m.length ∈ nullRows p n m := List.mem_map.2 ⟨j, List.mem_filter.2 ⟨List.mem_range.2 hj, by rw [h]; rfl⟩, rfl⟩
  obtain ⟨i, hi, he⟩ := List.getElem_of_mem hm
  have := In.row (n := n) (A := mx p (nullRows p n m)) hi
  rw [mx_at hi, he] at this
  exact this
/-- a null row's product with any vector -/
theorem null_dot {n j : Nat} {piv : Nat → Nat} {m : List (List Int)} (hf : fldN p = true) (hok : RowsOk p n m) (h : RR m.length n (mx p m) piv) (hj : j < n) (hnl : isLead m j = false) (w : Vec p) :
    S n (fun c => vec p (nullTo p n m j m.length) c * w c) = w j - comb m.length (fun i => w (piv i)) (mx p m) j := by
  obtain ⟨h1, h2⟩ := nullTo_at (j := j) hf hok h m.length (Nat.le_refl _)
  have hnp : ∀ k, k < m.length → piv k ≠ j := by
    intro k hk e
    have := (isLead_iff hf hok h).2 ⟨k, hk, e⟩
    rw [hnl] at this
    cases this
  have e : ∀ c, c < n → vec p (nullTo p n m j m.length) c * w c = (if c = j then w j else 0) - S m.length (fun k => if c = piv k then w (piv k) * mx p m k j else 0) := by
    intro c hc
    by_cases hp : ∃ k, k < m.length ∧ piv k = c
    · obtain ⟨k, hk, rfl⟩ := hp
      rw [h1 k hk, if_neg (hnp k hk), S_one hk (fun i hi hn => by rw [if_neg fun e => hn (piv_inj h hi hk e.symm)]), if_pos rfl]
      grind
    · rw [h2 c hc fun k hk e => hp ⟨k, hk, e⟩, S_zero' fun k hk => by rw [if_neg fun e => hp ⟨k, hk, e.symm⟩]]
      by_cases hcj : c = j
      · subst hcj; simp only [if_true]; grind
      · rw [if_neg hcj, if_neg (Ne.symm hcj)]; grind
  rw [S_congr e, S_sub, S_delta hj, S_comm]
  congr 1
  refine S_congr fun k hk => ?_
  rw [S_delta (h.lt k hk)]
theorem null_span {n : Nat} {m : List (List Int)} (hf : fldN p = true) (hr : IsRed p n m) (w : Vec p) : Spn p n (nullRows p n m) w ↔ Perp p n m w := by
  obtain ⟨hok, piv, h⟩ := hr
  constructor
  · intro hs i hi
    refine In.dot hs fun k hk => ?_
    have hm : (nullRows p n m)[k] ∈ nullRows p n m := List.getElem_mem hk
    rw [mx_at hk]
    obtain ⟨j, hj, he⟩ := List.mem_map.1 hm
    rw [← he]
    obtain ⟨hj1, hj2⟩ := List.mem_filter.1 hj
    have hj3 := List.mem_range.1 hj1
    rw [null_dot hf hok h hj3 (by simpa using hj2)]
    have e : comb m.length (fun k => mx p m i (piv k)) (mx p m) j = mx p m i j := by
      unfold comb
      rw [S_one hi (fun k hk hn => by show mx p m i (piv k) * mx p m k j = 0; rw [h.col k i hk hi (Ne.symm hn), f0m])]
      show mx p m i (piv i) * mx p m i j = mx p m i j
      rw [h.one i hi, f1m]
    rw [e]
    grind
  · intro hw
    have hin : In n n (fun j => if isLead m j = true then (fun _ => 0) else vec p (nullTo p n m j m.length)) w := by
      refine ⟨w, fun c hc => ?_⟩
      unfold comb
      by_cases hp : ∃ k, k < m.length ∧ piv k = c
      · obtain ⟨k, hk, rfl⟩ := hp
        have e : ∀ j, j < n → w j * (if isLead m j = true then (fun _ => 0) else vec p (nullTo p n m j m.length)) (piv k) = (if j = piv k then w (piv k) else 0) - w j * mx p m k j := by
          intro j hj
          by_cases hl : isLead m j = true
          · rw [if_pos hl]
            obtain ⟨i, hi, rfl⟩ := (isLead_iff hf hok h).1 hl
            by_cases hik : i = k
            · subst hik
              rw [if_pos rfl, h.one i hi]
              grind
            · rw [if_neg fun e => hik (piv_inj h hi hk e), h.col i k hi hk (Ne.symm hik)]
              grind
          · rw [if_neg hl, (nullTo_at hf hok h m.length (Nat.le_refl _)).1 k hk, if_neg fun e => hl ((isLead_iff hf hok h).2 ⟨k, hk, e.symm⟩)]
            grind
        rw [S_congr e, S_sub, S_delta hc, hw k hk]
        grind
      · rw [S_one hc]
        · have hl : ¬ isLead m c = true := fun e => hp ((isLead_iff hf hok h).1 e)
          dsimp only
          rw [if_neg hl, (nullTo_at hf hok h m.length (Nat.le_refl _)).2 c hc fun k hk e => hp ⟨k, hk, e⟩, if_pos rfl]
          grind
        · intro j hj hne
          dsimp only
          by_cases hl : isLead m j = true
          · rw [if_pos hl]; grind
          · rw [if_neg hl, (nullTo_at hf hok h m.length (Nat.le_refl _)).2 c hc fun k hk e => hp ⟨k, hk, e⟩, if_neg hne]
            grind
    refine hin.trans fun j hj => ?_
    by_cases hl : isLead m j = true
    · rw [if_pos hl]; exact In.zero _ _ _
    · rw [if_neg hl]; exact null_mem hj (by simpa using hl)
/-- The specification's null space is the program's orthogonal one. -/
theorem spNull_eq {n : Nat} {L : List (List Int)} (hf : fldN p = true) (hL : RowsOk p n L) : spNullL p n L = orthL p L n := by
  have hr := reducedL_red hf hL
  have hs := reducedL_span hf hL
  refine red_unique hf (reducedL_red hf (nullRows_ok (lt_p hf))) (orth_red hf hL) fun v => ?_
  unfold spNullL
  rw [reducedL_span hf (nullRows_ok (lt_p hf)), null_span hf hr, orth_span hf hL]
  exact ⟨fun h => perp_span (fun v hv => (hs v).2 hv) h, fun h => perp_span (fun v hv => (hs v).1 hv) h⟩

/-! ### coordinates -/
def coordsL (m : List (List Int)) (v : List Int) : List Int := m.map fun b => v.getD (leadL b) 0
theorem vec_coordsL {n i : Nat} {piv : Nat → Nat} {m : List (List Int)} (hf : fldN p = true) (hok : RowsOk p n m) (h : RR m.length n (mx p m) piv) (v : List Int) (hi : i < m.length) : vec p (coordsL m v) i = vec p v (piv i) := by
  rw [vec_at (by simp [coordsL]; exact hi)]
  have := lead_piv hf hok h hi
  rw [List.getD_eq_getElem?_getD, List.getElem?_eq_getElem hi, Option.getD_some] at this
  simp only [coordsL, List.getElem_map]
  rw [this]
  rfl
def hasB (p : Int) (n : Nat) (m : List (List Int)) (v : List Int) : Bool := combTo p (coordsL m v) m n m.length == v
theorem hasB_iff {n : Nat} {m : List (List Int)} {v : List Int} (hf : fldN p = true) (hr : IsRed p n m) (hv : VecOk p n v) : hasB p n m v = true ↔ Spn p n m (vec p v) := by
  obtain ⟨hok, piv, h⟩ := hr
  have e : ∀ j, j < n → vec p (combTo p (coordsL m v) m n m.length) j = comb m.length (fun i => vec p v (piv i)) (mx p m) j := by
    intro j hj
    rw [vec_combTo (lt_p hf) hok (Nat.le_refl _) hj]
    exact S_congr fun i hi => by rw [vec_coordsL hf hok h v hi]
  unfold hasB
  rw [beq_iff_eq]
  constructor
  · intro he
    refine ⟨fun i => vec p v (piv i), fun j hj => ?_⟩
    rw [← e j hj, he]
  · intro hs
    refine vec_ext (combTo_ok (lt_p hf) hok _ (Nat.le_refl _)) hv fun j hj => ?_
    rw [e j hj]
    exact (h.coords hs j hj).symm
/-- A vector outside has a separator in the orthogonal list; one inside has none. -/
theorem sep_exists {n : Nat} {m : List (List Int)} {v : Vec p} (hf : fldN p = true) (hr : IsRed p n m) :
    Spn p n m v ↔ ∀ w ∈ orthL p m n, S n (fun j => vec p w j * v j) = 0 := by
  have hor := orth_span hf hr.1
  constructor
  · intro hv w hw
    obtain ⟨i, hi, rfl⟩ := List.getElem_of_mem hw
    have h1 : Spn p n (orthL p m n) (mx p (orthL p m n) i) := In.row hi
    rw [hor, mx_at hi] at h1
    have h2 := In.dot hv (w := vec p (orthL p m n)[i]) fun k hk => by
      rw [← h1 k hk]
      exact S_congr fun j _ => by grind
    rw [← h2]
    exact S_congr fun j _ => by grind
  · intro h0
    have hr' := hr
    obtain ⟨hok, piv, h⟩ := hr'
    refine ⟨fun i => v (piv i), fun c hc => ?_⟩
    by_cases hl : isLead m c = true
    · obtain ⟨i, hi, rfl⟩ := (isLead_iff hf hok h).1 hl
      rw [h.comb_at _ hi]
    · have h1 := null_dot hf hok h hc (by simpa using hl) v
      have h2 : Spn p n (orthL p m n) (vec p (nullTo p n m c m.length)) := by
        rw [hor, ← null_span hf hr]
        exact null_mem hc (by simpa using hl)
      have h3 := In.dot h2 (w := v) fun k hk => by
        rw [mx_at hk]
        exact h0 _ (List.getElem_mem hk)
      rw [h3] at h1
      grind
end orth
end Go.Proofs.YtpeaeminjbjlnaaDoor

/-
  Leading indices and products of vectors. Conditions: lengths and elements are small.
-/
namespace Go.Proofs.YtpeaeminjbjlnaaDoor
open Go.RowKit
set_option linter.unusedVariables false

theorem leadL_at {zs : List Int} {k : Nat} (hk : k < zs.length) (h0 : ∀ j (h : j < zs.length), j < k → zs[j] = 0) (h1 : zs[k] ≠ 0) : leadL zs = k := by
  unfold leadL
  rw [List.findIdx_eq hk]
  exact ⟨by rw [bne_iff_ne]; exact h1, fun j hj => by rw [bne_eq_false_iff_eq]; exact h0 j (by omega) hj⟩
theorem leadL_end {zs : List Int} (h0 : ∀ j (h : j < zs.length), zs[j] = 0) : leadL zs = zs.length := by
  unfold leadL
  rw [List.findIdx_eq_length]
  intro x hx
  obtain ⟨j, hj, rfl⟩ := List.getElem_of_mem hx
  rw [bne_eq_false_iff_eq]
  exact h0 j hj

theorem lead_any (v : Value) (zs : List Int) (w : World) (hv : IntsV w v zs) (hl : zs.length ≤ 1000000) :
    Calls Tryd.prog 225 #[v] w fun e w' => e = .returned (.int .i64 (leadL zs)) ∧ w = w' := by
  have HV := Lib.hid hv
  obtain ⟨a, cap, rfl, hx⟩ := hv
  clear hx
  generalize hlen : zs.length = l at *
  have HL := Lib.hid hlen
  clear hlen
  generalize hle : leadL zs = le at *
  have HLE := Lib.hid hle
  clear hle
  go_enter Tryd.func225, Tryd.ntmps225
  go_wp2
  go_loop [7] (fun i => ∃ k : Nat, k ≤ l ∧ i = .int .i64 k ∧ ∀ j (h : j < zs.length), j < k → zs[j] = 0) (fun i => l - (intOf i).toNat)
  case atStart => exact ⟨0, by omega, rfl, fun _ _ h => absurd h (by omega)⟩
  case round =>
    obtain ⟨k, hk, rfl, ho⟩ := hrel
    have HO := Lib.hid ho
    clear ho
    by_cases hlt : k < l
    · have hkl : k < zs.length := by rw [HL.out]; exact hlt
      obtain ⟨d, rfl, hs, hd, hcell⟩ := HV.out.at hkl
      obtain ⟨db, dof, _⟩ := d
      simp only at hs hcell
      subst hs
      have HAT := Lib.hid (fun h => leadL_at hkl HO.out h)
      generalize hzk : zs[k] = z at *
      have HK := Lib.hid hzk
      clear hzk hd
      by_cases hz : z = 0
      · subst hz
        go_wp2
        go_round
        case rel => exact ⟨k + 1, by omega, by go_num, fun j h hj => by
          by_cases hjk : j = k
          · subst hjk; exact HK.out
          · exact HO.out j h (by omega)⟩
        case measure => simp [intOf]; omega
      · have hzb : (z != 0) = true := by rw [bne_iff_ne]; exact hz
        have he := HAT.out hz
        rw [HLE.out] at he
        have HE := Lib.hid he
        clear he
        go_wp2
        go_ret
        exact ⟨by rw [HE.out]; rfl, rfl⟩
    · have he := leadL_end fun j h => HO.out j h (by have := HL.out; omega)
      rw [HLE.out, HL.out] at he
      have HE := Lib.hid he
      clear he
      go_wp2
      go_ret
      exact ⟨by rw [HE.out]; rfl, rfl⟩

def dotTo (v u : List Int) : Nat → Int
  | 0 => 0
  | k + 1 => dotTo v u k + v.getD k 0 * u.getD k 0
theorem dotTo_bd {v u : List Int} (hv : ∀ z ∈ v, 0 ≤ z ∧ z ≤ 1000) (hu : ∀ z ∈ u, 0 ≤ z ∧ z ≤ 1000) (hl : v.length = u.length) : ∀ k, k ≤ v.length → 0 ≤ dotTo v u k ∧ dotTo v u k ≤ 1000000 * k := by
  intro k
  induction k with
  | zero => intro _; exact ⟨Int.le_refl _, by simp [dotTo]⟩
  | succ k ih =>
    intro hk
    obtain ⟨h1, h2⟩ := ih (by omega)
    have b1 := hv _ (List.getElem_mem (show k < v.length by omega))
    have b2 := hu _ (List.getElem_mem (show k < u.length by omega))
    have b3 := mul_bd2 (A := 1000) (B := 1000) ⟨by omega, b1.2⟩ b2 (by omega) (by omega)
    have b4 := Int.mul_nonneg b1.1 b2.1
    unfold dotTo
    rw [getD_lt (show k < v.length by omega), getD_lt (show k < u.length by omega)]
    push_cast
    omega

theorem dot_any (p : Int) (v u : Value) (x y : List Int) (w : World) (hv : IntsV w v x) (hu : IntsV w u y) (hl : x.length = y.length) (hlm : x.length ≤ 1000) (hp : 1 ≤ p) (hp2 : p ≤ 1000) (hx : ∀ z ∈ x, 0 ≤ z ∧ z ≤ 1000) (hy : ∀ z ∈ y, 0 ≤ z ∧ z ≤ 1000) :
    Calls Tryd.prog 195 #[.int .i64 p, v, u] w fun e w' => e = .returned (.int .i64 (dotTo x y x.length % p)) ∧ w = w' := by
  have HV := Lib.hid hv; have HU := Lib.hid hu; have HX := Lib.hid hx; have HY := Lib.hid hy
  have HBD := Lib.hid (dotTo_bd hx hy hl)
  obtain ⟨a, cap, rfl, h1⟩ := hv
  obtain ⟨ua, ucap, rfl, h2⟩ := hu
  clear h1 h2 hx hy
  rw [← hl]
  have HLL := Lib.hid hl
  clear hl
  generalize hlen : x.length = l at *
  have HL := Lib.hid hlen
  clear hlen
  go_enter Tryd.func195, Tryd.ntmps195
  go_wp2
  go_loop [7, 12] (fun s i => ∃ k : Nat, k ≤ l ∧ i = .int .i64 k ∧ s = .int .i64 (dotTo x y k)) (fun _ i => l - (intOf i).toNat)
  case atStart => exact ⟨0, by omega, rfl, rfl⟩
  case round =>
    obtain ⟨k, hk, rfl, rfl⟩ := hrel
    obtain ⟨q0, q1⟩ := HBD.out k hk
    by_cases hlt : k < l
    · have hkx : k < x.length := by rw [HL.out]; exact hlt
      have hky : k < y.length := by rw [← HLL.out]; exact hlt
      obtain ⟨d, rfl, hs, hd, hcell⟩ := HV.out.at hkx
      obtain ⟨d2, rfl, hs2, hd2, hcell2⟩ := HU.out.at hky
      obtain ⟨db, dof, _⟩ := d
      obtain ⟨db2, dof2, _⟩ := d2
      simp only at hs hcell hs2 hcell2
      subst hs hs2
      have b1 := HX.out _ (List.getElem_mem hkx)
      have b2 := HY.out _ (List.getElem_mem hky)
      have hn : dotTo x y (k + 1) = dotTo x y k + x[k] * y[k] := by
        show dotTo x y k + x.getD k 0 * y.getD k 0 = _
        rw [getD_lt hkx, getD_lt hky]
      have HN := Lib.hid hn
      clear hn hd hd2
      generalize x[k] = xk at *
      generalize y[k] = yk at *
      generalize dotTo x y k = s at *
      have b3 := mul_bd2 (A := 1000) (B := 1000) ⟨by omega, b1.2⟩ b2 (by omega) (by omega)
      have b4 := Int.mul_nonneg b1.1 b2.1
      go_wp2
      go_round
      case rel => exact ⟨k + 1, by omega, by go_num, by rw [HN.out]⟩
      case measure => simp [intOf]; omega
    · have hkl : k = l := by omega
      subst hkl
      generalize hs : dotTo x y k = s at *
      have HS := Lib.hid hs
      clear hs
      go_wp2_with (go_at_call 236; refine (mod_all p s hp hp2 (by omega) (by omega) _).mono ?_; rintro e w' ⟨rfl, rfl⟩)
      go_ret
      exact ⟨by rw [HS.out]; rfl, rfl⟩

def zeroB (zs : List Int) : Bool := leadL zs == zs.length
theorem isZero_any (v : Value) (zs : List Int) (w : World) (hv : IntsV w v zs) (hl : zs.length ≤ 1000000) :
    Calls Tryd.prog 228 #[v] w fun e w' => e = .returned (.bool (zeroB zs)) ∧ w = w' := by
  have HLD := Lib.hid (lead_any v zs w hv hl)
  obtain ⟨a, cap, rfl, hx⟩ := hv
  clear hx
  have hz : zeroB zs = ((leadL zs : Int) == (zs.length : Int)) := by
    unfold zeroB
    by_cases h : leadL zs = zs.length
    · rw [h]; simp
    · rw [beq_eq_false_iff_ne.2 h, beq_eq_false_iff_ne.2 (by omega)]
  have HZ := Lib.hid hz
  clear hz
  generalize hbb : zeroB zs = bb at *
  generalize leadL zs = le at *
  generalize zs.length = l at *
  clear hbb
  go_enter Tryd.func228, Tryd.ntmps228
  go_wp2_with (go_at_call 225; refine HLD.out.mono ?_; rintro e w' ⟨rfl, rfl⟩)
  go_ret
  exact ⟨by rw [HZ.out]; rfl, rfl⟩

theorem spLead_any (v : Value) (zs : List Int) (w : World) (hv : IntsV w v zs) (hl : zs.length ≤ 1000000) :
    Calls Tryd.prog 276 #[v] w fun e w' => e = .returned (.int .i64 (leadL zs)) ∧ w = w' := by
  have HV := Lib.hid hv
  obtain ⟨a, cap, rfl, hx⟩ := hv
  clear hx
  generalize hlen : zs.length = l at *
  have HL := Lib.hid hlen
  clear hlen
  generalize hle : leadL zs = le at *
  have HLE := Lib.hid hle
  clear hle
  go_enter Tryd.func276, Tryd.ntmps276
  go_wp2
  go_loop [3] (fun i => ∃ k : Nat, k ≤ l ∧ i = .int .i64 k ∧ ∀ j (h : j < zs.length), j < k → zs[j] = 0) (fun i => l - (intOf i).toNat)
  case atStart => exact ⟨0, by omega, rfl, fun _ _ h => absurd h (by omega)⟩
  case round =>
    obtain ⟨k, hk, rfl, ho⟩ := hrel
    have HO := Lib.hid ho
    clear ho
    by_cases hlt : k < l
    · have hkl : k < zs.length := by rw [HL.out]; exact hlt
      obtain ⟨d, rfl, hs, hd, hcell⟩ := HV.out.at hkl
      obtain ⟨db, dof, _⟩ := d
      simp only at hs hcell
      subst hs
      have HAT := Lib.hid (fun h => leadL_at hkl HO.out h)
      generalize hzk : zs[k] = z at *
      have HK := Lib.hid hzk
      clear hzk hd
      by_cases hz : z = 0
      · subst hz
        go_wp2
        go_round
        case rel => exact ⟨k + 1, by omega, by go_num, fun j h hj => by
          by_cases hjk : j = k
          · subst hjk; exact HK.out
          · exact HO.out j h (by omega)⟩
        case measure => simp [intOf]; omega
      · have hzb : (z == 0) = false := beq_eq_false_iff_ne.2 hz
        have he := HAT.out hz
        rw [HLE.out] at he
        have HE := Lib.hid he
        clear he
        go_wp2
        go_ret
        exact ⟨by rw [HE.out]; rfl, rfl⟩
    · have he := leadL_end fun j h => HO.out j h (by have := HL.out; omega)
      rw [HLE.out, HL.out] at he
      have HE := Lib.hid he
      clear he
      have hkl : k = l := by omega
      subst hkl
      go_wp2
      go_ret
      exact ⟨by rw [HE.out]; rfl, rfl⟩

theorem spDot_q (p : Int) (v u : Value) (x y : List Int) (w : World) (hv : IntsV w v x) (hu : IntsV w u y) (hl : x.length = y.length) (hlm : x.length ≤ 1000) (hp : 1 ≤ p) (hp2 : p ≤ 1000) (hx : ∀ z ∈ x, 0 ≤ z ∧ z ≤ 1000) (hy : ∀ z ∈ y, 0 ≤ z ∧ z ≤ 1000) :
    Calls Tryd.prog 178 #[.int .i64 p, v, u] w fun e w' => e = .returned (.int .i64 (dotTo x y x.length % p)) ∧ ∃ q, w' = w.drewN q := by
  have HV := Lib.hid hv; have HU := Lib.hid hu; have HX := Lib.hid hx; have HY := Lib.hid hy
  obtain ⟨a, cap, rfl, h1⟩ := hv
  obtain ⟨ua, ucap, rfl, h2⟩ := hu
  clear h1 h2 hx hy
  rw [← hl]
  have HLL := Lib.hid hl
  clear hl
  generalize hlen : x.length = l at *
  have HL := Lib.hid hlen
  clear hlen
  go_enter Tryd.func178, Tryd.ntmps178
  go_wp2
  go_loopw [7, 11] (fun s i wr => ∃ k : Nat, k ≤ l ∧ i = .int .i64 k ∧ s = .int .i64 (dotTo x y k % p) ∧ ∃ q, wr = w.drewN q) (fun _ i _ => l - (intOf i).toNat)
  case atStart => exact ⟨0, by omega, rfl, by simp [dotTo], 0, rfl⟩
  case round =>
    obtain ⟨k, hk, rfl, rfl, q0, rfl⟩ := hrel
    by_cases hlt : k < l
    · have hkx : k < x.length := by rw [HL.out]; exact hlt
      have hky : k < y.length := by rw [← HLL.out]; exact hlt
      obtain ⟨d, rfl, hs, hd, hcell⟩ := HV.out.at hkx
      obtain ⟨d2, rfl, hs2, hd2, hcell2⟩ := HU.out.at hky
      obtain ⟨db, dof, _⟩ := d
      obtain ⟨db2, dof2, _⟩ := d2
      simp only at hs hcell hs2 hcell2
      subst hs hs2
      have b1 := HX.out _ (List.getElem_mem hkx)
      have b2 := HY.out _ (List.getElem_mem hky)
      have hn : dotTo x y (k + 1) % p = (dotTo x y k % p + x[k] * y[k]) % p := by
        show (dotTo x y k + x.getD k 0 * y.getD k 0) % p = _
        rw [getD_lt hkx, getD_lt hky, Int.emod_add_emod]
      have HN := Lib.hid hn
      have m0 := Int.emod_nonneg (dotTo x y k) (show p ≠ 0 by omega)
      have m1 := Int.emod_lt_of_pos (dotTo x y k) (show 0 < p by omega)
      clear hn hd hd2
      generalize x[k] = xk at *
      generalize y[k] = yk at *
      generalize dotTo x y k % p = s at *
      have b3 := mul_bd2 (A := 1000) (B := 1000) ⟨by omega, b1.2⟩ b2 (by omega) (by omega)
      have b4 := Int.mul_nonneg b1.1 b2.1
      go_wp2
      go_quiet (fail)
      go_wp2
      go_roundw
      case rel => exact ⟨k + 1, by omega, by go_num, by rw [HN.out], ⟨_, rfl⟩⟩
      case measure => simp [intOf]; omega
    · have hkl : k = l := by omega
      subst hkl
      go_wp2
      go_ret
      exact ⟨rfl, _, rfl⟩

end Go.Proofs.YtpeaeminjbjlnaaDoor

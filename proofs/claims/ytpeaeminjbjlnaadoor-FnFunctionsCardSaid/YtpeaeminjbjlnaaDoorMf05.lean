/-
  Drawn matrices, seldom changed. Conditions: small sizes.
-/
import Derived.Test.YtpeaeminjbjlnaaDoorMl08
import Derived.Test.YtpeaeminjbjlnaaDoorMf04
import Derived.Deep.LoopGhost
import Derived.Test.YtpeaeminjbjlnaaDoorMl07
namespace Go.Proofs.YtpeaeminjbjlnaaDoor
open Go.RowKit
set_option linter.unusedVariables false

/-- a matrix that is being changed: its variable in block x, the result in block y, the cursor in block b -/
structure BM (bd N b x y B : Nat) (cols : Int) (v : Value) (lim : Nat) (w0 : World) (n : Int) (w : World) : Prop where
  ex : ∃ vs L, OwnM B w v vs L ∧ L.length = lim ∧ ∀ row ∈ L, row.length ≤ bd
  cur : Bd.Cur N w b n
  box : w.heap[x]? = some (Bx (.int .i64 cols) v)
  res : w.heap[y]? = some (Bx (.int .i64 0) (.slice none 0 0))
  on : Only (fun k => k = b ∨ B ≤ k) w0 w
  nB : N ≤ B
  bB : b < B
  bx : B ≤ x
  by' : B ≤ y
  xy : x ≠ y
def BPost (N b B : Nat) (w0 : World) (n : Int) (e : Ending) (w' : World) : Prop :=
  ∃ (cols : Int) (o : Value) (vs : List Value) (L : List (List Int)), e = .returned (mxV cols o) ∧ OwnM B w' o vs L ∧ L.length ≤ 1000 ∧ (∀ row ∈ L, row.length ≤ 1000) ∧ Bd.Cur N w' b n ∧ Only (fun k => k = b ∨ B ≤ k) w0 w'
section
variable {bd N b x y B : Nat} {cols : Int} {v : Value} {lim : Nat} {w0 : World} {n : Int} {w : World}
theorem BM.draw (h : BM bd N b x y B cols v lim w0 n w) {m : Int} {w' : World} (hc : Bd.Cur N w' b m) (hg : w.grownBy w' (some b)) : BM bd N b x y B cols v lim w0 m w' := by
  have ho : Only (· = b) w w' := Only.of_grown hg fun k hk => (Option.some.inj hk).symm
  obtain ⟨vs, L, h1, h2, h3⟩ := h.ex
  have hb := h.bB
  refine ⟨⟨vs, L, h1.only ho fun k hk hk' => ?_, h2, h3⟩, hc, (hg.block x (lt_of_blk h.box) (by have := h.bx; simp; omega)).trans h.box, (hg.block y (lt_of_blk h.res) (by have := h.by'; simp; omega)).trans h.res, h.on.trans (ho.mono fun k hk => Or.inl hk), h.nB, h.bB, h.bx, h.by', h.xy⟩
  have h4 := (h1.lt hk).1
  have h5 : k = b := hk'
  omega
theorem BM.more (h : BM bd N b x y B cols v lim w0 n w) {m : Int} (hm : n ≤ m) : BM bd N b x y B cols v lim w0 m w :=
  ⟨h.ex, h.cur.mono hm, h.box, h.res, h.on, h.nB, h.bB, h.bx, h.by', h.xy⟩
theorem BM.fin (h : BM bd N b x y B cols v lim w0 n w) {m : Int} (hm : n ≤ m) (hl : lim ≤ 1000) (hbd : bd ≤ 1000) : BPost N b B w0 m (.returned (.agg #[.int .i64 cols, v])) ((w.setCell ⟨y, 0, none⟩ (.int .i64 cols)).setCell ⟨y, 1, none⟩ v) := by
  obtain ⟨vs, L, h1, h2, h3⟩ := h.ex
  have o5 := one_set (w := w) y (.int .i64 cols) v
  have hb := h.bB
  have hy := h.by'
  have hn := h.nB
  refine ⟨cols, v, vs, L, rfl, h1.only o5 fun k hk hk' => by have e : k = y := hk'; rw [e] at hk; exact foot_ne h.res h1 hk, by omega, fun row hrow => Nat.le_trans (h3 row hrow) hbd, (h.cur.only o5 (by omega) (fun k hk => by omega)).mono hm, h.on.trans (o5.mono fun k hk => Or.inr (by omega))⟩
/-- a number of columns is written -/
theorem BM.setCols (h : BM bd N b x y B cols v lim w0 n w) (c : Int) : BM bd N b x y B c v lim w0 n (w.setCell ⟨x, 0, none⟩ (.int .i64 c)) := by
  obtain ⟨vs, L, h1, h2, h3⟩ := h.ex
  have o5 := set_only w ⟨x, 0, none⟩ (.int .i64 c)
  have hb := h.bB
  have hx := h.bx
  have hn := h.nB
  have hxy := h.xy
  refine ⟨⟨vs, L, h1.only o5 fun k hk hk' => by have e : k = x := hk'; rw [e] at hk; exact foot_ne h.box h1 hk, h2, h3⟩, h.cur.only o5 (by simp; omega) (fun k hk => by simp at hk; omega), ?_, (o5.block y (lt_of_blk h.res) (by simp; omega)).trans h.res, h.on.trans (o5.mono fun k hk => Or.inr (by simp at hk; omega)), h.nB, h.bB, h.bx, h.by', h.xy⟩
  simp only [World.setCell]
  rw [Array.getElem?_modify, if_pos rfl, h.box]
  rfl
theorem BM.drew (h : BM bd N b x y B cols v lim w0 n w) : BM bd N b x y B cols v lim w0 n w.drew :=
  h.draw (h.cur.only (Only.drew (fun _ => False) w) (fun h => h) (fun _ h => h.elim)) ⟨rfl, rfl, rfl, Nat.le_refl _, fun _ _ _ => rfl⟩
theorem BM.shape (h : BM bd N b x y B cols v lim w0 n w) : ∃ a c, v = .slice a lim c := by
  obtain ⟨vs, L, h1, h2, h3⟩ := h.ex
  obtain ⟨a, c, hv, _⟩ := h1.read
  exact ⟨a, c, by rw [hv, h2]⟩
end

/-- a row is appended, and the list stored into the variable -/
theorem BM.push {bd N b x y B : Nat} {cols : Int} {v v' u : Value} {l : Nat} {w0 : World} {n : Int} {w W w6 : World} {vs : List Value} {L : List (List Int)} {zs : List Int} (h : BM bd N b x y B cols v l w0 n w) (hg : w.grownBy W none) (ho : OwnM B W v vs L) (hL : L.length = l) (hll : ∀ row ∈ L, row.length ≤ bd) (hz : zs.length ≤ bd)
    (h6 : OwnM B w6 v' (vs ++ [u]) (L ++ [zs])) (hon : Only (Hits v) W w6) :
    w6.heap[x]? = some (Bx (.int .i64 cols) v) ∧ BM bd N b x y B cols v' (l + 1) w0 n (w6.setCell ⟨x, 1, none⟩ v') := by
  have hB := h.bB
  have hx := h.bx
  have hy := h.by'
  have hn := h.nB
  have hxy := h.xy
  have hit : ∀ k, Hits v k → B ≤ k := fun k hk => (ho.lt (Or.inl hk)).1
  have eW := (hg.block x (lt_of_blk h.box) (by simp)).trans h.box
  have eWy := (hg.block y (lt_of_blk h.res) (by simp)).trans h.res
  have e6 := (hon.block x (lt_of_blk eW) (fun hh => foot_ne eW ho (Or.inl hh))).trans eW
  have e6y := (hon.block y (lt_of_blk eWy) (fun hh => foot_ne eWy ho (Or.inl hh))).trans eWy
  have o5 := set_only w6 ⟨x, 1, none⟩ v'
  have hoff := hon.mono (S' := fun k => B ≤ k) hit
  have h0 : Only (fun k => B ≤ k) w (w6.setCell ⟨x, 1, none⟩ v') := ((Only.of_grown (S := fun k => B ≤ k) hg (by simp)).trans hoff).trans (o5.mono fun k hk => by simp at hk; omega)
  refine ⟨e6, ⟨⟨vs ++ [u], L ++ [zs], h6.only o5 fun k hk hk' => ?_, by simp [hL], fun row hrow => ?_⟩, h.cur.only h0 (by omega) (fun k hk => by omega), ?_, (o5.block y (lt_of_blk e6y) (by simp; omega)).trans e6y, h.on.trans (h0.mono fun k hk => Or.inr hk), h.nB, h.bB, h.bx, h.by', h.xy⟩⟩
  · have e : k = x := hk'
    rw [e] at hk
    exact foot_ne e6 h6 hk
  · rcases List.mem_append.1 hrow with h1 | h1
    · exact hll row h1
    · simp at h1; rw [h1]; exact hz
  · simp only [World.setCell]
    rw [Array.getElem?_modify, if_pos rfl, e6]
    rfl

/-- 'append(row, z)' as an operation of a region. -/
theorem step_app_int {ops : Array Oper} {o : Oper} {a : Act} {K : Act → World → Prop} {Q : Exit → Act → World → Prop} {E : Prop} (hgd : o.guard = none) (s x : Operand)
    (ho : o.op = .call { callee := .builtin .append, args := #[s, x], argTypes := #[24, 24] })
    {B : Nat} {w : World} {v : Value} {zs : List Int} (z : Int) (hs : a.eval s = v) (hx : a.eval x = .slice (some ⟨w.heap.size, 0, none⟩) 1 1)
    (hown : OwnInts B w v zs) (hB : B ≤ w.heap.size) (hl : zs.length ≤ 1000000)
    (h : ∀ g cap w', OwnInts B w' (.slice (some ⟨g, 0, none⟩) (zs.length + 1) cap) (zs ++ [z]) → Only (Hits v) w w' → (Hits v g ∨ w.heap.size ≤ g) → K (a.put o.dst (.slice (some ⟨g, 0, none⟩) (zs.length + 1) cap)) w') :
    if Region.wanted o (yielded ops a.tmps) = true then Oper.wp Tryd.prog o a (w.alloc (.cells #[.int .i64 z] 3)) K Q else E := by
  obtain ⟨i0, hi, hz0, hz1, hz2⟩ := info_parts info_int
  have hgr := grownBy_alloc w (.cells #[.int .i64 z] 3) none
  have hown1 : OwnInts B (w.alloc (.cells #[.int .i64 z] 3)) v zs := hown.alloc _
  refine step_append_lies _ hgd s x 24 ho B 3 i0 (.int .i64 0) 1 8 Tryd.underlying24 hi hz0 hz1 hz2 rfl (by decide) v zs.length (zs.map (Value.int .i64)) hs hown1
    ⟨w.heap.size, 0, none⟩ 1 1 [.int .i64 z] hx rfl ?_ ?_ (by decide) (by unfold maxLen; omega) (by omega) (by simp; omega) _ rfl ?_
  · intro j u' hj
    match j, hj with
    | 0, hj =>
      simp at hj
      subst hj
      simp only [Addr.add, if_true, World.cell?]
      rw [alloc_heap_new]
      rfl
    | j + 1, hj => simp at hj
  · intro u' hu'
    simp at hu'
    subst hu'
    rfl
  · intro g cap w1 hown' hgrow hgg _
    have hon : Only (Hits v) (w.alloc (.cells #[.int .i64 z] 3)) w1 := Only.of_grown hgrow fun k hk => hk
    refine h g cap w1 (by unfold OwnInts; rw [List.length_append, List.map_append]; exact hown') ((Only.of_grown (S := Hits v) hgr (by simp)).trans hon) ?_
    rcases hgg with h1 | h1
    · exact Or.inl h1
    · exact Or.inr (by rw [h1]; simp)
theorem BM.rowGrown {bd N b x y B g cap : Nat} {cols : Int} {l : Nat} {w0 : World} {n : Int} {w W w6 : World} {vs : List Value} {L : List (List Int)} {u : Value} {zs : List Int} {i : Nat} (h : BM bd N b x y B cols (.slice (some ⟨g, 0, none⟩) l cap) l w0 n w) (hg : w.grownBy W none)
    (ho : OwnM B W (.slice (some ⟨g, 0, none⟩) l cap) vs L) (hL : L.length = l) (hll : ∀ row ∈ L, row.length ≤ bd) (hi : i < l) (hz : zs.length ≤ bd + 1) (hu : OwnInts B w6 u zs) (hon : Only (Hits (vs.getD i nilS)) W w6) (hb : ∀ q, Hits u q → Hits (vs.getD i nilS) q ∨ W.heap.size ≤ q) :
    w6.heap[x]? = some (Bx (.int .i64 cols) (.slice (some ⟨g, 0, none⟩) l cap)) ∧ w6.cell? ⟨g, i, none⟩ = some (vs.getD i nilS) ∧ w6.frozen? ⟨g, i, none⟩ = false ∧ BM (bd + 1) N b x y B cols (.slice (some ⟨g, 0, none⟩) l cap) l w0 n (w6.setCell ⟨g, i, none⟩ u) := by
  obtain ⟨c1, c2, c3⟩ := ho.putGrown hL.symm (by omega) hu hon hb
  have hB := h.bB
  have hx := h.bx
  have hy := h.by'
  have hn := h.nB
  have eW := (hg.block x (lt_of_blk h.box) (by simp)).trans h.box
  have eWy := (hg.block y (lt_of_blk h.res) (by simp)).trans h.res
  have e6 := (hon.block x (lt_of_blk eW) (fun hh => foot_ne eW ho (Foot.at hh))).trans eW
  have e6y := (hon.block y (lt_of_blk eWy) (fun hh => foot_ne eWy ho (Foot.at hh))).trans eWy
  have gx : g ≠ x := fun e => foot_ne eW ho (Or.inl (by rw [← e]; rfl))
  have gy : g ≠ y := fun e => foot_ne eWy ho (Or.inl (by rw [← e]; rfl))
  have gB : B ≤ g := (ho.lt (Or.inl rfl)).1
  have o5 := set_only w6 ⟨g, i, none⟩ u
  have h0 : Only (fun k => B ≤ k) w (w6.setCell ⟨g, i, none⟩ u) := ((Only.of_grown (S := fun k => B ≤ k) hg (by simp)).trans (hon.mono fun k hk => (ho.lt (Foot.at hk)).1)).trans (o5.mono fun k hk => by simp at hk; omega)
  refine ⟨e6, c1, c2, ⟨⟨_, _, c3, by rw [List.length_set]; exact hL, fun row hrow => ?_⟩, h.cur.only h0 (by omega) (fun k hk => by omega), (o5.block x (lt_of_blk e6) (by simp; omega)).trans e6, (o5.block y (lt_of_blk e6y) (by simp; omega)).trans e6y, h.on.trans (h0.mono fun k hk => Or.inr hk), h.nB, h.bB, h.bx, h.by', h.xy⟩⟩
  rcases List.mem_or_eq_of_mem_set hrow with h1 | h1
  · have := hll row h1; omega
  · rw [h1]; exact hz

theorem BM.carry {bd N b x y B : Nat} {cols : Int} {v : Value} {lim : Nat} {w0 : World} {n : Int} {w w' : World} (h : BM bd N b x y B cols v lim w0 n w) (hg : w.grownBy w' none) : BM bd N b x y B cols v lim w0 n w' :=
  h.draw (h.cur.only (Only.of_grown (S := fun _ => False) hg (by simp)) (fun h => h) (fun _ h => h.elim)) ⟨hg.os, hg.tape, hg.output, hg.size, fun k hk _ => hg.block k hk (by simp)⟩
/-- an element of a row whose slice is known -/
theorem BM.elemS {bd N b x y B g cap cn gi ci k j : Nat} {cols : Int} {l : Nat} {w0 : World} {n : Int} {w : World} (h : BM bd N b x y B cols (.slice (some ⟨g, 0, none⟩) l cap) l w0 n w) (hS : w.cell? ⟨g, k, none⟩ = some (.slice (some ⟨gi, 0, none⟩) cn ci)) (hk : k < l) (hj : j < cn) :
    (∃ z, w.cell? ⟨gi, j, none⟩ = some z) ∧ w.frozen? ⟨gi, j, none⟩ = false ∧ gi ≠ x ∧ gi ≠ g ∧ ∀ z, BM bd N b x y B cols (.slice (some ⟨g, 0, none⟩) l cap) l w0 n (w.setCell ⟨gi, j, none⟩ (.int .i64 z)) := by
  obtain ⟨vs, L, h1, h2, h3⟩ := h.ex
  have hB := h.bB
  have hx := h.bx
  have hy := h.by'
  have hn := h.nB
  have hc := h1.cell h2.symm (j := k) (by omega)
  rw [hS] at hc
  obtain ⟨a, c, he⟩ := row_slice h1 k
  rw [he] at hc
  simp only [Option.some.injEq, Value.slice.injEq] at hc
  obtain ⟨rfl, hlen, rfl⟩ := hc
  obtain ⟨gi', ci', a1, a2, a3, a4, d1, d2, d3, d4⟩ := h1.elemAt h2.symm (i := k) (j := j) (by omega) (by omega)
  rw [hS] at d1
  simp only [Option.some.injEq, Value.slice.injEq, Addr.mk.injEq, and_true] at d1
  obtain ⟨rfl, _, rfl⟩ := d1
  have gx : gi ≠ x := fun e => foot_ne h.box h1 (Foot.at (e ▸ a4))
  have gy : gi ≠ y := fun e => foot_ne h.res h1 (Foot.at (e ▸ a4))
  refine ⟨⟨_, d2⟩, d3, gx, a2, fun z => ?_⟩
  obtain ⟨e1, e2⟩ := d4 z
  refine ⟨⟨_, _, e1, by rw [List.length_set]; exact h2, fun row hrow => ?_⟩, h.cur.only e2 (by omega) (fun k hk => by omega), (e2.block x (lt_of_blk h.box) (Ne.symm gx)).trans h.box, (e2.block y (lt_of_blk h.res) (Ne.symm gy)).trans h.res, h.on.trans (e2.mono fun k hk => Or.inr (by omega)), h.nB, h.bB, h.bx, h.by', h.xy⟩
  rcases List.mem_or_eq_of_mem_set hrow with h4 | h4
  · exact h3 row h4
  · rw [h4, List.length_set]; exact h3 _ (getD_mem (by omega))
/-- the rows of a list, each a slice of its own -/
theorem rows_of {B g cap n : Nat} {w : World} {vs : List Value} {L : List (List Int)} {cn : Nat} (h : OwnM B w (.slice (some ⟨g, 0, none⟩) n cap) vs L) (hn : n = L.length) (hl : ∀ row ∈ L, row.length = cn) (hc : 0 < cn) :
    ∃ G C : Nat → Nat, ∀ i, i < n → w.cell? ⟨g, i, none⟩ = some (.slice (some ⟨G i, 0, none⟩) cn (C i)) := by
  have : ∀ i, ∃ gi ci : Nat, i < n → w.cell? ⟨g, i, none⟩ = some (.slice (some ⟨gi, 0, none⟩) cn ci) := by
    intro i
    by_cases hi : i < n
    · have hrow := hl _ (getD_mem (show i < L.length by omega))
      obtain ⟨gi, ci, _, _, _, _, d1, _⟩ := h.elemAt hn (i := i) (j := 0) (by omega) (by omega)
      rw [hrow] at d1
      exact ⟨gi, ci, fun _ => d1⟩
    · exact ⟨0, 0, fun h => absurd h hi⟩
  refine ⟨fun i => Classical.choose (this i), fun i => Classical.choose (Classical.choose_spec (this i)), fun i hi => ?_⟩
  exact Classical.choose_spec (Classical.choose_spec (this i)) hi
abbrev SRow (x g lim cn oc : Nat) (G C : Nat → Nat) (w : World) : Prop :=
  w.cell? ⟨x, 0, none⟩ = some (.int .i64 cn) ∧ w.cell? ⟨x, 1, none⟩ = some (.slice (some ⟨g, 0, none⟩) lim oc) ∧ ∀ i, i < lim → w.cell? ⟨g, i, none⟩ = some (.slice (some ⟨G i, 0, none⟩) cn (C i))
theorem srow_grown {x g lim cn oc b : Nat} {G C : Nat → Nat} {w w' : World} (h : SRow x g lim cn oc G C w) (hg : w.grownBy w' (some b)) (h1 : x ≠ b) (h2 : g ≠ b) : SRow x g lim cn oc G C w' := by
  have ex : w'.heap[x]? = w.heap[x]? := hg.block x (World.block_lt_of_cell? w ⟨x, 0, none⟩ h.1) (by simpa using h1)
  refine ⟨(World.cell?_of_block (a := ⟨x, 0, none⟩) ex).trans h.1, (World.cell?_of_block (a := ⟨x, 1, none⟩) ex).trans h.2.1, fun i hi => ?_⟩
  have hc := h.2.2 i hi
  exact (World.cell?_of_block (a := ⟨g, i, none⟩) (hg.block g (World.block_lt_of_cell? w ⟨g, i, none⟩ hc) (by simpa using h2))).trans hc
theorem srow_set {x g lim cn oc gi j : Nat} {G C : Nat → Nat} {w : World} {u : Value} (h : SRow x g lim cn oc G C w) (h1 : gi ≠ x) (h2 : gi ≠ g) : SRow x g lim cn oc G C (w.setCell ⟨gi, j, none⟩ u) := by
  have ex : (w.setCell ⟨gi, j, none⟩ u).heap[x]? = w.heap[x]? := Below.heap_setCell _ _ _ _ (Ne.symm h1)
  have eg : (w.setCell ⟨gi, j, none⟩ u).heap[g]? = w.heap[g]? := Below.heap_setCell _ _ _ _ (Ne.symm h2)
  exact ⟨(World.cell?_of_block (a := ⟨x, 0, none⟩) ex).trans h.1, (World.cell?_of_block (a := ⟨x, 1, none⟩) ex).trans h.2.1, fun i hi => (World.cell?_of_block (a := ⟨g, i, none⟩) eg).trans (h.2.2 i hi)⟩

end Go.Proofs.YtpeaeminjbjlnaaDoor

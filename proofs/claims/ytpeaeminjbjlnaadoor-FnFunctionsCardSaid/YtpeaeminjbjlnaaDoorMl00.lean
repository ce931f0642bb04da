/-
  Lists of the call's own whose rows lie elsewhere, as a part of memory: what they hold can be read; rows join. Conditions: small sizes.
-/
import Derived.Test.YtpeaeminjbjlnaaDoorMv09
import Derived.Test.YtpeaeminjbjlnaaDoorMv02
namespace Go.Proofs.YtpeaeminjbjlnaaDoor
open Go.RowKit
set_option linter.unusedVariables false

theorem IntsV.only2 {S : Nat → Prop} {w w' : World} {v : Value} {zs : List Int} (h : IntsV w v zs) (ho : Only S w w') (hs : zs ≠ [] → ∀ k, Value.blk' v = some k → ¬ S k) : IntsV w' v zs := by
  obtain ⟨a, cap, rfl, h⟩ := h
  refine ⟨a, cap, rfl, fun hz => ?_⟩
  obtain ⟨d, ha, hsp, hd, hi⟩ := h hz
  refine ⟨d, ha, hsp, Nat.lt_of_lt_of_le hd ho.size, fun i hi' => ?_⟩
  exact (World.cell?_of_block (w := w) (a := ⟨d.block, d.off + i, none⟩) (ho.block _ hd (hs hz _ (by rw [ha]; rfl)))).trans (hi i hi')
/-- the blocks that the rows of a list lie in -/
def RowsAt (us : List Value) (L : List (List Int)) (k : Nat) : Prop := ∃ i, i < L.length ∧ L.getD i [] ≠ [] ∧ Value.blk' (us.getD i nilS) = some k
/-- a list of the call's own; its rows can be read -/
def SH (v : Value) (us : List Value) (L : List (List Int)) : Asrt where
  foot := Hits v
  sees := fun k => Hits v k ∨ RowsAt us L k
  holds := fun w => us.length = L.length ∧ w.ownsRow 0 24 1 v us.length us ∧ (∀ i, i < L.length → IntsV w (us.getD i nilS) (L.getD i [])) ∧ ∀ k, RowsAt us L k → ¬ Hits v k
  sub := fun _ h => Or.inl h
  lt := fun w k h hk => by
    rcases hk with hk | ⟨i, hi, hne, hk⟩
    · exact (World.ownsRow.lt h.2.1 k hk).2
    · exact (h.2.2.1 i hi).blk_lt hne hk
  keep := fun w w' h ho => ⟨h.1, owns_only h.2.1 ho fun k hk h' => h' (Or.inl hk), fun i hi => (h.2.2.1 i hi).only2 ho fun hne k hk h' => h' (Or.inr ⟨i, hi, hne, hk⟩), h.2.2.2⟩
section
variable {w w0 w' : World} {l : List Asrt} {v u : Value} {us : List Value} {L : List (List Int)} {zs : List Int}
theorem Sep.emptySh (h : Sep w l) : Sep (w.alloc (.cells #[] 24)) (SH (.slice (some ⟨w.heap.size, 0, none⟩) 0 0) [] [] :: l) :=
  h.new (grownBy_alloc w _ none) ⟨rfl, World.ownsRow_made w #[] 0 (Nat.zero_le _) (by unfold maxLen; omega) rfl, fun i hi => absurd hi (by simp), fun k hk => by obtain ⟨i, hi, _⟩ := hk; simp at hi⟩ fun k hk => by
    rcases hk with hk | ⟨i, hi, _⟩
    · have : w.heap.size = k := by simpa [Hits, Value.ownBlock] using hk
      omega
    · simp at hi
theorem Sep.nilSH (h : Sep w l) : Sep w (SH nilS [] [] :: l) :=
  h.new (⟨rfl, rfl, rfl, Nat.le_refl _, fun _ _ _ => rfl⟩) ⟨rfl, World.ownsRow_nil _ _ _ _, fun i hi => absurd hi (by simp), fun k hk => by obtain ⟨i, hi, _⟩ := hk; simp at hi⟩ fun k hk => by
    rcases hk with hk | ⟨i, hi, _⟩
    · exact absurd hk nil_hits
    · simp at hi
theorem Sep.readS (h : Sep w (SH v us L :: l)) : MatV w v L := owns_read h.hd.2.1 h.hd.1 h.hd.2.2.1
theorem Sep.formS (h : Sep w (SH v us L :: l)) : ∃ a c, v = .slice a L.length c ∧ (a = none ∨ ∃ g, a = some ⟨g, 0, none⟩) ∧ L.length ≤ c := by
  have h1 := owns_form h.hd.2.1
  rw [h.hd.1] at h1
  exact h1
theorem snocAt_lt {us : List Value} {u : Value} {i : Nat} (h : i < us.length) : (us ++ [u]).getD i nilS = us.getD i nilS := by
  rw [List.getD_eq_getElem?_getD, List.getElem?_append_left h, ← List.getD_eq_getElem?_getD]
theorem snocAt_eq {us : List Value} {u : Value} : (us ++ [u]).getD us.length nilS = u := by
  rw [List.getD_eq_getElem?_getD, List.getElem?_append_right (Nat.le_refl _)]; simp
theorem snocL_lt {L : List (List Int)} {z : List Int} {i : Nat} (h : i < L.length) : (L ++ [z]).getD i [] = L.getD i [] := by
  rw [List.getD_eq_getElem?_getD, List.getElem?_append_left h, ← List.getD_eq_getElem?_getD]
theorem snocL_eq {L : List (List Int)} {z : List Int} : (L ++ [z]).getD L.length [] = z := by
  rw [List.getD_eq_getElem?_getD, List.getElem?_append_right (Nat.le_refl _)]; simp
end

section
variable {ops : Array Oper} {rest : List Oper} {o : Oper} {a : Act} {Q : Exit → Act → World → Prop} {K : Act → World → Prop} {E : Prop} {w : World} {v u : Value} {us : List Value} {L : List (List Int)} {zs : List Int} {l : List Asrt}
/-- 'out = append(out, row)': a row that can be read, and that no part writes, joins the list. -/
theorem wp_app_sh (s x : Operand) (ho : o.op = .call { callee := .builtin .append, args := #[s, x], argTypes := #[37, 37] })
    (hs : a.eval s = v) (hx : a.eval x = .slice (some ⟨w.heap.size, 0, none⟩) 1 1) (H : Sep w (SH v us L :: l)) (hu : IntsV w u zs) (hap : zs ≠ [] → ∀ k, Value.blk' u = some k → ¬ Hits v k ∧ ∀ C ∈ l, ¬ C.foot k) (hl : L.length ≤ 1000000)
    (h : ∀ g cap w', Sep w' (SH (.slice (some ⟨g, 0, none⟩) (L.length + 1) cap) (us ++ [u]) (L ++ [zs]) :: l) → K (a.put o.dst (.slice (some ⟨g, 0, none⟩) (L.length + 1) cap)) w') :
    o.wp Tryd.prog a (w.alloc (.cells #[u] 24)) K Q := by
  obtain ⟨i0, hi, hz0, hz1, hz2⟩ := info_parts info_ints
  have H1 := H.al (.cells #[u] 24)
  have hown1 := H1.hd
  obtain ⟨hlen, hown, hrow, hno⟩ := hown1
  have hu1 : IntsV (w.alloc (.cells #[u] 24)) u zs := hu.carry (grownBy_alloc w _ none)
  have hone : u.oneCell' = true := by obtain ⟨_, _, rfl, _⟩ := hu; rfl
  refine wp_append_lies (P := Tryd.prog) _ s x 37 ho 0 24 i0 (.slice none 0 0) 1 24 Tryd.underlying37 hi hz0 hz1 hz2 rfl (by decide) v us.length us hs hown
    ⟨w.heap.size, 0, none⟩ 1 1 [u] hx rfl news_one (fun u' hu' => by simp at hu'; subst hu'; exact hone) (by omega) (by unfold maxLen; omega) (by omega) (Nat.zero_le _) _ rfl ?_
  intro g cap w1 hown' hgrow hg _
  have hon : Only (Hits v) (w.alloc (.cells #[u] 24)) w1 := Only.of_grown hgrow fun k hk => hk
  rw [hlen] at hown' ⊢
  have hgk : ∀ k, Hits (.slice (some ⟨g, 0, none⟩) (L.length + 1) cap) k → k = g := fun k hk => by
    have : g = k := by simpa [Hits, Value.ownBlock] using hk
    exact this.symm
  have hgv : Hits v g ∨ (w.alloc (.cells #[u] 24)).heap.size = g := hg.imp (fun h => h) fun h => h.symm
  have hnew : ∀ k, RowsAt (us ++ [u]) (L ++ [zs]) k → RowsAt us L k ∨ (zs ≠ [] ∧ Value.blk' u = some k) := by
    rintro k ⟨i, hi', hne, hk⟩
    rw [List.length_append, List.length_singleton] at hi'
    by_cases e : i < L.length
    · rw [snocAt_lt (by omega)] at hk
      rw [snocL_lt e] at hne
      exact Or.inl ⟨i, e, hne, hk⟩
    · have e2 : i = L.length := by omega
      subst e2
      rw [snocL_eq] at hne
      rw [show (us ++ [u]).getD L.length nilS = u by rw [← hlen]; exact snocAt_eq] at hk
      exact Or.inr ⟨hne, hk⟩
  have hlu : ∀ k, zs ≠ [] → Value.blk' u = some k → k < w.heap.size := fun k hne hk => hu.blk_lt hne hk
  have hsz : (w.alloc (.cells #[u] 24)).heap.size = w.heap.size + 1 := by simp
  have hholds : (SH (.slice (some ⟨g, 0, none⟩) (L.length + 1) cap) (us ++ [u]) (L ++ [zs])).holds w1 := by
    refine ⟨by simp [hlen], by rw [List.length_append, hlen]; exact hown', fun i hi' => ?_, fun k hk hk' => ?_⟩
    · rw [List.length_append, List.length_singleton] at hi'
      by_cases e : i < L.length
      · rw [snocAt_lt (by omega), snocL_lt e]
        exact (hrow i e).only2 hon fun hne k hk hk' => hno k ⟨i, e, hne, hk⟩ hk'
      · have e2 : i = L.length := by omega
        subst e2
        rw [snocL_eq, show (us ++ [u]).getD L.length nilS = u by rw [← hlen]; exact snocAt_eq]
        exact hu1.only2 hon fun hne k hk => (hap hne k hk).1
    · have e := hgk k hk'
      subst e
      rcases hnew k hk with h' | ⟨hne, h'⟩
      · rcases hgv with h2 | h2
        · exact hno k h' h2
        · have h3 : k < (w.alloc (.cells #[u] 24)).heap.size := (SH v us L).lt _ k H1.hd (Or.inr h')
          omega
      · rcases hgv with h2 | h2
        · exact (hap hne k h').1 h2
        · have := hlu k hne h'; omega
  refine h g cap w1 ⟨hholds, fun C hC => ⟨fun k hk hk' => ?_, fun k hk hk' => ?_⟩, H1.tl.only hon fun C hC k hk hk' => (H1.2.1 C hC).1 k hk' hk⟩
  · have e := hgk k hk
    subst e
    rcases hgv with h2 | h2
    · exact (H1.2.1 C hC).1 k h2 hk'
    · have h3 := C.lt _ _ (H1.tl.all C hC) hk'; omega
  · rcases hk' with hk' | hk'
    · have e := hgk k hk'
      subst e
      rcases hgv with h2 | h2
      · exact (H1.2.1 C hC).2 k hk (Or.inl h2)
      · have h3 := C.lt _ _ (H1.tl.all C hC) (C.sub k hk); omega
    · rcases hnew k hk' with h' | ⟨hne, h'⟩
      · exact (H1.2.1 C hC).2 k hk (Or.inr h')
      · exact (hap hne k h').2 C hC hk
theorem app_sh (hgd : o.guard = none) (s x : Operand) (ho : o.op = .call { callee := .builtin .append, args := #[s, x], argTypes := #[37, 37] })
    (hs : a.eval s = v) (hx : a.eval x = .slice (some ⟨w.heap.size, 0, none⟩) 1 1) (H : Sep w (SH v us L :: l)) (hu : IntsV w u zs) (hap : zs ≠ [] → ∀ k, Value.blk' u = some k → ¬ Hits v k ∧ ∀ C ∈ l, ¬ C.foot k) (hl : L.length ≤ 1000000)
    (h : ∀ g cap w', Sep w' (SH (.slice (some ⟨g, 0, none⟩) (L.length + 1) cap) (us ++ [u]) (L ++ [zs]) :: l) → wpList Tryd.prog ops Q rest (a.put o.dst (.slice (some ⟨g, 0, none⟩) (L.length + 1) cap)) w') :
    wpList Tryd.prog ops Q (o :: rest) a (w.alloc (.cells #[u] 24)) :=
  wpList_plain hgd fun _ hK => wp_app_sh s x ho hs hx H hu hap hl fun g cap w' h1 => hK _ _ (h g cap w' h1)
theorem step_app_sh (hgd : o.guard = none) (s x : Operand) (ho : o.op = .call { callee := .builtin .append, args := #[s, x], argTypes := #[37, 37] })
    (hs : a.eval s = v) (hx : a.eval x = .slice (some ⟨w.heap.size, 0, none⟩) 1 1) (H : Sep w (SH v us L :: l)) (hu : IntsV w u zs) (hap : zs ≠ [] → ∀ k, Value.blk' u = some k → ¬ Hits v k ∧ ∀ C ∈ l, ¬ C.foot k) (hl : L.length ≤ 1000000)
    (h : ∀ g cap w', Sep w' (SH (.slice (some ⟨g, 0, none⟩) (L.length + 1) cap) (us ++ [u]) (L ++ [zs]) :: l) → K (a.put o.dst (.slice (some ⟨g, 0, none⟩) (L.length + 1) cap)) w') :
    if Region.wanted o (yielded ops a.tmps) = true then Oper.wp Tryd.prog o a (w.alloc (.cells #[u] 24)) K Q else E := by
  rw [if_pos (by simp [Region.wanted, hgd])]
  exact wp_app_sh s x ho hs hx H hu hap hl h
end
end Go.Proofs.YtpeaeminjbjlnaaDoor

/-
  Parts of rows of relations; joined lists. Conditions: small sizes.
-/
namespace Go.Proofs.YtpeaeminjbjlnaaDoor
open Go.RowKit
set_option linter.unusedVariables false

def rlV (left right : Int) (u : Value) : Value := .agg #[.int .i64 left, .int .i64 right, u]
theorem bx3 {w : World} {k : Nat} {x y z : Value} {t : TypeId} (h : w.heap[k]? = some (.cells #[x, y, z] t (0, 0))) :
    w.cell? ⟨k, 0, none⟩ = some x ∧ w.cell? ⟨k, 1, none⟩ = some y ∧ w.cell? ⟨k, 2, none⟩ = some z ∧ w.frozen? ⟨k, 0, none⟩ = false ∧ w.frozen? ⟨k, 1, none⟩ = false ∧ w.frozen? ⟨k, 2, none⟩ = false :=
  ⟨cell_blk h 0, cell_blk h 1, cell_blk h 2, free_blk h 0, free_blk h 1, free_blk h 2⟩

theorem first_any (l r : Nat) (b : Value) (a : Option Addr) (n c : Nat) (w : World) (hl : l ≤ n) (hc : n ≤ c) :
    Calls Tryd.prog 269 #[rlV l r b, .slice a n c] w fun e w' => e = .returned (.slice a l c) ∧ w.grownBy w' none := by
  unfold rlV
  have h1 : ((l : Nat) : Int) ≤ ((c : Nat) : Int) := by omega
  have h2 : l ≤ c := by omega
  have h0 : (0 : Int) ≤ (l : Int) := by omega
  have hg := Lib.hid (grownBy_alloc w (.cells #[.int .i64 l, .int .i64 r, b] 65) none)
  go_enter Tryd.func269, Tryd.ntmps269
  go_wp2
  go_ret
  exact ⟨rfl, hg.out⟩
theorem second_any (l r : Nat) (b : Value) (a : Option Addr) (n c : Nat) (w : World) (hl : l ≤ n) (hc : n ≤ c) :
    Calls Tryd.prog 268 #[rlV l r b, .slice a n c] w fun e w' => ∃ a' , e = .returned (.slice a' (n - l) (c - l)) ∧ (l < c → a' = a.map fun x => x.add l) ∧ (∀ k, Value.blk' (.slice a' (n - l) (c - l)) = some k → Value.blk' (.slice a n c) = some k) ∧ w.grownBy w' none := by
  unfold rlV
  have h1 : ((l : Nat) : Int) ≤ ((n : Nat) : Int) := by omega
  have h2 : ((n : Nat) : Int) ≤ ((c : Nat) : Int) := by omega
  have h0 : (0 : Int) ≤ (l : Int) := by omega
  have hg := Lib.hid (grownBy_alloc w (.cells #[.int .i64 l, .int .i64 r, b] 65) none)
  go_enter Tryd.func268, Tryd.ntmps268
  go_wp2
  · go_ret
    exact ⟨_, rfl, fun k hk => by cases a <;> exact hk, hg.out⟩
  · go_ret
    refine ⟨_, rfl, fun _ => rfl, fun k hk => ?_, hg.out⟩
    cases a with
    | none => simp [Value.blk'] at hk
    | some d =>
      simp only [Option.map_some, Value.blk', Option.some.injEq] at hk ⊢
      rw [← hk]
      unfold Addr.add
      split <;> rfl
theorem IntsV.tail {w : World} {a a' : Option Addr} {n c l : Nat} {zs : List Int} (h : IntsV w (.slice a n c) zs) (hl : l ≤ n) (hc : n ≤ c) (ha : l < c → a' = a.map fun x => x.add l) (c' : Nat) : IntsV w (.slice a' (n - l) c') (zs.drop l) := by
  obtain ⟨a0, c0, he, hi⟩ := h
  cases he
  have hlen : (zs.drop l).length = zs.length - l := List.length_drop
  refine ⟨a', c', by rw [hlen], fun hz => ?_⟩
  have hlt : l < zs.length := by
    rcases Nat.lt_or_ge l zs.length with h | h
    · exact h
    · exact absurd (List.drop_eq_nil_of_le h) hz
  obtain ⟨d, had, hs, hd, hr⟩ := hi (by intro h; rw [h] at hlt; simp at hlt)
  obtain ⟨db, dof, ds⟩ := d
  simp only at hs hd hr
  subst hs
  rw [had] at ha
  refine ⟨_, ha (by omega), ?_, ?_, fun i hi' => ?_⟩
  · unfold Addr.add; split <;> rfl
  · unfold Addr.add; split <;> exact hd
  · have h2 : l + i < zs.length := by rw [hlen] at hi'; omega
    have h3 := hr (l + i) h2
    have e : (zs.drop l)[i] = zs[l + i] := by rw [List.getElem_drop]
    rw [e]
    have e2 : (Addr.add ⟨db, dof, none⟩ l).block = db := by unfold Addr.add; split <;> rfl
    have e3 : (Addr.add ⟨db, dof, none⟩ l).off = dof + l := by unfold Addr.add; split <;> simp_all
    rw [e2, e3, show dof + l + i = dof + (l + i) by omega]
    exact h3

/-- a readable list of lists whose rows have room for their elements -/
def MatC (w : World) (v : Value) (rows : List (List Int)) : Prop :=
  ∃ a cap, v = .slice a rows.length cap ∧ (rows ≠ [] → ∃ d, a = some d ∧ d.spot = none ∧ d.block < w.heap.size ∧
    ∀ i, i < rows.length → ∃ r c, w.cell? ⟨d.block, d.off + i, none⟩ = some (.slice r (rows.getD i []).length c) ∧ (rows.getD i []).length ≤ c ∧ IntsV w (.slice r (rows.getD i []).length c) (rows.getD i []))
theorem getD_at {L : List (List Int)} {i : Nat} (h : i < L.length) : L.getD i [] = L[i] := by rw [List.getD_eq_getElem?_getD, List.getElem?_eq_getElem h]; rfl
theorem MatC.v {w : World} {v : Value} {L : List (List Int)} (h : MatC w v L) : MatV w v L := by
  obtain ⟨a, c, rfl, h⟩ := h
  refine ⟨a, c, rfl, fun hz => ?_⟩
  obtain ⟨d, h1, h2, h3, h4⟩ := h hz
  refine ⟨d, h1, h2, h3, fun i hi => ?_⟩
  obtain ⟨r, c', h5, _, h6⟩ := h4 i hi
  rw [getD_at hi] at h5 h6
  exact ⟨_, h5, h6⟩
theorem MatC.carry {w w' : World} {v : Value} {L : List (List Int)} (h : MatC w v L) (hg : w.grownBy w' none) : MatC w' v L := by
  obtain ⟨a, c, rfl, h⟩ := h
  refine ⟨a, c, rfl, fun hz => ?_⟩
  obtain ⟨d, h1, h2, h3, h4⟩ := h hz
  refine ⟨d, h1, h2, Nat.lt_of_lt_of_le h3 hg.size, fun i hi => ?_⟩
  obtain ⟨r, c', h5, h6, h7⟩ := h4 i hi
  exact ⟨r, c', (World.cell?_of_block (w := w) (a := ⟨d.block, d.off + i, none⟩) (hg.block _ h3 (by simp))).trans h5, h6, h7.carry hg⟩
theorem MatC.shape {w : World} {v : Value} {L : List (List Int)} (h : MatC w v L) : ∃ a c, v = .slice a L.length c := by
  obtain ⟨a, c, rfl, _⟩ := h
  exact ⟨a, c, rfl⟩
theorem MatC.rowK {w wr : World} {v : Value} {L : List (List Int)} (h : MatC w v L) (hg : w.grownBy wr none) {i : Nat} (hi : i < L.length) :
    ∃ (b o cap ml : Nat) (r : Option Addr) (c : Nat), v = .slice (some ⟨b, o, none⟩) ml cap ∧ wr.cell? ⟨b, o + i, none⟩ = some (.slice r (L.getD i []).length c) ∧ IntsV w (.slice r (L.getD i []).length c) (L.getD i []) ∧ (L.getD i []).length ≤ c := by
  obtain ⟨a, cap, rfl, h⟩ := h
  obtain ⟨d, rfl, h2, h3, h4⟩ := h (by intro h; rw [h] at hi; simp at hi)
  obtain ⟨b, o, _⟩ := d
  simp only at h2 h3 h4
  subst h2
  obtain ⟨r, c, h5, h6, h7⟩ := h4 i hi
  exact ⟨b, o, cap, _, r, c, rfl, (World.cell?_of_block (w := w) (a := ⟨b, o + i, none⟩) (hg.block _ h3 (by simp))).trans h5, h7, h6⟩
theorem own_cap {B : Nat} {w : World} {v : Value} {zs : List Int} (h : OwnInts B w v zs) : ∃ a c, v = .slice a zs.length c ∧ zs.length ≤ c := by
  have h2 := h.2
  rcases h2 with ⟨rfl, h0⟩ | ⟨g, cap, cur, rfl, _, _, hc, _⟩
  · exact ⟨none, 0, by rw [h0], by omega⟩
  · exact ⟨_, cap, rfl, hc⟩
theorem OwnM.readC {B : Nat} {w : World} {v : Value} {vs : List Value} {L : List (List Int)} (h : OwnM B w v vs L) : MatC w v L := by
  by_cases hne : L = []
  · subst hne
    obtain ⟨a, c, rfl, _⟩ := own_form h
    exact ⟨a, c, rfl, fun h => absurd rfl h⟩
  · obtain ⟨g, cap, hve, hg0, hg1, hh⟩ := h.head hne
    subst hve
    refine ⟨_, cap, rfl, fun _ => ⟨⟨g, 0, none⟩, rfl, rfl, hg1, fun i hi => ?_⟩⟩
    obtain ⟨r, c, he, hc⟩ := own_cap (h.row i)
    have h3 := h.cell rfl hi
    rw [he] at h3
    have h4 := (h.row i).read
    rw [he] at h4
    simp only [Nat.zero_add]
    exact ⟨r, c, h3, hc, h4⟩
theorem Pre.readC {B : Nat} {w : World} {v : Value} {L : List (List Int)} (h : Pre B w v L) : MatC w v L := by
  obtain ⟨a, m, c, c', vs, R, rfl, ho, hl, hL⟩ := h
  refine ⟨a, c', rfl, fun hz => ?_⟩
  have hR : R ≠ [] := by intro h; rw [h] at hl; exact hz (List.eq_nil_of_length_eq_zero (by simpa using hl))
  obtain ⟨a0, c0, he, hi⟩ := ho.readC
  cases he
  obtain ⟨d, h1, h2, h3, h4⟩ := hi hR
  refine ⟨d, h1, h2, h3, fun i hi => ?_⟩
  obtain ⟨r, c', h5, h6, h7⟩ := h4 i (by omega)
  have e : R.getD i [] = L.getD i [] := by
    rw [hL, List.getD_eq_getElem?_getD, List.getD_eq_getElem?_getD, List.getElem?_take, if_pos hi]
  rw [e] at h5 h6 h7
  exact ⟨r, c', h5, h6, h7⟩

set_option maxRecDepth 100000 in
/-- 'joined(lists...)' -/
theorem joined_any (v : Value) (L : List (List Int)) (w : World) (hv : MatV w v L) (hl : L.length ≤ 1000) (hf : L.flatten.length ≤ 1000000) :
    Calls Tryd.prog 208 #[v] w fun e w' => ∃ o, e = .returned o ∧ OwnInts w.heap.size w' o L.flatten ∧ w.grownBy w' none := by
  have HV := Lib.hid hv
  obtain ⟨a, c, rfl⟩ := hv.shape
  have HFL := Lib.hid hf
  clear hv hf
  generalize hlen : L.length = n at *
  have HL := Lib.hid hlen
  clear hlen
  go_enter Tryd.func208, Tryd.ntmps208
  go_wp2
  go_loopw [3, 9] (fun out i wr => ∃ k : Nat, k ≤ n ∧ i = .int .i64 k ∧ OwnInts w.heap.size wr out (L.take k).flatten ∧ Below w.heap.size w wr) (fun _ i _ => n - (intOf i).toNat)
  case atStart => exact ⟨0, by omega, rfl, OwnInts.empty (Nat.le_refl _) rfl, (Below.refl _ _).alloc (Nat.le_refl _) _⟩
  case round =>
    obtain ⟨k, hk, rfl, ho, hb⟩ := hrel
    have HO := Lib.hid ho; have HB := Lib.hid hb
    have hg := grown_of_below hb
    clear ho hb
    by_cases hlt : k < n
    · have hkl : k < L.length := by rw [HL.out]; exact hlt
      obtain ⟨bb, bo, cap, ml, r, rc, he, hcell, hrow⟩ := HV.out.rowK hg hkl
      cases he
      have HROW := Lib.hid (hrow.carry hg)
      have hsn : (L.take (k + 1)).flatten = (L.take k).flatten ++ L.getD k [] := by
        rw [← take_push hkl, List.flatten_append, getD_at hkl]
        simp
      have HSN := Lib.hid hsn
      have hle : (L.take (k + 1)).flatten.length ≤ L.flatten.length := by
        conv => rhs; rw [← List.take_append_drop (k + 1) L, List.flatten_append, List.length_append]
        omega
      rw [hsn, List.length_append] at hle
      have hsz := HB.out.size
      have HLE := Lib.hid (show (L.take k).flatten.length + (L.getD k []).length ≤ 1000000 from Nat.le_trans hle HFL.out)
      clear hrow hsn hle hg
      generalize L.getD k [] = z at *
      generalize hzl : z.length = zl at *
      have HZL := Lib.hid hzl
      clear hzl
      go_wp2_with (
        at_builtin
        go_loud (refine app_ints rfl (.tmp 13) (.tmp 14) rfl rfl rfl HROW.out HO.out hsz (by have := HLE.out; have := HZL.out; omega) ?_)
        intro v' w1 h1 h2
        have H1 := Lib.hid h1; have H2 := Lib.hid h2
        clear h1 h2)
      go_roundw
      case rel => exact ⟨k + 1, by omega, by go_num, by rw [HSN.out]; exact H1.out, HB.out.trans H2.out⟩
      case measure => simp [intOf]; omega
    · have ht : L.take k = L := List.take_of_length_le (by rw [HL.out]; omega)
      have HTK := Lib.hid ht
      clear ht hg
      go_wp2
      go_ret
      exact ⟨_, rfl, by have := HO.out; rw [HTK.out] at this; exact this, grown_of_below HB.out⟩
end Go.Proofs.YtpeaeminjbjlnaaDoor

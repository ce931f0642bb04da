/-
  Lists of rows that are the call's own: the list's cells and the rows, no two in one block. Copies of lists of rows, and units. Conditions: lengths are small.
-/
import Derived.Test.YtpeaeminjbjlnaaDoorNew
namespace Go.Proofs.YtpeaeminjbjlnaaDoor
open Go.RowKit
set_option linter.unusedVariables false

def nilS : Value := .slice none 0 0
theorem nil_hits {k : Nat} : ¬ Hits nilS k := by simp [Hits, nilS, Value.ownBlock]
/-- The list v of the rows vs, holding L. -/
structure OwnM (B : Nat) (w : World) (v : Value) (vs : List Value) (L : List (List Int)) : Prop where
  len : vs.length = L.length
  out : w.ownsRow B 24 1 v vs.length vs
  row : ∀ i, OwnInts B w (vs.getD i nilS) (L.getD i [])
  ap : ∀ i j, i ≠ j → Apart (vs.getD i nilS) (vs.getD j nilS)
/-- The blocks that a list of rows takes. -/
def Foot (v : Value) (vs : List Value) (k : Nat) : Prop := Hits v k ∨ ∃ x ∈ vs, Hits x k
theorem Foot.at {v : Value} {vs : List Value} {i k : Nat} (h : Hits (vs.getD i nilS) k) : Foot v vs k := by
  rcases Nat.lt_or_ge i vs.length with hi | hi
  · rw [List.getD_eq_getElem?_getD, List.getElem?_eq_getElem hi] at h
    exact Or.inr ⟨_, List.getElem_mem hi, h⟩
  · rw [List.getD_eq_getElem?_getD, List.getElem?_eq_none hi] at h
    exact absurd h nil_hits
theorem own_block {B : Nat} {w : World} {e : TypeId} {n : Nat} {v : Value} {xs : List Value} (h : w.ownsRow B e 1 v n xs) {k : Nat} (hk : Hits v k) : ∃ cur, w.heap[k]? = some (.cells cur e (0, 0)) := by
  rcases h.2 with ⟨rfl, _⟩ | ⟨g, cap, cur, rfl, _, hh, _⟩
  · exact absurd hk nil_hits
  · simp only [Hits, Value.ownBlock, Option.some.injEq] at hk
    subst hk
    exact ⟨cur, hh⟩
/-- Rows and lists of rows never share a block: their elements' types differ. -/
theorem apart_types {B B' : Nat} {w : World} {e e' : TypeId} {n n' : Nat} {v v' : Value} {xs xs' : List Value} (h : w.ownsRow B e 1 v n xs) (h' : w.ownsRow B' e' 1 v' n' xs') (hne : e ≠ e') : Apart v v' := by
  intro k hk hk'
  obtain ⟨c1, e1⟩ := own_block h hk
  obtain ⟨c2, e2⟩ := own_block h' hk'
  rw [e1] at e2
  simp only [Option.some.injEq, Obj.cells.injEq] at e2
  exact hne e2.2.1
theorem OwnM.lt {B : Nat} {w : World} {v : Value} {vs : List Value} {L : List (List Int)} (h : OwnM B w v vs L) {k : Nat} (hk : Foot v vs k) : B ≤ k ∧ k < w.heap.size := by
  rcases hk with hk | ⟨x, hx, hk⟩
  · exact World.ownsRow.lt h.out k hk
  · obtain ⟨i, hi, rfl⟩ := List.getElem_of_mem hx
    have := h.row i
    rw [List.getD_eq_getElem?_getD, List.getElem?_eq_getElem hi] at this
    exact this.lt k hk
theorem owns_only {B : Nat} {w w' : World} {e : TypeId} {n : Nat} {v : Value} {xs : List Value} {S : Nat → Prop} (h : w.ownsRow B e 1 v n xs) (ho : Only S w w') (hs : ∀ k, Hits v k → ¬ S k) : w'.ownsRow B e 1 v n xs := by
  obtain ⟨h1, h2⟩ := h
  refine ⟨h1, ?_⟩
  rcases h2 with h2 | ⟨g, cap, cur, hv, hg, hh, r⟩
  · exact Or.inl h2
  · have hlt : g < w.heap.size := by
      rcases Nat.lt_or_ge g w.heap.size with h | h
      · exact h
      · rw [Array.getElem?_eq_none h] at hh; cases hh
    exact Or.inr ⟨g, cap, cur, hv, hg, (ho.block g hlt (hs g (by rw [hv]; rfl))).trans hh, r⟩
theorem OwnM.only {B : Nat} {S : Nat → Prop} {w w' : World} {v : Value} {vs : List Value} {L : List (List Int)} (h : OwnM B w v vs L) (ho : Only S w w') (hs : ∀ k, Foot v vs k → ¬ S k) : OwnM B w' v vs L :=
  ⟨h.len, owns_only h.out ho fun k hk => hs k (Or.inl hk), fun i => (h.row i).only ho fun k hk => hs k (Foot.at hk), h.ap⟩
theorem OwnM.carry {B : Nat} {w w' : World} {v : Value} {vs : List Value} {L : List (List Int)} (h : OwnM B w v vs L) (hg : w.grownBy w' none) : OwnM B w' v vs L :=
  h.only (Only.of_grown (S := fun _ => False) hg (by simp)) fun _ _ hf => hf
theorem OwnM.base {B B' : Nat} {w : World} {v : Value} {vs : List Value} {L : List (List Int)} (h : OwnM B w v vs L) (hB : B' ≤ B) : OwnM B' w v vs L := by
  refine ⟨h.len, ?_, fun i => (h.row i).base hB, h.ap⟩
  obtain ⟨h1, h2⟩ := h.out
  refine ⟨h1, ?_⟩
  rcases h2 with h2 | ⟨g, cap, cur, hv, hg, r⟩
  · exact Or.inl h2
  · exact Or.inr ⟨g, cap, cur, hv, Nat.le_trans hB hg, r⟩
theorem OwnM.start {B : Nat} {w : World} {v : Value} (h : w.ownsRow B 24 1 v 0 []) : OwnM B w v [] [] :=
  ⟨rfl, h, fun i => by simp only [List.getD_nil]; exact OwnInts.nil B w, fun i j _ k hk => absurd hk (by simp only [List.getD_nil]; exact nil_hits)⟩
/-- a fresh row joins -/
theorem OwnM.join {B : Nat} {w : World} {v' u : Value} {vs : List Value} {L : List (List Int)} {zs : List Int} (hl : vs.length = L.length) (hrow : ∀ i, OwnInts B w (vs.getD i nilS) (L.getD i []))
    (hap : ∀ i j, i ≠ j → Apart (vs.getD i nilS) (vs.getD j nilS)) (hu : OwnInts B w u zs) (hua : ∀ i, Apart (vs.getD i nilS) u) (hv : w.ownsRow B 24 1 v' (vs ++ [u]).length (vs ++ [u])) : OwnM B w v' (vs ++ [u]) (L ++ [zs]) := by
  have g1 : ∀ i, (vs ++ [u]).getD i nilS = if i < vs.length then vs.getD i nilS else if i = vs.length then u else nilS := by
    intro i
    simp only [List.getD_eq_getElem?_getD, List.getElem?_append]
    split
    · rfl
    · next h1 =>
      split
      · next h2 => subst h2; simp
      · next h2 => rw [List.getElem?_eq_none (by simp; omega)]; rfl
  have g2 : ∀ i, (L ++ [zs]).getD i [] = if i < vs.length then L.getD i [] else if i = vs.length then zs else [] := by
    intro i
    rw [hl]
    simp only [List.getD_eq_getElem?_getD, List.getElem?_append]
    split
    · rfl
    · next h1 =>
      split
      · next h2 => subst h2; simp
      · next h2 => rw [List.getElem?_eq_none (by simp; omega)]; rfl
  refine ⟨by simp [hl], hv, fun i => ?_, fun i j hij => ?_⟩
  · rw [g1, g2]
    by_cases h1 : i < vs.length
    · rw [if_pos h1, if_pos h1]; exact hrow i
    · rw [if_neg h1, if_neg h1]
      by_cases h2 : i = vs.length
      · rw [if_pos h2, if_pos h2]; exact hu
      · rw [if_neg h2, if_neg h2]; exact OwnInts.nil B w
  · rw [g1, g1]
    by_cases h1 : i < vs.length
    · rw [if_pos h1]
      by_cases h3 : j < vs.length
      · rw [if_pos h3]; exact hap i j hij
      · rw [if_neg h3]
        by_cases h4 : j = vs.length
        · rw [if_pos h4]; exact hua i
        · rw [if_neg h4]; exact fun k _ h => nil_hits h
    · rw [if_neg h1]
      by_cases h2 : i = vs.length
      · rw [if_pos h2]
        by_cases h3 : j < vs.length
        · rw [if_pos h3]; exact (hua j).symm
        · rw [if_neg h3, if_neg (by omega)]; exact fun k _ h => nil_hits h
      · rw [if_neg h2]; exact fun k h => absurd h nil_hits
theorem OwnM.read {B : Nat} {w : World} {v : Value} {vs : List Value} {L : List (List Int)} (h : OwnM B w v vs L) : MatV w v L := by
  obtain ⟨h1, h2⟩ := h.out
  rcases h2 with ⟨rfl, h0⟩ | ⟨g, cap, cur, rfl, hg, hh, hc, hm, hs, ht⟩
  · refine ⟨none, 0, by rw [← h.len, h0], fun hz => absurd (List.eq_nil_of_length_eq_zero (by rw [← h.len, h0])) hz⟩
  · refine ⟨some ⟨g, 0, none⟩, cap, by rw [← h.len], fun _ => ⟨⟨g, 0, none⟩, rfl, rfl, ?_, fun i hi => ?_⟩⟩
    · rcases Nat.lt_or_ge g w.heap.size with h | h
      · exact h
      · rw [Array.getElem?_eq_none h] at hh; cases hh
    · have hi' : i < vs.length := by rw [h.len]; exact hi
      refine ⟨vs[i], ?_, ?_⟩
      · have hc := World.ownsRow.cellAt h.out i (by omega)
        simp only [Nat.zero_add]
        rw [hc]
        exact List.getElem?_eq_getElem hi'
      · have := (h.row i).read
        rw [List.getD_eq_getElem?_getD, List.getElem?_eq_getElem hi', List.getD_eq_getElem?_getD, List.getElem?_eq_getElem hi] at this
        exact this

theorem ints_one {B : Nat} {w : World} {v : Value} {zs : List Int} (h : OwnInts B w v zs) : v.oneCell' = true := by
  rcases h.2 with ⟨rfl, _⟩ | ⟨g, cap, cur, rfl, _⟩ <;> rfl

theorem own_shape {B : Nat} {w : World} {v : Value} {zs : List Int} (h : OwnInts B w v zs) : ∃ a c, v = .slice a zs.length c := by
  rcases h.2 with ⟨rfl, h0⟩ | ⟨g, cap, cur, rfl, _⟩
  · exact ⟨none, 0, by rw [h0]⟩
  · exact ⟨_, _, rfl⟩
/-- 'out = append(out, row)', the row the call's own and apart from all. -/
theorem app_row {ops : Array Oper} {rest : List Oper} {o : Oper} {a : Act} {Q : Exit → Act → World → Prop} (hgd : o.guard = none) (s x : Operand)
    (ho : o.op = .call { callee := .builtin .append, args := #[s, x], argTypes := #[37, 37] })
    {B : Nat} {w : World} {v u : Value} {vs : List Value} {L : List (List Int)} {zs : List Int} (hs : a.eval s = v) (hx : a.eval x = .slice (some ⟨w.heap.size, 0, none⟩) 1 1)
    (hown : OwnM B w v vs L) (hu : OwnInts B w u zs) (hua : ∀ i, Apart (vs.getD i nilS) u) (hB : B ≤ w.heap.size) (hl : L.length ≤ 1000000)
    (h : ∀ v' w', OwnM B w' v' (vs ++ [u]) (L ++ [zs]) → Only (Hits v) w w' → wpList Tryd.prog ops Q rest (a.put o.dst v') w') :
    wpList Tryd.prog ops Q (o :: rest) a (w.alloc (.cells #[u] 24)) := by
  obtain ⟨i0, hi, hz0, hz1, hz2⟩ := info_parts info_ints
  have hlen := hown.len
  have hgr := grownBy_alloc w (.cells #[u] 24) none
  have hown1 := hown.carry hgr
  have hu1 : OwnInts B (w.alloc (.cells #[u] 24)) u zs := hu.alloc _
  refine wpList_append_own _ hgd s x 37 ho B 24 i0 (.slice none 0 0) 1 24 Tryd.underlying37 hi hz0 hz1 hz2 rfl (by decide) v vs.length vs hs hown1.out
    ⟨w.heap.size, 0, none⟩ 1 1 [u] hx rfl ?_ ?_ (by unfold maxLen; omega) (by omega) (by simp; omega) ?_
  · intro j u' hj
    match j, hj with
    | 0, hj =>
      simp at hj
      subst hj
      simp only [Addr.add, if_true, World.cell?]
      rw [alloc_heap_new]
      rfl
    | j + 1, hj => simp at hj
  · intro u' hu'
    simp at hu'
    subst hu'
    exact ints_one hu
  · intro v' w1 hown' hgrow hnil
    have hon : Only (Hits v) (w.alloc (.cells #[u] 24)) w1 := Only.of_grown hgrow fun k hk => hk
    refine h v' w1 (OwnM.join hlen (fun i => (hown1.row i).only hon fun k hk hk' => ?_) hown.ap (hu1.only hon fun k hk hk' => ?_) hua (by simpa using hown')) ?_
    · exact apart_types hown1.out (hown1.row i) (by decide) k hk' hk
    · exact apart_types hown1.out hu1 (by decide) k hk' hk
    · exact (Only.of_grown (S := Hits v) hgr (by simp)).trans hon

theorem fresh_apart {B : Nat} {w w1 : World} {v u : Value} {vs : List Value} {L : List (List Int)} {zs : List Int} (h : OwnM B w v vs L) (hu : OwnInts w.heap.size w1 u zs) (i : Nat) : Apart (vs.getD i nilS) u := by
  intro k hk hk'
  have h1 := ((h.row i).lt k hk).2
  have h2 := (hu.lt k hk').1
  omega
theorem take_push {L : List (List Int)} {k : Nat} (h : k < L.length) : L.take k ++ [L[k]] = L.take (k + 1) := by simp
theorem Only.below' {B : Nat} {w w' : World} {v : Value} {vs : List Value} {L : List (List Int)} (h : OwnM B w v vs L) (ho : Only (Hits v) w w') (hB : B ≤ w.heap.size) : Below B w w' :=
  ho.below hB fun k hk => (h.lt (Or.inl hk)).1

theorem after_row {B : Nat} {wr w2 : World} {v u : Value} {vs : List Value} {L : List (List Int)} {zs : List Int} (h : OwnM B wr v vs L) (hB : B ≤ wr.heap.size) (hu : OwnInts wr.heap.size w2 u zs) (hg : wr.grownBy w2 none) :
    OwnM B w2 v vs L ∧ OwnInts B w2 u zs ∧ (∀ i, Apart (vs.getD i nilS) u) ∧ B ≤ w2.heap.size :=
  ⟨h.carry hg, hu.base hB, fun i => fresh_apart h hu i, Nat.le_trans hB hg.size⟩

theorem clones_any (u : Value) (L : List (List Int)) (w : World) (hu : MatV w u L) (hl : L.length ≤ 1000000) (hll : ∀ row ∈ L, row.length ≤ 1000000) :
    Calls Tryd.prog 118 #[u] w fun e w' => ∃ v vs, e = .returned v ∧ OwnM w.heap.size w' v vs L ∧ w.grownBy w' none := by
  obtain ⟨i0, hi, hz0, hz1, hz2⟩ := info_parts info_ints
  have HI := Lib.hid hi; have HZ0 := Lib.hid hz0; have HZ1 := Lib.hid hz1; have HZ2 := Lib.hid hz2
  have HU := Lib.hid hu; have HLL := Lib.hid hll
  obtain ⟨ua, ucap, rfl, hx⟩ := hu
  clear hi hz0 hz1 hz2 hx hll
  generalize hlen : L.length = l at *
  have HLEN := Lib.hid hlen
  clear hlen
  go_enter Tryd.func118, Tryd.ntmps118
  go_wp2_with (
    at_make
    refine wpList_make_own _ rfl _ _ 37 rfl w.heap.size 24 i0 (.slice none 0 0) 1 Tryd.underlying37 HI.out HZ0.out HZ1.out _ _ _ l rfl rfl rfl (by rw [HZ2.out]; omega) (by unfold maxLen; omega) (Nat.le_refl _) ?_
    intro w1 hown' hgr'
    have H1 := Lib.hid (OwnM.start hown'); have H2 := Lib.hid hgr'
    clear hown' hgr')
  go_loopw [3, 11] (fun v i wr => ∃ (k : Nat) (vs : List Value), k ≤ l ∧ i = .int .i64 k ∧ OwnM w.heap.size wr v vs (L.take k) ∧ Below w.heap.size w wr) (fun _ i _ => l - (intOf i).toNat)
  case atStart => exact ⟨0, [], by omega, rfl, H1.out, Below.grown (Below.refl _ _) H2.out (Nat.le_refl _) (by simp)⟩
  case round =>
    obtain ⟨k, vs, hk, rfl, hown, hbel⟩ := hrel
    have HO := Lib.hid hown; have HB := Lib.hid hbel
    have hsize := hbel.size
    clear hown hbel
    by_cases hlt : k < l
    · have hkl : k < L.length := by rw [HLEN.out]; exact hlt
      have hrow := (HU.out.carry (grown_of_below HB.out)).row hkl
      obtain ⟨d, r, c, rfl, hs, hd, hcell, hrow⟩ := hrow
      obtain ⟨db, dof, _⟩ := d
      simp only at hs hcell
      subst hs
      have hrl := HLL.out _ (List.getElem_mem hkl)
      have HR := Lib.hid hrow
      have HTP := Lib.hid (take_push hkl)
      generalize L[k] = z at *
      generalize hzl : z.length = zl at *
      have HZL := Lib.hid hzl
      clear hzl
      have A5 := Lib.hid (show (List.take k L).length ≤ 1000000 by rw [List.length_take]; omega)
      go_wp2_with (first
        | (go_at_call 112
           refine (clone_any _ z wr HR.out (by rw [HZL.out]; exact hrl)).mono ?_
           rintro e w2 ⟨uu, rfl, hu, hg⟩
           obtain ⟨ua2, uc2, rfl⟩ := own_shape hu
           have A := Lib.hid (after_row HO.out hsize hu hg)
           have HG2 := Lib.hid hg
           clear hu hg)
        | (at_builtin
           refine app_row rfl _ _ rfl rfl rfl A.out.1 A.out.2.1 A.out.2.2.1 A.out.2.2.2 A5.out ?_
           intro v' w3 hown' hon'
           have HO3 := Lib.hid hown'; have HN3 := Lib.hid (Only.below' A.out.1 hon' A.out.2.2.2)
           clear hown' hon'))
      go_roundw
      case rel => exact ⟨k + 1, _, by omega, by go_num, by have := HO3.out; rw [HTP.out] at this; exact this, (HB.out.grown HG2.out hsize (by simp)).trans HN3.out⟩
      case measure => simp [intOf]; omega
    · have hkl : L.take k = L := List.take_of_length_le (by have := HLEN.out; omega)
      have HK := Lib.hid hkl
      clear hkl
      go_wp2
      go_ret
      exact ⟨_, _, rfl, by have := HO.out; rw [HK.out] at this; exact this, grown_of_below HB.out⟩

theorem identityRows_any (n : Nat) (w : World) (hl : n ≤ 1000000) :
    Calls Tryd.prog 119 #[.int .i64 n] w fun e w' => ∃ v vs, e = .returned v ∧ OwnM w.heap.size w' v vs (idL n) ∧ w.grownBy w' none := by
  go_enter Tryd.func119, Tryd.ntmps119
  go_wp2
  go_loopw [3, 7] (fun v i wr => ∃ (k : Nat) (vs : List Value), k ≤ n ∧ i = .int .i64 k ∧ OwnM w.heap.size wr v vs ((idL n).take k) ∧ Below w.heap.size w wr) (fun _ i _ => n - (intOf i).toNat)
  case atStart => exact ⟨0, [], by omega, rfl, OwnM.start (World.ownsRow_made w #[] 0 (Nat.le_refl _) (by unfold maxLen; omega) rfl), (Below.refl _ _).alloc (Nat.le_refl _) _⟩
  case round =>
    obtain ⟨k, vs, hk, rfl, hown, hbel⟩ := hrel
    have HO := Lib.hid hown; have HB := Lib.hid hbel
    have hsize := hbel.size
    clear hown hbel
    by_cases hlt : k < n
    · have hkl : k < (idL n).length := by rw [idL_len]; exact hlt
      have HTP := Lib.hid (take_push hkl)
      have hz : (idL n)[k] = unitL n k := by simp [idL]
      have HZ := Lib.hid hz
      clear hz
      have A5 := Lib.hid (show (List.take k (idL n)).length ≤ 1000000 by rw [List.length_take, idL_len]; omega)
      go_wp2_with (first
        | (go_at_call 209
           refine (unit_any n k wr hl hlt).mono ?_
           rintro e w2 ⟨uu, rfl, hu, hg⟩
           obtain ⟨ua2, uc2, rfl⟩ := own_shape hu
           have A := Lib.hid (after_row HO.out hsize hu hg)
           have HG2 := Lib.hid hg
           clear hu hg)
        | (at_builtin
           refine app_row rfl _ _ rfl rfl rfl A.out.1 A.out.2.1 A.out.2.2.1 A.out.2.2.2 A5.out ?_
           intro v' w3 hown' hon'
           have HO3 := Lib.hid hown'; have HN3 := Lib.hid (Only.below' A.out.1 hon' A.out.2.2.2)
           clear hown' hon'))
      go_roundw
      case rel => exact ⟨k + 1, _, by omega, by go_num, by have := HO3.out; rw [← HZ.out, HTP.out] at this; exact this, (HB.out.grown HG2.out hsize (by simp)).trans HN3.out⟩
      case measure => simp [intOf]; omega
    · have hkl : (idL n).take k = idL n := List.take_of_length_le (by rw [idL_len]; omega)
      have HK := Lib.hid hkl
      clear hkl
      go_wp2
      go_ret
      exact ⟨_, _, rfl, by have := HO.out; rw [HK.out] at this; exact this, grown_of_below HB.out⟩

end Go.Proofs.YtpeaeminjbjlnaaDoor

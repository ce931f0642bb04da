/-
  More on lists of rows that are the call's own: a fresh row in a place, an element written, two lists' rows exchanged by four stores. Conditions: the indices are within.
-/
import Derived.Test.YtpeaeminjbjlnaaDoorSpecM2
namespace Go.Proofs.YtpeaeminjbjlnaaDoor
open Go.RowKit
set_option linter.unusedVariables false

theorem getD_setV {vs : List Value} {i k : Nat} {u : Value} (hi : i < vs.length) : (vs.set i u).getD k nilS = if k = i then u else vs.getD k nilS := by
  simp only [List.getD_eq_getElem?_getD, List.getElem?_set]
  by_cases h : i = k
  · subst h; simp [hi]
  · simp [h, Ne.symm h]
theorem getD_setL {L : List (List Int)} {i k : Nat} {z : List Int} (hi : i < L.length) : (L.set i z).getD k [] = if k = i then z else L.getD k [] := by
  simp only [List.getD_eq_getElem?_getD, List.getElem?_set]
  by_cases h : i = k
  · subst h; simp [hi]
  · simp [h, Ne.symm h]

/-- a fresh row put into a place -/
theorem OwnM.putNew {B g n cap : Nat} {w : World} {vs : List Value} {L : List (List Int)} {u : Value} {zs : List Int} (h : OwnM B w (.slice (some ⟨g, 0, none⟩) n cap) vs L) (hn : n = L.length) {i : Nat} (hi : i < L.length)
    (hu : OwnInts B w u zs) (hua : ∀ j, Apart (vs.getD j nilS) u) :
    OwnM B (w.setCell ⟨g, i, none⟩ u) (.slice (some ⟨g, 0, none⟩) n cap) (vs.set i u) (L.set i zs) ∧ Only (· = g) w (w.setCell ⟨g, i, none⟩ u) := by
  subst hn
  have hlen := h.len
  have h2 := h.out
  rw [hlen] at h2
  have s1 := World.ownsRow.stored h2 i u
  have hon : Only (Hits (.slice (some ⟨g, 0, none⟩) L.length cap)) w (w.setCell ⟨g, i, none⟩ u) := Only.of_grown s1.2 fun k hk => hk
  refine ⟨⟨by simp [hlen], ?_, fun j => ?_, fun j k hjk => ?_⟩, hon.mono fun k hk => by simp [Hits, Value.ownBlock] at hk; exact hk.symm⟩
  · have e : (vs.set i u).length = L.length := by simp [hlen]
    rw [e]
    exact s1.1
  · rw [getD_setV (by omega), getD_setL hi]
    split
    · exact hu.only hon fun k hk hk' => apart_types h.out hu (by decide) k hk' hk
    · exact (h.row j).only hon fun k hk hk' => apart_types h.out (h.row j) (by decide) k hk' hk
  · rw [getD_setV (by omega), getD_setV (by omega)]
    split
    · rw [if_neg (by omega)]; exact (hua k).symm
    · split
      · exact hua j
      · exact h.ap j k hjk

/-- an element: where it lies, and writing it -/
theorem OwnM.elemAt {B g n cap : Nat} {w : World} {vs : List Value} {L : List (List Int)} (h : OwnM B w (.slice (some ⟨g, 0, none⟩) n cap) vs L) (hn : n = L.length) {i j : Nat} (hi : i < L.length) (hj : j < (L.getD i []).length) :
    ∃ gi ci, B ≤ gi ∧ gi ≠ g ∧ gi < w.heap.size ∧ Hits (vs.getD i nilS) gi ∧ w.cell? ⟨g, i, none⟩ = some (.slice (some ⟨gi, 0, none⟩) (L.getD i []).length ci) ∧ w.cell? ⟨gi, j, none⟩ = some (.int .i64 (at2 L i j)) ∧ w.frozen? ⟨gi, j, none⟩ = false ∧
      ∀ x, OwnM B (w.setCell ⟨gi, j, none⟩ (.int .i64 x)) (.slice (some ⟨g, 0, none⟩) n cap) vs (L.set i ((L.getD i []).set j x)) ∧ Only (· = gi) w (w.setCell ⟨gi, j, none⟩ (.int .i64 x)) := by
  have hrow := h.row i
  obtain ⟨gi, ci, he, hB, hlt, hh⟩ := hrow.parts (by intro h0; rw [h0] at hj; simp at hj)
  have hne : gi ≠ g := by
    intro e
    subst e
    exact apart_types h.out hrow (by decide) gi rfl hh
  have hc := h.cell hn hi
  have hrow' := hrow
  rw [he] at hc hrow'
  refine ⟨gi, ci, hB, hne, hlt, hh, hc, ?_, hrow'.free rfl j, fun x => ?_⟩
  · rw [hrow'.cell rfl hj]
    unfold at2
    rw [getD_lt hj]
  · obtain ⟨p1, p2⟩ := hrow'.put rfl j x
    refine ⟨h.setRow hi ?_ (by rw [he]; exact p1), p2⟩
    exact p2.mono fun k hk => by subst hk; exact hh

/-- two rows exchanged, whatever else was written in lists of rows -/
theorem OwnM.swapped {B g n cap : Nat} {w w' : World} {vs : List Value} {L : List (List Int)} {S : Nat → Prop} (h : OwnM B w (.slice (some ⟨g, 0, none⟩) n cap) vs L) {r i : Nat} (hr : r < L.length) (hi : i < L.length) (hne : r ≠ i)
    (ho : Only S w w') (hS : ∀ k, S k → ∀ j, ¬ Hits (vs.getD j nilS) k) (hout : w'.ownsRow B 24 1 (.slice (some ⟨g, 0, none⟩) n cap) vs.length ((vs.set i (vs.getD r nilS)).set r (vs.getD i nilS))) :
    OwnM B w' (.slice (some ⟨g, 0, none⟩) n cap) ((vs.set i (vs.getD r nilS)).set r (vs.getD i nilS)) (swapL L r i) ∧ (∀ x ∈ (vs.set i (vs.getD r nilS)).set r (vs.getD i nilS), x ∈ vs) := by
  have hlen := h.len
  have gv : ∀ k, ((vs.set i (vs.getD r nilS)).set r (vs.getD i nilS)).getD k nilS = vs.getD (La.tw r i k) nilS := by
    intro k
    unfold La.tw
    rw [getD_setV (by rw [List.length_set]; omega), getD_setV (by omega)]
    by_cases h1 : k = r
    · rw [if_pos h1, if_pos h1]
    · rw [if_neg h1, if_neg h1]
      by_cases h2 : k = i
      · rw [if_pos h2, if_pos h2]
      · rw [if_neg h2, if_neg h2]
  have tinj : ∀ a b, a ≠ b → La.tw r i a ≠ La.tw r i b := by
    intro a b hab
    unfold La.tw
    split <;> split <;> (try split) <;> (try split) <;> omega
  refine ⟨⟨by simp [swapL, hlen], by rw [List.length_set, List.length_set]; exact hout, fun k => ?_, fun a b hab => ?_⟩, fun x hx => ?_⟩
  · rw [gv, swapL_get hr hi]
    exact (h.row _).only ho fun q hq hq' => hS q hq' _ hq
  · rw [gv, gv]
    exact h.ap _ _ (tinj a b hab)
  · rcases List.mem_or_eq_of_mem_set hx with h1 | h1
    · rcases List.mem_or_eq_of_mem_set h1 with h3 | h3
      · exact h3
      · rw [h3, List.getD_eq_getElem?_getD, List.getElem?_eq_getElem (show r < vs.length by omega)]; exact List.getElem_mem _
    · rw [h1, List.getD_eq_getElem?_getD, List.getElem?_eq_getElem (show i < vs.length by omega)]; exact List.getElem_mem _

/-- four stores exchange two rows in two lists -/
theorem Two.swap4 {B ga gt m ca ct : Nat} {w : World} {vs us : List Value} {R T : List (List Int)} (h : Two B w (.slice (some ⟨ga, 0, none⟩) m ca) vs (.slice (some ⟨gt, 0, none⟩) m ct) us R T) (hR : R.length = m) (hT : T.length = m) {r i : Nat} (hr : r < m) (hi : i < m) (hne : r ≠ i) :
    ga ≠ gt ∧
    Two B ((((w.setCell ⟨ga, i, none⟩ (vs.getD r nilS)).setCell ⟨gt, i, none⟩ (us.getD r nilS)).setCell ⟨ga, r, none⟩ (vs.getD i nilS)).setCell ⟨gt, r, none⟩ (us.getD i nilS))
      (.slice (some ⟨ga, 0, none⟩) m ca) ((vs.set i (vs.getD r nilS)).set r (vs.getD i nilS)) (.slice (some ⟨gt, 0, none⟩) m ct) ((us.set i (us.getD r nilS)).set r (us.getD i nilS)) (swapL R r i) (swapL T r i) ∧
    (∀ x ∈ (vs.set i (vs.getD r nilS)).set r (vs.getD i nilS), x ∈ vs) ∧ (∀ x ∈ (us.set i (us.getD r nilS)).set r (us.getD i nilS), x ∈ us) ∧
    Only (fun k => k = ga ∨ k = gt) w ((((w.setCell ⟨ga, i, none⟩ (vs.getD r nilS)).setCell ⟨gt, i, none⟩ (us.getD r nilS)).setCell ⟨ga, r, none⟩ (vs.getD i nilS)).setCell ⟨gt, r, none⟩ (us.getD i nilS)) := by
  have lv := h.mR.len
  have lu := h.mT.len
  have o1 := h.mR.out
  have o2 := h.mT.out
  rw [lv, hR] at o1
  rw [lu, hT] at o2
  have hg : ga ≠ gt := fun e => h.ap ga (Or.inl rfl) (Or.inl (by rw [e]; rfl))
  have hitA : ∀ k, Hits (.slice (some ⟨ga, 0, none⟩) m ca) k → k = ga := fun k hk => by simp [Hits, Value.ownBlock] at hk; exact hk.symm
  have hitT : ∀ k, Hits (.slice (some ⟨gt, 0, none⟩) m ct) k → k = gt := fun k hk => by simp [Hits, Value.ownBlock] at hk; exact hk.symm
  have s1 := World.ownsRow.stored o1 i (vs.getD r nilS)
  have n1 : Only (· = ga) w _ := Only.of_grown s1.2 fun k hk => hitA k hk
  have t1 := owns_only o2 n1 fun k hk hk' => hg (hk'.symm.trans (hitT k hk))
  have s2 := World.ownsRow.stored t1 i (us.getD r nilS)
  have n2 : Only (· = gt) _ _ := Only.of_grown s2.2 fun k hk => hitT k hk
  have a2 := owns_only s1.1 n2 fun k hk hk' => hg ((hitA k hk).symm.trans hk')
  have s3 := World.ownsRow.stored a2 r (vs.getD i nilS)
  have n3 : Only (· = ga) _ _ := Only.of_grown s3.2 fun k hk => hitA k hk
  have t3 := owns_only s2.1 n3 fun k hk hk' => hg (hk'.symm.trans (hitT k hk))
  have s4 := World.ownsRow.stored t3 r (us.getD i nilS)
  have n4 : Only (· = gt) _ _ := Only.of_grown s4.2 fun k hk => hitT k hk
  have a4 := owns_only s3.1 n4 fun k hk hk' => hg ((hitA k hk).symm.trans hk')
  have n : Only (fun k => k = ga ∨ k = gt) w _ := (((n1.mono fun k hk => Or.inl hk).trans (n2.mono fun k hk => Or.inr hk)).trans (n3.mono fun k hk => Or.inl hk)).trans (n4.mono fun k hk => Or.inr hk)
  have S1 : ∀ k, (k = ga ∨ k = gt) → ∀ j, ¬ Hits (vs.getD j nilS) k := by
    intro k hk j hj
    rcases hk with rfl | rfl
    · exact apart_types h.mR.out (h.mR.row j) (by decide) _ rfl hj
    · exact h.ap _ (Foot.at hj) (Or.inl rfl)
  have S2 : ∀ k, (k = ga ∨ k = gt) → ∀ j, ¬ Hits (us.getD j nilS) k := by
    intro k hk j hj
    rcases hk with rfl | rfl
    · exact h.ap _ (Or.inl rfl) (Foot.at hj)
    · exact apart_types h.mT.out (h.mT.row j) (by decide) _ rfl hj
  obtain ⟨m1, b1⟩ := h.mR.swapped (by omega) (by omega) hne n S1 (by rw [lv, hR]; exact a4)
  obtain ⟨m2, b2⟩ := h.mT.swapped (by omega) (by omega) hne n S2 (by rw [lu, hT]; exact s4.1)
  exact ⟨hg, ⟨m1, m2, fun k hk hk' => h.ap k (hk.mono b1) (hk'.mono b2)⟩, b1, b2, n⟩

end Go.Proofs.YtpeaeminjbjlnaaDoor

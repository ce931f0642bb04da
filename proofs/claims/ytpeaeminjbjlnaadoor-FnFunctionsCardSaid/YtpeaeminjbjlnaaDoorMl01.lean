/-
  What 'each' makes of the rows of a relation's basis. Conditions: small sizes.
-/
import Derived.Test.YtpeaeminjbjlnaaDoorMl00
namespace Go.Proofs.YtpeaeminjbjlnaaDoor
open Go.RowKit
set_option linter.unusedVariables false

theorem take_snocF {L : List (List Int)} {f : List Int → List Int} {k : Nat} (h : k < L.length) : (L.map f).take (k + 1) = (L.map f).take k ++ [f (L.getD k [])] := by
  rw [← take_push (show k < (L.map f).length by simpa using h), List.getElem_map, List.getD_eq_getElem?_getD, List.getElem?_eq_getElem h]
  rfl
/-- what a callee makes of a row that lies below B: a list that can be read, that lies below B or in new blocks -/
def RowFn (FN : FuncId) (mk : Value → Array Value) (B : Nat) (w0 : World) (L : List (List Int)) (f : List Int → List Int) : Prop :=
  ∀ W r c row, row ∈ L → w0.grownBy W none → IntsV W (.slice r row.length c) row → row.length ≤ c → (∀ k, row ≠ [] → Value.blk' (.slice r row.length c) = some k → k < B) →
    Calls Tryd.prog FN (mk (.slice r row.length c)) W fun e w' => ∃ a c', e = .returned (.slice a (f row).length c') ∧ IntsV w' (.slice a (f row).length c') (f row) ∧ (f row ≠ [] → ∀ k, Value.blk' (.slice a (f row).length c') = some k → k < B ∨ W.heap.size ≤ k) ∧ W.grownBy w' none
theorem rows_snoc {us : List Value} {L : List (List Int)} {u : Value} {z : List Int} {P : Nat → Prop} (hl : us.length = L.length) (h : ∀ k, RowsAt us L k → P k) (hu : z ≠ [] → ∀ k, Value.blk' u = some k → P k) : ∀ k, RowsAt (us ++ [u]) (L ++ [z]) k → P k := by
  rintro k ⟨i, hi, hne, hk⟩
  rw [List.length_append, List.length_singleton] at hi
  by_cases e : i < L.length
  · rw [snocAt_lt (by omega)] at hk
    rw [snocL_lt e] at hne
    exact h k ⟨i, e, hne, hk⟩
  · have e2 : i = L.length := by omega
    subst e2
    rw [snocL_eq] at hne
    rw [show (us ++ [u]).getD L.length nilS = u by rw [← hl]; exact snocAt_eq] at hk
    exact hu hne k hk

set_option maxRecDepth 100000 in
set_option maxHeartbeats 1000000 in
theorem eachSecond_any (fv : Value) (left right : Int) (u : Value) (L : List (List Int)) (f : List Int → List Int) (w wb : World) (hu : MatC wb u L) (hgb : wb.grownBy w none) (hl : L.length ≤ 1000)
    (hf : RowFn 268 (fun r => #[fv, r]) wb.heap.size w L f) :
    Calls Tryd.prog 234 #[rlV left right u, .func (.func 268) #[fv] #[]] w fun e w' => ∃ o us, e = .returned o ∧ Sep w' [SH o us (L.map f), KeepA w] ∧ ∀ k, RowsAt us (L.map f) k → k < wb.heap.size ∨ w.heap.size ≤ k := by
  unfold rlV
  have HU := Lib.hid hu; have HF := Lib.hid hf; have HGB := Lib.hid hgb
  have hbw := hgb.size
  obtain ⟨ua, uc, rfl⟩ := hu.shape
  have HLL := Lib.hid hl
  clear hu hf hgb
  generalize hlen : L.length = n at *
  have HL := Lib.hid hlen
  clear hlen
  go_enter Tryd.func234, Tryd.ntmps234
  go_wp2_with fail
  have hsz : (w.alloc (.cells #[.int .i64 left, .int .i64 right, .slice ua n uc] 65)).heap.size = w.heap.size + 1 := by simp
  have hs0 := (((Sep.start w).box #[.int .i64 left, .int .i64 right, .slice ua n uc] 65).emptySh).under (fun h => h.tl) (by simp +contextual)
  rw [hsz] at hs0
  have HS := Lib.hid hs0
  clear hs0 hsz
  go_loopw [5, 12] (fun out i wr => ∃ (k : Nat) (us : List Value), k ≤ n ∧ i = .int .i64 k ∧ Sep wr [SH out us ((L.map f).take k), KeepA w] ∧ ∀ k', RowsAt us ((L.map f).take k) k' → k' < wb.heap.size ∨ w.heap.size ≤ k') (fun _ i _ => n - (intOf i).toNat)
  case atStart => exact ⟨0, [], by omega, rfl, HS.out, fun k' hk' => by obtain ⟨i, hi, _⟩ := hk'; simp at hi⟩
  case round =>
    obtain ⟨k, us, hk, rfl, hs, hra⟩ := hrel
    have HSX := Lib.hid hs; have HRA := Lib.hid hra
    have hul := hs.hd.1
    have HUL := Lib.hid hul
    have hg := hs.s2.hd
    clear hs hra hul
    by_cases hlt : k < n
    · have hkl : k < L.length := by rw [HL.out]; exact hlt
      obtain ⟨bb, bo, cap, ml, r, rc, he, hcell, hrow, hcp⟩ := HU.out.rowK (HGB.out.trans hg) hkl
      cases he
      have HC := Lib.hid (HF.out wr r rc (L.getD k []) (getD_mem hkl) hg (hrow.carry (HGB.out.trans hg)) hcp (fun k' hne hk' => hrow.blk_lt hne hk'))
      have HSN := Lib.hid (take_snocF (f := f) hkl)
      have HPL := Lib.hid (show ((L.map f).take k).length = k by rw [List.length_take, List.length_map, HL.out]; omega)
      clear hrow hcp
      generalize L.getD k [] = row at *
      generalize row.length = rl at *
      generalize f row = z at *
      go_wp2_with (first
        | (go_at_call 268
           go_loud (refine HC.out.mono ?_)
           rintro e w2 ⟨a, c', rfl, hi, hb, hg2⟩
           have HS2 := Lib.hid (HSX.out.grown hg2)
           have HB := Lib.hid hb; have HI := Lib.hid hi
           have HN := Lib.hid fun k' (hne : z ≠ []) (hk' : Value.blk' (.slice a z.length c') = some k') (h : Hits _ k') => (show False by
             have h1 := HSX.out.apt.1 k' h
             have h2 := (SH _ us ((L.map f).take k)).lt wr k' HSX.out.hd (Or.inl h)
             rcases hb hne k' hk' with h3 | h3
             · exact h1 (Nat.lt_of_lt_of_le h3 hbw)
             · omega)
           have HRB := Lib.hid (rows_snoc (u := .slice a z.length c') (z := z) HUL.out HRA.out fun hne k' hk' => (hb hne k' hk').imp id fun h => Nat.le_trans HSX.out.s2.hd.size h)
           generalize z.length = zl at *
           clear hi hb hg2)
        | (at_builtin
           refine app_sh rfl _ _ rfl rfl rfl HS2.out HI.out (fun hne k' hk' => ⟨HN.out k' hne hk', fun C hC => by rw [List.mem_singleton] at hC; subst hC; exact fun h => h⟩) (by rw [HPL.out]; omega) ?_
           intro g3 c3 w3 h3
           rw [HPL.out] at h3 ⊢
           have HS3 := Lib.hid h3
           clear h3))
      go_roundw
      case rel => exact ⟨k + 1, _, by omega, by go_num, by rw [HSN.out]; exact HS3.out, by rw [HSN.out]; exact HRB.out⟩
      case measure => simp [intOf]; omega
    · have ht : (L.map f).take k = L.map f := List.take_of_length_le (by rw [List.length_map, HL.out]; omega)
      have HTK := Lib.hid ht
      clear ht hg
      go_wp2
      go_ret
      exact ⟨_, us, rfl, by have := HSX.out; rw [HTK.out] at this; exact this, by have := HRA.out; rw [HTK.out] at this; exact this⟩
set_option maxRecDepth 100000 in
set_option maxHeartbeats 1000000 in
theorem eachFirst_any (fv : Value) (left right : Int) (u : Value) (L : List (List Int)) (f : List Int → List Int) (w wb : World) (hu : MatC wb u L) (hgb : wb.grownBy w none) (hl : L.length ≤ 1000)
    (hf : RowFn 269 (fun r => #[fv, r]) wb.heap.size w L f) :
    Calls Tryd.prog 234 #[rlV left right u, .func (.func 269) #[fv] #[]] w fun e w' => ∃ o us, e = .returned o ∧ Sep w' [SH o us (L.map f), KeepA w] ∧ ∀ k, RowsAt us (L.map f) k → k < wb.heap.size ∨ w.heap.size ≤ k := by
  unfold rlV
  have HU := Lib.hid hu; have HF := Lib.hid hf; have HGB := Lib.hid hgb
  have hbw := hgb.size
  obtain ⟨ua, uc, rfl⟩ := hu.shape
  have HLL := Lib.hid hl
  clear hu hf hgb
  generalize hlen : L.length = n at *
  have HL := Lib.hid hlen
  clear hlen
  go_enter Tryd.func234, Tryd.ntmps234
  go_wp2_with fail
  have hsz : (w.alloc (.cells #[.int .i64 left, .int .i64 right, .slice ua n uc] 65)).heap.size = w.heap.size + 1 := by simp
  have hs0 := (((Sep.start w).box #[.int .i64 left, .int .i64 right, .slice ua n uc] 65).emptySh).under (fun h => h.tl) (by simp +contextual)
  rw [hsz] at hs0
  have HS := Lib.hid hs0
  clear hs0 hsz
  go_loopw [5, 12] (fun out i wr => ∃ (k : Nat) (us : List Value), k ≤ n ∧ i = .int .i64 k ∧ Sep wr [SH out us ((L.map f).take k), KeepA w] ∧ ∀ k', RowsAt us ((L.map f).take k) k' → k' < wb.heap.size ∨ w.heap.size ≤ k') (fun _ i _ => n - (intOf i).toNat)
  case atStart => exact ⟨0, [], by omega, rfl, HS.out, fun k' hk' => by obtain ⟨i, hi, _⟩ := hk'; simp at hi⟩
  case round =>
    obtain ⟨k, us, hk, rfl, hs, hra⟩ := hrel
    have HSX := Lib.hid hs; have HRA := Lib.hid hra
    have hul := hs.hd.1
    have HUL := Lib.hid hul
    have hg := hs.s2.hd
    clear hs hra hul
    by_cases hlt : k < n
    · have hkl : k < L.length := by rw [HL.out]; exact hlt
      obtain ⟨bb, bo, cap, ml, r, rc, he, hcell, hrow, hcp⟩ := HU.out.rowK (HGB.out.trans hg) hkl
      cases he
      have HC := Lib.hid (HF.out wr r rc (L.getD k []) (getD_mem hkl) hg (hrow.carry (HGB.out.trans hg)) hcp (fun k' hne hk' => hrow.blk_lt hne hk'))
      have HSN := Lib.hid (take_snocF (f := f) hkl)
      have HPL := Lib.hid (show ((L.map f).take k).length = k by rw [List.length_take, List.length_map, HL.out]; omega)
      clear hrow hcp
      generalize L.getD k [] = row at *
      generalize row.length = rl at *
      generalize f row = z at *
      go_wp2_with (first
        | (go_at_call 269
           go_loud (refine HC.out.mono ?_)
           rintro e w2 ⟨a, c', rfl, hi, hb, hg2⟩
           have HS2 := Lib.hid (HSX.out.grown hg2)
           have HB := Lib.hid hb; have HI := Lib.hid hi
           have HN := Lib.hid fun k' (hne : z ≠ []) (hk' : Value.blk' (.slice a z.length c') = some k') (h : Hits _ k') => (show False by
             have h1 := HSX.out.apt.1 k' h
             have h2 := (SH _ us ((L.map f).take k)).lt wr k' HSX.out.hd (Or.inl h)
             rcases hb hne k' hk' with h3 | h3
             · exact h1 (Nat.lt_of_lt_of_le h3 hbw)
             · omega)
           have HRB := Lib.hid (rows_snoc (u := .slice a z.length c') (z := z) HUL.out HRA.out fun hne k' hk' => (hb hne k' hk').imp id fun h => Nat.le_trans HSX.out.s2.hd.size h)
           generalize z.length = zl at *
           clear hi hb hg2)
        | (at_builtin
           refine app_sh rfl _ _ rfl rfl rfl HS2.out HI.out (fun hne k' hk' => ⟨HN.out k' hne hk', fun C hC => by rw [List.mem_singleton] at hC; subst hC; exact fun h => h⟩) (by rw [HPL.out]; omega) ?_
           intro g3 c3 w3 h3
           rw [HPL.out] at h3 ⊢
           have HS3 := Lib.hid h3
           clear h3))
      go_roundw
      case rel => exact ⟨k + 1, _, by omega, by go_num, by rw [HSN.out]; exact HS3.out, by rw [HSN.out]; exact HRB.out⟩
      case measure => simp [intOf]; omega
    · have ht : (L.map f).take k = L.map f := List.take_of_length_le (by rw [List.length_map, HL.out]; omega)
      have HTK := Lib.hid ht
      clear ht hg
      go_wp2
      go_ret
      exact ⟨_, us, rfl, by have := HSX.out; rw [HTK.out] at this; exact this, by have := HRA.out; rw [HTK.out] at this; exact this⟩
set_option maxRecDepth 100000 in
set_option maxHeartbeats 1000000 in
theorem eachConv_any (q0 : Value) (left right : Int) (u : Value) (L : List (List Int)) (f : List Int → List Int) (w wb : World) (hu : MatC wb u L) (hgb : wb.grownBy w none) (hl : L.length ≤ 1000)
    (hf : RowFn 272 (fun r => #[r, q0]) wb.heap.size w L f) :
    Calls Tryd.prog 234 #[rlV left right u, .func (.func 272) #[] #[q0]] w fun e w' => ∃ o us, e = .returned o ∧ Sep w' [SH o us (L.map f), KeepA w] ∧ ∀ k, RowsAt us (L.map f) k → k < wb.heap.size ∨ w.heap.size ≤ k := by
  unfold rlV
  have HU := Lib.hid hu; have HF := Lib.hid hf; have HGB := Lib.hid hgb
  have hbw := hgb.size
  obtain ⟨ua, uc, rfl⟩ := hu.shape
  have HLL := Lib.hid hl
  clear hu hf hgb
  generalize hlen : L.length = n at *
  have HL := Lib.hid hlen
  clear hlen
  go_enter Tryd.func234, Tryd.ntmps234
  go_wp2_with fail
  have hsz : (w.alloc (.cells #[.int .i64 left, .int .i64 right, .slice ua n uc] 65)).heap.size = w.heap.size + 1 := by simp
  have hs0 := (((Sep.start w).box #[.int .i64 left, .int .i64 right, .slice ua n uc] 65).emptySh).under (fun h => h.tl) (by simp +contextual)
  rw [hsz] at hs0
  have HS := Lib.hid hs0
  clear hs0 hsz
  go_loopw [5, 12] (fun out i wr => ∃ (k : Nat) (us : List Value), k ≤ n ∧ i = .int .i64 k ∧ Sep wr [SH out us ((L.map f).take k), KeepA w] ∧ ∀ k', RowsAt us ((L.map f).take k) k' → k' < wb.heap.size ∨ w.heap.size ≤ k') (fun _ i _ => n - (intOf i).toNat)
  case atStart => exact ⟨0, [], by omega, rfl, HS.out, fun k' hk' => by obtain ⟨i, hi, _⟩ := hk'; simp at hi⟩
  case round =>
    obtain ⟨k, us, hk, rfl, hs, hra⟩ := hrel
    have HSX := Lib.hid hs; have HRA := Lib.hid hra
    have hul := hs.hd.1
    have HUL := Lib.hid hul
    have hg := hs.s2.hd
    clear hs hra hul
    by_cases hlt : k < n
    · have hkl : k < L.length := by rw [HL.out]; exact hlt
      obtain ⟨bb, bo, cap, ml, r, rc, he, hcell, hrow, hcp⟩ := HU.out.rowK (HGB.out.trans hg) hkl
      cases he
      have HC := Lib.hid (HF.out wr r rc (L.getD k []) (getD_mem hkl) hg (hrow.carry (HGB.out.trans hg)) hcp (fun k' hne hk' => hrow.blk_lt hne hk'))
      have HSN := Lib.hid (take_snocF (f := f) hkl)
      have HPL := Lib.hid (show ((L.map f).take k).length = k by rw [List.length_take, List.length_map, HL.out]; omega)
      clear hrow hcp
      generalize L.getD k [] = row at *
      generalize row.length = rl at *
      generalize f row = z at *
      go_wp2_with (first
        | (go_at_call 272
           go_loud (refine HC.out.mono ?_)
           rintro e w2 ⟨a, c', rfl, hi, hb, hg2⟩
           have HS2 := Lib.hid (HSX.out.grown hg2)
           have HB := Lib.hid hb; have HI := Lib.hid hi
           have HN := Lib.hid fun k' (hne : z ≠ []) (hk' : Value.blk' (.slice a z.length c') = some k') (h : Hits _ k') => (show False by
             have h1 := HSX.out.apt.1 k' h
             have h2 := (SH _ us ((L.map f).take k)).lt wr k' HSX.out.hd (Or.inl h)
             rcases hb hne k' hk' with h3 | h3
             · exact h1 (Nat.lt_of_lt_of_le h3 hbw)
             · omega)
           have HRB := Lib.hid (rows_snoc (u := .slice a z.length c') (z := z) HUL.out HRA.out fun hne k' hk' => (hb hne k' hk').imp id fun h => Nat.le_trans HSX.out.s2.hd.size h)
           generalize z.length = zl at *
           clear hi hb hg2)
        | (at_builtin
           refine app_sh rfl _ _ rfl rfl rfl HS2.out HI.out (fun hne k' hk' => ⟨HN.out k' hne hk', fun C hC => by rw [List.mem_singleton] at hC; subst hC; exact fun h => h⟩) (by rw [HPL.out]; omega) ?_
           intro g3 c3 w3 h3
           rw [HPL.out] at h3 ⊢
           have HS3 := Lib.hid h3
           clear h3))
      go_roundw
      case rel => exact ⟨k + 1, _, by omega, by go_num, by rw [HSN.out]; exact HS3.out, by rw [HSN.out]; exact HRB.out⟩
      case measure => simp [intOf]; omega
    · have ht : (L.map f).take k = L.map f := List.take_of_length_le (by rw [List.length_map, HL.out]; omega)
      have HTK := Lib.hid ht
      clear ht hg
      go_wp2
      go_ret
      exact ⟨_, us, rfl, by have := HSX.out; rw [HTK.out] at this; exact this, by have := HRA.out; rw [HTK.out] at this; exact this⟩
set_option maxRecDepth 100000 in
set_option maxHeartbeats 1000000 in
theorem eachOrth_any (q0 q1 : Value) (left right : Int) (u : Value) (L : List (List Int)) (f : List Int → List Int) (w wb : World) (hu : MatC wb u L) (hgb : wb.grownBy w none) (hl : L.length ≤ 1000)
    (hf : RowFn 235 (fun r => #[r, q0, q1]) wb.heap.size w L f) :
    Calls Tryd.prog 234 #[rlV left right u, .func (.func 235) #[] #[q0, q1]] w fun e w' => ∃ o us, e = .returned o ∧ Sep w' [SH o us (L.map f), KeepA w] ∧ ∀ k, RowsAt us (L.map f) k → k < wb.heap.size ∨ w.heap.size ≤ k := by
  unfold rlV
  have HU := Lib.hid hu; have HF := Lib.hid hf; have HGB := Lib.hid hgb
  have hbw := hgb.size
  obtain ⟨ua, uc, rfl⟩ := hu.shape
  have HLL := Lib.hid hl
  clear hu hf hgb
  generalize hlen : L.length = n at *
  have HL := Lib.hid hlen
  clear hlen
  go_enter Tryd.func234, Tryd.ntmps234
  go_wp2_with fail
  have hsz : (w.alloc (.cells #[.int .i64 left, .int .i64 right, .slice ua n uc] 65)).heap.size = w.heap.size + 1 := by simp
  have hs0 := (((Sep.start w).box #[.int .i64 left, .int .i64 right, .slice ua n uc] 65).emptySh).under (fun h => h.tl) (by simp +contextual)
  rw [hsz] at hs0
  have HS := Lib.hid hs0
  clear hs0 hsz
  go_loopw [5, 12] (fun out i wr => ∃ (k : Nat) (us : List Value), k ≤ n ∧ i = .int .i64 k ∧ Sep wr [SH out us ((L.map f).take k), KeepA w] ∧ ∀ k', RowsAt us ((L.map f).take k) k' → k' < wb.heap.size ∨ w.heap.size ≤ k') (fun _ i _ => n - (intOf i).toNat)
  case atStart => exact ⟨0, [], by omega, rfl, HS.out, fun k' hk' => by obtain ⟨i, hi, _⟩ := hk'; simp at hi⟩
  case round =>
    obtain ⟨k, us, hk, rfl, hs, hra⟩ := hrel
    have HSX := Lib.hid hs; have HRA := Lib.hid hra
    have hul := hs.hd.1
    have HUL := Lib.hid hul
    have hg := hs.s2.hd
    clear hs hra hul
    by_cases hlt : k < n
    · have hkl : k < L.length := by rw [HL.out]; exact hlt
      obtain ⟨bb, bo, cap, ml, r, rc, he, hcell, hrow, hcp⟩ := HU.out.rowK (HGB.out.trans hg) hkl
      cases he
      have HC := Lib.hid (HF.out wr r rc (L.getD k []) (getD_mem hkl) hg (hrow.carry (HGB.out.trans hg)) hcp (fun k' hne hk' => hrow.blk_lt hne hk'))
      have HSN := Lib.hid (take_snocF (f := f) hkl)
      have HPL := Lib.hid (show ((L.map f).take k).length = k by rw [List.length_take, List.length_map, HL.out]; omega)
      clear hrow hcp
      generalize L.getD k [] = row at *
      generalize row.length = rl at *
      generalize f row = z at *
      go_wp2_with (first
        | (go_at_call 235
           go_loud (refine HC.out.mono ?_)
           rintro e w2 ⟨a, c', rfl, hi, hb, hg2⟩
           have HS2 := Lib.hid (HSX.out.grown hg2)
           have HB := Lib.hid hb; have HI := Lib.hid hi
           have HN := Lib.hid fun k' (hne : z ≠ []) (hk' : Value.blk' (.slice a z.length c') = some k') (h : Hits _ k') => (show False by
             have h1 := HSX.out.apt.1 k' h
             have h2 := (SH _ us ((L.map f).take k)).lt wr k' HSX.out.hd (Or.inl h)
             rcases hb hne k' hk' with h3 | h3
             · exact h1 (Nat.lt_of_lt_of_le h3 hbw)
             · omega)
           have HRB := Lib.hid (rows_snoc (u := .slice a z.length c') (z := z) HUL.out HRA.out fun hne k' hk' => (hb hne k' hk').imp id fun h => Nat.le_trans HSX.out.s2.hd.size h)
           generalize z.length = zl at *
           clear hi hb hg2)
        | (at_builtin
           refine app_sh rfl _ _ rfl rfl rfl HS2.out HI.out (fun hne k' hk' => ⟨HN.out k' hne hk', fun C hC => by rw [List.mem_singleton] at hC; subst hC; exact fun h => h⟩) (by rw [HPL.out]; omega) ?_
           intro g3 c3 w3 h3
           rw [HPL.out] at h3 ⊢
           have HS3 := Lib.hid h3
           clear h3))
      go_roundw
      case rel => exact ⟨k + 1, _, by omega, by go_num, by rw [HSN.out]; exact HS3.out, by rw [HSN.out]; exact HRB.out⟩
      case measure => simp [intOf]; omega
    · have ht : (L.map f).take k = L.map f := List.take_of_length_le (by rw [List.length_map, HL.out]; omega)
      have HTK := Lib.hid ht
      clear ht hg
      go_wp2
      go_ret
      exact ⟨_, us, rfl, by have := HSX.out; rw [HTK.out] at this; exact this, by have := HRA.out; rw [HTK.out] at this; exact this⟩
end Go.Proofs.YtpeaeminjbjlnaaDoor

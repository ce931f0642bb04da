/-
  Identities, squares, inverses. Conditions: lengths are small.
-/
import Derived.Test.YtpeaeminjbjlnaaDoorMatFn7
namespace Go.Proofs.YtpeaeminjbjlnaaDoor
open Go.RowKit
set_option linter.unusedVariables false

theorem isSquare_any (cols : Int) (v : Value) (L : List (List Int)) (w : World) (hv : MatV w v L) (hl : L.length ≤ 1000000) :
    Calls Tryd.prog 124 #[mxV cols v] w fun e w' => e = .returned (.bool (decide ((L.length : Int) = cols))) ∧ w.grownBy w' none := by
  unfold mxV
  obtain ⟨a, c, rfl⟩ := hv.shape
  clear hv
  by_cases h : (L.length : Int) = cols
  · have hd : decide ((L.length : Int) = cols) = true := decide_eq_true h
    have hb : ((L.length : Int) == cols) = true := by rw [beq_iff_eq]; exact h
    have HD := Lib.hid hd
    clear hd h
    generalize L.length = l at *
    go_enter Tryd.func124, Tryd.ntmps124
    go_wp2
    go_ret
    exact ⟨by rw [HD.out]; rfl, grownBy_alloc _ _ _⟩
  · have hd : decide ((L.length : Int) = cols) = false := decide_eq_false h
    have hb : ((L.length : Int) == cols) = false := by rw [beq_eq_false_iff_ne]; exact h
    have HD := Lib.hid hd
    clear hd h
    generalize L.length = l at *
    go_enter Tryd.func124, Tryd.ntmps124
    go_wp2
    go_ret
    exact ⟨by rw [HD.out]; rfl, grownBy_alloc _ _ _⟩

set_option maxRecDepth 100000 in
theorem identity_any (n : Nat) (w : World) (hn : n ≤ 24) :
    Calls Tryd.prog 31 #[.int .i64 n] w fun e w' => ∃ o, e = .returned (.tuple #[mxV n o, .bool true]) ∧ MatV w' o (idL n) ∧ w.grownBy w' none := by
  unfold mxV
  have hd : decide ((0 : Int) ≤ n ∧ (n : Int) ≤ 24) = true := decide_eq_true (by omega)
  have HD := Lib.hid hd
  clear hd
  go_enter Tryd.func31, Tryd.ntmps31
  go_wp2_with (first
    | (go_at_call 125; refine (within_any _ _ _ _).mono ?_; rintro e w' ⟨he, rfl⟩; rw [HD.out] at he; subst he)
    | (go_at_call 119
       refine (identityRows_any n _ (by omega)).mono ?_
       rintro e w1 ⟨o, vs, rfl, ho, hg⟩
       obtain ⟨oa, oc, hoe, _, _⟩ := own_form ho
       rw [idL_len] at hoe
       subst hoe
       obtain ⟨hbl, hgw⟩ := box1 w _ _ hg
       have HO := Lib.hid ho; have HG := Lib.hid hgw
       have HS := Lib.hid (show w.heap.size + 1 ≤ (w.alloc (.cells #[.int .i64 0, .slice none 0 0] 39)).heap.size by simp)
       have c0 := cell_blk hbl 0
       have c1 := cell_blk hbl 1
       have f0 := free_blk hbl 0
       have f1 := free_blk hbl 1
       simp only [List.getElem?_toArray, List.getElem?_cons_zero, List.getElem?_cons_succ] at c0 c1
       clear ho hg hbl hgw))
  refine bodyPost_ret_by (v := .tuple #[.agg #[.int .i64 n, .slice oa n oc], .bool true]) ?_ rfl ?_
  · simp [results, go_sem, *]
  · have o5 := one_set (w := w1) w.heap.size (.int .i64 n) (.slice oa n oc)
    refine ⟨_, rfl, (HO.out.only o5 fun q hq hq' => by have h1 := (HO.out.lt hq).1; have h2 := HS.out; omega).read, ?_⟩
    exact grown_of_below ((Below.grown (Below.refl _ w) HG.out (Nat.le_refl _) (by simp)).trans (o5.below HG.out.size fun q hq => by omega))

end Go.Proofs.YtpeaeminjbjlnaaDoor

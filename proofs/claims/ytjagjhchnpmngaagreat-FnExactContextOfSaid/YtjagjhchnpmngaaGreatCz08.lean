/-
 The laws' own helpers on terms: comparison and marks. Conditions: lengths are small.
-/
import Derived.Test.YtjagjhchnpmngaaGreatCz06
import Derived.Test.YtjagjhchnpmngaaGreatCz05
import Derived.Test.YtjagjhchnpmngaaGreatCz04
import Derived.Test.YtjagjhchnpmngaaGreatCz03
import Derived.Test.YtjagjhchnpmngaaGreatCz02
import Derived.Test.YtjagjhchnpmngaaGreatCz00
import Derived.Test.YtjagjhchnpmngaaGreatCz07
import Derived.Test.YtjagjhchnpmngaaGreatCz01
set_option linter.unusedVariables false
set_option linter.unusedSimpArgs false
set_option maxRecDepth 100000
namespace Go.Proofs.YtjagjhchnpmngaaGreat
open Go.RowKit
theorem Nd.ext' {x y : Nd} (h1 : x.k = y.k) (h2 : x.v = y.v) (h3 : x.s = y.s) : x = y := by
 cases x; cases y; simp_all
theorem ba_eqT (s : ByteArray) : (s.toList == s.toList) = true := by simp
theorem eqNode_same (k v : Int) (s : ByteArray) (w : World) : Calls Tryz.prog 117 #[.agg #[.int .i64 k, .int .i64 v, .string s], .agg #[.int .i64 k, .int .i64 v, .string s]] w fun e w' => e = .returned (.bool true) ∧ w.grownBy w' none := by
 have h1 : (k != k) = false := by simp
 have h2 : (v != v) = false := by simp
 have h3 : (s.toList == s.toList) = true := ba_eqT s
 go_enter Tryz.func117, Tryz.ntmps117
 go_wp2_with fail
 go_ret
 exact ⟨rfl, gr2 _ _ _⟩
set_option maxHeartbeats 1000000 in
theorem eqNodeS_same (v1 v2 : Value) (x : List Nd) (w : World) (h1 : RdR nodeE w v1 x) (h2 : RdR nodeE w v2 x) (l1 : x.length ≤ 1000000000) :
 Calls Tryz.prog 88 #[v1, v2] w fun e w' => e = .returned (.bool true) ∧ w.grownBy w' none := by
 have H1 := qd h1; have H2 := qd h2
 obtain ⟨a1, c1, rfl⟩ := h1.shape
 obtain ⟨a2, c2, rfl⟩ := h2.shape
 clear h1 h2
 generalize hlx : x.length = l at *
 have HLX := qd hlx
 clear hlx
 go_enter Tryz.func88, Tryz.ntmps88
 go_wp2
 go_loopw [5] (fun i wr => ∃ k : Nat, k ≤ l ∧ i = .int .i64 k ∧ w.grownBy wr none) (fun i _ => l - (intOf i).toNat)
 case atStart => exact ⟨0, by omega, rfl, grownBy_refl _ _⟩
 case round =>
  obtain ⟨k, hk, rfl, hg⟩ := hrel
  have HG := qd hg
  clear hg
  by_cases hlt : k < l
  ·obtain ⟨b1, o1, rfl, hb1, p0, p1, p2⟩ := (H1.out.carry HG.out).node rfl rfl (i := k) (by rw [HLX.out]; exact hlt)
   obtain ⟨b2, o2, rfl, hb2, q0, q1, q2⟩ := (H2.out.carry HG.out).node rfl rfl (i := k) (by rw [HLX.out]; exact hlt)
   generalize x.getD k nd0 = y at *
   obtain ⟨ky, vy, sy⟩ := y
   simp only at p0 p1 p2 q0 q1 q2
   have HC := qd (eqNode_same ky vy sy wr.drew)
   clear hb1 hb2
   go_wp2_with fail
   refine wp_region_still_tail 8 (by kernel_rfl) (by kernel_rfl) ?_
   simp only [List.take_succ_cons, List.take_zero, List.drop_succ_cons, List.drop_zero]
   repeat still_step
   refine wpStill_nil ?_
   change wpList _ _ _ _ _ wr.drew
   go_wp2_with (
    go_at_call 117
    refine HC.out.mono ?_
    rintro e w2 ⟨rfl, hg⟩
    have HG2 := qd ((HG.out.trans (⟨rfl, rfl, rfl, Nat.le_refl _, fun _ _ _ => rfl⟩ : wr.grownBy wr.drew none)).trans hg)
    clear hg)
   go_roundw
   case rel => exact ⟨k + 1, by omega, by go_num, HG2.out⟩
   case measure => simp [intOf]; omega
  ·go_wp2
   go_ret
   exact ⟨rfl, HG.out⟩
theorem eqTerm_same (v1 v2 : Value) (x : List Nd) (w : World) (h1 : RdR nodeE w v1 x) (h2 : RdR nodeE w v2 x) (l1 : x.length ≤ 1000000000) :
 Calls Tryz.prog 45 #[.agg #[v1], .agg #[v2]] w fun e w' => e = .returned (.bool true) ∧ w.grownBy w' none := by
 have HG := qd fun W (h : w.grownBy W none) => eqNodeS_same v1 v2 x W (h1.carry h) (h2.carry h) l1
 obtain ⟨a1, c1, rfl⟩ := h1.shape
 obtain ⟨a2, c2, rfl⟩ := h2.shape
 generalize x.length = n1 at *
 clear h1 h2
 have HS0 := qd (((Sep.start w).boxAt w.heap.size rfl #[.slice a1 n1 c1] 44).boxAt (w.heap.size + 1) (by simp) #[.slice a2 n1 c2] 44)
 go_enter Tryz.func45, Tryz.ntmps45
 go_wp2_with (
  go_at_call 88
  refine (HG.out _ HS0.out.tl.tl.hd).mono ?_
  rintro e w4 ⟨rfl, hg⟩
  have HS1 := qd (HS0.out.grown hg)
  clear hg)
 go_ret
 exact ⟨rfl, HS1.out.tl.tl.hd⟩
theorem mk_set {gs : List Nd} {n k : Nat} (A : List Nd) (hA : A.length = k) (hl : gs.length = n) (hk : k < n) (y : Nd) : (A ++ gs.drop k).set k y = (A ++ [y]) ++ gs.drop (k + 1) := by
 rw [List.set_append_right _ _ (by omega), hA, Nat.sub_self, List.drop_eq_getElem_cons (by omega), List.set_cons_zero]
 simp
set_option maxHeartbeats 2000000 in
theorem markNodeS_any (a : Option Addr) (n c : Nat) (gs : List Nd) (k : Int) (w : World) (l : List Asrt) (hs : Sep w (OR nodeE (.slice a n c) gs :: l)) (hn : n = gs.length) (hl : n ≤ 2000000) (h0 : 0 ≤ k) (h1 : k ≤ 10000000) :
 Calls Tryz.prog 89 #[.slice a n c, .int .i64 k] w fun e w' => e = .returned (.int .i64 (k + 3 * n)) ∧ Sep w' l := by
 have HS := qd hs; have HL := qd hn.symm
 clear hs hn
 go_enter Tryz.func89, Tryz.ntmps89
 go_wp2_with fail
 go_loopw [1, 5] (fun kv i wr => ∃ (j : Nat) (q : Int) (A : List Nd), j ≤ n ∧ i = .int .i64 j ∧ kv = .int .i64 q ∧ q = k + 3 * (j : Int) ∧ A.length = j ∧ Sep wr (OR nodeE (.slice a n c) (A ++ gs.drop j) :: l)) (fun _ i _ => n - (intOf i).toNat)
 case atStart => exact ⟨0, k, [], by omega, rfl, rfl, by simp, rfl, by simpa using HS.out⟩
 case round =>
  obtain ⟨j, q, A, hj, rfl, rfl, hq, hA, hs⟩ := hrel
  have HSX := qd hs
  have HQ := qd hq
  have HA := qd hA
  by_cases hlt : j < n
  ·have hll : n = (A ++ gs.drop j).length := by rw [List.length_append, hA, List.length_drop, HL.out]; omega
   obtain ⟨g, cap, he, _, _, _⟩ := OwnR.parts HSX.out.hd (by rw [← hll]; omega)
   rw [← hll] at he
   cases he
   obtain ⟨f0, f1, f2⟩ := node_free HSX.out.hd hll j
   obtain ⟨y, d0, d1, d2⟩ := node_cellsQ HSX.out.hd hll (i := j) (by rw [← hll]; exact hlt)
   obtain ⟨q1, e1⟩ : ∃ q1, q1 = q + 1 := ⟨_, rfl⟩
   obtain ⟨q2, e2⟩ : ∃ q2, q2 = q1 + 1 := ⟨_, rfl⟩
   obtain ⟨q3, e3⟩ : ∃ q3, q3 = q2 + 1 := ⟨_, rfl⟩
   have hw : IntKind.i64.wrap (q + 1) = q1 := by rw [wrap_id (by omega) (by omega)]; exact e1.symm
   have hw1 : IntKind.i64.wrap (q1 + 1) = q2 := by rw [wrap_id (by omega) (by omega)]; exact e2.symm
   have hw2 : IntKind.i64.wrap (q2 + 1) = q3 := by rw [wrap_id (by omega) (by omega)]; exact e3.symm
   have HQ4 := qd (show q3 = k + 3 * ((j + 1 : Nat) : Int) by omega)
   have HM := qd fun W => markText_any q2 W (by omega) (by omega)
   have HMS := qd fun y => mk_set A hA HL.out hlt y
   clear f0 f1 f2 d0 d1 d2 y
   generalize A ++ gs.drop j = L at *
   have hi : j < L.length := by omega
   obtain ⟨z0, hz0⟩ : ∃ z, L[j] = z := ⟨_, rfl⟩
   have h1 := HSX.out.setR (E := nodeE) hll (i := j) (j := 0) (y := ⟨q, z0.v, z0.s⟩) (u := .int .i64 q) hi (by decide) (by rw [hz0]; rfl)
   have h2 := h1.setR (E := nodeE) (by simpa using hll) (i := j) (j := 1) (y := ⟨q, q1, z0.s⟩) (u := .int .i64 q1) (by simpa using hi) (by decide) (by simp [nodeE, nodeC])
   rw [List.set_set] at h2
   obtain ⟨f0, f1, f2⟩ := node_free HSX.out.hd hll j
   obtain ⟨y, d0, d1, d2⟩ := node_cellsQ HSX.out.hd hll (i := j) hi
   obtain ⟨_, f3, _⟩ := node_free h1.hd (by simpa using hll) j
   obtain ⟨y', _, d3, _⟩ := node_cellsQ h1.hd (by simpa using hll) (i := j) (by simpa using hi)
   have HS2 := qd (show Sep ((wr.setCell ⟨g, j * 3, none⟩ (.int .i64 q)).setCell ⟨g, j * 3 + 1, none⟩ (.int .i64 q1)) _ from h2)
   have HLL := qd hll
   have HI := qd hi
   clear hs hq hA hll e1 e2 e3 h1 h2 hz0 hi
   go_upto_region 8 with fail
   clear d0 d1 d2 d3 f0 f1 f2 f3
   generalize (wr.setCell ⟨g, j * 3, none⟩ (.int .i64 q)).setCell ⟨g, j * 3 + 1, none⟩ (.int .i64 q1) = w2 at *
   go_wp2_with (
    go_at_call 118
    with_reducible refine (HM.out _).mono ?_
    rintro e w3 ⟨⟨s, rfl⟩, hg⟩
    have h3 := HS2.out.grown hg
    have hl3 : n = (L.set j ⟨q, q1, z0.s⟩).length := by rw [List.length_set]; exact HLL.out
    have hi3 : j < (L.set j ⟨q, q1, z0.s⟩).length := by rw [List.length_set]; exact HI.out
    obtain ⟨_, _, f2⟩ := node_free h3.hd hl3 j
    obtain ⟨y3, _, _, d2⟩ := node_cellsQ h3.hd hl3 (i := j) hi3
    have h4 := h3.setR (E := nodeE) hl3 (i := j) (j := 2) (y := ⟨q, q1, s⟩) (u := .string s) hi3 (by decide) (by rw [List.getElem_set_self]; simp [nodeE, nodeC])
    rw [List.set_set, HMS.out] at h4
    have HS4 := qd (show Sep (w3.setCell ⟨g, j * 3 + 2, none⟩ (.string s)) (OR nodeE (.slice (some ⟨g, 0, none⟩) n c) ((A ++ [(⟨q, q1, s⟩ : Nd)]) ++ gs.drop (j + 1)) :: l) from h4)
    clear hg h3 h4 hl3 hi3)
   go_roundw
   case rel => exact ⟨j + 1, q3, A ++ [(⟨q, q1, s⟩ : Nd)], by omega, by go_num, rfl, HQ4.out, by rw [List.length_append, HA.out]; rfl, HS4.out⟩
   case measure => simp [intOf]; omega
  ·have hjn : j = n := by omega
   subst hjn
   clear hlt hs hq
   go_wp2_with fail
   go_ret
   exact ⟨by rw [HQ.out]; rfl, HSX.out.tl⟩
theorem markTerm_any (a : Option Addr) (n c : Nat) (gs : List Nd) (k : Int) (w : World) (l : List Asrt) (hs : Sep w (OR nodeE (.slice a n c) gs :: l)) (hn : n = gs.length) (hl : n ≤ 2000000) (h0 : 0 ≤ k) (h1 : k ≤ 10000000) :
 Calls Tryz.prog 48 #[.agg #[.slice a n c], .int .i64 k] w fun e w' => e = .returned (.int .i64 (k + 3 * n)) ∧ Sep w' l := by
 have HG := qd fun W l (h : Sep W (OR nodeE (.slice a n c) gs :: l)) => markNodeS_any a n c gs k W l h hn hl h0 h1
 have hs0 := (hs.boxAt w.heap.size rfl #[.slice a n c] 44)
 have x0 := cell_of_row _ _ 0 _ _ _ hs0.hd
 have HS0 := qd hs0.s2
 clear hs hs0 hn
 go_enter Tryz.func48, Tryz.ntmps48
 go_wp2_with (
  go_at_call 89
  with_reducible refine (HG.out _ _ HS0.out).mono ?_
  rintro e w4 ⟨rfl, hs⟩
  have HS1 := qd hs.tl
  clear hs)
 go_ret
 exact ⟨rfl, HS1.out⟩
abbrev nS0 : ByteArray := ⟨#[]⟩
def resL : List ByteArray := [⟨#[105, 100]⟩, ⟨#[115, 119, 97, 112]⟩, ⟨#[99, 111, 112, 121]⟩, ⟨#[100, 105, 115, 99, 97, 114, 100]⟩, ⟨#[97, 100, 100]⟩, ⟨#[122, 101, 114, 111]⟩, ⟨#[115, 99, 97, 108, 101]⟩, ⟨#[100, 101, 108, 97, 121]⟩, ⟨#[99, 111, 99, 111, 112, 121]⟩, ⟨#[99, 111, 100, 105, 115, 99, 97, 114, 100]⟩, ⟨#[99, 111, 97, 100, 100]⟩, ⟨#[99, 111, 122, 101, 114, 111]⟩, ⟨#[99, 111, 115, 99, 97, 108, 101]⟩, ⟨#[99, 111, 100, 101, 108, 97, 121]⟩]
def kwL : List ByteArray := ⟨#[]⟩ :: resL
def anyS (L : List ByteArray) (s : ByteArray) : Bool := L.any fun t => t.toList == s.toList
def resB (s : ByteArray) : Bool := anyS resL s
def loB (c : Int) : Bool := decide (97 ≤ c) && decide (c ≤ 122)
def diB (c : Int) : Bool := decide (48 ≤ c) && decide (c ≤ 57)
structure IsNm (s : ByteArray) : Prop where
 l1 : 1 ≤ s.size
 l2 : s.size ≤ 8
 lo : ∀ h : 0 < s.size, loB (s[0].toNat : Int) = true
 ld : ∀ (j : Nat) (h : j < s.size), (loB (s[j].toNat : Int) || diB (s[j].toNat : Int)) = true
 nr : resB s = false
noncomputable def nameB (s : ByteArray) : Bool := @decide (IsNm s) (Classical.propDecidable _)
theorem nameB_no {s : ByteArray} (h : ¬ IsNm s) : nameB s = false := by unfold nameB; exact @decide_eq_false _ (Classical.propDecidable _) h
theorem nameB_yes {s : ByteArray} (h : IsNm s) : nameB s = true := by unfold nameB; exact @decide_eq_true _ (Classical.propDecidable _) h
theorem isLower_any (c : Int) (w : World) : Calls Tryz.prog 137 #[.int .u8 c] w fun e w' => e = .returned (.bool (loB c)) ∧ w = w' := by
 unfold loB
 by_cases h1 : 97 ≤ c <;> by_cases h2 : c ≤ 122
 all_goals
  go_enter Tryz.func137, Tryz.ntmps137
  go_wp2_with fail
  go_ret
  exact ⟨by simp [h1, h2], rfl⟩
theorem isDigit_any (c : Int) (w : World) : Calls Tryz.prog 139 #[.int .u8 c] w fun e w' => e = .returned (.bool (diB c)) ∧ w = w' := by
 unfold diB
 by_cases h1 : 48 ≤ c <;> by_cases h2 : c ≤ 57
 all_goals
  go_enter Tryz.func139, Tryz.ntmps139
  go_wp2_with fail
  go_ret
  exact ⟨by simp [h1, h2], rfl⟩
theorem kindWords_any (w : World) : Calls Tryz.prog 150 #[] w fun e w' => e = .returned (.slice (some ⟨w.heap.size, 0, none⟩) 15 15) ∧ w' = w.alloc (.cells #[.string ⟨#[]⟩, .string ⟨#[105, 100]⟩, .string ⟨#[115, 119, 97, 112]⟩, .string ⟨#[99, 111, 112, 121]⟩, .string ⟨#[100, 105, 115, 99, 97, 114, 100]⟩, .string ⟨#[97, 100, 100]⟩, .string ⟨#[122, 101, 114, 111]⟩, .string ⟨#[115, 99, 97, 108, 101]⟩, .string ⟨#[100, 101, 108, 97, 121]⟩, .string ⟨#[99, 111, 99, 111, 112, 121]⟩, .string ⟨#[99, 111, 100, 105, 115, 99, 97, 114, 100]⟩, .string ⟨#[99, 111, 97, 100, 100]⟩, .string ⟨#[99, 111, 122, 101, 114, 111]⟩, .string ⟨#[99, 111, 115, 99, 97, 108, 101]⟩, .string ⟨#[99, 111, 100, 101, 108, 97, 121]⟩] 9) := by
 go_enter Tryz.func150, Tryz.ntmps150
 go_wp2_with fail
 go_ret
 exact ⟨rfl, rfl⟩
theorem lbReserved_any (w : World) : Calls Tryz.prog 128 #[] w fun e w' => e = .returned (.slice (some ⟨w.heap.size, 0, none⟩) 14 14) ∧ w' = w.alloc (.cells #[.string ⟨#[105, 100]⟩, .string ⟨#[115, 119, 97, 112]⟩, .string ⟨#[99, 111, 112, 121]⟩, .string ⟨#[100, 105, 115, 99, 97, 114, 100]⟩, .string ⟨#[97, 100, 100]⟩, .string ⟨#[122, 101, 114, 111]⟩, .string ⟨#[115, 99, 97, 108, 101]⟩, .string ⟨#[100, 101, 108, 97, 121]⟩, .string ⟨#[99, 111, 99, 111, 112, 121]⟩, .string ⟨#[99, 111, 100, 105, 115, 99, 97, 114, 100]⟩, .string ⟨#[99, 111, 97, 100, 100]⟩, .string ⟨#[99, 111, 122, 101, 114, 111]⟩, .string ⟨#[99, 111, 115, 99, 97, 108, 101]⟩, .string ⟨#[99, 111, 100, 101, 108, 97, 121]⟩] 9) := by
 go_enter Tryz.func128, Tryz.ntmps128
 go_wp2_with fail
 go_ret
 exact ⟨rfl, rfl⟩
theorem kw_cell (w : World) {k : Nat} (hk : k < 15) : (w.alloc (.cells #[.string ⟨#[]⟩, .string ⟨#[105, 100]⟩, .string ⟨#[115, 119, 97, 112]⟩, .string ⟨#[99, 111, 112, 121]⟩, .string ⟨#[100, 105, 115, 99, 97, 114, 100]⟩, .string ⟨#[97, 100, 100]⟩, .string ⟨#[122, 101, 114, 111]⟩, .string ⟨#[115, 99, 97, 108, 101]⟩, .string ⟨#[100, 101, 108, 97, 121]⟩, .string ⟨#[99, 111, 99, 111, 112, 121]⟩, .string ⟨#[99, 111, 100, 105, 115, 99, 97, 114, 100]⟩, .string ⟨#[99, 111, 97, 100, 100]⟩, .string ⟨#[99, 111, 122, 101, 114, 111]⟩, .string ⟨#[99, 111, 115, 99, 97, 108, 101]⟩, .string ⟨#[99, 111, 100, 101, 108, 97, 121]⟩] 9)).cell? ⟨w.heap.size, k, none⟩ = some (.string (kwL.getD k nS0)) := by
 have h := alloc_heap_new w (.cells #[.string ⟨#[]⟩, .string ⟨#[105, 100]⟩, .string ⟨#[115, 119, 97, 112]⟩, .string ⟨#[99, 111, 112, 121]⟩, .string ⟨#[100, 105, 115, 99, 97, 114, 100]⟩, .string ⟨#[97, 100, 100]⟩, .string ⟨#[122, 101, 114, 111]⟩, .string ⟨#[115, 99, 97, 108, 101]⟩, .string ⟨#[100, 101, 108, 97, 121]⟩, .string ⟨#[99, 111, 99, 111, 112, 121]⟩, .string ⟨#[99, 111, 100, 105, 115, 99, 97, 114, 100]⟩, .string ⟨#[99, 111, 97, 100, 100]⟩, .string ⟨#[99, 111, 122, 101, 114, 111]⟩, .string ⟨#[99, 111, 115, 99, 97, 108, 101]⟩, .string ⟨#[99, 111, 100, 101, 108, 97, 121]⟩] 9)
 match k, hk with
 | 0, _ => exact cell_of_row _ _ 0 _ _ _ h
 | 1, _ => exact cell_of_row _ _ 1 _ _ _ h
 | 2, _ => exact cell_of_row _ _ 2 _ _ _ h
 | 3, _ => exact cell_of_row _ _ 3 _ _ _ h
 | 4, _ => exact cell_of_row _ _ 4 _ _ _ h
 | 5, _ => exact cell_of_row _ _ 5 _ _ _ h
 | 6, _ => exact cell_of_row _ _ 6 _ _ _ h
 | 7, _ => exact cell_of_row _ _ 7 _ _ _ h
 | 8, _ => exact cell_of_row _ _ 8 _ _ _ h
 | 9, _ => exact cell_of_row _ _ 9 _ _ _ h
 | 10, _ => exact cell_of_row _ _ 10 _ _ _ h
 | 11, _ => exact cell_of_row _ _ 11 _ _ _ h
 | 12, _ => exact cell_of_row _ _ 12 _ _ _ h
 | 13, _ => exact cell_of_row _ _ 13 _ _ _ h
 | 14, _ => exact cell_of_row _ _ 14 _ _ _ h
theorem rs_cell (w : World) {k : Nat} (hk : k < 14) : (w.alloc (.cells #[.string ⟨#[105, 100]⟩, .string ⟨#[115, 119, 97, 112]⟩, .string ⟨#[99, 111, 112, 121]⟩, .string ⟨#[100, 105, 115, 99, 97, 114, 100]⟩, .string ⟨#[97, 100, 100]⟩, .string ⟨#[122, 101, 114, 111]⟩, .string ⟨#[115, 99, 97, 108, 101]⟩, .string ⟨#[100, 101, 108, 97, 121]⟩, .string ⟨#[99, 111, 99, 111, 112, 121]⟩, .string ⟨#[99, 111, 100, 105, 115, 99, 97, 114, 100]⟩, .string ⟨#[99, 111, 97, 100, 100]⟩, .string ⟨#[99, 111, 122, 101, 114, 111]⟩, .string ⟨#[99, 111, 115, 99, 97, 108, 101]⟩, .string ⟨#[99, 111, 100, 101, 108, 97, 121]⟩] 9)).cell? ⟨w.heap.size, k, none⟩ = some (.string (resL.getD k nS0)) := by
 have h := alloc_heap_new w (.cells #[.string ⟨#[105, 100]⟩, .string ⟨#[115, 119, 97, 112]⟩, .string ⟨#[99, 111, 112, 121]⟩, .string ⟨#[100, 105, 115, 99, 97, 114, 100]⟩, .string ⟨#[97, 100, 100]⟩, .string ⟨#[122, 101, 114, 111]⟩, .string ⟨#[115, 99, 97, 108, 101]⟩, .string ⟨#[100, 101, 108, 97, 121]⟩, .string ⟨#[99, 111, 99, 111, 112, 121]⟩, .string ⟨#[99, 111, 100, 105, 115, 99, 97, 114, 100]⟩, .string ⟨#[99, 111, 97, 100, 100]⟩, .string ⟨#[99, 111, 122, 101, 114, 111]⟩, .string ⟨#[99, 111, 115, 99, 97, 108, 101]⟩, .string ⟨#[99, 111, 100, 101, 108, 97, 121]⟩] 9)
 match k, hk with
 | 0, _ => exact cell_of_row _ _ 0 _ _ _ h
 | 1, _ => exact cell_of_row _ _ 1 _ _ _ h
 | 2, _ => exact cell_of_row _ _ 2 _ _ _ h
 | 3, _ => exact cell_of_row _ _ 3 _ _ _ h
 | 4, _ => exact cell_of_row _ _ 4 _ _ _ h
 | 5, _ => exact cell_of_row _ _ 5 _ _ _ h
 | 6, _ => exact cell_of_row _ _ 6 _ _ _ h
 | 7, _ => exact cell_of_row _ _ 7 _ _ _ h
 | 8, _ => exact cell_of_row _ _ 8 _ _ _ h
 | 9, _ => exact cell_of_row _ _ 9 _ _ _ h
 | 10, _ => exact cell_of_row _ _ 10 _ _ _ h
 | 11, _ => exact cell_of_row _ _ 11 _ _ _ h
 | 12, _ => exact cell_of_row _ _ 12 _ _ _ h
 | 13, _ => exact cell_of_row _ _ 13 _ _ _ h
theorem ba_tl {a b : ByteArray} (h : a = b) : (a.toList == b.toList) = true := by subst h; simp
theorem ba_tn {a b : ByteArray} (h : a ≠ b) : (a.toList == b.toList) = false := by
 rw [beq_eq_false_iff_ne]
 intro e
 rw [ByteArray.toList_eq, ByteArray.toList_eq] at e
 apply h
 obtain ⟨⟨x⟩⟩ := a
 obtain ⟨⟨y⟩⟩ := b
 simp only at e
 rw [e]
theorem not_mem_all {s : ByteArray} {L : List ByteArray} (h : ∀ j, j < L.length → L.getD j nS0 ≠ s) : anyS L s = false := by
 unfold anyS
 rw [List.any_eq_false]
 intro x hx
 obtain ⟨i, hi, e⟩ := List.getElem_of_mem hx
 have h2 := h i hi
 rw [List.getD_eq_getElem?_getD, List.getElem?_eq_getElem hi] at h2
 rw [← e, ba_tn (by simpa using h2)]
 simp
theorem mem_at {s : ByteArray} {L : List ByteArray} {j : Nat} (h : j < L.length) (e : L.getD j nS0 = s) : anyS L s = true := by
 unfold anyS
 rw [List.any_eq_true]
 rw [List.getD_eq_getElem?_getD, List.getElem?_eq_getElem h] at e
 exact ⟨L[j], List.getElem_mem _, ba_tl (by simpa using e)⟩
theorem any_kw {s : ByteArray} (h0 : 1 ≤ s.size) : anyS kwL s = resB s := by
 unfold resB kwL anyS
 rw [List.any_cons, ba_tn (by intro e; rw [← e] at h0; exact absurd h0 (by decide)), Bool.false_or]
theorem kindOf_any (s : ByteArray) (w : World) (h0 : 1 ≤ s.size) :
 Calls Tryz.prog 138 #[.string s] w fun e w' => (∃ r : Int, e = .returned (.int .i64 r) ∧ (r != 17) = resB s) ∧ w.grownBy w' none := by
 have HK := qd (kindWords_any w)
 have HC := qd fun (k : Nat) (hk : k < 15) => kw_cell w hk
 have HG := qd (grownBy_alloc w (.cells #[.string ⟨#[]⟩, .string ⟨#[105, 100]⟩, .string ⟨#[115, 119, 97, 112]⟩, .string ⟨#[99, 111, 112, 121]⟩, .string ⟨#[100, 105, 115, 99, 97, 114, 100]⟩, .string ⟨#[97, 100, 100]⟩, .string ⟨#[122, 101, 114, 111]⟩, .string ⟨#[115, 99, 97, 108, 101]⟩, .string ⟨#[100, 101, 108, 97, 121]⟩, .string ⟨#[99, 111, 99, 111, 112, 121]⟩, .string ⟨#[99, 111, 100, 105, 115, 99, 97, 114, 100]⟩, .string ⟨#[99, 111, 97, 100, 100]⟩, .string ⟨#[99, 111, 122, 101, 114, 111]⟩, .string ⟨#[99, 111, 115, 99, 97, 108, 101]⟩, .string ⟨#[99, 111, 100, 101, 108, 97, 121]⟩] 9) none)
 have H0 := qd h0
 clear h0
 go_enter Tryz.func138, Tryz.ntmps138
 go_upto_region 2 with (
  go_at_call 150
  with_reducible refine HK.out.mono ?_
  rintro e w2 ⟨rfl, hw⟩
  have HCW := qd fun (k : Nat) (hk : k < 15) => (show w2.cell? _ = _ from hw ▸ HC.out k hk)
  have HGW := qd (show w.grownBy w2 none from hw ▸ HG.out)
  clear hw HC HG HK)
 go_loopw [7] (fun i wr => ∃ k : Nat, k ≤ 15 ∧ i = .int .i64 k ∧ (∀ j, j < k → kwL.getD j nS0 ≠ s) ∧ wr = w2) (fun i _ => 15 - (intOf i).toNat)
 case atStart => exact ⟨0, by omega, rfl, fun j h => by omega, rfl⟩
 case round =>
  obtain ⟨k, hk, rfl, hn, rfl⟩ := hrel
  have HN := qd hn
  clear hn
  by_cases hlt : k < 15
  ·have hc := HCW.out k hlt
   have hki : (k : Int) < 15 := by omega
   have hk0 : (0 : Int) ≤ (k : Int) := by omega
   obtain ⟨t, ht⟩ : ∃ t, kwL.getD k nS0 = t := ⟨_, rfl⟩
   have HT := qd ht
   rw [ht] at hc
   clear ht
   by_cases he : t = s
   ·have hb := ba_tl he
    have HF := qd (show ((k : Int) != 17) = resB s from by
     rw [← any_kw H0.out, mem_at (L := kwL) hlt (HT.out.trans he)]
     simp; omega)
    clear he
    go_wp2_with fail
    go_ret
    exact ⟨⟨_, rfl, HF.out⟩, HGW.out⟩
   ·have hb := ba_tn he
    have HE := qd he
    clear he
    go_wp2_with fail
    go_roundw
    case rel => exact ⟨k + 1, by omega, by go_num, fun j hj => by
     by_cases hjk : j = k
     ·subst hjk; rw [HT.out]; exact HE.out
     ·exact HN.out j (by omega), trivial⟩
    case measure => simp [intOf]; omega
  ·have hkn : k = 15 := by omega
   subst hkn
   have HF := qd (show ((17 : Int) != 17) = resB s from by
    rw [← any_kw H0.out, not_mem_all (L := kwL) (fun j hj => HN.out j hj)]; rfl)
   clear hlt
   go_wp2_with fail
   go_ret
   exact ⟨⟨_, rfl, HF.out⟩, HGW.out⟩
theorem l1HasS_any (s : ByteArray) (w : World) :
 Calls Tryz.prog 127 #[.slice (some ⟨w.heap.size, 0, none⟩) 14 14, .string s] (w.alloc (.cells #[.string ⟨#[105, 100]⟩, .string ⟨#[115, 119, 97, 112]⟩, .string ⟨#[99, 111, 112, 121]⟩, .string ⟨#[100, 105, 115, 99, 97, 114, 100]⟩, .string ⟨#[97, 100, 100]⟩, .string ⟨#[122, 101, 114, 111]⟩, .string ⟨#[115, 99, 97, 108, 101]⟩, .string ⟨#[100, 101, 108, 97, 121]⟩, .string ⟨#[99, 111, 99, 111, 112, 121]⟩, .string ⟨#[99, 111, 100, 105, 115, 99, 97, 114, 100]⟩, .string ⟨#[99, 111, 97, 100, 100]⟩, .string ⟨#[99, 111, 122, 101, 114, 111]⟩, .string ⟨#[99, 111, 115, 99, 97, 108, 101]⟩, .string ⟨#[99, 111, 100, 101, 108, 97, 121]⟩] 9)) fun e w' => e = .returned (.bool (resB s)) ∧ w' = w.alloc (.cells #[.string ⟨#[105, 100]⟩, .string ⟨#[115, 119, 97, 112]⟩, .string ⟨#[99, 111, 112, 121]⟩, .string ⟨#[100, 105, 115, 99, 97, 114, 100]⟩, .string ⟨#[97, 100, 100]⟩, .string ⟨#[122, 101, 114, 111]⟩, .string ⟨#[115, 99, 97, 108, 101]⟩, .string ⟨#[100, 101, 108, 97, 121]⟩, .string ⟨#[99, 111, 99, 111, 112, 121]⟩, .string ⟨#[99, 111, 100, 105, 115, 99, 97, 114, 100]⟩, .string ⟨#[99, 111, 97, 100, 100]⟩, .string ⟨#[99, 111, 122, 101, 114, 111]⟩, .string ⟨#[99, 111, 115, 99, 97, 108, 101]⟩, .string ⟨#[99, 111, 100, 101, 108, 97, 121]⟩] 9) := by
 have HC := qd fun (k : Nat) (hk : k < 14) => rs_cell w hk
 obtain ⟨w2, hw2⟩ : ∃ x, w.alloc (.cells #[.string ⟨#[105, 100]⟩, .string ⟨#[115, 119, 97, 112]⟩, .string ⟨#[99, 111, 112, 121]⟩, .string ⟨#[100, 105, 115, 99, 97, 114, 100]⟩, .string ⟨#[97, 100, 100]⟩, .string ⟨#[122, 101, 114, 111]⟩, .string ⟨#[115, 99, 97, 108, 101]⟩, .string ⟨#[100, 101, 108, 97, 121]⟩, .string ⟨#[99, 111, 99, 111, 112, 121]⟩, .string ⟨#[99, 111, 100, 105, 115, 99, 97, 114, 100]⟩, .string ⟨#[99, 111, 97, 100, 100]⟩, .string ⟨#[99, 111, 122, 101, 114, 111]⟩, .string ⟨#[99, 111, 115, 99, 97, 108, 101]⟩, .string ⟨#[99, 111, 100, 101, 108, 97, 121]⟩] 9) = x := ⟨_, rfl⟩
 rw [hw2] at HC ⊢
 generalize w.heap.size = b at *
 clear hw2
 go_enter Tryz.func127, Tryz.ntmps127
 go_wp2_with fail
 go_loopw [9] (fun i wr => ∃ k : Nat, k ≤ 14 ∧ i = .int .i64 k ∧ (∀ j, j < k → resL.getD j nS0 ≠ s) ∧ wr = w2) (fun i _ => 14 - (intOf i).toNat)
 case atStart => exact ⟨0, by omega, rfl, fun j h => by omega, rfl⟩
 case round =>
  obtain ⟨k, hk, rfl, hn, rfl⟩ := hrel
  have HN := qd hn
  clear hn
  by_cases hlt : k < 14
  ·have hc := HC.out k hlt
   have hki : (k : Int) < 14 := by omega
   have hk0 : (0 : Int) ≤ (k : Int) := by omega
   obtain ⟨t, ht⟩ : ∃ t, resL.getD k nS0 = t := ⟨_, rfl⟩
   have HT := qd ht
   rw [ht] at hc
   clear ht
   by_cases he : t = s
   ·have hb := ba_tl he
    have HF := qd (show resB s = true from mem_at (L := resL) hlt (HT.out.trans he))
    clear he
    go_wp2_with fail
    go_ret
    exact ⟨by rw [HF.out]; rfl, rfl⟩
   ·have hb := ba_tn he
    have HE := qd he
    clear he
    go_wp2_with fail
    go_roundw
    case rel => exact ⟨k + 1, by omega, by go_num, fun j hj => by
     by_cases hjk : j = k
     ·subst hjk; rw [HT.out]; exact HE.out
     ·exact HN.out j (by omega), trivial⟩
    case measure => simp [intOf]; omega
  ·have hkn : k = 14 := by omega
   subst hkn
   have HF := qd (show resB s = false from not_mem_all (L := resL) (fun j hj => HN.out j hj))
   clear hlt
   go_wp2_with fail
   go_ret
   exact ⟨by rw [HF.out]; rfl, rfl⟩
set_option maxHeartbeats 1000000 in
theorem isName_any (s : ByteArray) (w : World) (hs : s.size ≤ 1000000000000) :
 Calls Tryz.prog 108 #[.string s] w fun e w' => e = .returned (.bool (nameB s)) ∧ w.grownBy w' none := by
 have HWI := qd fun W => within_any (s.size : Int) 1 8 W
 have HLO := qd fun c W => isLower_any c W
 have HDI := qd fun c W => isDigit_any c W
 obtain ⟨z, hz⟩ : ∃ z, s.size = z := ⟨_, rfl⟩
 by_cases hr : 1 ≤ (z : Int) ∧ (z : Int) ≤ 8
 ·rw [hz, decide_eq_true hr] at HWI
  have h0 : 0 < s.size := by omega
  have HKO := qd fun W => kindOf_any s W h0
  have hi0 : (0 : Int) < (z : Int) := by omega
  cases hl : loB (s[0].toNat : Int)
  ·have HF := qd (nameB_no (s := s) fun h => by have := h.lo h0; rw [hl] at this; cases this)
   go_enter Tryz.func108, Tryz.ntmps108
   go_wp2_with (first
    |(go_at_call 84
      with_reducible refine (HWI.out _).mono ?_
      rintro e w3 ⟨rfl, rfl⟩)
    |(go_at_call 137
      with_reducible refine (HLO.out _ _).mono ?_
      rintro e w4 ⟨rfl, rfl⟩))
   go_ret
   exact ⟨by rw [HF.out]; rfl, grownBy_refl _ _⟩
  ·cases hr2 : resB s
   ·have HLS := qd hl
    have HRS := qd hr2
    go_enter Tryz.func108, Tryz.ntmps108
    go_upto_region 4 with (first
    |(go_at_call 84
      with_reducible refine (HWI.out _).mono ?_
      rintro e w3 ⟨rfl, rfl⟩)
    |(go_at_call 137
      with_reducible refine (HLO.out _ _).mono ?_
      rintro e w4 ⟨rfl, rfl⟩)
    |(go_at_call 138
      with_reducible refine (HKO.out _).mono ?_
      rintro e w5 ⟨⟨r, rfl, hrr⟩, hg⟩
      rw [hr2] at hrr
      have HG5 := qd hg
      clear hg))
    go_loopw [21] (fun i wr => ∃ k : Nat, k ≤ z ∧ i = .int .i64 k ∧ (∀ (j : Nat) (h : j < s.size), j < k → (loB (s[j].toNat : Int) || diB (s[j].toNat : Int)) = true) ∧ w.grownBy wr none) (fun i _ => z - (intOf i).toNat)
    case atStart => exact ⟨0, by omega, rfl, fun j _ h => by omega, HG5.out⟩
    case round =>
     obtain ⟨k, hk, rfl, hn, hg⟩ := hrel
     have HN := qd hn; have HG := qd hg
     clear hn hg hl hr2 hrr
     by_cases hlt : k < z
     ·have hks : k < s.size := by omega
      have hki : (k : Int) < (z : Int) := by omega
      have hk0 : (0 : Int) ≤ (k : Int) := by omega
      cases h1 : loB (s[k].toNat : Int)
      ·cases h2 : diB (s[k].toNat : Int)
       ·have HF := qd (nameB_no (s := s) fun h => by have := h.ld k hks; rw [h1, h2] at this; cases this)
        go_wp2_with (first
         |(go_at_call 137
           with_reducible refine (HLO.out _ _).mono ?_
           rintro e w6 ⟨rfl, rfl⟩)
         |(go_at_call 139
           with_reducible refine (HDI.out _ _).mono ?_
           rintro e w7 ⟨rfl, rfl⟩))
        go_ret
        exact ⟨by rw [HF.out]; rfl, HG.out⟩
       ·have HB := qd (show (loB (s[k].toNat : Int) || diB (s[k].toNat : Int)) = true from by rw [h2]; simp)
        go_wp2_with (first
         |(go_at_call 137
           with_reducible refine (HLO.out _ _).mono ?_
           rintro e w6 ⟨rfl, rfl⟩)
         |(go_at_call 139
           with_reducible refine (HDI.out _ _).mono ?_
           rintro e w7 ⟨rfl, rfl⟩))
        go_roundw
        case rel => exact ⟨k + 1, by omega, by go_num, fun j hj hjk => by
         by_cases e : j = k
         ·subst e; exact HB.out
         ·exact HN.out j hj (by omega), HG.out⟩
        case measure => simp [intOf]; omega
      ·have HB := qd (show (loB (s[k].toNat : Int) || diB (s[k].toNat : Int)) = true from by rw [h1]; rfl)
       go_wp2_with (first
        |(go_at_call 137
          with_reducible refine (HLO.out _ _).mono ?_
          rintro e w6 ⟨rfl, rfl⟩)
        |(go_at_call 139
          with_reducible refine (HDI.out _ _).mono ?_
          rintro e w7 ⟨rfl, rfl⟩))
       go_roundw
       case rel => exact ⟨k + 1, by omega, by go_num, fun j hj hjk => by
        by_cases e : j = k
        ·subst e; exact HB.out
        ·exact HN.out j hj (by omega), HG.out⟩
       case measure => simp [intOf]; omega
     ·have hkz : k = z := by omega
      subst hkz
      have HF := qd (nameB_yes (s := s) ⟨h0, by omega, fun _ => HLS.out, fun j hj => HN.out j hj (by omega), HRS.out⟩)
      have hkk : ¬ (k : Int) < (k : Int) := by omega
      clear hlt
      go_wp2_with fail
      go_ret
      exact ⟨by rw [HF.out]; rfl, HG.out⟩
   ·have HF := qd (nameB_no (s := s) fun h => by have := h.nr; rw [hr2] at this; cases this)
    go_enter Tryz.func108, Tryz.ntmps108
    go_wp2_with (first
    |(go_at_call 84
      with_reducible refine (HWI.out _).mono ?_
      rintro e w3 ⟨rfl, rfl⟩)
    |(go_at_call 137
      with_reducible refine (HLO.out _ _).mono ?_
      rintro e w4 ⟨rfl, rfl⟩)
    |(go_at_call 138
      with_reducible refine (HKO.out _).mono ?_
      rintro e w5 ⟨⟨r, rfl, hrr⟩, hg⟩
      rw [hr2] at hrr
      have HG5 := qd hg
      clear hg))
    go_ret
    exact ⟨by rw [HF.out]; rfl, HG5.out⟩
 ·rw [hz, decide_eq_false hr] at HWI
  have HF := qd (nameB_no (s := s) fun h => hr (by have := h.l1; have := h.l2; omega))
  have HZ := qd hz
  clear hr
  go_enter Tryz.func108, Tryz.ntmps108
  go_wp2_with (
   go_at_call 84
   with_reducible refine (HWI.out _).mono ?_
   rintro e w3 ⟨rfl, rfl⟩)
  go_ret
  exact ⟨by rw [HF.out]; rfl, grownBy_refl _ _⟩
structure IsWd (s : ByteArray) : Prop where
 l1 : 1 ≤ s.size
 l2 : s.size ≤ 8
 lo : ∀ h : 0 < s.size, loB (s[0].toNat : Int) = true
 ld : ∀ (j : Nat) (h : j < s.size), (loB (s[j].toNat : Int) || diB (s[j].toNat : Int)) = true
noncomputable def wordB (s : ByteArray) : Bool := @decide (IsWd s) (Classical.propDecidable _)
theorem wordB_no {s : ByteArray} (h : ¬ IsWd s) : wordB s = false := by unfold wordB; exact @decide_eq_false _ (Classical.propDecidable _) h
theorem wordB_yes {s : ByteArray} (h : IsWd s) : wordB s = true := by unfold wordB; exact @decide_eq_true _ (Classical.propDecidable _) h
theorem wordB_iff {s : ByteArray} : wordB s = true ↔ IsWd s := ⟨(fun h => Classical.byContradiction fun hn => by rw [wordB_no hn] at h; cases h), wordB_yes⟩
theorem nameB_eq (s : ByteArray) : nameB s = (wordB s && !resB s) := by
 cases hw : wordB s
 ·exact nameB_no fun h => by rw [wordB_yes ⟨h.l1, h.l2, h.lo, h.ld⟩] at hw; cases hw
 ·have h := wordB_iff.1 hw
  cases hr : resB s
  ·exact nameB_yes ⟨h.l1, h.l2, h.lo, h.ld, hr⟩
  ·exact nameB_no fun h => by rw [h.nr] at hr; cases hr
set_option maxHeartbeats 1000000 in
theorem lbWord_any (s : ByteArray) (w : World) (hs : s.size ≤ 1000000000000) :
 Calls Tryz.prog 126 #[.string s] w fun e w' => e = .returned (.bool (wordB s)) ∧ w.grownBy w' none := by
 have HWI := qd fun W => l1In_any (s.size : Int) 1 8 W
 obtain ⟨z, hz⟩ : ∃ z, s.size = z := ⟨_, rfl⟩
 by_cases hr : 1 ≤ (z : Int) ∧ (z : Int) ≤ 8
 ·rw [hz, decide_eq_true hr] at HWI
  have h0 : 0 < s.size := by omega
  have hi0 : (0 : Int) < (z : Int) := by omega
  have HR := qd hr
  have key : ∀ c : Int, loB c = true ↔ ¬ c < 97 ∧ ¬ 122 < c := fun c => by unfold loB; simp
  by_cases ha : (s[0].toNat : Int) < 97
  ·have HF := qd (wordB_no (s := s) fun h => ((key _).1 (h.lo h0)).1 ha)
   clear hr key
   go_enter Tryz.func126, Tryz.ntmps126
   go_wp2_with (
    go_at_call 91
    with_reducible refine (HWI.out _).mono ?_
    rintro e w3 ⟨rfl, rfl⟩)
   go_ret
   exact ⟨by rw [HF.out]; rfl, grownBy_refl _ _⟩
  ·by_cases hb : (122 : Int) < (s[0].toNat : Int)
   ·have HF := qd (wordB_no (s := s) fun h => ((key _).1 (h.lo h0)).2 hb)
    clear hr key
    go_enter Tryz.func126, Tryz.ntmps126
    go_wp2_with (
     go_at_call 91
     with_reducible refine (HWI.out _).mono ?_
     rintro e w3 ⟨rfl, rfl⟩)
    go_ret
    exact ⟨by rw [HF.out]; rfl, grownBy_refl _ _⟩
   ·have HLS := qd (show loB (s[0].toNat : Int) = true from (key _).2 ⟨ha, hb⟩)
    have HKEY := qd key
    clear hr key
    go_enter Tryz.func126, Tryz.ntmps126
    go_upto_region 4 with (
     go_at_call 91
     with_reducible refine (HWI.out _).mono ?_
     rintro e w3 ⟨rfl, rfl⟩)
    go_loopw [3] (fun i wr => ∃ k : Nat, 1 ≤ k ∧ k ≤ z ∧ i = .int .i64 k ∧ (∀ (j : Nat) (h : j < s.size), j < k → (loB (s[j].toNat : Int) || diB (s[j].toNat : Int)) = true) ∧ w.grownBy wr none) (fun i _ => z - (intOf i).toNat)
    case atStart => exact ⟨1, by omega, by omega, rfl, fun j hj h => by
     obtain rfl : j = 0 := by omega
     rw [HLS.out]; rfl, grownBy_refl _ _⟩
    case round =>
     obtain ⟨k, hk1, hk, rfl, hn, hg⟩ := hrel
     have HN := qd hn; have HG := qd hg
     clear hn hg ha hb
     by_cases hlt : k < z
     ·have hks : k < s.size := by omega
      have hki : (k : Int) < (z : Int) := by omega
      have hk0 : (0 : Int) ≤ (k : Int) := by omega
      have kd : ∀ c : Int, diB c = true ↔ ¬ c < 48 ∧ ¬ 57 < c := fun c => by unfold diB; simp
      by_cases hlo : loB (s[k].toNat : Int) = true
      ·obtain ⟨c1, c2⟩ := (HKEY.out _).1 hlo
       have HB := qd (show (loB (s[k].toNat : Int) || diB (s[k].toNat : Int)) = true from by rw [hlo]; rfl)
       clear kd hlo
       go_wp2_with fail
       go_roundw
       case rel => exact ⟨k + 1, by omega, by omega, by go_num, fun j hj hjk => by
        by_cases e : j = k
        ·subst e; exact HB.out
        ·exact HN.out j hj (by omega), HG.out⟩
       case measure => simp [intOf]; omega
      ·have hno : (s[k].toNat : Int) < 97 ∨ (¬ (s[k].toNat : Int) < 97 ∧ 122 < (s[k].toNat : Int)) := by
        rcases Int.lt_or_le (s[k].toNat : Int) 97 with h | h
        ·exact Or.inl h
        ·rcases Int.lt_or_le 122 (s[k].toNat : Int) with h' | h'
         ·exact Or.inr ⟨by omega, h'⟩
         ·exact absurd ((HKEY.out _).2 ⟨by omega, by omega⟩) hlo
       by_cases hdi : diB (s[k].toNat : Int) = true
       ·obtain ⟨d1, d2⟩ := (kd _).1 hdi
        have HB := qd (show (loB (s[k].toNat : Int) || diB (s[k].toNat : Int)) = true from by rw [hdi]; simp)
        clear kd hlo hdi
        rcases hno with c1 | ⟨c1, c2⟩
        all_goals
         go_wp2_with fail
         go_roundw
         case rel => exact ⟨k + 1, by omega, by omega, by go_num, fun j hj hjk => by
          by_cases e : j = k
          ·subst e; exact HB.out
          ·exact HN.out j hj (by omega), HG.out⟩
         case measure => simp [intOf]; omega
       ·have HF := qd (wordB_no (s := s) fun h => by
         have h2 := h.ld k hks
         rw [Bool.or_eq_true] at h2
         rcases h2 with h2 | h2
         ·exact hlo h2
         ·exact hdi h2)
        have hdo : (s[k].toNat : Int) < 48 ∨ (¬ (s[k].toNat : Int) < 48 ∧ 57 < (s[k].toNat : Int)) := by
         rcases Int.lt_or_le (s[k].toNat : Int) 48 with h | h
         ·exact Or.inl h
         ·refine Or.inr ⟨by omega, ?_⟩
          rcases Int.lt_or_le 57 (s[k].toNat : Int) with h' | h'
          ·exact h'
          ·exact absurd ((kd _).2 ⟨by omega, by omega⟩) hdi
        clear kd hlo hdi
        rcases hno with c1 | ⟨c1, c2⟩ <;> rcases hdo with d1 | ⟨d1, d2⟩
        all_goals
         go_wp2_with fail
         go_ret
         exact ⟨by rw [HF.out]; rfl, HG.out⟩
     ·have hkz : k = z := by omega
      subst hkz
      have HF := qd (wordB_yes (s := s) ⟨h0, by have := HR.out; omega, fun _ => HLS.out, fun j hj => HN.out j hj (by omega)⟩)
      have hkk : ¬ (k : Int) < (k : Int) := by omega
      clear hlt
      go_wp2_with fail
      go_ret
      exact ⟨by rw [HF.out]; rfl, HG.out⟩
 ·rw [hz, decide_eq_false hr] at HWI
  have HF := qd (wordB_no (s := s) fun h => hr (by have := h.l1; have := h.l2; omega))
  clear hr
  go_enter Tryz.func126, Tryz.ntmps126
  go_wp2_with (
   go_at_call 91
   with_reducible refine (HWI.out _).mono ?_
   rintro e w3 ⟨rfl, rfl⟩)
  go_ret
  exact ⟨by rw [HF.out]; rfl, grownBy_refl _ _⟩
theorem lbName_any (s : ByteArray) (w : World) (hs : s.size ≤ 1000000000000) :
 Calls Tryz.prog 99 #[.string s] w fun e w' => e = .returned (.bool (nameB s)) ∧ w.grownBy w' none := by
 have HW := qd fun W => lbWord_any s W hs
 have HR := qd fun W => lbReserved_any W
 have HH := qd fun W => l1HasS_any s W
 have HNE := qd (nameB_eq s)
 obtain ⟨wb, hwb⟩ : ∃ x, wordB s = x := ⟨_, rfl⟩
 obtain ⟨rb, hrb⟩ : ∃ x, resB s = x := ⟨_, rfl⟩
 rw [hwb] at HW HNE
 rw [hrb] at HH HNE
 clear hwb hrb
 cases wb
 ·go_enter Tryz.func99, Tryz.ntmps99
  go_wp2_with (
   go_at_call 126
   with_reducible refine (HW.out _).mono ?_
   rintro e w3 ⟨rfl, hg⟩
   have HG3 := qd hg
   clear hg)
  go_ret
  exact ⟨by rw [HNE.out]; rfl, HG3.out⟩
 ·go_enter Tryz.func99, Tryz.ntmps99
  go_wp2_with (first
   |(go_at_call 126
     with_reducible refine (HW.out _).mono ?_
     rintro e w3 ⟨rfl, hg⟩
     have HG3 := qd hg
     clear hg)
   |(go_at_call 128
     with_reducible refine (HR.out _).mono ?_
     rintro e w4 ⟨rfl, hw⟩
     have HHW := qd (show Calls Tryz.prog 127 #[.slice (some ⟨w3.heap.size, 0, none⟩) 14 14, .string s] w4 (fun e w' => e = .returned (.bool rb) ∧ w' = w4) from by rw [hw]; exact HH.out w3)
     have HG4 := qd (show w.grownBy w4 none from grownBy_trans HG3.out (by rw [hw]; exact grownBy_alloc w3 _ none))
     clear hw)
   |(go_at_call 127
     with_reducible refine HHW.out.mono ?_
     rintro e w5 ⟨rfl, hw⟩
     have HG5 := qd (show w.grownBy w5 none from hw ▸ HG4.out)
     clear hw))
  go_ret
  exact ⟨by rw [HNE.out]; simp, HG5.out⟩
end Go.Proofs.YtjagjhchnpmngaaGreat

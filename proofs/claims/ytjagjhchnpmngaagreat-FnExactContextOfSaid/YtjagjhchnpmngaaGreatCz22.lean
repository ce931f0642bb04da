/-
 The graph of a list of nodes. Plain mathematics. Conditions: as each says.
-/
import Derived.Test.YtjagjhchnpmngaaGreatCz06
import Derived.Test.YtjagjhchnpmngaaGreatCz05
import Derived.Test.YtjagjhchnpmngaaGreatCz04
import Derived.Test.YtjagjhchnpmngaaGreatCz03
import Derived.Test.YtjagjhchnpmngaaGreatCz02
import Derived.Test.YtjagjhchnpmngaaGreatCz01
import Derived.Test.YtjagjhchnpmngaaGreatCz00
import Derived.Test.YtjagjhchnpmngaaGreatCz09
import Derived.Test.YtjagjhchnpmngaaGreatCz21
import Derived.BigQuiet
set_option linter.unusedVariables false
set_option linter.unusedSimpArgs false
set_option maxRecDepth 100000
namespace Go.Proofs.YtjagjhchnpmngaaGreat
open Go.RowKit
def okT (ns : List Nd) : Bool := match prun ns ns.length with
 | some (t :: _) => t.gB
 | _ => false
def grT (ns : List Nd) : Gr := match prun ns ns.length with
 | some (t :: _) => t.g
 | _ => gr0
theorem tree_eq {x : List Nd} {t : Tr} (h : prun x x.length = some [t]) : okT x = t.gB ∧ grT x = t.g ∧ tmT x = t.ty := by
 unfold okT grT tmT
 rw [h]
 exact ⟨rfl, rfl, rfl⟩
theorem grT_okB {x : List Nd} (h : tmB x = true) (hb : okT x = true) : grB (grT x) = true ∧ ((grT x).i.length : Int) = (tmT x).1 ∧ ((grT x).o.length : Int) = (tmT x).2 := by
 obtain ⟨_, t, hok, _, hp⟩ := tmB_tree h
 obtain ⟨e1, e2, e3⟩ := tree_eq hp
 rw [e1] at hb
 rw [e2, e3]
 exact Tr.g_ok hok hb
theorem leafS_name (k v : Int) (s : ByteArray) (w : World) (hs : s ≠ noS) : Calls Tryz.prog 119 #[.agg #[.int .i64 k, .int .i64 v, .string s]] w fun e w' => e = .returned (.bool false) ∧ w.grownBy w' none := by
 have hs0 := (Sep.start w).boxAt w.heap.size rfl #[.int .i64 k, .int .i64 v, .string s] 145
 obtain ⟨x0, x1, x2⟩ := bw3 hs0.hd
 have HKF := qd (show w.grownBy _ none from hs0.tl.hd)
 have hs1 := ba_ne hs
 clear hs0
 go_enter Tryz.func119, Tryz.ntmps119
 go_wp2_with fail
 go_ret
 exact ⟨rfl, HKF.out⟩
theorem leafS_out (k v : Int) (w : World) (hk : ¬ (1 ≤ k ∧ k ≤ 14)) : Calls Tryz.prog 119 #[.agg #[.int .i64 k, .int .i64 v, .string noS]] w fun e w' => e = .returned (.bool false) ∧ w.grownBy w' none := by
 have hs0 := (Sep.start w).boxAt w.heap.size rfl #[.int .i64 k, .int .i64 v, .string noS] 145
 obtain ⟨x0, x1, x2⟩ := bw3 hs0.hd
 have HKF := qd (show w.grownBy _ none from hs0.tl.hd)
 have HA := qd fun W => l1In_any k 1 14 W
 rw [decide_eq_false hk] at HA
 clear hs0 hk
 go_enter Tryz.func119, Tryz.ntmps119
 go_wp2_with (go_at_call 91; with_reducible refine (HA.out _).mono ?_; rintro e w3 ⟨rfl, rfl⟩)
 go_ret
 exact ⟨rfl, HKF.out⟩
theorem leafS_one (v : Int) (w : World) : Calls Tryz.prog 119 #[.agg #[.int .i64 1, .int .i64 v, .string noS]] w fun e w' => e = .returned (.bool (decide (0 ≤ v ∧ v ≤ 12))) ∧ w.grownBy w' none := by
 have hs0 := (Sep.start w).boxAt w.heap.size rfl #[.int .i64 1, .int .i64 v, .string noS] 145
 obtain ⟨x0, x1, x2⟩ := bw3 hs0.hd
 have HKF := qd (show w.grownBy _ none from hs0.tl.hd)
 have HA := qd fun W => l1In_any 1 1 14 W
 rw [decide_eq_true (show (1 : Int) ≤ 1 ∧ (1 : Int) ≤ 14 by omega)] at HA
 have HB := qd fun W => l1In_any v 0 12 W
 generalize decide (0 ≤ v ∧ v ≤ 12) = b at *
 clear hs0
 go_enter Tryz.func119, Tryz.ntmps119
 go_wp2_with (first
  |(go_at_call 91; with_reducible refine (HA.out _).mono ?_; rintro e w3 ⟨rfl, rfl⟩)
  |(go_at_call 91; with_reducible refine (HB.out _).mono ?_; rintro e w3 ⟨rfl, rfl⟩))
 go_ret
 exact ⟨rfl, HKF.out⟩
theorem leafS_two (v : Int) (w : World) : Calls Tryz.prog 119 #[.agg #[.int .i64 2, .int .i64 v, .string noS]] w fun e w' => e = .returned (.bool (decide (v = 0))) ∧ w.grownBy w' none := by
 have hs0 := (Sep.start w).boxAt w.heap.size rfl #[.int .i64 2, .int .i64 v, .string noS] 145
 obtain ⟨x0, x1, x2⟩ := bw3 hs0.hd
 have HKF := qd (show w.grownBy _ none from hs0.tl.hd)
 have HA := qd fun W => l1In_any 2 1 14 W
 rw [decide_eq_true (show (1 : Int) ≤ 2 ∧ (2 : Int) ≤ 14 by omega)] at HA
 have hd : (v == 0) = decide (v = 0) := by by_cases h : v = 0 <;> simp [h]
 generalize decide (v = 0) = b at *
 clear hs0
 go_enter Tryz.func119, Tryz.ntmps119
 go_wp2_with (go_at_call 91; with_reducible refine (HA.out _).mono ?_; rintro e w3 ⟨rfl, rfl⟩)
 go_ret
 exact ⟨rfl, HKF.out⟩
theorem leafS_any (n : Nd) (w : World) : Calls Tryz.prog 119 #[.agg #[.int .i64 n.k, .int .i64 n.v, .string n.s]] w fun e w' => e = .returned (.bool (lfB n)) ∧ w.grownBy w' none := by
 by_cases hs : n.s = noS
 ·by_cases h1 : n.k = 1
  ·rw [lfB_one hs h1, hs, h1]
   exact leafS_one n.v w
  ·by_cases h2 : n.k = 2
   ·rw [lfB_two hs h2, hs, h2]
    exact leafS_two n.v w
   ·cases hk : inB n.k 3 14
    ·rw [lfB_no h1 h2 hk, hs]
     exact leafS_out n.k n.v w (fun h => by
      have h3 : inB n.k 3 14 = true := inB_iff.2 (by omega)
      rw [hk] at h3; cases h3)
    ·rw [lfB_gen hs hk, hs]
     exact tmLeaf_any n.k n.v w hk
 ·rw [lfB_name hs]
  exact leafS_name n.k n.v n.s w hs
theorem kind_two (w : World) : Calls Tryz.prog 120 #[.int .i64 2] w fun e w' => e = .returned (.tuple #[.int .i64 2, .int .i64 2]) ∧ w' = w := by
 go_enter Tryz.func120, Tryz.ntmps120
 go_wp2_with fail
 refine bodyPost_ret_by (v := .tuple #[.int .i64 _, .int .i64 _]) ?_ rfl ⟨rfl, rfl⟩
 simp [results, go_sem, *]
theorem kind_name (w : World) : Calls Tryz.prog 120 #[.int .i64 17] w fun e w' => e = .returned (.tuple #[.int .i64 1, .int .i64 1]) ∧ w' = w := by
 go_enter Tryz.func120, Tryz.ntmps120
 go_wp2_with fail
 refine bodyPost_ret_by (v := .tuple #[.int .i64 _, .int .i64 _]) ?_ rfl ⟨rfl, rfl⟩
 simp [results, go_sem, *]
theorem ari_one (v : Int) (s : ByteArray) (w : World) : Calls Tryz.prog 153 #[.agg #[.int .i64 1, .int .i64 v, .string s]] w fun e w' => e = .returned (.tuple #[.int .i64 v, .int .i64 v]) ∧ w.grownBy w' none := by
 have hs0 := (Sep.start w).boxAt w.heap.size rfl #[.int .i64 1, .int .i64 v, .string s] 145
 obtain ⟨x0, x1, x2⟩ := bw3 hs0.hd
 have HS0 := qd hs0
 clear hs0
 go_enter Tryz.func153, Tryz.ntmps153
 go_upto_region 2 with fail
 generalize w.alloc (.cells #[.int .i64 1, .int .i64 v, .string s] 145) = w4 at *
 have X1 := qd x1
 refine AnyL.start (fun W1 => W1.cell? ⟨w.heap.size, 1, none⟩ = some (.int .i64 v)) (fun _ => True) 99 (by kernel_rfl) ?_
 have Y1 := qd (show w4.drew.cell? ⟨w.heap.size, 1, none⟩ = some (.int .i64 v) from X1.out)
 have HKD := qd (show w.grownBy w4.drew none from HS0.out.dr.tl.hd)
 generalize w4.drew = w5 at *
 refine AnyL.tT 0 (by exact Y1.out) ?_
 refine AnyL.tT 1 (by exact Y1.out) ?_
 refine AnyL.tT 2 (by exact Y1.out) ?_
 refine AnyL.tT 3 (by exact Y1.out) ?_
 refine AnyL.tT 4 (by exact Y1.out) ?_
 refine AnyL.tT 5 (by exact Y1.out) ?_
 refine AnyL.done (by kernel_rfl) ?_ _
 go_wp2_with fail
 refine bodyPost_ret_by (v := .tuple #[.int .i64 v, .int .i64 v]) ?_ rfl ⟨rfl, HKD.out⟩
 simp [results, go_sem, *]
theorem ari_other (k v p q : Int) (s : ByteArray) (w : World) (hk : k ≠ 1) (hc : ∀ W, Calls Tryz.prog 120 #[.int .i64 k] W fun e w' => e = .returned (.tuple #[.int .i64 p, .int .i64 q]) ∧ w' = W) : Calls Tryz.prog 153 #[.agg #[.int .i64 k, .int .i64 v, .string s]] w fun e w' => e = .returned (.tuple #[.int .i64 p, .int .i64 q]) ∧ w.grownBy w' none := by
 have hs0 := (Sep.start w).boxAt w.heap.size rfl #[.int .i64 k, .int .i64 v, .string s] 145
 obtain ⟨x0, x1, x2⟩ := bw3 hs0.hd
 have HKF := qd (show w.grownBy _ none from hs0.tl.hd)
 have HC := qd hc
 have hk1 : (k == 1) = false := by simpa using hk
 clear hs0 hk hc
 go_enter Tryz.func153, Tryz.ntmps153
 go_wp2_with (go_at_call 120; with_reducible refine (HC.out _).mono ?_; rintro e w3 ⟨rfl, rfl⟩)
 refine bodyPost_ret_by (v := .tuple #[.int .i64 p, .int .i64 q]) ?_ rfl ⟨rfl, HKF.out⟩
 simp [results, go_sem, *]
theorem ari_any (n : Nd) (w : World) (h : lfB n = true) : Calls Tryz.prog 153 #[.agg #[.int .i64 n.k, .int .i64 n.v, .string n.s]] w fun e w' => e = .returned (.tuple #[.int .i64 (lfTy n).1, .int .i64 (lfTy n).2]) ∧ w.grownBy w' none := by
 by_cases h1 : n.k = 1
 ·rw [show lfTy n = (n.v, n.v) from if_pos h1, h1]
  exact ari_one n.v n.s w
 ·by_cases h2 : n.k = 2
  ·rw [show lfTy n = (2, 2) from (if_neg h1).trans (if_pos h2), h2]
   exact ari_other 2 n.v 2 2 n.s w (by decide) kind_two
  ·have hk : inB n.k 3 14 = true := by
    unfold lfB lfV at h
    rw [if_neg h1, if_neg h2, Bool.and_eq_true, Bool.and_eq_true] at h
    exact h.2.1
   rw [lfTy_gen hk]
   exact ari_other n.k n.v _ _ n.s w h1 (fun W => tmKind_any n.k W hk)
theorem find_nil (s : ByteArray) (w : World) : Calls Tryz.prog 154 #[.slice none 0 0, .string s] w fun e w' => e = .returned (.int .i64 (-1)) ∧ w.grownBy w' none := by
 go_enter Tryz.func154, Tryz.ntmps154
 go_wp2_with fail
 go_loopw [5, 6, 9] (fun _ _ s9 wr => s9 = .int .i64 0 ∧ w.grownBy wr none) (fun _ _ _ _ => 0)
 case atStart => exact ⟨rfl, grownBy_refl _ _⟩
 case round =>
  obtain ⟨rfl, hg⟩ := hrel
  have HG := qd hg
  clear hg
  go_wp2_with fail
  go_ret
  exact ⟨rfl, HG.out⟩
end Go.Proofs.YtjagjhchnpmngaaGreat

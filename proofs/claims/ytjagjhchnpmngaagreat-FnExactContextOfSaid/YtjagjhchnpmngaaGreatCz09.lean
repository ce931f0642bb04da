/-
 The typing of terms, in the program. Conditions: lengths are small.
-/
import Derived.Test.YtjagjhchnpmngaaGreatCz06
import Derived.Test.YtjagjhchnpmngaaGreatCz05
import Derived.Test.YtjagjhchnpmngaaGreatCz04
import Derived.Test.YtjagjhchnpmngaaGreatCz03
import Derived.Test.YtjagjhchnpmngaaGreatCz02
import Derived.Test.YtjagjhchnpmngaaGreatCz01
import Derived.Test.YtjagjhchnpmngaaGreatCz07
import Derived.Test.YtjagjhchnpmngaaGreatCz00
import Derived.Laws.Strings
set_option linter.unusedVariables false
set_option linter.unusedSimpArgs false
set_option maxRecDepth 100000
namespace Go.Proofs.YtjagjhchnpmngaaGreat
open Go.RowKit
theorem bw2 {w : World} {k : Nat} {x y : Value} {t : TypeId} (h : w.heap[k]? = some (.cells #[x, y] t (0, 0))) : w.cell? ⟨k, 0, none⟩ = some x ∧ w.cell? ⟨k, 1, none⟩ = some y ∧ w.frozen? ⟨k, 0, none⟩ = false ∧ w.frozen? ⟨k, 1, none⟩ = false :=
 ⟨cell_of_row w k 0 _ _ _ h, cell_of_row w k 1 _ _ _ h, frozen_of_row w k 0 _ _ h, frozen_of_row w k 1 _ _ h⟩
theorem bw3 {w : World} {k : Nat} {x y z : Value} {t : TypeId} (h : w.heap[k]? = some (.cells #[x, y, z] t (0, 0))) : w.cell? ⟨k, 0, none⟩ = some x ∧ w.cell? ⟨k, 1, none⟩ = some y ∧ w.cell? ⟨k, 2, none⟩ = some z :=
 ⟨cell_of_row w k 0 _ _ _ h, cell_of_row w k 1 _ _ _ h, cell_of_row w k 2 _ _ _ h⟩
theorem ba_ne {s : ByteArray} (h : s ≠ noS) : s.toList.isEmpty = false := by
 rw [ByteArray.toList_eq]
 obtain ⟨⟨l⟩⟩ := s
 cases l with
 | nil => exact absurd rfl h
 | cons x r => rfl
def TyR (b : Bool) (p : Int × Int) (w : World) (e : Ending) (w' : World) : Prop :=
 (∃ q : Int × Int, e = .returned (.tuple #[.agg #[.int .i64 q.1, .int .i64 q.2], .bool b]) ∧ (b = true → q = p)) ∧ w.grownBy w' none
theorem lfB_name {n : Nd} (h : n.s ≠ noS) : lfB n = false := by unfold lfB; rw [decide_eq_false h]; rfl
theorem lfB_one {n : Nd} (hs : n.s = noS) (h : n.k = 1) : lfB n = decide (0 ≤ n.v ∧ n.v ≤ 12) := by unfold lfB lfV; rw [decide_eq_true hs, if_pos h, Bool.true_and]
theorem lfB_two {n : Nd} (hs : n.s = noS) (h : n.k = 2) : lfB n = decide (n.v = 0) := by unfold lfB lfV; rw [decide_eq_true hs, if_neg (by omega), if_pos h, Bool.true_and]
theorem lfB_gen {n : Nd} (hs : n.s = noS) (h : inB n.k 3 14 = true) : lfB n = valB n.k n.v := by
 have h2 := h
 rw [inB_iff] at h2
 unfold lfB lfV
 rw [decide_eq_true hs, if_neg (by omega), if_neg (by omega), h, Bool.true_and, Bool.true_and]
theorem lfB_no {n : Nd} (h1 : n.k ≠ 1) (h2 : n.k ≠ 2) (h : inB n.k 3 14 = false) : lfB n = false := by
 unfold lfB lfV
 rw [if_neg h1, if_neg h2, h, Bool.false_and, Bool.and_false]
theorem lfTy_gen {n : Nd} (h : inB n.k 3 14 = true) : lfTy n = (((edW n.k).1 : Int), ((edW n.k).2 : Int)) := by
 rw [inB_iff] at h
 unfold lfTy
 rw [if_neg (by omega), if_neg (by omega)]
set_option maxHeartbeats 2000000 in
theorem leafW_name (k v : Int) (s : ByteArray) (w : World) (hs : s ≠ noS) : Calls Tryz.prog 136 #[.agg #[.int .i64 k, .int .i64 v, .string s]] w (TyR false (0, 0) w) := by
 have hs0 := ((Sep.start w).boxAt w.heap.size rfl #[.int .i64 k, .int .i64 v, .string s] 145).boxAt (w.heap.size + 1) (by simp) #[.int .i64 0, .int .i64 0] 149
 have HS0 := qd hs0
 obtain ⟨x0, x1, x2⟩ := bw3 hs0.tl.hd
 obtain ⟨y0, y1, f0, f1⟩ := bw2 hs0.hd
 clear hs0
 have HKF := qd (show w.grownBy _ none from HS0.out.tl.tl.hd)
 have hs1 := ba_ne hs
 go_enter Tryz.func136, Tryz.ntmps136
 go_wp2_with fail
 refine bodyPost_ret_by (v := .tuple #[.agg #[.int .i64 0, .int .i64 0], .bool false]) ?_ rfl ⟨⟨(0, 0), rfl, fun h => by cases h⟩, HKF.out⟩
 simp [results, go_sem, *]
set_option maxHeartbeats 2000000 in
theorem leafW_one (v : Int) (w : World) : Calls Tryz.prog 136 #[.agg #[.int .i64 1, .int .i64 v, .string noS]] w (TyR (decide (0 ≤ v ∧ v ≤ 12)) (v, v) w) := by
 have hs0 := ((Sep.start w).boxAt w.heap.size rfl #[.int .i64 1, .int .i64 v, .string noS] 145).boxAt (w.heap.size + 1) (by simp) #[.int .i64 0, .int .i64 0] 149
 have HS0 := qd hs0
 obtain ⟨x0, x1, x2⟩ := bw3 hs0.tl.hd
 obtain ⟨y0, y1, f0, f1⟩ := bw2 hs0.hd
 clear hs0
 have HBM := qd fun (W1 : World) (L : List Asrt) (h : Sep W1 L) (h1 : BxA w.heap.size #[.int .i64 1, .int .i64 v, .string noS] 145 ∈ L) => show W1.cell? ⟨w.heap.size, 0, none⟩ = some (.int .i64 1) ∧ W1.cell? ⟨w.heap.size, 1, none⟩ = some (.int .i64 v) from by
  obtain ⟨a0, a1, _⟩ := bw3 (show W1.heap[w.heap.size]? = some (.cells #[.int .i64 1, .int .i64 v, .string noS] 145 (0, 0)) from Sep.all h _ h1)
  exact ⟨a0, a1⟩
 have HW := qd fun W => within_any v 0 12 W
 generalize decide (0 ≤ v ∧ v ≤ 12) = b at *
 go_enter Tryz.func136, Tryz.ntmps136
 go_upto_region 4 with fail
 generalize (w.alloc (.cells #[.int .i64 1, .int .i64 v, .string noS] 145)).alloc (.cells #[.int .i64 0, .int .i64 0] 149) = w4 at *
 clear x0 x1 x2 y0 y1 f0 f1
 have HSD := qd HS0.out.dr
 refine AnyL.start (fun W1 => W1.cell? ⟨w.heap.size, 0, none⟩ = some (.int .i64 1) ∧ W1.cell? ⟨w.heap.size, 1, none⟩ = some (.int .i64 v)) (fun _ => True) 99 (by kernel_rfl) ?_
 refine AnyL.tT 0 (by exact HBM.out _ _ HSD.out (by simp)) ?_
 refine AnyL.tT 1 (by exact HBM.out _ _ HSD.out (by simp)) ?_
 refine AnyL.tT 2 (by exact HBM.out _ _ HSD.out (by simp)) ?_
 refine AnyL.tT 3 (by exact HBM.out _ _ HSD.out (by simp)) ?_
 refine AnyL.tT 4 (by exact HBM.out _ _ HSD.out (by simp)) ?_
 refine AnyL.tT 5 (by exact HBM.out _ _ HSD.out (by simp)) ?_
 refine AnyL.tT 6 (by exact HBM.out _ _ HSD.out (by simp)) ?_
 refine AnyL.step (i := 7) (by kernel_rfl) (by rfl) (fun K hK => ?_)
 go_simp
 go_at_call 84
 with_reducible refine (HW.out _).mono ?_
 rintro e w5 ⟨rfl, rfl⟩
 refine shutNx hK _ (by exact HBM.out _ _ HSD.out (by simp)) (by exact fun _ => trivial) ?_
 clear hK K
 obtain ⟨y0, y1, f0, f1⟩ := bw2 HS0.out.hd
 have HS5 := qd ((HSD.out.setB 0 (.int .i64 v)).setB 1 (.int .i64 v))
 refine AnyL.step (i := 8) (by kernel_rfl) (by rfl) (fun K hK => ?_)
 go_simp
 refine shutNx hK ((w4.drew.setCell ⟨w.heap.size + 1, 0, none⟩ (.int .i64 v)).setCell ⟨w.heap.size + 1, 1, none⟩ (.int .i64 v)) (by exact HBM.out _ _ HS5.out (by simp)) (by exact fun _ => trivial) ?_
 clear hK K
 clear y0 y1 f0 f1
 refine AnyL.tT 9 (by exact HBM.out _ _ HS5.out (by simp)) ?_
 refine AnyL.done (by kernel_rfl) ?_ _
 generalize ((w4.drew.setCell ⟨w.heap.size + 1, 0, none⟩ (.int .i64 v)).setCell ⟨w.heap.size + 1, 1, none⟩ (.int .i64 v)) = w9 at *
 obtain ⟨y0, y1, _, _⟩ := bw2 HS5.out.hd
 have HKF := qd (show w.grownBy _ none from HS5.out.tl.tl.hd)
 go_wp2_with fail
 refine bodyPost_ret_by (v := .tuple #[.agg #[.int .i64 v, .int .i64 v], .bool b]) ?_ rfl ⟨⟨_, rfl, fun _ => rfl⟩, HKF.out⟩
 simp [results, go_sem, *]
set_option maxHeartbeats 2000000 in
theorem leafW_two (v : Int) (w : World) : Calls Tryz.prog 136 #[.agg #[.int .i64 2, .int .i64 v, .string noS]] w (TyR (decide (v = 0)) (2, 2) w) := by
 have hs0 := ((Sep.start w).boxAt w.heap.size rfl #[.int .i64 2, .int .i64 v, .string noS] 145).boxAt (w.heap.size + 1) (by simp) #[.int .i64 0, .int .i64 0] 149
 have HS0 := qd hs0
 obtain ⟨x0, x1, x2⟩ := bw3 hs0.tl.hd
 obtain ⟨y0, y1, f0, f1⟩ := bw2 hs0.hd
 clear hs0
 have HBM := qd fun (W1 : World) (L : List Asrt) (h : Sep W1 L) (h1 : BxA w.heap.size #[.int .i64 2, .int .i64 v, .string noS] 145 ∈ L) => show W1.cell? ⟨w.heap.size, 0, none⟩ = some (.int .i64 2) ∧ W1.cell? ⟨w.heap.size, 1, none⟩ = some (.int .i64 v) from by
  obtain ⟨a0, a1, _⟩ := bw3 (show W1.heap[w.heap.size]? = some (.cells #[.int .i64 2, .int .i64 v, .string noS] 145 (0, 0)) from Sep.all h _ h1)
  exact ⟨a0, a1⟩
 have HD := qd (show (v == 0) = decide (v = 0) from by by_cases h : v = 0 <;> simp [h])
 have hd := HD.out
 generalize decide (v = 0) = b at *
 go_enter Tryz.func136, Tryz.ntmps136
 go_upto_region 6 with fail
 generalize (w.alloc (.cells #[.int .i64 2, .int .i64 v, .string noS] 145)).alloc (.cells #[.int .i64 0, .int .i64 0] 149) = w4 at *
 clear x0 x1 x2 y0 y1 f0 f1
 have HSD := qd HS0.out.dr
 refine AnyL.start (fun W1 => W1.cell? ⟨w.heap.size, 0, none⟩ = some (.int .i64 2) ∧ W1.cell? ⟨w.heap.size, 1, none⟩ = some (.int .i64 v)) (fun _ => True) 99 (by kernel_rfl) ?_
 refine AnyL.tT 0 (by exact HBM.out _ _ HSD.out (by simp)) ?_
 refine AnyL.tT 1 (by exact HBM.out _ _ HSD.out (by simp)) ?_
 refine AnyL.tT 2 (by exact HBM.out _ _ HSD.out (by simp)) ?_
 refine AnyL.tT 3 (by exact HBM.out _ _ HSD.out (by simp)) ?_
 obtain ⟨y0, y1, f0, f1⟩ := bw2 HS0.out.hd
 have HS5 := qd ((HSD.out.setB 0 (.int .i64 2)).setB 1 (.int .i64 2))
 refine AnyL.step (i := 4) (by kernel_rfl) (by rfl) (fun K hK => ?_)
 go_simp
 refine shutNx hK ((w4.drew.setCell ⟨w.heap.size + 1, 0, none⟩ (.int .i64 2)).setCell ⟨w.heap.size + 1, 1, none⟩ (.int .i64 2)) (by exact HBM.out _ _ HS5.out (by simp)) (by exact fun _ => trivial) ?_
 clear hK K
 clear y0 y1 f0 f1
 refine AnyL.tT 5 (by exact HBM.out _ _ HS5.out (by simp)) ?_
 refine AnyL.done (by kernel_rfl) ?_ _
 generalize ((w4.drew.setCell ⟨w.heap.size + 1, 0, none⟩ (.int .i64 2)).setCell ⟨w.heap.size + 1, 1, none⟩ (.int .i64 2)) = w9 at *
 obtain ⟨y0, y1, _, _⟩ := bw2 HS5.out.hd
 have HKF := qd (show w.grownBy _ none from HS5.out.tl.tl.hd)
 go_wp2_with fail
 refine bodyPost_ret_by (v := .tuple #[.agg #[.int .i64 2, .int .i64 2], .bool b]) ?_ rfl ⟨⟨_, rfl, fun _ => rfl⟩, HKF.out⟩
 simp [results, go_sem, *]
set_option maxHeartbeats 2000000 in
theorem leafW_gen (k v : Int) (w : World) (hk : inB k 3 14 = true) : Calls Tryz.prog 136 #[.agg #[.int .i64 k, .int .i64 v, .string noS]] w (TyR (valB k v) (((edW k).1 : Int), ((edW k).2 : Int)) w) := by
 have hs0 := ((Sep.start w).boxAt w.heap.size rfl #[.int .i64 k, .int .i64 v, .string noS] 145).boxAt (w.heap.size + 1) (by simp) #[.int .i64 0, .int .i64 0] 149
 have HS0 := qd hs0
 obtain ⟨x0, x1, x2⟩ := bw3 hs0.tl.hd
 obtain ⟨y0, y1, f0, f1⟩ := bw2 hs0.hd
 clear hs0
 have HBM := qd fun (W1 : World) (L : List Asrt) (h : Sep W1 L) (h1 : BxA w.heap.size #[.int .i64 k, .int .i64 v, .string noS] 145 ∈ L) => show W1.cell? ⟨w.heap.size, 0, none⟩ = some (.int .i64 k) ∧ W1.cell? ⟨w.heap.size, 1, none⟩ = some (.int .i64 v) from by
  obtain ⟨a0, a1, _⟩ := bw3 (show W1.heap[w.heap.size]? = some (.cells #[.int .i64 k, .int .i64 v, .string noS] 145 (0, 0)) from Sep.all h _ h1)
  exact ⟨a0, a1⟩
 have HA := qd fun W => isGenerator_any k W
 rw [hk] at HA
 have HG := qd fun W => generatorWires_any k W hk
 have HV := qd fun W => isGeneratorValue_any k v W
 rw [inB_iff] at hk
 have h1 : (k == 1) = false := by simp; omega
 have h2 : (k == 2) = false := by simp; omega
 generalize valB k v = b at *
 obtain ⟨a, ha⟩ : ∃ a : Int, ((edW k).1 : Int) = a := ⟨_, rfl⟩
 obtain ⟨c, hc⟩ : ∃ a : Int, ((edW k).2 : Int) = a := ⟨_, rfl⟩
 rw [ha, hc] at HG ⊢
 clear ha hc hk
 go_enter Tryz.func136, Tryz.ntmps136
 go_upto_region 8 with (
  go_at_call 114
  with_reducible refine (HA.out _).mono ?_
  rintro e w3 ⟨rfl, rfl⟩)
 generalize (w.alloc (.cells #[.int .i64 k, .int .i64 v, .string noS] 145)).alloc (.cells #[.int .i64 0, .int .i64 0] 149) = w4 at *
 clear x0 x1 x2 y0 y1 f0 f1
 have HSD := qd HS0.out.dr
 refine AnyL.start (fun W1 => W1.cell? ⟨w.heap.size, 0, none⟩ = some (.int .i64 k) ∧ W1.cell? ⟨w.heap.size, 1, none⟩ = some (.int .i64 v)) (fun _ => True) 99 (by kernel_rfl) ?_
 refine AnyL.tT 0 (by exact HBM.out _ _ HSD.out (by simp)) ?_
 refine AnyL.tT 1 (by exact HBM.out _ _ HSD.out (by simp)) ?_
 refine AnyL.tT 3 (by exact HBM.out _ _ HSD.out (by simp)) ?_
 refine AnyL.tT 4 (by exact HBM.out _ _ HSD.out (by simp)) ?_
 refine AnyL.tT 5 (by exact HBM.out _ _ HSD.out (by simp)) ?_
 refine AnyL.tT 6 (by exact HBM.out _ _ HSD.out (by simp)) ?_
 refine AnyL.step (i := 2) (by kernel_rfl) (by rfl) (fun K hK => ?_)
 go_simp
 go_at_call 116
 with_reducible refine (HG.out _).mono ?_
 rintro e w5 ⟨rfl, hg⟩
 have HS4 := qd (HSD.out.grown hg)
 clear hg
 refine shutNx hK _ (by exact HBM.out _ _ HS4.out (by simp)) (by exact fun _ => trivial) ?_
 clear hK K
 refine AnyL.step (i := 7) (by kernel_rfl) (by rfl) (fun K hK => ?_)
 go_simp
 go_at_call 115
 with_reducible refine (HV.out _).mono ?_
 rintro e w6 ⟨rfl, rfl⟩
 refine shutNx hK _ (by exact HBM.out _ _ HS4.out (by simp)) (by exact fun _ => trivial) ?_
 clear hK K
 obtain ⟨y0, y1, f0, f1⟩ := bw2 HS4.out.hd
 have HS5 := qd ((HS4.out.setB 0 (.int .i64 a)).setB 1 (.int .i64 c))
 refine AnyL.step (i := 8) (by kernel_rfl) (by rfl) (fun K hK => ?_)
 go_simp
 refine shutNx hK ((w6.setCell ⟨w.heap.size + 1, 0, none⟩ (.int .i64 a)).setCell ⟨w.heap.size + 1, 1, none⟩ (.int .i64 c)) (by exact HBM.out _ _ HS5.out (by simp)) (by exact fun _ => trivial) ?_
 clear hK K
 clear y0 y1 f0 f1
 refine AnyL.tT 9 (by exact HBM.out _ _ HS5.out (by simp)) ?_
 refine AnyL.done (by kernel_rfl) ?_ _
 generalize ((w6.setCell ⟨w.heap.size + 1, 0, none⟩ (.int .i64 a)).setCell ⟨w.heap.size + 1, 1, none⟩ (.int .i64 c)) = w9 at *
 obtain ⟨y0, y1, _, _⟩ := bw2 HS5.out.hd
 have HKF := qd (show w.grownBy _ none from HS5.out.tl.tl.hd)
 go_wp2_with fail
 refine bodyPost_ret_by (v := .tuple #[.agg #[.int .i64 a, .int .i64 c], .bool b]) ?_ rfl ⟨⟨_, rfl, fun _ => rfl⟩, HKF.out⟩
 simp [results, go_sem, *]
set_option maxHeartbeats 2000000 in
theorem leafW_no (k v : Int) (w : World) (h1 : k ≠ 1) (h2 : k ≠ 2) (hk : inB k 3 14 = false) : Calls Tryz.prog 136 #[.agg #[.int .i64 k, .int .i64 v, .string noS]] w (TyR false (0, 0) w) := by
 have hs0 := ((Sep.start w).boxAt w.heap.size rfl #[.int .i64 k, .int .i64 v, .string noS] 145).boxAt (w.heap.size + 1) (by simp) #[.int .i64 0, .int .i64 0] 149
 have HS0 := qd hs0
 obtain ⟨x0, x1, x2⟩ := bw3 hs0.tl.hd
 obtain ⟨y0, y1, f0, f1⟩ := bw2 hs0.hd
 clear hs0
 have HA := qd fun W => isGenerator_any k W
 rw [hk] at HA
 clear hk
 have h1b : (k == 1) = false := by simpa using h1
 have h2b : (k == 2) = false := by simpa using h2
 have HKF := qd (show w.grownBy _ none from HS0.out.tl.tl.hd)
 go_enter Tryz.func136, Tryz.ntmps136
 go_wp2_with (
  go_at_call 114
  with_reducible refine (HA.out _).mono ?_
  rintro e w3 ⟨rfl, rfl⟩)
 refine bodyPost_ret_by (v := .tuple #[.agg #[.int .i64 0, .int .i64 0], .bool false]) ?_ rfl ⟨⟨(0, 0), rfl, fun h => by cases h⟩, HKF.out⟩
 simp [results, go_sem, *]
theorem leafWires_any (n : Nd) (w : World) : Calls Tryz.prog 136 #[.agg #[.int .i64 n.k, .int .i64 n.v, .string n.s]] w (TyR (lfB n) (lfTy n) w) := by
 by_cases hs : n.s = noS
 ·by_cases h1 : n.k = 1
  ·rw [lfB_one hs h1, show lfTy n = (n.v, n.v) from if_pos h1, hs, h1]
   exact leafW_one n.v w
  ·by_cases h2 : n.k = 2
   ·rw [lfB_two hs h2, show lfTy n = (2, 2) from (if_neg h1).trans (if_pos h2), hs, h2]
    exact leafW_two n.v w
   ·cases hk : inB n.k 3 14
    ·rw [lfB_no h1 h2 hk, hs]
     exact (leafW_no n.k n.v w h1 h2 hk).mono fun e w' ⟨⟨q, he, _⟩, hg⟩ => ⟨⟨q, he, fun h => by cases h⟩, hg⟩
    ·rw [lfB_gen hs hk, lfTy_gen hk, hs]
     exact leafW_gen n.k n.v w hk
 ·rw [lfB_name hs]
  exact (leafW_name n.k n.v n.s w hs).mono fun e w' ⟨⟨q, he, _⟩, hg⟩ => ⟨⟨q, he, fun h => by cases h⟩, hg⟩
theorem tmB_no {ns : List Nd} {i : Nat} {S : List Tr} (hi : i < ns.length) (h : prun ns i = some S) (hn : pstep S (ns.getD i nd0) = none) : tmB ns = false := by
 have h1 : prun ns (i + 1) = none := by rw [prun_succ h]; exact hn
 unfold tmB
 rw [prun_stop h1 ns.length hi, Bool.and_false]
theorem tmB_len {ns : List Nd} (h : ¬ (1 ≤ ns.length ∧ ns.length ≤ 400)) : tmB ns = false := by
 unfold tmB
 rw [decide_eq_false h, Bool.false_and]
theorem pstep_leaf {S : List Tr} {n : Nd} (h : ¬ (n.k = 15 ∨ n.k = 16)) : pstep S n = if lfB n = true then some (.leaf n :: S) else none := by
 unfold pstep
 rw [if_neg h]
theorem pstep_no {S : List Tr} {n : Nd} (h : n.k = 15 ∨ n.k = 16) (h2 : n.v ≠ 0 ∨ n.s ≠ noS ∨ S.length < 2) : pstep S n = none := by
 unfold pstep
 rw [if_pos h]
 by_cases h3 : n.v = 0 ∧ n.s = noS
 ·rw [if_pos h3]
  match S, h2 with
  | [], _ => rfl
  | [_], _ => rfl
  | _ :: _ :: _, h2 =>
   rcases h2 with h2 | h2 | h2
   ·exact absurd h3.1 h2
   ·exact absurd h3.2 h2
   ·simp only [List.length_cons] at h2; omega
 ·rw [if_neg h3]
theorem pstep_seq {A B : Tr} {R : List Tr} {n : Nd} (h : n.k = 15) (hv : n.v = 0) (hs : n.s = noS) : pstep (B :: A :: R) n = if A.ty.2 = B.ty.1 then some (.seq A B :: R) else none := by
 unfold pstep
 rw [if_pos (Or.inl h), if_pos ⟨hv, hs⟩]
 simp only
 rw [if_pos h]
theorem pstep_par {A B : Tr} {R : List Tr} {n : Nd} (h : n.k = 16) (hv : n.v = 0) (hs : n.s = noS) : pstep (B :: A :: R) n = if A.ty.1 + B.ty.1 ≤ 12 ∧ A.ty.2 + B.ty.2 ≤ 12 then some (.par A B :: R) else none := by
 unfold pstep
 rw [if_pos (Or.inr h), if_pos ⟨hv, hs⟩]
 simp only
 rw [if_neg (by omega)]
def tmT (ns : List Nd) : Int × Int := match prun ns ns.length with
 | some (t :: _) => t.ty
 | _ => (0, 0)
theorem tm_end {ns : List Nd} {S : List Tr} (h1 : 1 ≤ ns.length) (h2 : ns.length ≤ 400) (h : prun ns ns.length = some S) : ∃ T R, S = T :: R ∧ tmB ns = decide (S.length = 1) ∧ tmT ns = T.ty := by
 have hv := prun_inv _ _ (Nat.le_refl _) h
 match S, h with
 | [], h =>
  have := hv.nd
  rw [List.take_length] at this
  rw [this] at h1
  simp at h1
 | T :: R, h =>
  refine ⟨T, R, rfl, ?_, ?_⟩
  ·unfold tmB
   rw [decide_eq_true ⟨h1, h2⟩, h, Bool.true_and]
   match R with
   | [] => rfl
   | _ :: _ => simp
  ·unfold tmT; rw [h]
def styL (S : List Tr) : List (Int × Int) := (S.map Tr.ty).reverse
theorem styL_len (S : List Tr) : (styL S).length = S.length := by simp [styL]
theorem styL_push (T : Tr) (S : List Tr) : styL (T :: S) = styL S ++ [T.ty] := by simp [styL]
theorem styL_two (A B : Tr) (R : List Tr) : styL (B :: A :: R) = styL R ++ [A.ty, B.ty] := by simp [styL]
theorem two_le {S : List Tr} (h : ¬ S.length < 2) : ∃ A B R, S = B :: A :: R := by
 match S, h with
 | [], h => simp at h
 | [_], h => simp at h
 | B :: A :: R, _ => exact ⟨A, B, R, rfl⟩
theorem prun_cnt {ns : List Nd} : ∀ (i : Nat) (S : List Tr), prun ns i = some S → S.length ≤ i := by
 intro i
 induction i with
 | zero => intro S h; have : S = [] := (Option.some.inj h).symm; rw [this]; simp
 | succ i ih =>
  intro S h
  obtain ⟨P, hP⟩ := prun_back h (Nat.le_succ i)
  have := ih P hP
  rw [prun_succ hP] at h
  rcases pstep_cases h with ⟨_, _, rfl⟩ | ⟨A, B, R, rfl, _, _, rfl⟩ | ⟨A, B, R, rfl, _, _, rfl⟩ <;> simp only [List.length_cons] at this ⊢ <;> omega
theorem fit_any (a c : Int) (w : World) : Calls Tryz.prog 155 #[.agg #[.int .i64 a, .int .i64 c]] w fun e w' => e = .returned (.bool (decide (a ≤ 12 ∧ c ≤ 12))) ∧ w.grownBy w' none := by
 have HS0 := qd ((Sep.start w).boxAt w.heap.size rfl #[.int .i64 a, .int .i64 c] 149)
 obtain ⟨x0, x1, _, _⟩ := bw2 HS0.out.hd
 by_cases h1 : a ≤ 12
 ·by_cases h2 : c ≤ 12
  ·rw [decide_eq_true ⟨h1, h2⟩]
   go_enter Tryz.func155, Tryz.ntmps155
   go_wp2_with fail
   go_ret
   exact ⟨rfl, HS0.out.tl.hd⟩
  ·rw [decide_eq_false (fun h => h2 h.2)]
   go_enter Tryz.func155, Tryz.ntmps155
   go_wp2_with fail
   go_ret
   exact ⟨rfl, HS0.out.tl.hd⟩
 ·rw [decide_eq_false (fun h => h1 h.1)]
  go_enter Tryz.func155, Tryz.ntmps155
  go_wp2_with fail
  go_ret
  exact ⟨rfl, HS0.out.tl.hd⟩
set_option maxHeartbeats 2000000 in
theorem joinW_seq (a1 a2 b1 b2 : Int) (w : World) : Calls Tryz.prog 149 #[.int .i64 15, .agg #[.int .i64 a1, .int .i64 a2], .agg #[.int .i64 b1, .int .i64 b2]] w (TyR (decide (a2 = b1)) ((a1, b2)) w) := by
 have hs0 := (((Sep.start w).boxAt w.heap.size rfl #[.int .i64 a1, .int .i64 a2] 149).boxAt (w.heap.size + 1) (by simp) #[.int .i64 b1, .int .i64 b2] 149).boxAt (w.heap.size + 2) (by simp) #[.int .i64 0, .int .i64 0] 149
 have HS0 := qd hs0
 obtain ⟨x0, x1, _, _⟩ := bw2 hs0.tl.tl.hd
 obtain ⟨y0, y1, _, _⟩ := bw2 hs0.tl.hd
 clear hs0
 have HBM := qd fun (W1 : World) (L : List Asrt) (h : Sep W1 L) (h1 : BxA w.heap.size #[.int .i64 a1, .int .i64 a2] 149 ∈ L) (h2 : BxA (w.heap.size + 1) #[.int .i64 b1, .int .i64 b2] 149 ∈ L) => show (W1.cell? ⟨w.heap.size, 0, none⟩ = some (.int .i64 a1) ∧ W1.cell? ⟨w.heap.size, 1, none⟩ = some (.int .i64 a2)) ∧ W1.cell? ⟨w.heap.size + 1, 0, none⟩ = some (.int .i64 b1) ∧ W1.cell? ⟨w.heap.size + 1, 1, none⟩ = some (.int .i64 b2) from by
  obtain ⟨p0, p1, _, _⟩ := bw2 (show W1.heap[w.heap.size]? = some (.cells #[.int .i64 a1, .int .i64 a2] 149 (0, 0)) from Sep.all h _ h1)
  obtain ⟨r0, r1, _, _⟩ := bw2 (show W1.heap[w.heap.size + 1]? = some (.cells #[.int .i64 b1, .int .i64 b2] 149 (0, 0)) from Sep.all h _ h2)
  exact ⟨⟨p0, p1⟩, r0, r1⟩
 have HD := qd (show (a2 == b1) = decide (a2 = b1) from by by_cases h : a2 = b1 <;> simp [h])
 have hd := HD.out
 generalize decide (a2 = b1) = b at *
 go_enter Tryz.func149, Tryz.ntmps149
 go_upto_region 2 with fail
 clear x0 x1 y0 y1
 generalize ((w.alloc (.cells #[.int .i64 a1, .int .i64 a2] 149)).alloc (.cells #[.int .i64 b1, .int .i64 b2] 149)).alloc (.cells #[.int .i64 0, .int .i64 0] 149) = w4 at *
 have HSD := qd HS0.out.dr
 refine AnyL.start (fun W1 => (W1.cell? ⟨w.heap.size, 0, none⟩ = some (.int .i64 a1) ∧ W1.cell? ⟨w.heap.size, 1, none⟩ = some (.int .i64 a2)) ∧ W1.cell? ⟨w.heap.size + 1, 0, none⟩ = some (.int .i64 b1) ∧ W1.cell? ⟨w.heap.size + 1, 1, none⟩ = some (.int .i64 b2)) (fun _ => True) 99 (by kernel_rfl) ?_
 refine AnyL.tT 0 (by exact HBM.out _ _ HSD.out (by simp) (by simp)) ?_
 refine AnyL.tT 1 (by exact HBM.out _ _ HSD.out (by simp) (by simp)) ?_
 refine AnyL.tT 2 (by exact HBM.out _ _ HSD.out (by simp) (by simp)) ?_
 refine AnyL.tT 3 (by exact HBM.out _ _ HSD.out (by simp) (by simp)) ?_
 refine AnyL.tT 4 (by exact HBM.out _ _ HSD.out (by simp) (by simp)) ?_
 refine AnyL.tT 5 (by exact HBM.out _ _ HSD.out (by simp) (by simp)) ?_
 refine AnyL.tT 6 (by exact HBM.out _ _ HSD.out (by simp) (by simp)) ?_
 refine AnyL.tT 7 (by exact HBM.out _ _ HSD.out (by simp) (by simp)) ?_
 refine AnyL.tT 8 (by exact HBM.out _ _ HSD.out (by simp) (by simp)) ?_
 refine AnyL.tT 9 (by exact HBM.out _ _ HSD.out (by simp) (by simp)) ?_
 obtain ⟨y0, y1, f0, f1⟩ := bw2 HS0.out.hd
 have HS5 := qd ((HSD.out.setB 0 (.int .i64 a1)).setB 1 (.int .i64 b2))
 refine AnyL.step (i := 10) (by kernel_rfl) (by rfl) (fun K hK => ?_)
 go_simp
 refine shutNx hK ((w4.drew.setCell ⟨w.heap.size + 2, 0, none⟩ (.int .i64 a1)).setCell ⟨w.heap.size + 2, 1, none⟩ (.int .i64 b2)) (by exact HBM.out _ _ HS5.out (by simp) (by simp)) (by exact fun _ => trivial) ?_
 clear hK K
 clear y0 y1 f0 f1
 refine AnyL.tT 11 (by exact HBM.out _ _ HS5.out (by simp) (by simp)) ?_
 refine AnyL.done (by kernel_rfl) ?_ _
 generalize ((w4.drew.setCell ⟨w.heap.size + 2, 0, none⟩ (.int .i64 a1)).setCell ⟨w.heap.size + 2, 1, none⟩ (.int .i64 b2)) = w9 at *
 obtain ⟨y0, y1, _, _⟩ := bw2 HS5.out.hd
 have HKF := qd (show w.grownBy _ none from HS5.out.tl.tl.tl.hd)
 go_wp2_with fail
 refine bodyPost_ret_by (v := .tuple #[.agg #[.int .i64 a1, .int .i64 b2], .bool b]) ?_ rfl ⟨⟨_, rfl, fun _ => rfl⟩, HKF.out⟩
 simp [results, go_sem, *]
set_option maxHeartbeats 2000000 in
theorem joinW_par (a1 a2 b1 b2 : Int) (w : World) (ha : (0 ≤ a1 ∧ a1 ≤ 12) ∧ 0 ≤ a2 ∧ a2 ≤ 12) (hb : (0 ≤ b1 ∧ b1 ≤ 12) ∧ 0 ≤ b2 ∧ b2 ≤ 12) : Calls Tryz.prog 149 #[.int .i64 16, .agg #[.int .i64 a1, .int .i64 a2], .agg #[.int .i64 b1, .int .i64 b2]] w (TyR (decide (a1 + b1 ≤ 12 ∧ a2 + b2 ≤ 12)) ((a1 + b1, a2 + b2)) w) := by
 obtain ⟨⟨p1, p2⟩, p3, p4⟩ := ha
 obtain ⟨⟨p5, p6⟩, p7, p8⟩ := hb
 have hs0 := (((Sep.start w).boxAt w.heap.size rfl #[.int .i64 a1, .int .i64 a2] 149).boxAt (w.heap.size + 1) (by simp) #[.int .i64 b1, .int .i64 b2] 149).boxAt (w.heap.size + 2) (by simp) #[.int .i64 0, .int .i64 0] 149
 have HS0 := qd hs0
 obtain ⟨x0, x1, _, _⟩ := bw2 hs0.tl.tl.hd
 obtain ⟨y0, y1, _, _⟩ := bw2 hs0.tl.hd
 clear hs0
 have HF := qd fun W => fit_any (a1 + b1) (a2 + b2) W
 have e1 : IntKind.i64.wrap (a1 + b1) = a1 + b1 := wrap_id (by omega) (by omega)
 have e2 : IntKind.i64.wrap (a2 + b2) = a2 + b2 := wrap_id (by omega) (by omega)
 have HSB := qd (HS0.out.boxAt (w.heap.size + 3) (by simp) #[.int .i64 (a1 + b1), .int .i64 (a2 + b2)] 149)
 generalize decide (a1 + b1 ≤ 12 ∧ a2 + b2 ≤ 12) = b at *
 go_enter Tryz.func149, Tryz.ntmps149
 go_upto_region 4 with fail
 clear x0 x1 y0 y1
 generalize (((w.alloc (.cells #[.int .i64 a1, .int .i64 a2] 149)).alloc (.cells #[.int .i64 b1, .int .i64 b2] 149)).alloc (.cells #[.int .i64 0, .int .i64 0] 149)).alloc (.cells #[.int .i64 (a1 + b1), .int .i64 (a2 + b2)] 149) = w4 at *
 have HSD := qd HSB.out.dr
 obtain ⟨x0, x1, _, _⟩ := bw2 HSD.out.hd
 have X0 := qd x0; have X1 := qd x1
 clear x0 x1
 refine AnyL.start (fun W1 => W1.cell? ⟨w.heap.size + 3, 0, none⟩ = some (.int .i64 (a1 + b1)) ∧ W1.cell? ⟨w.heap.size + 3, 1, none⟩ = some (.int .i64 (a2 + b2))) (fun _ => True) 99 (by kernel_rfl) ?_
 refine AnyL.tT 0 (by exact ⟨X0.out, X1.out⟩) ?_
 refine AnyL.tT 1 (by exact ⟨X0.out, X1.out⟩) ?_
 refine AnyL.step (i := 2) (by kernel_rfl) (by rfl) (fun K hK => ?_)
 go_simp
 go_at_call 155
 with_reducible refine (HF.out _).mono ?_
 rintro e w5 ⟨rfl, hg⟩
 have HS4 := qd (HSD.out.grown hg)
 obtain ⟨x0, x1, _, _⟩ := bw2 HS4.out.hd
 have X2 := qd x0; have X3 := qd x1
 clear hg x0 x1
 refine shutNx hK _ (by exact ⟨X2.out, X3.out⟩) (by exact fun _ => trivial) ?_
 clear hK K
 have hsq := Sep.blk (A := [_]) (B := [_]) HS4.out
 obtain ⟨y0, y1, f0, f1⟩ := bw2 hsq.hd
 have HS5 := qd (Sep.blk (A := [_]) (B := [_]) ((hsq.setB 0 (.int .i64 (a1 + b1))).setB 1 (.int .i64 (a2 + b2))))
 obtain ⟨x0, x1, _, _⟩ := bw2 HS5.out.hd
 have X4 := qd x0; have X5 := qd x1
 clear hsq x0 x1
 refine AnyL.step (i := 3) (by kernel_rfl) (by rfl) (fun K hK => ?_)
 go_simp
 refine shutNx hK ((w5.setCell ⟨w.heap.size + 2, 0, none⟩ (.int .i64 (a1 + b1))).setCell ⟨w.heap.size + 2, 1, none⟩ (.int .i64 (a2 + b2))) (by exact ⟨X4.out, X5.out⟩) (by exact fun _ => trivial) ?_
 clear hK K
 clear y0 y1 f0 f1
 refine AnyL.tT 4 (by exact ⟨X4.out, X5.out⟩) ?_
 refine AnyL.done (by kernel_rfl) ?_ _
 generalize ((w5.setCell ⟨w.heap.size + 2, 0, none⟩ (.int .i64 (a1 + b1))).setCell ⟨w.heap.size + 2, 1, none⟩ (.int .i64 (a2 + b2))) = w9 at *
 obtain ⟨y0, y1, _, _⟩ := bw2 HS5.out.tl.hd
 have HKF := qd (show w.grownBy _ none from HS5.out.tl.tl.tl.tl.hd)
 go_wp2_with fail
 refine bodyPost_ret_by (v := .tuple #[.agg #[.int .i64 (a1 + b1), .int .i64 (a2 + b2)], .bool b]) ?_ rfl ⟨⟨_, rfl, fun _ => rfl⟩, HKF.out⟩
 simp [results, go_sem, *]
end Go.Proofs.YtjagjhchnpmngaaGreat

/-
 Wires made one, in the reference: the graph that is glued. Conditions: wires are in range; lengths are small.
-/
import Derived.Test.YtjagjhchnpmngaaGreatCz06
import Derived.Test.YtjagjhchnpmngaaGreatCz05
import Derived.Test.YtjagjhchnpmngaaGreatCz04
import Derived.Test.YtjagjhchnpmngaaGreatCz03
import Derived.Test.YtjagjhchnpmngaaGreatCz02
import Derived.Test.YtjagjhchnpmngaaGreatCz01
import Derived.Test.YtjagjhchnpmngaaGreatCz00
import Derived.Test.YtjagjhchnpmngaaGreatCz12
import Derived.Test.YtjagjhchnpmngaaGreatCz13
set_option linter.unusedVariables false
set_option linter.unusedSimpArgs false
set_option maxRecDepth 100000
namespace Go.Proofs.YtjagjhchnpmngaaGreat
open Go.RowKit
theorem l1Most_any (x y : Int) (w : World) : Calls Tryz.prog 103 #[.int .i64 x, .int .i64 y] w fun e w' => e = .returned (.int .i64 (max x y)) ∧ w' = w := by
 by_cases h : y < x
 ·rw [Int.max_eq_left (by omega)]
  go_enter Tryz.func103, Tryz.ntmps103
  go_wp2
  go_ret
  exact ⟨rfl, rfl⟩
 ·rw [Int.max_eq_right (by omega)]
  go_enter Tryz.func103, Tryz.ntmps103
  go_wp2
  go_ret
  exact ⟨rfl, rfl⟩
theorem l1Least_any' (x y : Int) (w : World) : Calls Tryz.prog 104 #[.int .i64 x, .int .i64 y] w fun e w' => e = .returned (.int .i64 (min x y)) ∧ w' = w := by
 by_cases h : x < y
 ·rw [Int.min_eq_left (by omega)]
  go_enter Tryz.func104, Tryz.ntmps104
  go_wp2
  go_ret
  exact ⟨rfl, rfl⟩
 ·rw [Int.min_eq_right (by omega)]
  go_enter Tryz.func104, Tryz.ntmps104
  go_wp2
  go_ret
  exact ⟨rfl, rfl⟩
def swapTo (C : List Int) (M n : Int) (k : Nat) : List Int := (C.map fun c => if c = M then n else c).take k ++ C.drop k
theorem swapTo_len (C : List Int) (M n : Int) (k : Nat) : (swapTo C M n k).length = C.length := by unfold swapTo; simp; omega
theorem swapTo_zero (C : List Int) (M n : Int) : swapTo C M n 0 = C := by simp [swapTo]
theorem swapTo_full (C : List Int) (M n : Int) {k : Nat} (h : C.length ≤ k) : swapTo C M n k = C.map fun c => if c = M then n else c := by
 unfold swapTo
 rw [List.take_of_length_le (by simpa using h), List.drop_of_length_le h, List.append_nil]
theorem swapTo_get {C : List Int} {M n : Int} {k : Nat} (h : k < C.length) : (swapTo C M n k).getD k 0 = C.getD k 0 := by
 unfold swapTo
 rw [List.getD_eq_getElem?_getD, List.getElem?_append_right (by simp; omega), List.length_take, List.length_map, Nat.min_eq_left (by omega), Nat.sub_self, List.getElem?_drop, Nat.add_zero, ← List.getD_eq_getElem?_getD]
theorem swapTo_yes {C : List Int} {M n : Int} {k : Nat} (h : k < C.length) (hy : C.getD k 0 = M) : (swapTo C M n k).set k n = swapTo C M n (k + 1) := by
 unfold swapTo
 have hl : ((C.map fun c => if c = M then n else c).take k).length = k := by simp; omega
 rw [List.set_append_right _ _ (by omega), hl, Nat.sub_self, List.drop_eq_getElem_cons h, List.set_cons_zero, List.take_succ_eq_append_getElem (by simpa using h), List.append_assoc]
 have : C[k] = M := by rw [← hy, List.getD_eq_getElem?_getD, List.getElem?_eq_getElem h]; rfl
 simp [this]
theorem swapTo_no {C : List Int} {M n : Int} {k : Nat} (h : k < C.length) (hy : ¬ C.getD k 0 = M) : swapTo C M n k = swapTo C M n (k + 1) := by
 unfold swapTo
 rw [List.drop_eq_getElem_cons h, List.take_succ_eq_append_getElem (by simpa using h), List.append_assoc]
 have : ¬ C[k] = M := by rw [List.getD_eq_getElem?_getD, List.getElem?_eq_getElem h] at hy; exact hy
 simp [this]
def usedTo (n : Nat) (C ws : List Int) (k : Nat) : List Bool := usedL n C (ws.filter fun x => decide (x < (k : Int)))
theorem usedTo_full {n : Nat} {C ws : List Int} (h : ∀ x ∈ ws, 0 ≤ x ∧ x < (n : Int)) : usedTo n C ws n = usedL n C ws := by
 unfold usedTo
 rw [List.filter_eq_self.2 (fun x hx => decide_eq_true (h x hx).2)]
theorem usedB_perm {C A B : List Int} {r : Int} (h : ∀ x, x ∈ A ↔ x ∈ B) : usedB C A r = usedB C B r := by
 rw [Bool.eq_iff_iff]
 unfold usedB
 simp only [List.any_eq_true, decide_eq_true_iff]
 exact ⟨fun ⟨x, hx, e⟩ => ⟨x, (h x).1 hx, e⟩, fun ⟨x, hx, e⟩ => ⟨x, (h x).2 hx, e⟩⟩
theorem usedL_perm {n : Nat} {C A B : List Int} (h : ∀ x, x ∈ A ↔ x ∈ B) : usedL n C A = usedL n C B := by
 unfold usedL
 exact List.map_congr_left fun r _ => usedB_perm h
theorem usedTo_len (n : Nat) (C ws : List Int) (k : Nat) : (usedTo n C ws k).length = n := usedL_len _ _ _
theorem usedTo_zero {n : Nat} {C ws : List Int} (h : ∀ x ∈ ws, 0 ≤ x) : usedTo n C ws 0 = List.replicate n false := by
 unfold usedTo
 rw [List.filter_eq_nil_iff.2 (fun x hx => by have := h x hx; simp; omega), usedL_nil]
theorem usedTo_yes {n : Nat} {C ws : List Int} {k r : Nat} (hk : (k : Int) ∈ ws) (hr : ofL C (k : Int) = r) (h : r < n) : (usedTo n C ws k).set r true = usedTo n C ws (k + 1) := by
 unfold usedTo
 rw [← usedL_snoc hr h]
 refine usedL_perm fun x => ?_
 simp only [List.mem_append, List.mem_filter, decide_eq_true_iff, List.mem_singleton]
 constructor
 ·rintro (⟨h1, h2⟩ | rfl)
  ·exact ⟨h1, by omega⟩
  ·exact ⟨hk, by omega⟩
 ·rintro ⟨h1, h2⟩
  by_cases h3 : x < (k : Int)
  ·exact Or.inl ⟨h1, h3⟩
  ·exact Or.inr (by omega)
theorem usedTo_no {n : Nat} {C ws : List Int} {k : Nat} (hk : ¬ (k : Int) ∈ ws) : usedTo n C ws k = usedTo n C ws (k + 1) := by
 unfold usedTo
 refine usedL_perm fun x => ?_
 simp only [List.mem_filter, decide_eq_true_iff]
 constructor
 ·rintro ⟨h1, h2⟩; exact ⟨h1, by omega⟩
 ·rintro ⟨h1, h2⟩
  refine ⟨h1, ?_⟩
  by_cases h3 : x = (k : Int)
  ·subst h3; exact absurd h1 hk
  ·omega
def numR (C ws : List Int) (k : Nat) : Int := if (decide (ofL C (k : Int) = k) && usedB C ws k) = true then (cntR C ws k : Int) else 0
def numA (C ws : List Int) (n k : Nat) : List Int := ((List.range n).map fun j => numR C ws j).take k ++ List.replicate (n - k) 0
def numB (C ws : List Int) (n k : Nat) : List Int := (numL C ws n).take k ++ ((List.range n).map fun j => numR C ws j).drop k
theorem numA_len (C ws : List Int) {n k : Nat} (h : k ≤ n) : (numA C ws n k).length = n := by unfold numA; simp; omega
theorem numA_set {C ws : List Int} {n k : Nat} {v : Int} (hk : k < n) (hv : numR C ws k = v) : (numA C ws n k).set k v = numA C ws n (k + 1) := by
 unfold numA
 have hl : (((List.range n).map fun j => numR C ws j).take k).length = k := by simp; omega
 rw [List.set_append_right _ _ (by omega), hl, Nat.sub_self, show n - k = (n - (k + 1)) + 1 by omega, List.replicate_succ, List.set_cons_zero, List.take_succ_eq_append_getElem (by simpa using hk), List.append_assoc]
 simp [hv]
theorem numA_skip {C ws : List Int} {n k : Nat} (hk : k < n) (hv : numR C ws k = 0) : numA C ws n k = numA C ws n (k + 1) := by
 rw [← numA_set hk hv]
 apply List.ext_getElem (by simp)
 intro i h1 h2
 rw [List.getElem_set]
 split
 ·rename_i h
  subst h
  have e1 : (numA C ws n k).getD k 0 = 0 := by
   unfold numA
   rw [List.getD_eq_getElem?_getD, List.getElem?_append_right (by simp; omega), List.length_take, List.length_map, List.length_range, Nat.min_eq_left (by omega), Nat.sub_self, List.getElem?_replicate]
   split <;> rfl
  rw [List.getD_eq_getElem?_getD, List.getElem?_eq_getElem (by rw [numA_len C ws (by omega)]; exact hk)] at e1
  exact e1
 ·rfl
theorem numB_len (C ws : List Int) {n k : Nat} (h : k ≤ n) : (numB C ws n k).length = n := by unfold numB; simp [numL_len]; omega
theorem numB_zero (C ws : List Int) (n : Nat) : numB C ws n 0 = numA C ws n n := by unfold numB numA; simp; rw [List.take_of_length_le (by simp)]
theorem numB_full (C ws : List Int) (n : Nat) : numB C ws n n = numL C ws n := by unfold numB; rw [List.take_of_length_le (by rw [numL_len]; exact Nat.le_refl _), List.drop_of_length_le (by simp), List.append_nil]
theorem numB_old {C ws : List Int} {n k r : Nat} (hr : r < k) (hk : k < n) : (numB C ws n k).getD r 0 = numX C ws r := by
 unfold numB
 rw [List.getD_eq_getElem?_getD, List.getElem?_append_left (by simp [numL_len]; omega), List.getElem?_take_of_lt hr]
 unfold numL
 rw [List.getElem?_map, List.getElem?_range (by omega)]
 rfl
theorem numB_now {C ws : List Int} {n k : Nat} (hk : k < n) : (numB C ws n k).getD k 0 = numR C ws k := by
 unfold numB
 rw [List.getD_eq_getElem?_getD, List.getElem?_append_right (by simp [numL_len]; omega), List.length_take, numL_len, Nat.min_eq_left (by omega), Nat.sub_self, List.getElem?_drop, Nat.add_zero, List.getElem?_map, List.getElem?_range hk]
 rfl
theorem numB_set {C ws : List Int} {n k : Nat} {v : Int} (hk : k < n) (hv : numX C ws k = v) : (numB C ws n k).set k v = numB C ws n (k + 1) := by
 unfold numB
 have hl : ((numL C ws n).take k).length = k := by simp [numL_len]; omega
 rw [List.set_append_right _ _ (by omega), hl, Nat.sub_self, List.drop_eq_getElem_cons (by simpa using hk), List.set_cons_zero, List.take_succ_eq_append_getElem (by rw [numL_len]; exact hk), List.append_assoc]
 unfold numL
 simp [hv]
theorem wires_lenG {g : Gr} (h1 : g.es.length ≤ 200) (h2 : ∀ e ∈ g.es, e.i.length ≤ 2 ∧ e.o.length ≤ 2) : (outE g.es).length ≤ 400 ∧ (inE g.es).length ≤ 400 := by
 have a := flat_small (fun e => e.o) g.es (fun e he => (h2 e he).2)
 have b := flat_small (fun e => e.i) g.es (fun e he => (h2 e he).1)
 unfold outE inE
 omega
set_option maxHeartbeats 16000000 in
theorem hgGlued_any (ev iv ov : Value) (g : Gr) (m : Nat) (av bv : Value) (ps : List (Int × Int)) (w : World) (he : RdE edgeE w ev g.es) (hi : IntsV w iv g.i) (ho : IntsV w ov g.o) (ha : IntsV w av (ps.map Prod.fst)) (hb : IntsV w bv (ps.map Prod.snd)) (hm : g.n = m) (hm1 : m ≤ 400) (h60 : g.es.length ≤ 200) (h12 : g.i.length ≤ 40) (h12' : g.o.length ≤ 40)
 (hle : ∀ e ∈ g.es, e.i.length ≤ 2 ∧ e.o.length ≤ 2) (hw : ∀ x ∈ wiresL g, 0 ≤ x ∧ x < (m : Int)) (hps : ∀ p ∈ ps, (0 ≤ p.1 ∧ p.1 < (m : Int)) ∧ 0 ≤ p.2 ∧ p.2 < (m : Int)) (hpl : ps.length ≤ 100) :
 Calls Tryz.prog 63 #[grV g.n ev iv ov, av, bv] w fun e w' => ∃ u0 xs u1 u2 t, e = .returned (.tuple #[.agg #[.int .i64 (glueG (classOf m ps) g).n, u0, u1, u2], t]) ∧ eds xs = (glueG (classOf m ps) g).es ∧
  Sep w' [OE u0 xs, OI u1 (glueG (classOf m ps) g).i, OI u2 (glueG (classOf m ps) g).o, KeepA w] := by
 obtain ⟨i0, hbi, hz0, hz1, hz2⟩ := info_parts info_bool
 have HBI := qd hbi; have HZ0 := qd hz0; have HZ1 := qd hz1; have HZ2 := qd hz2
 clear hbi hz0 hz1 hz2
 obtain ⟨j0, hbi, hz0, hz1, hz2⟩ := info_parts info_int
 have HII := qd hbi; have HY0 := qd hz0; have HY1 := qd hz1; have HY2 := qd hz2
 clear hbi hz0 hz1 hz2
 have HAV := qd fun W (h : w.grownBy W none) => ha.carry h
 have HBV := qd fun W (h : w.grownBy W none) => hb.carry h
 have HPS := qd hps
 have hwl := wires_lenG h60 hle
 have HCN := qd fun W (h : w.grownBy W none) => hgCounts_any ev iv ov g m W (he.carry h) (hi.carry h) (ho.carry h) hm (by omega) (by rw [hm]; exact rngB_iff.2 hw) (by omega) (by omega) (by omega) (by omega) (by omega)
 have HMV := qd fun C tv W (h : w.grownBy W none) (ht : IntsV W tv (numL C (wiresL g) m)) => hgMap_any ev iv ov tv g (cntR C (wiresL g) m : Int) (numL C (wiresL g) m) W (he.carry h) (hi.carry h) (ho.carry h) ht (by omega) (by omega) (by omega) (fun e h => by have := hle e h; omega) (by rw [numL_len]; exact hw)
 have HGL := qd fun C => show (glueG C g).n = (cntR C (wiresL g) m : Int) ∧ (glueG C g).es = g.es.map (mapE (numL C (wiresL g) m)) ∧ (glueG C g).i = g.i.map (ofL (numL C (wiresL g) m)) ∧ (glueG C g).o = g.o.map (ofL (numL C (wiresL g) m)) from by
  unfold glueG mapG
  rw [hm, Int.toNat_natCast]
  exact ⟨rfl, rfl, rfl, rfl⟩
 have HUC := qd fun w : Nat => used_cnt g w
 obtain ⟨C, hC⟩ : ∃ C, C = classOf m ps := ⟨_, rfl⟩
 rw [← hC]
 have HCC := qd hC
 obtain ⟨gl1, gl2, gl3, gl4⟩ := HGL.out C
 rw [gl1, gl2, gl3, gl4]
 unfold grV at *
 obtain ⟨ea, ec, rfl⟩ := he.shape
 obtain ⟨ia, ic, rfl⟩ := hi.shape
 obtain ⟨oa, oc, rfl⟩ := ho.shape
 obtain ⟨aa, ac, rfl⟩ := ha.shape
 obtain ⟨ba, bc, rfl⟩ := hb.shape
 have HMM := qd hm1
 rw [hm] at *
 rw [List.length_map] at *
 rw [List.length_map] at *
 have HFL := qd (show (fromL g).length ≤ 500 ∧ (toL g).length ≤ 500 by
  unfold fromL toL
  rw [List.length_append, List.length_append]
  have h1 : (outE g.es).length ≤ 400 := hwl.1
  have h2 : (inE g.es).length ≤ 400 := hwl.2
  unfold outE at h1
  unfold inE at h2
  omega)
 clear he hi ho ha hb h60 h12 h12' hle hps hC gl1 gl2 gl3 gl4 HGL hm hwl
 have HW := qd hw
 clear hw
 generalize wiresL g = ws at *
 generalize fromL g = fl at *
 generalize toL g = tl at *
 generalize g.es.length = m0 at *
 generalize g.i.length = n1 at *
 generalize g.o.length = n2 at *
 generalize hpn : ps.length = n at *
 have HPN := qd hpn
 clear hpn
 have hs0 := ((Sep.start w).box #[.int .i64 m, .slice ea m0 ec, .slice ia n1 ic, .slice oa n2 oc] 38).box #[.int .i64 0, .slice none 0 0, .slice none 0 0, .slice none 0 0] 38
 have e1 : (w.alloc (.cells #[.int .i64 m, .slice ea m0 ec, .slice ia n1 ic, .slice oa n2 oc] 38)).heap.size = w.heap.size + 1 := by simp
 rw [e1] at hs0
 obtain ⟨x0, x1, x2, x3, _⟩ := bq4 hs0.tl.hd
 have HS0 := qd hs0
 clear hs0 e1
 go_enter Tryz.func63, Tryz.ntmps63
 go_wp2_with (
  at_make
  refine wpList_make_full _ rfl _ _ 23 rfl _ 3 j0 (.int .i64 0) 1 Tryz.underlying23 HII.out HY0.out HY1.out _ _ _ _ m rfl rfl rfl rfl (by rw [HY2.out]; omega) (by unfold maxLen; omega) (Nat.le_refl _) ?_
  intro w1 hown' hgr'
  have hs1 := HS0.out.newI (zs := List.replicate m 0) hgr' (by rw [madeCells_int] at hown'; unfold OwnInts; rw [List.length_replicate]; exact hown')
  rw [show ((w.alloc (.cells #[.int .i64 m, .slice ea m0 ec, .slice ia n1 ic, .slice oa n2 oc] 38)).alloc (.cells #[.int .i64 0, .slice none 0 0, .slice none 0 0, .slice none 0 0] 38)).heap.size = w.heap.size + 1 + 1 by simp] at hs1
  have HS1 := qd hs1
  clear hs1 hown' hgr')
 clear x0 x1 x2 x3
 go_loopw [9, 28] (fun _ i wr => ∃ k : Nat, k ≤ m ∧ i = .int .i64 k ∧ Sep wr [OI (.slice (some ⟨w.heap.size + 1 + 1, 0, none⟩) m m) (upL k ++ List.replicate (m - k) 0), BxA (w.heap.size + 1) #[.int .i64 0, .slice none 0 0, .slice none 0 0, .slice none 0 0] 38, BxA w.heap.size #[.int .i64 m, .slice ea m0 ec, .slice ia n1 ic, .slice oa n2 oc] 38, KeepA w]) (fun _ i _ => m - (intOf i).toNat)
 case atStart => exact ⟨0, by omega, rfl, by simpa [upL] using HS1.out⟩
 case round =>
  obtain ⟨k, hk, rfl, hs⟩ := hrel
  have HSX := qd hs
  clear hs HS1
  by_cases hlt : k < m
  ·have hll : m = (upL k ++ List.replicate (m - k) (0 : Int)).length := by rw [List.length_append, upL_len, List.length_replicate]; omega
   have hf := HSX.out.hd.free hll k
   obtain ⟨q, hc0⟩ := HSX.out.hd.cellQ hll (j := k) hlt
   have hset := HSX.out.setI hll k (k : Int)
   rw [up_set hlt] at hset
   have HSET := qd hset
   clear hll hset
   go_wp2
   go_roundw
   case rel => exact ⟨k + 1, by omega, by go_num, HSET.out⟩
   case measure => simp [intOf]; omega
  ·have hkn : k = m := by omega
   subst hkn
   have hs := HSX.out
   rw [Nat.sub_self, List.replicate_zero, List.append_nil] at hs
   have HS2 := qd hs
   clear hlt hs HSX
   go_wp2_with fail
   go_loopw [10, 11, 12, 13, 38, 57] (fun _ _ _ _ i _ wr => ∃ (q : Nat) (D : List Int), q ≤ n ∧ i = .int .i64 q ∧ D = classOf k (ps.take q) ∧ (∃ F, Rep k F D) ∧ Sep wr [OI (.slice (some ⟨w.heap.size + 1 + 1, 0, none⟩) k k) D, BxA (w.heap.size + 1) #[.int .i64 0, .slice none 0 0, .slice none 0 0, .slice none 0 0] 38, BxA w.heap.size #[.int .i64 k, .slice ea m0 ec, .slice ia n1 ic, .slice oa n2 oc] 38, KeepA w]) (fun _ _ _ _ i _ _ => n - (intOf i).toNat)
   case atStart => exact ⟨0, upL k, by omega, rfl, rfl, ⟨_, Rep.start k⟩, HS2.out⟩
   case round =>
    obtain ⟨q, D, hq, rfl, hD, ⟨F, hF⟩, hs⟩ := hrel
    have HSX := qd hs; have HD := qd hD; have HF := qd hF
    clear hs HS2 hD hF
    by_cases hlt : q < n
    ·have hqp : q < ps.length := by rw [HPN.out]; exact hlt
     have hkeep : w.grownBy wr none := HSX.out.tl.tl.tl.hd
     have hav := HAV.out _ hkeep
     have hbv := HBV.out _ hkeep
     obtain ⟨ab, ao, hae⟩ := IntsV.addr hav (by rw [List.length_map]; omega)
     obtain ⟨bb, bo, hbe⟩ := IntsV.addr hbv (by rw [List.length_map]; omega)
     subst hae hbe
     have qa := cell_of_ints hav (show q < (ps.map Prod.fst).length by rw [List.length_map]; exact hqp)
     have qb := cell_of_ints hbv (show q < (ps.map Prod.snd).length by rw [List.length_map]; exact hqp)
     rw [show ofL (ps.map Prod.fst) (q : Int) = (ps.getD q (0, 0)).1 from by rw [ofL_nat, List.getD_eq_getElem?_getD, List.getElem?_map, List.getD_eq_getElem?_getD, List.getElem?_eq_getElem hqp]; rfl] at qa
     rw [show ofL (ps.map Prod.snd) (q : Int) = (ps.getD q (0, 0)).2 from by rw [ofL_nat, List.getD_eq_getElem?_getD, List.getElem?_map, List.getD_eq_getElem?_getD, List.getElem?_eq_getElem hqp]; rfl] at qb
     have hpr := HPS.out _ (getD_mem (d := ((0, 0) : Int × Int)) hqp)
     have htk : ps.take (q + 1) = ps.take q ++ [ps.getD q (0, 0)] := by rw [List.take_succ_eq_append_getElem hqp, List.getD_eq_getElem?_getD, List.getElem?_eq_getElem hqp]; rfl
     have HTK := qd (show classOf k (ps.take (q + 1)) = joinC D (ps.getD q (0, 0)).1 (ps.getD q (0, 0)).2 by rw [htk, classOf_snoc, ← HD.out])
     generalize ps.getD q (0, 0) = pp at *
     obtain ⟨p1, p2⟩ := pp
     simp only at qa qb hpr HTK
     obtain ⟨a, rfl⟩ := Int.eq_ofNat_of_zero_le hpr.1.1
     obtain ⟨c, rfl⟩ := Int.eq_ofNat_of_zero_le hpr.2.1
     have HJR := qd (HF.out.join hpr.1.1 hpr.1.2 hpr.2.1 hpr.2.2)
     have hxa := HF.out.c0 (a : Int) hpr.1.1 hpr.1.2
     have hxb := HF.out.c0 (c : Int) hpr.2.1 hpr.2.2
     have hca := cell_of_ints (OwnInts.read (show OwnInts 0 wr (.slice (some ⟨w.heap.size + 1 + 1, 0, none⟩) k k) D from HSX.out.hd)) (show a < D.length by rw [HF.out.cl]; omega)
     have hcb := cell_of_ints (OwnInts.read (show OwnInts 0 wr (.slice (some ⟨w.heap.size + 1 + 1, 0, none⟩) k k) D from HSX.out.hd)) (show c < D.length by rw [HF.out.cl]; omega)
     rw [Nat.zero_add] at hca hcb
     obtain ⟨x, hx⟩ := Int.eq_ofNat_of_zero_le hxa.1
     obtain ⟨y, hy⟩ := Int.eq_ofNat_of_zero_le hxb.1
     have HJ := qd (show joinC D (a : Int) (c : Int) = D.map fun z => if z = max (x : Int) (y : Int) then min (x : Int) (y : Int) else z by unfold joinC; rw [hx, hy])
     rw [hx] at hca
     rw [hy] at hcb
     have hak : a < k := by omega
     have hck : c < k := by omega
     have X0 := qd (show wr.drew.cell? ⟨ab, ao + q, none⟩ = some (.int .i64 a) ∧ wr.drew.cell? ⟨bb, bo + q, none⟩ = some (.int .i64 c) ∧ wr.drew.cell? ⟨w.heap.size + 1 + 1, a, none⟩ = some (.int .i64 x) ∧ wr.drew.cell? ⟨w.heap.size + 1 + 1, c, none⟩ = some (.int .i64 y) from ⟨qa, qb, hca, hcb⟩)
     clear hqp hkeep hav hbv hpr htk hxa hxb hx hy
     go_upto_region 10 with fail
     refine AnyL.start (fun w' => w'.cell? ⟨ab, ao + q, none⟩ = some (.int .i64 a) ∧ w'.cell? ⟨bb, bo + q, none⟩ = some (.int .i64 c) ∧ w'.cell? ⟨w.heap.size + 1 + 1, a, none⟩ = some (.int .i64 x) ∧ w'.cell? ⟨w.heap.size + 1 + 1, c, none⟩ = some (.int .i64 y)) (fun _ => True) 99 (by kernel_rfl) ?_
     refine AnyL.tT 0 (by exact X0.out) ?_
     refine AnyL.tT 1 (by exact X0.out) ?_
     refine AnyL.tT 2 (by exact X0.out) ?_
     refine AnyL.tT 3 (by exact X0.out) ?_
     refine AnyL.tT 4 (by exact X0.out) ?_
     refine AnyL.tT 5 (by exact X0.out) ?_
     refine AnyL.tT 6 (by exact X0.out) ?_
     refine AnyL.tT 7 (by exact X0.out) ?_
     refine AnyL.tT 8 (by exact X0.out) ?_
     refine AnyL.tT 9 (by exact X0.out) ?_
     refine AnyL.tT 10 (by exact X0.out) ?_
     refine AnyL.tT 11 (by exact X0.out) ?_
     refine AnyL.tT 12 (by exact X0.out) ?_
     refine AnyL.tT 13 (by exact X0.out) ?_
     refine AnyL.tT 14 (by exact X0.out) ?_
     refine AnyL.tT 15 (by exact X0.out) ?_
     refine AnyL.done (by kernel_rfl) ?_ _
     have HSD := qd HSX.out.dr
     clear X0 qa qb hca hcb
     go_wp2_with fail
     generalize wr.drew = wd at *
     go_loopw [13, 57] (fun _ i wr => ∃ j : Nat, j ≤ k ∧ i = .int .i64 j ∧ Sep wr [OI (.slice (some ⟨w.heap.size + 1 + 1, 0, none⟩) k k) (swapTo D (max (x : Int) (y : Int)) (min (x : Int) (y : Int)) j), BxA (w.heap.size + 1) #[.int .i64 0, .slice none 0 0, .slice none 0 0, .slice none 0 0] 38, BxA w.heap.size #[.int .i64 k, .slice ea m0 ec, .slice ia n1 ic, .slice oa n2 oc] 38, KeepA w]) (fun _ i _ => k - (intOf i).toNat)
     case atStart => exact ⟨0, by omega, rfl, by rw [swapTo_zero]; exact HSD.out⟩
     case round =>
      obtain ⟨j, hj, rfl, hs⟩ := hrel
      have HSY := qd hs
      clear hs HSD
      by_cases hjl : j < k
      ·have hjD : j < D.length := by rw [HF.out.cl]; exact hjl
       have hll : k = (swapTo D (max (x : Int) (y : Int)) (min (x : Int) (y : Int)) j).length := by rw [swapTo_len]; exact HF.out.cl.symm
       have hcc := cell_of_ints (OwnInts.read (show OwnInts 0 wr (.slice (some ⟨w.heap.size + 1 + 1, 0, none⟩) (swapTo D (max (x : Int) (y : Int)) (min (x : Int) (y : Int)) j).length k) _ from by have := HSY.out.hd; rw [← hll]; exact this)) (show j < _ by rw [← hll]; exact hjl)
       rw [Nat.zero_add, ofL_nat, swapTo_get hjD] at hcc
       have hy1 := @swapTo_yes D (max (x : Int) (y : Int)) (min (x : Int) (y : Int)) j hjD
       have hy2 := @swapTo_no D (max (x : Int) (y : Int)) (min (x : Int) (y : Int)) j hjD
       generalize D.getD j 0 = z at *
       have HMO := qd fun W => l1Most_any (x : Int) (y : Int) W
       have HLE := qd fun W => l1Least_any' (x : Int) (y : Int) W
       have hf := HSY.out.hd.free hll j
       have hfd := HSY.out.dr.hd.free hll j
       have X1 := qd (show wr.drew.cell? ⟨w.heap.size + 1 + 1, j, none⟩ = some (.int .i64 z) from hcc)
       have HSE := qd HSY.out.dr
       by_cases hz : z = max (x : Int) (y : Int)
       ·have hze : (z == max (x : Int) (y : Int)) = true := by simp [hz]
        have hset := HSY.out.dr.setI hll j (min (x : Int) (y : Int))
        rw [hy1 hz] at hset
        have HSET := qd hset
        clear hset hz hjD hll hy1 hy2
        generalize max (x : Int) (y : Int) = M at *
        generalize min (x : Int) (y : Int) = N at *
        go_upto_region 14 with fail
        refine AnyL.start (fun w' => w'.cell? ⟨w.heap.size + 1 + 1, j, none⟩ = some (.int .i64 z)) (fun _ => True) 99 (by kernel_rfl) ?_
        refine AnyL.tT 0 (by exact X1.out) ?_
        refine AnyL.tT 1 (by exact X1.out) ?_
        refine AnyL.tT 2 (by exact X1.out) ?_
        refine AnyL.tT 3 (by exact X1.out) ?_
        refine AnyL.tT 4 (by exact X1.out) ?_
        refine AnyL.tT 5 (by exact X1.out) ?_
        refine AnyL.step (i := 6) (by kernel_rfl) (by rfl) (fun K hK => ?_)
        go_simp
        go_at_call 103
        with_reducible refine (HMO.out _).mono ?_
        rintro e w8 ⟨rfl, rfl⟩
        refine shutNx hK _ (by exact X1.out) (by exact fun _ => trivial) ?_
        clear hK K
        refine AnyL.tT 7 (by exact X1.out) ?_
        refine AnyL.done (by kernel_rfl) ?_ _
        go_wp2_with (go_at_call 104; with_reducible refine (HLE.out _).mono ?_; rintro e w9 ⟨rfl, rfl⟩)
        go_roundw
        case rel => exact ⟨j + 1, by omega, by go_num, HSET.out⟩
        case measure => simp [intOf]; omega
       ·have hze : (z == max (x : Int) (y : Int)) = false := by simp [hz]
        have hs2 := HSE.out
        rw [hy2 hz] at hs2
        have HSET := qd hs2
        clear hs2 hz hjD hll hy1 hy2
        generalize max (x : Int) (y : Int) = M at *
        generalize min (x : Int) (y : Int) = N at *
        go_upto_region 14 with fail
        refine AnyL.start (fun w' => w'.cell? ⟨w.heap.size + 1 + 1, j, none⟩ = some (.int .i64 z)) (fun _ => True) 99 (by kernel_rfl) ?_
        refine AnyL.tT 0 (by exact X1.out) ?_
        refine AnyL.tT 1 (by exact X1.out) ?_
        refine AnyL.tT 2 (by exact X1.out) ?_
        refine AnyL.tT 3 (by exact X1.out) ?_
        refine AnyL.tT 4 (by exact X1.out) ?_
        refine AnyL.tT 5 (by exact X1.out) ?_
        refine AnyL.step (i := 6) (by kernel_rfl) (by rfl) (fun K hK => ?_)
        go_simp
        go_at_call 103
        with_reducible refine (HMO.out _).mono ?_
        rintro e w8 ⟨rfl, rfl⟩
        refine shutNx hK _ (by exact X1.out) (by exact fun _ => trivial) ?_
        clear hK K
        refine AnyL.tT 7 (by exact X1.out) ?_
        refine AnyL.done (by kernel_rfl) ?_ _
        go_wp2_with fail
        go_roundw
        case rel => exact ⟨j + 1, by omega, by go_num, HSET.out⟩
        case measure => simp [intOf]; omega
      ·have hjk : j = k := by omega
       subst hjk
       have hs := HSY.out
       rw [swapTo_full _ _ _ (by rw [HF.out.cl]; exact Nat.le_refl _), ← HJ.out] at hs
       have HSZ := qd hs
       clear hs hjl
       go_wp2_with fail
       go_roundw
       case rel => exact ⟨q + 1, joinC D (a : Int) (c : Int), by omega, by go_num, HTK.out.symm, ⟨_, HJR.out⟩, HSZ.out⟩
       case measure => simp [intOf]; omega
    ·have hqn : q = n := by omega
     subst hqn
     have hdc : C = D := by rw [HCC.out, HD.out, List.take_of_length_le (by rw [HPN.out]; exact Nat.le_refl _)]
     subst hdc
     obtain ⟨y0, y1, y2, y3, _⟩ := bq4 HSX.out.tl.tl.hd
     have HCT := qd (HCN.out wr (show w.grownBy wr none from HSX.out.tl.tl.tl.hd))
     clear hlt
     go_wp2_with (first
      |(go_at_call 94
        with_reducible refine HCT.out.mono ?_
        rintro e w3 ⟨u1, u2, rfl, hsg⟩
        obtain ⟨f1, d1, rfl⟩ := own_shape hsg.hd
        obtain ⟨f2, d2, rfl⟩ := own_shape hsg.tl.hd
        simp only [cntL_len] at hsg ⊢
        have hs3 := HSX.out.graft2 hsg OI_own OI_own
        obtain ⟨z0, z1, z2, z3, _⟩ := bq4 hs3.tl.tl.tl.tl.hd
        have HS3 := qd hs3
        clear hsg hs3)
      |(at_make
        refine wpList_make_full _ rfl _ _ 123 rfl w3.heap.size 4 i0 _ 1 Tryz.underlying123 HBI.out HZ0.out HZ1.out _ _ _ _ k rfl rfl rfl rfl (by rw [HZ2.out]; have := HMM.out; omega) (by unfold maxLen; have := HMM.out; omega) (Nat.le_refl _) ?_
        intro w5 hown' hgr'
        have HS5 := qd (HS3.out.newR hgr' (OwnR.made (E := boolE) falseCells hown'))
        clear hown' hgr'))
     obtain ⟨ub, hub⟩ : ∃ ub, ub = w3.heap.size := ⟨_, rfl⟩
     rw [← hub] at HS5
     simp only [← hub]
     clear hub HSX HS3 HCT y0 y1 y2 y3 z0 z1 z2 z3
     go_loopw [17, 18, 86] (fun _ _ i wr => ∃ j : Nat, j ≤ k ∧ i = .int .i64 j ∧ Sep wr [OR boolE (.slice (some ⟨ub, 0, none⟩) k k) (usedTo k C ws j), OI (.slice f1 k d1) (cntL k fl), OI (.slice f2 k d2) (cntL k tl), OI (.slice (some ⟨w.heap.size + 1 + 1, 0, none⟩) k k) C, BxA (w.heap.size + 1) #[.int .i64 0, .slice none 0 0, .slice none 0 0, .slice none 0 0] 38, BxA w.heap.size #[.int .i64 k, .slice ea m0 ec, .slice ia n1 ic, .slice oa n2 oc] 38, KeepA w]) (fun _ _ i _ => k - (intOf i).toNat)
     case atStart => exact ⟨0, by omega, rfl, by rw [usedTo_zero (fun x hx => (HW.out x hx).1)]; exact HS5.out⟩
     case round =>
      obtain ⟨j, hj, rfl, hs⟩ := hrel
      have HSX := qd hs
      clear hs HS5
      by_cases hjl : j < k
      ·have hjc : j < C.length := by rw [HF.out.cl]; exact hjl
       have hr1 : IntsV wr (.slice f1 k d1) (cntL k fl) := OwnInts.read (show OwnInts 0 wr _ _ from HSX.out.tl.hd)
       have hr2 : IntsV wr (.slice f2 k d2) (cntL k tl) := OwnInts.read (show OwnInts 0 wr _ _ from HSX.out.tl.tl.hd)
       obtain ⟨ab, ao, hae⟩ := IntsV.addr hr1 (by rw [cntL_len]; omega)
       obtain ⟨bb, bo, hbe⟩ := IntsV.addr hr2 (by rw [cntL_len]; omega)
       subst hae hbe
       have qa := cell_of_ints hr1 (show j < (cntL k fl).length by rw [cntL_len]; exact hjl)
       have qb := cell_of_ints hr2 (show j < (cntL k tl).length by rw [cntL_len]; exact hjl)
       rw [ofL_nat, cntL_at hjl] at qa qb
       have qc := cell_of_ints (OwnInts.read (show OwnInts 0 wr (.slice (some ⟨w.heap.size + 1 + 1, 0, none⟩) k k) C from HSX.out.tl.tl.tl.hd)) hjc
       rw [Nat.zero_add] at qc
       have hc := HF.out.c0 (j : Int) (by omega) (by omega)
       obtain ⟨r, hr⟩ := Int.eq_ofNat_of_zero_le hc.1
       rw [hr] at qc hc
       have hrk : r < k := by omega
       have hus := HUC.out j
       have hfl := HFL.out
       have hb1 := List.count_le_length (a := (j : Int)) (l := fl)
       have hb2 := List.count_le_length (a := (j : Int)) (l := tl)
       generalize hna : fl.count (j : Int) = na at qa hus hb1
       generalize hnb : tl.count (j : Int) = nb at qb hus hb2
       have hwr : wrap64 ((na : Int) + (nb : Int)) = (na : Int) + (nb : Int) := wrap64_id (by omega) (by omega)
       have X0 := qd (show wr.drew.cell? ⟨ab, ao + j, none⟩ = some (.int .i64 (na : Int)) ∧ wr.drew.cell? ⟨bb, bo + j, none⟩ = some (.int .i64 (nb : Int)) from ⟨qa, qb⟩)
       have hub := bool_cell HSX.out.dr.hd (usedTo_len k C ws j).symm hrk
       have huf := bool_free HSX.out.dr.hd (usedTo_len k C ws j).symm r
       clear hr1 hr2 hjc hna hnb
       by_cases hz : (j : Int) ∈ ws
       ·have hset := HSX.out.dr.setBo (usedTo_len k C ws j).symm hrk true
        rw [usedTo_yes hz hr hrk] at hset
        have HSET := qd hset
        have hp : 0 < wrap64 ((na : Int) + (nb : Int)) := by have := hus.1 hz; rw [hwr]; omega
        have hp2 : 0 < IntKind.i64.wrap ((na : Int) + (nb : Int)) := by rw [wrap_id (by omega) (by omega), ← hwr]; exact hp
        clear hset hus hwr hr hc hz hfl hb1 hb2
        go_upto_region 23 with fail
        clear qa qb qc
        refine AnyL.start (fun w' => w'.cell? ⟨ab, ao + j, none⟩ = some (.int .i64 (na : Int)) ∧ w'.cell? ⟨bb, bo + j, none⟩ = some (.int .i64 (nb : Int))) (fun _ => True) 99 (by kernel_rfl) ?_
        refine AnyL.tT 0 (by exact X0.out) ?_
        refine AnyL.tT 1 (by exact X0.out) ?_
        refine AnyL.tT 2 (by exact X0.out) ?_
        refine AnyL.tT 3 (by exact X0.out) ?_
        refine AnyL.tT 4 (by exact X0.out) ?_
        refine AnyL.tT 5 (by exact X0.out) ?_
        refine AnyL.tT 6 (by exact X0.out) ?_
        refine AnyL.tT 7 (by exact X0.out) ?_
        refine AnyL.tT 8 (by exact X0.out) ?_
        refine AnyL.tT 9 (by exact X0.out) ?_
        refine AnyL.done (by kernel_rfl) ?_ _
        go_wp2_with fail
        go_roundw
        case rel => exact ⟨j + 1, by omega, by go_num, HSET.out⟩
        case measure => simp [intOf]; omega
       ·have hset := HSX.out.dr
        rw [usedTo_no hz] at hset
        have HSET := qd hset
        have hp : ¬ 0 < wrap64 ((na : Int) + (nb : Int)) := by
         rw [hwr]
         intro h
         exact hz (hus.2 (by omega))
        have hp2 : ¬ 0 < IntKind.i64.wrap ((na : Int) + (nb : Int)) := by rw [wrap_id (by omega) (by omega), ← hwr]; exact hp
        clear hset hus hwr hr hc hz hub huf hfl hb1 hb2
        go_upto_region 23 with fail
        clear qa qb qc
        refine AnyL.start (fun w' => w'.cell? ⟨ab, ao + j, none⟩ = some (.int .i64 (na : Int)) ∧ w'.cell? ⟨bb, bo + j, none⟩ = some (.int .i64 (nb : Int))) (fun _ => True) 99 (by kernel_rfl) ?_
        refine AnyL.tT 0 (by exact X0.out) ?_
        refine AnyL.tT 1 (by exact X0.out) ?_
        refine AnyL.tT 2 (by exact X0.out) ?_
        refine AnyL.tT 3 (by exact X0.out) ?_
        refine AnyL.tT 4 (by exact X0.out) ?_
        refine AnyL.tT 5 (by exact X0.out) ?_
        refine AnyL.tT 6 (by exact X0.out) ?_
        refine AnyL.tT 7 (by exact X0.out) ?_
        refine AnyL.tT 8 (by exact X0.out) ?_
        refine AnyL.tT 9 (by exact X0.out) ?_
        refine AnyL.done (by kernel_rfl) ?_ _
        go_wp2_with fail
        go_roundw
        case rel => exact ⟨j + 1, by omega, by go_num, HSET.out⟩
        case measure => simp [intOf]; omega
      ·have hjk : j = k := by omega
       subst hjk
       have hs := HSX.out
       rw [usedTo_full HW.out] at hs
       obtain ⟨y0, y1, y2, y3, _⟩ := bq4 hs.tl.tl.tl.tl.tl.hd
       have HS6 := qd hs
       clear hs HSX hjl
       go_wp2_with (
        at_make
        refine wpList_make_full _ rfl _ _ 23 rfl wr.heap.size 3 j0 (.int .i64 0) 1 Tryz.underlying23 HII.out HY0.out HY1.out _ _ _ _ j rfl rfl rfl rfl (by rw [HY2.out]; have := HMM.out; omega) (by unfold maxLen; have := HMM.out; omega) (Nat.le_refl _) ?_
        intro w6 hown' hgr'
        have HS7 := qd (HS6.out.newI (zs := List.replicate j 0) hgr' (by rw [madeCells_int] at hown'; unfold OwnInts; rw [List.length_replicate]; exact hown'))
        clear hown' hgr')
       obtain ⟨nz, hnz⟩ : ∃ nz, nz = wr.heap.size := ⟨_, rfl⟩
       rw [← hnz] at HS7
       simp only [← hnz]
       clear hnz HS6 y0 y1 y2 y3
       go_loopw [20, 21, 110] (fun cv _ i wr => ∃ p : Nat, p ≤ j ∧ i = .int .i64 p ∧ cv = .int .i64 (cntR C ws p) ∧ Sep wr [OI (.slice (some ⟨nz, 0, none⟩) j j) (numA C ws j p), OR boolE (.slice (some ⟨ub, 0, none⟩) j j) (usedL j C ws), OI (.slice f1 j d1) (cntL j fl), OI (.slice f2 j d2) (cntL j tl), OI (.slice (some ⟨w.heap.size + 1 + 1, 0, none⟩) j j) C, BxA (w.heap.size + 1) #[.int .i64 0, .slice none 0 0, .slice none 0 0, .slice none 0 0] 38, BxA w.heap.size #[.int .i64 j, .slice ea m0 ec, .slice ia n1 ic, .slice oa n2 oc] 38, KeepA w]) (fun _ _ i _ => j - (intOf i).toNat)
       case atStart => exact ⟨0, by omega, rfl, by simp [cntR], by simpa [numA] using HS7.out⟩
       case round =>
        obtain ⟨p, hp, rfl, rfl, hs⟩ := hrel
        have HSX := qd hs
        clear hs HS7
        by_cases hpl : p < j
        ·have hpc : p < C.length := by rw [HF.out.cl]; exact hpl
         have qc := cell_of_ints (OwnInts.read (show OwnInts 0 wr (.slice (some ⟨w.heap.size + 1 + 1, 0, none⟩) j j) C from HSX.out.tl.tl.tl.tl.hd)) hpc
         rw [Nat.zero_add] at qc
         have hc := HF.out.c0 (p : Int) (by omega) (by omega)
         obtain ⟨r, hr⟩ := Int.eq_ofNat_of_zero_le hc.1
         rw [hr] at qc hc
         have hub := bool_cell HSX.out.tl.hd (usedL_len j C ws).symm hpl
         rw [usedL_at hpl] at hub
         have hll : j = (numA C ws j p).length := (numA_len C ws (by omega)).symm
         have hf := HSX.out.hd.free hll p
         obtain ⟨q0, hc0⟩ := HSX.out.hd.cellQ hll (j := p) hpl
         have hcs := cntR_succ C ws p
         have hcl := cntR_le C ws p
         have hmm := HMM.out
         rw [hr] at hcs
         have hnr : numR C ws p = if (decide ((r : Int) = p) && usedB C ws p) = true then (cntR C ws p : Int) else 0 := by unfold numR; rw [hr]
         by_cases hyes : (r : Int) = p ∧ usedB C ws p = true
         ·have hrp : r = p := by omega
          subst hrp
          rw [hyes.2] at hub hcs hnr
          rw [decide_eq_true rfl, Bool.true_and, if_pos rfl] at hcs hnr
          have hset := HSX.out.setI hll r (cntR C ws r : Int)
          rw [numA_set hpl hnr] at hset
          have HSET := qd hset
          have hwc : wrap64 ((cntR C ws r : Int) + 1) = ((cntR C ws (r + 1) : Nat) : Int) := by rw [hcs, wrap64_id (by omega) (by omega)]; omega
          clear hset hnr hcs hcl hyes hpc hr hc hll
          go_wp2_with fail
          go_roundw
          case rel => exact ⟨r + 1, by omega, by go_num, by rw [hwc], HSET.out⟩
          case measure => simp [intOf]; omega
         ·have hb : (decide ((r : Int) = p) && usedB C ws p) = false := by
           cases hu : usedB C ws p
           ·rw [Bool.and_false]
           ·rw [decide_eq_false (fun h => hyes ⟨h, hu⟩)]; rfl
          rw [hb, if_neg (by simp)] at hcs hnr
          have hset := HSX.out
          rw [numA_skip hpl hnr] at hset
          have HSET := qd (show cntR C ws (p + 1) = cntR C ws p ∧ _ from ⟨hcs, hset⟩)
          clear hset hnr hcs hcl hb hpc hr hc0 hf hll
          by_cases hrp : r = p
          ·subst hrp
           have hu : usedB C ws r = false := by
            cases hu : usedB C ws r
            ·rfl
            ·exact absurd ⟨rfl, hu⟩ hyes
           rw [hu] at hub
           clear hyes
           go_wp2_with fail
           go_roundw
           case rel => exact ⟨r + 1, by omega, by go_num, by rw [HSET.out.1], HSET.out.2⟩
           case measure => simp [intOf]; omega
          ·have hne : ((r : Int) == (p : Int)) = false := by simp; omega
           have hne' : ¬ (r : Int) = (p : Int) := by omega
           clear hyes
           go_wp2_with fail
           go_roundw
           case rel => exact ⟨p + 1, by omega, by go_num, by rw [HSET.out.1], HSET.out.2⟩
           case measure => simp [intOf]; omega
        ·have hpj : p = j := by omega
         subst hpj
         have hs := HSX.out
         rw [← numB_zero] at hs
         have HS8 := qd hs
         clear hs HSX hpl
         go_wp2_with fail
         go_loopw [22, 134] (fun _ i wr => ∃ s : Nat, s ≤ p ∧ i = .int .i64 s ∧ Sep wr [OI (.slice (some ⟨nz, 0, none⟩) p p) (numB C ws p s), OR boolE (.slice (some ⟨ub, 0, none⟩) p p) (usedL p C ws), OI (.slice f1 p d1) (cntL p fl), OI (.slice f2 p d2) (cntL p tl), OI (.slice (some ⟨w.heap.size + 1 + 1, 0, none⟩) p p) C, BxA (w.heap.size + 1) #[.int .i64 0, .slice none 0 0, .slice none 0 0, .slice none 0 0] 38, BxA w.heap.size #[.int .i64 p, .slice ea m0 ec, .slice ia n1 ic, .slice oa n2 oc] 38, KeepA w]) (fun _ i _ => p - (intOf i).toNat)
         case atStart => exact ⟨0, by omega, rfl, HS8.out⟩
         case round =>
          obtain ⟨s, hs', rfl, hs⟩ := hrel
          have HSX := qd hs
          clear hs HS8
          by_cases hsl : s < p
          ·have hsc : s < C.length := by rw [HF.out.cl]; exact hsl
           have hll : p = (numB C ws p s).length := (numB_len C ws (by omega)).symm
           have hc := HF.out.c0 (s : Int) (by omega) (by omega)
           have hcc := HF.out.cc (s : Int) (by omega) (by omega)
           obtain ⟨r, hr⟩ := Int.eq_ofNat_of_zero_le hc.1
           rw [hr] at hc hcc
           have hrs : r ≤ s := by omega
           have hrp : r < p := by omega
           have hf := HSX.out.hd.free hll s
           obtain ⟨q0, hc0⟩ := HSX.out.hd.cellQ hll (j := s) hsl
           have qc := cell_of_ints (OwnInts.read (show OwnInts 0 wr (.slice (some ⟨w.heap.size + 1 + 1, 0, none⟩) p p) C from HSX.out.tl.tl.tl.tl.hd)) hsc
           rw [Nat.zero_add, hr] at qc
           have qn := cell_of_ints (OwnInts.read (show OwnInts 0 wr (.slice (some ⟨nz, 0, none⟩) (numB C ws p s).length p) (numB C ws p s) from by have := HSX.out.hd; rw [← hll]; exact this)) (show r < _ by rw [← hll]; exact hrp)
           rw [Nat.zero_add, ofL_nat] at qn
           have hnx : numX C ws (s : Int) = if usedB C ws (r : Int) = true then (cntR C ws r : Int) else -1 := by unfold numX; rw [hr, Int.toNat_natCast]
           have hval : usedB C ws (r : Int) = true → (numB C ws p s).getD r 0 = numX C ws (s : Int) := fun hu => by
            rw [hnx, if_pos hu]
            by_cases hrl : r < s
            ·rw [numB_old hrl hsl]
             unfold numX
             rw [hcc, Int.toNat_natCast, if_pos hu]
            ·have hre : r = s := by omega
             subst hre
             rw [numB_now hsl]
             unfold numR
             rw [hr, decide_eq_true rfl, hu]
             rfl
           generalize hv1 : (numB C ws p s).getD r 0 = v1 at *
           have hset := HSX.out.setI hll s v1
           have HLL := qd hll
           clear hll
           go_upto_region 39 with fail
           clear hf hc0 qc qn q0 HSX
           generalize wr.setCell ⟨nz, s, none⟩ (.int .i64 v1) = w7 at *
           have hll2 : p = ((numB C ws p s).set s v1).length := by rw [List.length_set]; exact HLL.out
           have HL2 := qd hll2
           have hf := hset.hd.free hll2 s
           obtain ⟨q0, hc0⟩ := hset.hd.cellQ hll2 (j := s) hsl
           have qc := cell_of_ints (OwnInts.read (show OwnInts 0 w7 (.slice (some ⟨w.heap.size + 1 + 1, 0, none⟩) p p) C from hset.tl.tl.tl.tl.hd)) hsc
           rw [Nat.zero_add, hr] at qc
           have hub := bool_cell hset.tl.hd (usedL_len p C ws).symm hrp
           rw [usedL_at hrp] at hub
           cases hu : usedB C ws (r : Int)
           ·rw [hu] at hub
            rw [hu, if_neg (by simp)] at hnx
            have hs2 := hset.setI hll2 s (-1)
            rw [List.set_set, numB_set hsl hnx] at hs2
            have HSET := qd hs2
            clear hset hs2 hll2 hnx hval hr hc hcc hv1 hsc
            go_wp2_with fail
            go_roundw
            case rel => exact ⟨s + 1, by omega, by go_num, HSET.out⟩
            case measure => simp [intOf]; omega
           ·rw [hu] at hub
            rw [numB_set hsl (hval hu).symm] at hset
            have HSET := qd hset
            clear hset hll2 hnx hval hr hc hcc hv1 hsc hf hc0
            go_wp2_with fail
            go_roundw
            case rel => exact ⟨s + 1, by omega, by go_num, HSET.out⟩
            case measure => simp [intOf]; omega
          ·have hsp : s = p := by omega
           subst hsp
           have hs := HSX.out
           rw [numB_full] at hs
           have hs1 := hs.under (fun h => h.tl.tl.tl.tl) (by simp +contextual)
           obtain ⟨y0, y1, y2, y3, _⟩ := bq4 hs1.tl.tl.hd
           have HMC := qd (HMV.out C _ wr (show w.grownBy wr none from hs1.tl.tl.tl.hd) (OwnInts.read (show OwnInts 0 wr _ _ from hs1.hd)))
           have HSY := qd hs1
           clear hsl hs hs1 HSX
           go_wp2_with (
            go_at_call 90
            with_reducible refine HMC.out.mono ?_
            rintro e w9 ⟨u0, xs, u1, u2, rfl, hxs, hsg⟩
            have HXS := qd hxs
            obtain ⟨s0, r0, rfl⟩ := OE.shape hsg.hd
            obtain ⟨s1, r1, rfl⟩ := own_shape hsg.tl.hd
            obtain ⟨s2, r2, rfl⟩ := own_shape hsg.tl.tl.hd
            simp only [List.length_map] at hsg
            have hs1 := (HSY.out.graft3 hsg OE_own OI_own OI_own).s5
            obtain ⟨v0, v1, v2, v3, v4, v5⟩ := bq4 hs1.hd
            have hs2 := (((hs1.setB 0 (.int .i64 (cntR C ws s))).setB 1 (.slice s0 xs.length r0)).setB 2 (.slice s1 g.i.length r1)).setB 3 (.slice s2 g.o.length r2)
            obtain ⟨k0, k1, k2, k3, _⟩ := bq4 hs2.hd
            have HSF := qd (hs2.tl.under (fun h => h.under (fun h => h.under (fun h => h.tl.tl) (by simp +contextual)) (by simp +contextual)) (by simp +contextual))
            clear hsg hs1 hs2 hxs)
           refine bodyPost_ret_by (v := .tuple #[.agg #[.int .i64 (cntR C ws s), .slice s0 xs.length r0, .slice s1 g.i.length r1, .slice s2 g.o.length r2], .slice (some ⟨nz, 0, none⟩) s s]) ?_ rfl ⟨_, xs, _, _, _, rfl, HXS.out, HSF.out⟩
           simp [results, go_sem, *]
end Go.Proofs.YtjagjhchnpmngaaGreat

/-
  A circuit in which operands and outputs are other gates. Conditions: at most 1000 gates, the function value writes nothing old.
-/
import Derived.Test.YtkamcgonacmieaaDoorNa04
import Derived.Test.YtkamcgonacmieaaDoorNa03
import Derived.Deep.CutRange
namespace Go.Proofs.YtkamcgonacmieaaDoor
open Go.RowKit
set_option linter.unusedVariables false
set_option maxRecDepth 100000

theorem map_step {α : Type} (f : α → α) {gs : List α} {k : Nat} (z : α) (hk : k < gs.length) : ((gs.take k).map f ++ gs.drop k).set k (f (gs.getD k z)) = (gs.take (k + 1)).map f ++ gs.drop (k + 1) := by
  have h1 : ((gs.take k).map f).length = k := by rw [List.length_map, List.length_take]; omega
  have e : gs.getD k z = gs[k] := by rw [List.getD_eq_getElem?_getD, List.getElem?_eq_getElem hk]; rfl
  rw [List.set_append_right _ _ (by omega), h1, Nat.sub_self, List.drop_eq_getElem_cons hk, List.set_cons_zero, List.take_succ_eq_append_getElem hk, List.map_append, e]
  simp
theorem map_at {α : Type} (f : α → α) {gs : List α} {k : Nat} (z : α) (hk : k < gs.length) : ((gs.take k).map f ++ gs.drop k).getD k z = gs.getD k z := by
  have h1 : ((gs.take k).map f).length = k := by rw [List.length_map, List.length_take]; omega
  rw [List.getD_eq_getElem?_getD, List.getElem?_append_right (by omega), h1, Nat.sub_self, List.getElem?_drop, Nat.add_zero, List.getD_eq_getElem?_getD]
theorem map_len {α : Type} (f : α → α) {gs : List α} {k : Nat} (hk : k ≤ gs.length) : ((gs.take k).map f ++ gs.drop k).length = gs.length := by
  rw [List.length_append, List.length_map, List.length_take, List.length_drop]; omega
theorem getD_mem3 {α : Type} {gs : List α} {k : Nat} (z : α) (hk : k < gs.length) : gs.getD k z ∈ gs := by
  rw [List.getD_eq_getElem?_getD, List.getElem?_eq_getElem hk]; exact List.getElem_mem _

set_option maxHeartbeats 4000000 in
theorem redirected_any (g : FuncId) (lb : Array Value) (eg : ∀ args w, (callFunc g args).run Tryd.prog w = .ok (.enter g args) w) (S : Int → Prop) (f : Int → Int) (n : Int) (d : Addr) (c : Nat) (ov : Value) (gs : List Gt) (os : List Int) (w : World)
    (hf : OfFn g lb S f w) (hS1 : ∀ y ∈ gs, ∀ x ∈ opsL y, S x) (hS2 : ∀ x ∈ os, S x) (hg : RdR gateE w (.slice (some d) gs.length c) gs) (ho : IntsV w ov os) (l0 : 1 ≤ gs.length) (l1 : gs.length ≤ 1000) (l2 : os.length ≤ 1000) :
    Calls Tryd.prog 133 #[.agg #[.int .i64 n, .slice (some d) gs.length c, ov], .func (.func g) #[] lb] w fun e w' => ∃ a1 c1 a2 c2, e = .returned (cirV n (.slice a1 gs.length c1) (.slice a2 os.length c2)) ∧
      Sep w' [OR gateE (.slice a1 gs.length c1) (gs.map (withL f)), OI (.slice a2 os.length c2) (os.map f), KeepA w] := by
  have HCP := Lib.hid fun W (h : w.grownBy W none) => copy_any n d c ov gs os W (hg.carry h) (ho.carry h) (by omega) (by omega)
  have HF := Lib.hid hf; have HS1 := Lib.hid hS1; have HS2 := Lib.hid hS2
  have HWO := Lib.hid fun (y : Gt) W (h : w.grownBy W none) (hy : y ∈ gs) => withOperands_any g lb eg S f y W (fun W' x hx h' => hf W' x hx (grownBy_trans h h')) (hS1 y hy)
  unfold cirV at HCP ⊢
  unfold gtV at HWO
  obtain ⟨oa, oc, rfl⟩ := ho.shape
  clear hg ho hf hS1 hS2
  generalize hm : gs.length = m at *
  generalize hm2 : os.length = m2 at *
  have HM := Lib.hid hm; have HM2 := Lib.hid hm2
  clear hm hm2
  have hs0 := ((Sep.start w).box #[.int .i64 n, .slice (some d) m c, .slice oa m2 oc] 29).box #[.int .i64 0, .slice none 0 0, .slice none 0 0] 29
  have e1 : (w.alloc (.cells #[.int .i64 n, .slice (some d) m c, .slice oa m2 oc] 29)).heap.size = w.heap.size + 1 := by simp
  rw [e1] at hs0
  have HSA := Lib.hid hs0
  have HKA := Lib.hid (show w.grownBy _ none from hs0.tl.tl.hd)
  clear hs0 e1
  go_enter Tryd.func133, Tryd.ntmps133
  go_wp2_with (
    go_at_call 58
    with_reducible refine (HCP.out _ HKA.out).mono ?_
    rintro e w4 ⟨a1, c1, a2, c2, rfl, hsg⟩
    obtain ⟨gg, cc, hge, _, _, _⟩ := hsg.hd.parts (by rw [HM.out]; omega)
    rw [HM.out] at hge
    cases hge
    have hs4 := ((HSA.out.graft2 hsg OR_own OI_own).under (fun h => h.under (fun h => h.drop2) (by simp +contextual)) (by simp +contextual)).box #[.int .i64 n, .slice (some ⟨gg, 0, none⟩) m c1, .slice a2 m2 c2] 29
    obtain ⟨x0, x1, x2, x3, x4, x5⟩ := bx3 hs4.hd
    have HS4 := Lib.hid hs4
    clear hsg hs4)
  generalize w4.heap.size = ob at *
  go_loopw [15] (fun i wr => ∃ k : Nat, k ≤ m ∧ i = .int .i64 k ∧ Sep wr [BxA ob #[.int .i64 n, .slice (some ⟨gg, 0, none⟩) m c1, .slice a2 m2 c2] 29, OR gateE (.slice (some ⟨gg, 0, none⟩) m c1) ((gs.take k).map (withL f) ++ gs.drop k), OI (.slice a2 m2 c2) os, BxA (w.heap.size + 1) #[.int .i64 0, .slice none 0 0, .slice none 0 0] 29, KeepA w]) (fun i _ => m - (intOf i).toNat)
  case atStart => exact ⟨0, by omega, rfl, by simpa using HS4.out⟩
  case round =>
    obtain ⟨k, hk, rfl, hs⟩ := hrel
    have HSX := Lib.hid hs
    obtain ⟨x0, x1, x2, x3, x4, x5⟩ := bx3 hs.hd
    by_cases hlt : k < m
    · have hkg : k < gs.length := by rw [HM.out]; exact hlt
      have HLL := Lib.hid (show m = ((gs.take k).map (withL f) ++ gs.drop k).length by rw [map_len _ (by omega), HM.out])
      have hcells := gate_cells hs.tl.hd HLL.out (i := k) (by rw [← HLL.out]; exact hlt)
      rw [map_at _ _ hkg] at hcells
      obtain ⟨q0, q1, q2, q3⟩ := hcells
      have HST := Lib.hid (map_step (withL f) g0 hkg)
      have HW := Lib.hid fun W h => HWO.out (gs.getD k g0) W h (getD_mem3 _ hkg)
      clear hs hkg
      generalize gs.getD k g0 = y at *
      generalize withL f y = y' at *
      generalize (gs.take k).map (withL f) ++ gs.drop k = L at *
      go_upto_region 5 with fail
      have hs1 := (HSX.out.al (.cells #[.int .i64 y.k, .int .i64 y.a, .int .i64 y.b, .int .i64 y.v] 130)).dr
      have HS1' := Lib.hid hs1
      have HK1 := Lib.hid (show w.grownBy _ none from hs1.tl.tl.tl.tl.hd)
      obtain ⟨z0, z1, z2, z3, z4, z5⟩ := bx3 hs1.hd
      have hgb : (wr.alloc (.cells #[.int .i64 y.k, .int .i64 y.a, .int .i64 y.b, .int .i64 y.v] 130)).drew.heap[wr.heap.size]? = some (.cells #[.int .i64 y.k, .int .i64 y.a, .int .i64 y.b, .int .i64 y.v] 130 (0, 0)) := alloc_heap_new wr _
      obtain ⟨v0, v1, v2, v3, _⟩ := bx4 hgb
      clear hs1 hgb
      go_region_law (
        (try go_simp)
        go_at_call 202
        go_loud (with_reducible refine (HW.out _ HK1.out).mono ?_)
        rintro e w5 ⟨rfl, hg5⟩
        have HS5 := Lib.hid (HS1'.out.grown hg5)
        obtain ⟨p0, p1, p2, p3, p4, p5⟩ := bx3 HS5.out.hd
        obtain ⟨f0, f1, f2, f3⟩ := gate_free HS5.out.tl.hd HLL.out k
        obtain ⟨q, d0, d1, d2, d3⟩ := gate_cellsQ HS5.out.tl.hd HLL.out (i := k) (by rw [← HLL.out]; exact hlt)
        have hset := HS5.out.s2.setG HLL.out (by rw [← HLL.out]; exact hlt) y'
        rw [HST.out] at hset
        have HS6 := Lib.hid hset.s2
        clear hg5 hset)
      all_goals
        go_wp2_with fail
        go_roundw
        case rel => exact ⟨k + 1, by omega, by go_num, HS6.out⟩
        case measure => simp [intOf]; omega
    · have hkm : k = m := by omega
      subst hkm
      have hs1 := hs
      rw [List.take_of_length_le (by rw [HM.out]; exact Nat.le_refl _), List.drop_of_length_le (by rw [HM.out]; exact Nat.le_refl _), List.append_nil] at hs1
      have HS7 := Lib.hid hs1
      clear hs hs1 hlt HSX
      go_wp2_with fail
      go_loopw [31] (fun i wr => ∃ q : Nat, q ≤ m2 ∧ i = .int .i64 q ∧ Sep wr [BxA ob #[.int .i64 n, .slice (some ⟨gg, 0, none⟩) k c1, .slice a2 m2 c2] 29, OI (.slice a2 m2 c2) ((os.take q).map f ++ os.drop q), OR gateE (.slice (some ⟨gg, 0, none⟩) k c1) (gs.map (withL f)), BxA (w.heap.size + 1) #[.int .i64 0, .slice none 0 0, .slice none 0 0] 29, KeepA w]) (fun i _ => m2 - (intOf i).toNat)
      case atStart => exact ⟨0, by omega, rfl, by simpa using HS7.out.swap23⟩
      case round =>
        obtain ⟨q, hq, rfl, hs⟩ := hrel
        have HSX := Lib.hid hs
        obtain ⟨x0, x1, x2, x3, x4, x5⟩ := bx3 hs.hd
        by_cases hlt : q < m2
        · have hkg : q < os.length := by rw [HM2.out]; exact hlt
          have HLL := Lib.hid (show m2 = ((os.take q).map f ++ os.drop q).length by rw [map_len _ (by omega), HM2.out])
          obtain ⟨g2, cc2, hge, _, _, _⟩ := hs.tl.hd.parts (by intro h; have := congrArg List.length h; rw [← HLL.out, List.length_nil] at this; omega)
          rw [← HLL.out] at hge
          cases hge
          obtain ⟨b', o', hbe, _, hcell⟩ := hs.tl.hd.read.atD (i := q) (by rw [← HLL.out]; exact hlt)
          cases hbe
          rw [map_at _ _ hkg, Nat.zero_add] at hcell
          have HST := Lib.hid (map_step f 0 hkg)
          have HFX := Lib.hid fun W h => HF.out W _ (HS2.out _ (getD_mem3 0 hkg)) h
          clear hs hkg
          generalize os.getD q 0 = y at *
          generalize f y = y' at *
          generalize (os.take q).map f ++ os.drop q = L at *
          go_upto_region 10 with fail
          have hs1 := HSX.out.dr
          have HS1' := Lib.hid hs1
          have HK1 := Lib.hid (show w.grownBy _ none from hs1.tl.tl.tl.tl.hd)
          obtain ⟨z0, z1, z2, z3, z4, z5⟩ := bx3 hs1.hd
          clear hs1
          go_region_law (
            (try go_simp)
            go_at_fn g
            go_loud (with_reducible refine (HFX.out _ HK1.out).mono ?_)
            rintro e w5 ⟨rfl, hg5⟩
            have HS5 := Lib.hid (HS1'.out.grown hg5)
            obtain ⟨p0, p1, p2, p3, p4, p5⟩ := bx3 HS5.out.hd
            have hf := HS5.out.tl.hd.free HLL.out q
            obtain ⟨qq, hcq⟩ := HS5.out.tl.hd.cellQ HLL.out (j := q) hlt
            have hset := HS5.out.s2.setI HLL.out q y'
            rw [HST.out] at hset
            have HS6 := Lib.hid hset.s2
            clear hg5 hset)
          all_goals
            go_wp2_with fail
            go_roundw
            case rel => exact ⟨q + 1, by omega, by go_num, HS6.out⟩
            case measure => simp [intOf]; omega
        · have hkm : q = m2 := by omega
          subst hkm
          have hs1 := hs
          rw [List.take_of_length_le (by rw [HM2.out]; exact Nat.le_refl _), List.drop_of_length_le (by rw [HM2.out]; exact Nat.le_refl _), List.append_nil] at hs1
          have hs2 := hs1.s4
          obtain ⟨r0, r1, r2, r3, r4, r5⟩ := bx3 hs2.hd
          have hs3 := ((hs2.setB 0 (.int .i64 n)).setB 1 (.slice (some ⟨gg, 0, none⟩) k c1)).setB 2 (.slice a2 q c2)
          obtain ⟨t0, t1, t2, _⟩ := bx3 hs3.hd
          have HSF := Lib.hid (show Sep _ [OR gateE (.slice (some ⟨gg, 0, none⟩) k c1) (gs.map (withL f)), OI (.slice a2 q c2) (os.map f), KeepA w] from hs3.tl.tl.s2)
          clear hs hs1 hs2 hs3 hlt HSX
          go_wp2_with fail
          refine bodyPost_ret_by (v := .agg #[.int .i64 n, .slice (some ⟨gg, 0, none⟩) k c1, .slice a2 q c2]) ?_ rfl ⟨_, c1, a2, c2, rfl, HSF.out⟩
          simp [results, go_sem, *]
end Go.Proofs.YtkamcgonacmieaaDoor

/-
  SimplifyGates in the program. Conditions: the table of small primes holds what its text lays; at most 2,000,000 gates and outputs.
-/
namespace Go.Proofs.YtkamcgonacmieaaDoor
open Go.RowKit
set_option linter.unusedVariables false
set_option maxRecDepth 100000

set_option maxHeartbeats 1000000 in
theorem simplify_any (n : Int) (d : Addr) (c : Nat) (ov : Value) (gs : List Gt) (os : List Int) (w : World) (hgs : Gates gs) (hos : ∀ x ∈ os, 0 ≤ x ∧ x < gs.length) (hg : RdR gateE w (.slice (some d) gs.length c) gs) (ho : IntsV w ov os) (l0 : 1 ≤ gs.length) (l1 : gs.length ≤ 1000) (l2 : os.length ≤ 1000) :
    Calls Tryd.prog 61 #[.agg #[.int .i64 n, .slice (some d) gs.length c, ov]] w fun e w' => ∃ a1 c1 a2 c2, e = .returned (cirV n (.slice a1 gs.length c1) (.slice a2 os.length c2)) ∧
      Sep w' [OR gateE (.slice a1 gs.length c1) (gs.map (withL (finL gs))), OI (.slice a2 os.length c2) (os.map (finL gs)), KeepA w] := by
  obtain ⟨oa, oc, rfl⟩ := ho.shape
  have HC := Lib.hid fun W (h : w.grownBy W none) (b0 : W.cell? ⟨w.heap.size, 0, none⟩ = some (.int .i64 n)) (b1 : W.cell? ⟨w.heap.size, 1, none⟩ = some (.slice (some d) gs.length c)) (b2 : W.cell? ⟨w.heap.size, 2, none⟩ = some (.slice oa os.length oc)) =>
    redirected_any 134 #[.pointer (some ⟨w.heap.size, 0, none⟩)] (enters_of Tryd.func134 (by kernel_rfl) rfl) (fun x => 0 ≤ x ∧ x < gs.length) (finL gs) n d c (.slice oa os.length oc) gs os W
      (fun W' x hx hg' => by
        have hp := World.block_lt_of_cell? W _ b0
        exact simp1_any n (.slice (some d) gs.length c) oa os.length oc w.heap.size gs x W' ((World.cell?_of_block (a := ⟨w.heap.size, 0, none⟩) (hg'.block _ hp (by simp))).trans b0) ((World.cell?_of_block (a := ⟨w.heap.size, 1, none⟩) (hg'.block _ hp (by simp))).trans b1) ((World.cell?_of_block (a := ⟨w.heap.size, 2, none⟩) (hg'.block _ hp (by simp))).trans b2) (hg.carry (grownBy_trans h hg')) hgs l1 hx.1 hx.2)
      (fun y hy x hx => hgs.ops y hy x hx) hos (hg.carry h) (ho.carry h) l0 l1 l2
  unfold cirV at HC ⊢
  clear hgs hos hg ho
  generalize gs.length = m at *
  generalize os.length = m2 at *
  have hs0 := ((Sep.start w).box #[.int .i64 n, .slice (some d) m c, .slice oa m2 oc] 29).box #[.int .i64 0, .slice none 0 0, .slice none 0 0] 29
  have e1 : (w.alloc (.cells #[.int .i64 n, .slice (some d) m c, .slice oa m2 oc] 29)).heap.size = w.heap.size + 1 := by simp
  rw [e1] at hs0
  obtain ⟨x0, x1, x2, _⟩ := bx3 hs0.tl.hd
  have HC2 := Lib.hid (HC.out _ hs0.tl.tl.hd x0 x1 x2)
  have HS0 := Lib.hid hs0
  clear hs0 e1 HC
  go_enter Tryd.func61, Tryd.ntmps61
  go_wp2_with (
    go_at_call 133
    refine HC2.out.mono ?_
    rintro e w4 ⟨a1, c1, a2, c2, rfl, hsg⟩
    have hs1 := (HS0.out.graft2 hsg OR_own OI_own).s3
    obtain ⟨r0, r1, r2, r3, r4, r5⟩ := bx3 hs1.hd
    have hs2 := ((hs1.setB 0 (.int .i64 n)).setB 1 (.slice a1 m c1)).setB 2 (.slice a2 m2 c2)
    obtain ⟨t0, t1, t2, _⟩ := bx3 hs2.hd
    have HSF := Lib.hid (show Sep _ [OR gateE (.slice a1 m c1) (gs.map (withL (finL gs))), OI (.slice a2 m2 c2) (os.map (finL gs)), KeepA w] from hs2.tl.under (fun h => h.drop2) (by simp +contextual))
    clear hsg hs1 hs2)
  refine bodyPost_ret_by (v := .agg #[.int .i64 n, .slice a1 m c1, .slice a2 m2 c2]) ?_ rfl ⟨a1, c1, a2, c2, rfl, HSF.out⟩
  simp [results, go_sem, *]

noncomputable def simpRes (p : Int) (c : Circ) : Circ := if circE p c = true then simpC c else circ0
/-- What a function that turns a circuit hands back: a circuit of its own, and whether it could. -/
def CirRes (R : Circ) (b : Bool) (w : World) (e : Ending) (w' : World) : Prop :=
  ∃ a1 c1 a2 c2, e = .returned (.tuple #[cirV R.n (.slice a1 R.gs.length c1) (.slice a2 R.os.length c2), .bool b]) ∧ Sep w' [OR gateE (.slice a1 R.gs.length c1) R.gs, OI (.slice a2 R.os.length c2) R.os, KeepA w]
theorem circE_facts {p : Int} {c : Circ} (h : circE p c = true) : Gates c.gs ∧ (∀ x ∈ c.os, 0 ≤ x ∧ x < c.gs.length) ∧ 1 ≤ c.gs.length ∧ c.gs.length ≤ 40 ∧ c.os.length ≤ 8 := circB_gates h
theorem CirRes.zero {w w' : World} (h : w.grownBy w' none) : CirRes circ0 false w (.returned (.tuple #[.agg #[.int .i64 0, .slice none 0 0, .slice none 0 0], .bool false])) w' :=
  ⟨none, 0, none, 0, rfl, (((Sep.start w).grown h).nilI).nilR gateE⟩

end Go.Proofs.YtkamcgonacmieaaDoor

/-
  A circuit with operands and outputs replaced, in the reference. Conditions: at most 1000 gates.
-/
namespace Go.Proofs.YtkamcgonacmieaaDoor
open Go.RowKit
set_option linter.unusedVariables false
set_option maxRecDepth 100000

/-- what a list holds at an index -/
def ofL (zs : List Int) (x : Int) : Int := zs.getD x.toNat 0
theorem takeS {zs : List Int} {k : Nat} (h : k < zs.length) (f : Int → Int) : (zs.take (k + 1)).map f = (zs.take k).map f ++ [f (zs.getD k 0)] := by
  rw [List.take_succ_eq_append_getElem h, List.map_append, List.getD_eq_getElem?_getD, List.getElem?_eq_getElem h]
  rfl
theorem hgList_any (v u : Value) (l zs : List Int) (w : World) (hv : IntsV w v l) (hu : IntsV w u zs) (hl : l.length ≤ 1000000) (hin : ∀ x ∈ l, 0 ≤ x ∧ x < zs.length) :
    Calls Tryd.prog 119 #[v, u] w fun e w' => ∃ a c, e = .returned (.slice a l.length c) ∧ Sep w' [OI (.slice a l.length c) (l.map (ofL zs)), KeepA w] := by
  have HV := Lib.hid hv; have HU := Lib.hid hu; have HIN := Lib.hid hin
  obtain ⟨a1, c1, rfl⟩ := hv.shape
  obtain ⟨a2, c2, rfl⟩ := hu.shape
  generalize hn : l.length = n at *
  have HN := Lib.hid hn
  generalize hm : zs.length = m at *
  have HM := Lib.hid hm
  clear hv hu hin hn hm
  have HS0 := Lib.hid (Sep.start w).nilI
  go_enter Tryd.func119, Tryd.ntmps119
  go_wp2_with fail
  go_loopw [5, 10] (fun ov i wr => ∃ (k : Nat) (oa : Option Addr) (oc : Nat), k ≤ n ∧ i = .int .i64 k ∧ ov = .slice oa k oc ∧ Sep wr [OI (.slice oa k oc) ((l.take k).map (ofL zs)), KeepA w]) (fun _ i _ => n - (intOf i).toNat)
  case atStart => exact ⟨0, none, 0, by omega, rfl, rfl, HS0.out⟩
  case round =>
    obtain ⟨k, oa, oc, hk, rfl, rfl, hs⟩ := hrel
    have HS := Lib.hid hs
    by_cases hlt : k < n
    · have hkl : k < l.length := by rw [HN.out]; exact hlt
      obtain ⟨b1, o1, rfl, _, q1⟩ := (HV.out.carry hs.tl.hd).atD hkl
      obtain ⟨hx0, hx1⟩ := HIN.out _ (getD_mem' hkl)
      have HT := Lib.hid (takeS hkl (ofL zs))
      have hkl2 : ((l.take k).map (ofL zs)).length = k := by rw [List.length_map, List.length_take]; omega
      have HKL := Lib.hid hkl2
      generalize l.getD k 0 = x at *
      obtain ⟨j, rfl⟩ := Int.eq_ofNat_of_zero_le hx0
      have hjm : j < m := by omega
      obtain ⟨b2, o2, rfl, _, q2⟩ := (HU.out.carry hs.tl.hd).atD (i := j) (by rw [HM.out]; exact hjm)
      have HOF := Lib.hid (show ofL zs j = zs.getD j 0 by unfold ofL; rw [Int.toNat_natCast])
      rw [← HOF.out] at q2
      clear hs hx0 hx1 hkl hkl2 HOF
      generalize ofL zs j = y at *
      generalize (l.take k).map (ofL zs) = L at *
      go_wp2_with (
        at_builtin
        refine app_intS rfl _ _ rfl rfl rfl HS.out (by rw [HKL.out]; omega) ?_
        intro g c w3 h3
        rw [HKL.out] at h3 ⊢
        have HS3 := Lib.hid h3
        clear h3)
      go_roundw
      case rel => exact ⟨k + 1, _, _, by omega, by go_num, rfl, by rw [HT.out]; exact HS3.out⟩
      case measure => simp [intOf]; omega
    · have hkn : k = n := by omega
      subst hkn
      have hs1 := hs
      rw [List.take_of_length_le (by rw [HN.out]; exact Nat.le_refl _)] at hs1
      have HS1 := Lib.hid hs1
      clear hs hs1 hlt
      go_wp2_with fail
      go_ret
      exact ⟨oa, oc, rfl, HS1.out⟩

theorem withL_congr {f f' : Int → Int} {g : Gt} (h : ∀ x ∈ opsL g, f x = f' x) : withL f g = withL f' g := by
  unfold withL
  unfold opsL at h
  split
  · next h3 => rw [if_pos h3] at h; rw [h g.a (by simp), h g.b (by simp)]
  · next h3 =>
    rw [if_neg h3] at h
    split
    · next h4 => rw [if_pos h4] at h; rw [h g.a (by simp)]
    · rfl
theorem app_RG {α : Type} {E : Lay α} {ops : Array Oper} {rest : List Oper} {o : Oper} {a : Act} {Q : Exit → Act → World → Prop} {w : World} {v : Value} {xs : List α} {l : List Asrt} {y : α} {t : TypeId} {z : Value} {bytes q : Nat}
    (hinfo : (Tryd.prog.info? E.ty).map (fun i => (i.zero, i.size, i.bytes)) = some (some z, E.sz, bytes)) (hzs : z.cells.size = E.sz) (hby : bytes ≤ 10000) (ht : Tryd.prog.underlying t = some (.slice E.ty)) (hone : ∀ u ∈ E.cs y, u.oneCell' = true)
    (hgd : o.guard = none) (s x : Operand) (ho : o.op = .call { callee := .builtin .append, args := #[s, x], argTypes := #[t, t] })
    (hs : a.eval s = v) (hx : a.eval x = .slice (some ⟨q, 0, none⟩) 1 1) (hq : q = w.heap.size) {cs : Array Value} (hcs : cs.toList = E.cs y) (H : Sep w (OR E v xs :: l)) (hl : xs.length ≤ 10000000)
    (h : ∀ g cap w', Sep w' (OR E (.slice (some ⟨g, 0, none⟩) (xs.length + 1) cap) (xs ++ [y]) :: l) → wpList Tryd.prog ops Q rest (a.put o.dst (.slice (some ⟨g, 0, none⟩) (xs.length + 1) cap)) w') :
    wpList Tryd.prog ops Q (o :: rest) a (w.alloc (.cells cs E.ty)) := by
  subst hq
  exact app_R hinfo hzs hby ht hone hgd s x ho hs hx hcs H hl h
end Go.Proofs.YtkamcgonacmieaaDoor

/-
  A circuit with operands and outputs replaced, in the reference: the walk. Conditions: at most 1000 gates.
-/
namespace Go.Proofs.YtkamcgonacmieaaDoor
open Go.RowKit
set_option linter.unusedVariables false
set_option maxRecDepth 100000

theorem takeG {gs : List Gt} {k : Nat} (h : k < gs.length) (f : Gt → Gt) : (gs.take (k + 1)).map f = (gs.take k).map f ++ [f (gs.getD k g0)] := by
  rw [List.take_succ_eq_append_getElem h, List.map_append, List.getD_eq_getElem?_getD, List.getElem?_eq_getElem h]
  rfl
theorem IntsV.cellN {w : World} {b o n cap : Nat} {zs : List Int} (h : IntsV w (.slice (some ⟨b, o, none⟩) n cap) zs) {i : Nat} (hi : i < zs.length) : w.cell? ⟨b, o + i, none⟩ = some (.int .i64 (zs.getD i 0)) := by
  obtain ⟨b', o', he, _, h⟩ := h.atD hi
  cases he
  exact h

set_option maxHeartbeats 8000000 in
theorem opReplace_any (n : Int) (gv ov tv : Value) (gs : List Gt) (os zs : List Int) (w : World) (hg : RdR gateE w gv gs) (ho : IntsV w ov os) (hz : IntsV w tv zs) (l1 : gs.length ≤ 1000) (l2 : os.length ≤ 1000) (hgs : ∀ y ∈ gs, ∀ x ∈ opsL y, 0 ≤ x ∧ x < zs.length) (hos : ∀ x ∈ os, 0 ≤ x ∧ x < zs.length) :
    Calls Tryd.prog 52 #[.agg #[.int .i64 n, gv, ov], tv] w fun e w' => ∃ a1 c1 a2 c2, e = .returned (cirV n (.slice a1 gs.length c1) (.slice a2 os.length c2)) ∧
      Sep w' [OR gateE (.slice a1 gs.length c1) (gs.map (withL (ofL zs))), OI (.slice a2 os.length c2) (os.map (ofL zs)), KeepA w] := by
  have HHL := Lib.hid fun W (h : w.grownBy W none) => hgList_any ov tv os zs W (ho.carry h) (hz.carry h) (by omega) hos
  have HG := Lib.hid hg; have HZ := Lib.hid hz; have HGS := Lib.hid hgs
  unfold cirV
  obtain ⟨ga, gc, rfl⟩ := hg.shape
  obtain ⟨oa, oc, rfl⟩ := ho.shape
  obtain ⟨za, zc, rfl⟩ := hz.shape
  generalize hm : gs.length = m at *
  generalize hm2 : os.length = m2 at *
  generalize hm3 : zs.length = m3 at *
  have HM := Lib.hid hm; have HM3 := Lib.hid hm3
  clear hg ho hz hgs hos hm hm2 hm3
  have hs0 := ((Sep.start w).box #[.int .i64 n, .slice ga m gc, .slice oa m2 oc] 29).box #[.int .i64 0, .slice none 0 0, .slice none 0 0] 29
  have e1 : (w.alloc (.cells #[.int .i64 n, .slice ga m gc, .slice oa m2 oc] 29)).heap.size = w.heap.size + 1 := by simp
  rw [e1] at hs0
  have HS0 := Lib.hid hs0
  clear hs0 e1
  go_enter Tryd.func52, Tryd.ntmps52
  go_upto_region 1 with fail
  go_cut [5] from 8 to 14 (fun t5 wx => ∃ (ob : Nat) (a2 : Option Addr) (c2 : Nat), t5 = .pointer (some ⟨ob, 0, none⟩) ∧ Sep wx [BxA ob #[.int .i64 n, .slice none 0 0, .slice a2 m2 c2] 29, OI (.slice a2 m2 c2) (os.map (ofL zs)), BxA (w.heap.size + 1) #[.int .i64 0, .slice none 0 0, .slice none 0 0] 29, BxA w.heap.size #[.int .i64 n, .slice ga m gc, .slice oa m2 oc] 29, KeepA w])
  case first =>
    have hs1 := HS0.out.dr
    have HS1 := Lib.hid hs1
    have hs1a := (HS0.out.box #[.int .i64 0, .slice none 0 0, .slice none 0 0] 29).dr
    rw [show ((w.alloc (.cells #[.int .i64 n, .slice ga m gc, .slice oa m2 oc] 29)).alloc (.cells #[.int .i64 0, .slice none 0 0, .slice none 0 0] 29)).heap.size = w.heap.size + 1 + 1 by simp] at hs1a
    have HS1a := Lib.hid hs1a
    have HK1 := Lib.hid (show w.grownBy _ none from hs1.tl.tl.hd)
    have HK1a := Lib.hid (show w.grownBy _ none from hs1a.tl.tl.tl.hd)
    obtain ⟨x0, x1, x2, x3, x4, x5⟩ := bx3 hs1.tl.hd
    obtain ⟨y0, y1, y2, y3, y4, y5⟩ := bx3 hs1a.tl.tl.hd
    clear hs1 hs1a
    go_region_law (first
      | (try go_simp
         go_at_call 119
         with_reducible refine (HHL.out _ HK1.out).mono ?_
         rintro e w2 ⟨a2, c2, rfl, hsg⟩
         have HS2 := Lib.hid (HS1.out.graft1 hsg OI_own)
         obtain ⟨p0, p1, p2, p3, p4, p5⟩ := bx3 HS2.out.tl.tl.hd
         have pa0 := fun ob' => (bx3 (HS2.out.al ob').tl.tl.hd).1
         have pa2 := fun ob' => (bx3 (HS2.out.al ob').tl.tl.hd).2.2.1
         have HSF := Lib.hid ((HS2.out).box #[.int .i64 n, .slice none 0 0, .slice a2 m2 c2] 29)
         clear hsg)
      | (try go_simp
         go_at_call 119
         with_reducible refine (HHL.out _ HK1a.out).mono ?_
         rintro e w2 ⟨a2, c2, rfl, hsg⟩
         have hs2 := (HS1a.out.graft1 hsg OI_own).s2
         obtain ⟨p0, p1, p2, p3, p4, p5⟩ := bx3 hs2.tl.tl.tl.hd
         obtain ⟨q0, q1, q2, q3, q4, q5⟩ := bx3 hs2.hd
         have HSF := Lib.hid (((hs2.setB 0 (.int .i64 n)).setB 1 (.slice none 0 0)).setB 2 (.slice a2 m2 c2))
         clear hsg hs2))
    all_goals
      go_wp2_with fail
      go_meet
      exact ⟨_, a2, c2, rfl, HSF.out⟩
  case rest =>
    obtain ⟨ob, a2, c2, rfl, hs⟩ := hcut
    have HS := Lib.hid hs
    obtain ⟨x0, x1, x2, x3, x4, x5⟩ := bx3 hs.hd
    obtain ⟨y0, y1, y2, _⟩ := bx3 hs.tl.tl.tl.hd
    clear hs
    go_wp2_with fail
    go_loopw [18] (fun i wr => ∃ (k : Nat) (a1 : Option Addr) (c1 : Nat), k ≤ m ∧ i = .int .i64 k ∧ Sep wr [BxA ob #[.int .i64 n, .slice a1 k c1, .slice a2 m2 c2] 29, OR gateE (.slice a1 k c1) ((gs.take k).map (withL (ofL zs))), OI (.slice a2 m2 c2) (os.map (ofL zs)), BxA (w.heap.size + 1) #[.int .i64 0, .slice none 0 0, .slice none 0 0] 29, KeepA w]) (fun i _ => m - (intOf i).toNat)
    case atStart => exact ⟨0, none, 0, by omega, rfl, ((HS.out.under (fun h => h.under (fun h => h.drop2) (by simp +contextual)) (by simp +contextual)).nilR gateE).s2⟩
    case round =>
      obtain ⟨k, a1, c1, hk, rfl, hs⟩ := hrel
      have HSX := Lib.hid hs
      obtain ⟨x0, x1, x2, x3, x4, x5⟩ := bx3 hs.hd
      have hkeep : w.grownBy wr none := hs.tl.tl.tl.tl.hd
      by_cases hlt : k < m
      · have hkg : k < gs.length := by rw [HM.out]; exact hlt
        obtain ⟨gb, go, rfl, _, q0, q1, q2, q3⟩ := gate_at rfl rfl (HG.out.carry hkeep) hkg
        have HT := Lib.hid (takeG hkg (withL (ofL zs)))
        have HKL := Lib.hid (show ((gs.take k).map (withL (ofL zs))).length = k by rw [List.length_map, List.length_take]; omega)
        have HOP := Lib.hid (HGS.out _ (getD_mem3 g0 hkg))
        generalize gs.getD k g0 = y at *
        generalize (gs.take k).map (withL (ofL zs)) = L at *
        have HAP := Lib.hid fun ob' => (HSX.out.s2.al ob')
        have bx0 := fun ob' => (bx3 (HSX.out.al ob').hd).1
        have bx1' := fun ob' => (bx3 (HSX.out.al ob').hd).2.1
        have bx2' := fun ob' => (bx3 (HSX.out.al ob').hd).2.2.1
        have HZC := Lib.hid fun ob' => HZ.out.carry (grownBy_trans hkeep (gr1 wr ob'))
        obtain ⟨gk, a, b, v⟩ := y
        simp only at q0 q1 q2 q3 HOP
        clear hs hkg hkeep
        by_cases h3 : gk = 3
        · subst h3
          obtain ⟨ra0, ra1⟩ := HOP.out a (by simp [opsL])
          obtain ⟨rb0, rb1⟩ := HOP.out b (by simp [opsL])
          obtain ⟨ia, rfl⟩ := Int.eq_ofNat_of_zero_le ra0
          obtain ⟨ib, rfl⟩ := Int.eq_ofNat_of_zero_le rb0
          have hia : ia < zs.length := by rw [HM3.out]; omega
          have hib : ib < zs.length := by rw [HM3.out]; omega
          obtain ⟨zb, zo, rfl, _, _⟩ := (HZC.out (.cells #[] 0)).atD hia
          have za1 := fun ob' => (HZC.out ob').cellN hia
          have zb1 := fun ob' => (HZC.out ob').cellN hib
          have hw : withL (ofL zs) ⟨3, ia, ib, v⟩ = ⟨3, zs.getD ia 0, zs.getD ib 0, v⟩ := by simp [withL, ofL]
          rw [hw] at HT
          have hia3 : ia < m3 := by rw [← HM3.out]; exact hia
          have hib3 : ib < m3 := by rw [← HM3.out]; exact hib
          clear hw ra0 ra1 rb0 rb1 hia hib
          generalize zs.getD ia 0 = fa at *
          generalize zs.getD ib 0 = fb at *
          go_wp2_with (
            at_builtin
            go_loud (refine app_RG (E := gateE) info_gate rfl (by decide) Tryd.underlying27 (gate_one ⟨3, fa, fb, v⟩) rfl (.tmp 48) (.tmp 50) rfl rfl rfl (by simp) rfl (HAP.out _) (by rw [HKL.out]; omega) ?_)
            intro g c w3 h3
            rw [HKL.out] at h3 ⊢
            have hs3 := h3.s2
            obtain ⟨u0, u1, u2, u3, u4, u5⟩ := bx3 hs3.hd
            have HS3 := Lib.hid (hs3.setB 1 (.slice (some ⟨g, 0, none⟩) (k + 1) c))
            clear h3 hs3)
          go_roundw
          case rel => exact ⟨k + 1, some ⟨g, 0, none⟩, c, by omega, by go_num, by rw [HT.out]; exact HS3.out⟩
          case measure => simp [intOf]; omega
        · by_cases h45 : gk = 4 ∨ gk = 5
          · have hol : opsL ⟨gk, a, b, v⟩ = [a] := by simp [opsL, h3, h45]
            obtain ⟨ra0, ra1⟩ := HOP.out a (by rw [hol]; simp)
            obtain ⟨ia, rfl⟩ := Int.eq_ofNat_of_zero_le ra0
            have hia : ia < zs.length := by rw [HM3.out]; omega
            obtain ⟨zb, zo, rfl, _, _⟩ := (HZC.out (.cells #[] 0)).atD hia
            have za1 := fun ob' => (HZC.out ob').cellN hia
            have hw : withL (ofL zs) ⟨gk, ia, b, v⟩ = ⟨gk, zs.getD ia 0, b, v⟩ := by simp [withL, ofL, h3, h45]
            rw [hw] at HT
            have hia3 : ia < m3 := by rw [← HM3.out]; exact hia
            have e3 : (gk == 3) = false := by simpa using h3
            clear hw ra0 ra1 hia hol HOP
            generalize zs.getD ia 0 = fa at *
            by_cases h4 : gk = 4
            · subst h4
              clear e3 h45 h3
              go_wp2_with (
                at_builtin
                go_loud (refine app_RG (E := gateE) info_gate rfl (by decide) Tryd.underlying27 (gate_one ⟨4, fa, b, v⟩) rfl (.tmp 48) (.tmp 50) rfl rfl rfl (by simp) rfl (HAP.out _) (by rw [HKL.out]; omega) ?_)
                intro g c w3 h3
                rw [HKL.out] at h3 ⊢
                have hs3 := h3.s2
                obtain ⟨u0, u1, u2, u3, u4, u5⟩ := bx3 hs3.hd
                have HS3 := Lib.hid (hs3.setB 1 (.slice (some ⟨g, 0, none⟩) (k + 1) c))
                clear h3 hs3)
              go_roundw
              case rel => exact ⟨k + 1, some ⟨g, 0, none⟩, c, by omega, by go_num, by rw [HT.out]; exact HS3.out⟩
              case measure => simp [intOf]; omega
            · obtain rfl : gk = 5 := by omega
              clear e3 h45 h3 h4
              go_wp2_with (
                at_builtin
                go_loud (refine app_RG (E := gateE) info_gate rfl (by decide) Tryd.underlying27 (gate_one ⟨5, fa, b, v⟩) rfl (.tmp 48) (.tmp 50) rfl rfl rfl (by simp) rfl (HAP.out _) (by rw [HKL.out]; omega) ?_)
                intro g c w3 h3
                rw [HKL.out] at h3 ⊢
                have hs3 := h3.s2
                obtain ⟨u0, u1, u2, u3, u4, u5⟩ := bx3 hs3.hd
                have HS3 := Lib.hid (hs3.setB 1 (.slice (some ⟨g, 0, none⟩) (k + 1) c))
                clear h3 hs3)
              go_roundw
              case rel => exact ⟨k + 1, some ⟨g, 0, none⟩, c, by omega, by go_num, by rw [HT.out]; exact HS3.out⟩
              case measure => simp [intOf]; omega
          · have hw : withL (ofL zs) ⟨gk, a, b, v⟩ = ⟨gk, a, b, v⟩ := by simp [withL, h3, h45]
            rw [hw] at HT
            simp only [not_or] at h45
            have e3 : (gk == 3) = false := by simpa using h3
            have e4 : (gk == 4) = false := by simpa using h45.1
            have e5 : (gk == 5) = false := by simpa using h45.2
            clear hw h3 h45 HOP
            go_wp2_with (
              at_builtin
              go_loud (refine app_RG (E := gateE) info_gate rfl (by decide) Tryd.underlying27 (gate_one ⟨gk, a, b, v⟩) rfl (.tmp 48) (.tmp 50) rfl rfl rfl (by simp) rfl (HAP.out _) (by rw [HKL.out]; omega) ?_)
              intro g c w3 h3
              rw [HKL.out] at h3 ⊢
              have hs3 := h3.s2
              obtain ⟨u0, u1, u2, u3, u4, u5⟩ := bx3 hs3.hd
              have HS3 := Lib.hid (hs3.setB 1 (.slice (some ⟨g, 0, none⟩) (k + 1) c))
              clear h3 hs3)
            go_roundw
            case rel => exact ⟨k + 1, some ⟨g, 0, none⟩, c, by omega, by go_num, by rw [HT.out]; exact HS3.out⟩
            case measure => simp [intOf]; omega
      · have hkm : k = m := by omega
        subst hkm
        have hs1 := hs
        rw [List.take_of_length_le (by rw [HM.out]; exact Nat.le_refl _)] at hs1
        have hs2 := hs1.s4
        obtain ⟨r0, r1, r2, r3, r4, r5⟩ := bx3 hs2.hd
        have hs3 := ((hs2.setB 0 (.int .i64 n)).setB 1 (.slice a1 k c1)).setB 2 (.slice a2 m2 c2)
        obtain ⟨t0, t1, t2, _⟩ := bx3 hs3.hd
        have HSF := Lib.hid (show Sep _ [OR gateE (.slice a1 k c1) (gs.map (withL (ofL zs))), OI (.slice a2 m2 c2) (os.map (ofL zs)), KeepA w] from hs3.tl.tl)
        clear hs hs1 hs2 hs3 hlt hkeep
        go_wp2_with fail
        refine bodyPost_ret_by (v := .agg #[.int .i64 n, .slice a1 k c1, .slice a2 m2 c2]) ?_ rfl ⟨a1, c1, a2, c2, rfl, HSF.out⟩
        simp [results, go_sem, *]
end Go.Proofs.YtkamcgonacmieaaDoor

/-
  SimplifyGates in the reference. Conditions: at most 2,000,000 gates and outputs.
-/
namespace Go.Proofs.YtkamcgonacmieaaDoor
open Go.RowKit
set_option linter.unusedVariables false
set_option maxRecDepth 100000

noncomputable def finsL (gs : List Gt) (k : Nat) : List Int := (upL k).map (finL gs)
theorem finsL_len (gs : List Gt) (k : Nat) : (finsL gs k).length = k := by unfold finsL; rw [List.length_map, upL_len]
theorem finsL_succ (gs : List Gt) (k : Nat) : finsL gs (k + 1) = finsL gs k ++ [finL gs k] := by unfold finsL; rw [upL_succ, List.map_append]; rfl
theorem finsL_of {gs : List Gt} {m : Nat} {x : Int} (h0 : 0 ≤ x) (h1 : x < m) : ofL (finsL gs m) x = finL gs x := by
  obtain ⟨k, rfl⟩ := Int.eq_ofNat_of_zero_le h0
  unfold ofL finsL
  rw [Int.toNat_natCast, List.getD_eq_getElem?_getD, List.getElem?_map]
  have h2 := upL_at (show k < m by omega)
  rw [List.getD_eq_getElem?_getD, List.getElem?_eq_getElem (by rw [upL_len]; omega)] at h2
  rw [List.getElem?_eq_getElem (by rw [upL_len]; omega)]
  simp only [Option.getD_some] at h2
  rw [h2]
  rfl

set_option maxHeartbeats 4000000 in
theorem opSimplify_any (n : Int) (gv ov : Value) (gs : List Gt) (os : List Int) (w : World) (hgs : Gates gs) (hos : ∀ x ∈ os, 0 ≤ x ∧ x < gs.length) (hg : RdR gateE w gv gs) (ho : IntsV w ov os) (l1 : gs.length ≤ 1000) (l2 : os.length ≤ 1000) :
    Calls Tryd.prog 49 #[.agg #[.int .i64 n, gv, ov]] w fun e w' => ∃ a1 c1 a2 c2, e = .returned (cirV n (.slice a1 gs.length c1) (.slice a2 os.length c2)) ∧
      Sep w' [OR gateE (.slice a1 gs.length c1) (gs.map (withL (finL gs))), OI (.slice a2 os.length c2) (os.map (finL gs)), KeepA w] := by
  have HOF := Lib.hid fun W (h : w.grownBy W none) a2 k2 c2 (k : Nat) (hk : k < gs.length) => opFor_any n gv a2 k2 c2 gs k W (hg.carry h) hk l1 hgs.opsN
  have HRP := Lib.hid fun W tv (h : w.grownBy W none) (hz : IntsV W tv (finsL gs gs.length)) => opReplace_any n gv ov tv gs os (finsL gs gs.length) W (hg.carry h) (ho.carry h) hz l1 l2 (fun y hy x hx => by rw [finsL_len]; exact hgs.ops y hy x hx) (fun x hx => by rw [finsL_len]; exact hos x hx)
  have e1 : gs.map (withL (ofL (finsL gs gs.length))) = gs.map (withL (finL gs)) := List.map_congr_left fun y hy => withL_congr fun x hx => by
    obtain ⟨h0, h1⟩ := hgs.ops y hy x hx
    exact finsL_of h0 h1
  have e2 : os.map (ofL (finsL gs gs.length)) = os.map (finL gs) := List.map_congr_left fun x hx => by
    obtain ⟨h0, h1⟩ := hos x hx
    exact finsL_of h0 h1
  rw [e1, e2] at HRP
  unfold cirV at HRP ⊢
  obtain ⟨r, hr⟩ := hgs.chain
  have HR := Lib.hid hr; have HGS := Lib.hid hgs
  obtain ⟨ga, gc, rfl⟩ := hg.shape
  obtain ⟨oa, oc, rfl⟩ := ho.shape
  generalize hm : gs.length = m at *
  generalize os.length = m2 at *
  have HM := Lib.hid hm
  clear hgs hos hg ho hr e1 e2 hm
  have HNAT := Lib.hid fun (k : Nat) (hk : k < m) => (show ∃ j : Nat, standL gs k = (j : Int) ∧ j < m from by
    obtain ⟨h1, h2⟩ := HGS.out.stand (k := (k : Int)) (by omega) (by have := HM.out; omega)
    obtain ⟨j, hj⟩ := Int.eq_ofNat_of_zero_le h1
    exact ⟨j, hj, by have := HM.out; omega⟩)
  have hs0 := ((Sep.start w).box #[.int .i64 n, .slice ga m gc, .slice oa m2 oc] 29).box #[.int .i64 0, .slice none 0 0, .slice none 0 0] 29
  have e1 : (w.alloc (.cells #[.int .i64 n, .slice ga m gc, .slice oa m2 oc] 29)).heap.size = w.heap.size + 1 := by simp
  rw [e1] at hs0
  have HS0 := Lib.hid hs0.nilI
  obtain ⟨b0, b1, b2, _⟩ := bx3 hs0.tl.hd
  clear hs0 e1
  go_enter Tryd.func49, Tryd.ntmps49
  go_wp2_with fail
  go_loopw [3, 9] (fun tv i wr => ∃ (k : Nat) (ta : Option Addr) (tc : Nat), k ≤ m ∧ i = .int .i64 k ∧ tv = .slice ta k tc ∧ Sep wr [OI (.slice ta k tc) (finsL gs k), BxA (w.heap.size + 1) #[.int .i64 0, .slice none 0 0, .slice none 0 0] 29, BxA w.heap.size #[.int .i64 n, .slice ga m gc, .slice oa m2 oc] 29, KeepA w]) (fun _ i _ => m - (intOf i).toNat)
  case atStart => exact ⟨0, none, 0, by omega, rfl, rfl, HS0.out⟩
  case round =>
    obtain ⟨k, ta, tc, hk, rfl, rfl, hs⟩ := hrel
    have HS := Lib.hid hs
    obtain ⟨x0, x1, x2, _⟩ := bx3 hs.tl.tl.hd
    have HKP := Lib.hid (show w.grownBy wr none from hs.tl.tl.tl.hd)
    by_cases hlt : k < m
    · clear hs
      have HSU := Lib.hid (finsL_succ gs k)
      have HLEN := Lib.hid (finsL_len gs k)
      go_wp2_with fail
      go_loopw [5] (fun s5 wr' => ∃ (i j : Nat), s5 = .int .i64 j ∧ j < m ∧ (j : Int) = iterL (standL gs) i k ∧ wr.grownBy wr' none) (fun s5 _ => r (intOf s5).toNat)
      case atStart => exact ⟨0, k, rfl, hlt, rfl, grownBy_refl _ _⟩
      case round =>
        obtain ⟨i, j, rfl, hj, hit, hg2⟩ := hrel
        have HIT := Lib.hid hit; have HGW := Lib.hid hg2
        obtain ⟨y0, y1, y2, _⟩ := bx3 (HS.out.grown hg2).tl.tl.hd
        obtain ⟨j2, hj2, hjm2⟩ := HNAT.out j hj
        have HC := Lib.hid fun W (h : w.grownBy W none) => HOF.out W h oa m2 oc j hj
        rw [hj2] at HC
        have HK2 := Lib.hid (grownBy_trans HKP.out hg2)
        by_cases he : j2 = j
        · subst he
          have hf : finL gs k = j2 := by
            have h1 : standL gs (iterL (standL gs) i k) = iterL (standL gs) i k := by rw [← hit]; exact hj2
            rw [fin_of h1, ← hit]
          rw [hf] at HSU
          clear hit hf hg2 hj2
          generalize finsL gs k = L at *
          go_wp2_with (first
            | (go_at_call 115
               with_reducible refine (HC.out _ HK2.out).mono ?_
               rintro e w3 ⟨rfl, hg3⟩
               have HS3 := Lib.hid ((HS.out.grown HGW.out).grown hg3)
               clear hg3)
            | (at_builtin
               refine app_intG rfl _ _ rfl rfl rfl (by simp) HS3.out (by rw [HLEN.out]; omega) ?_
               intro g c w4 h4
               rw [HLEN.out] at h4 ⊢
               have HS4 := Lib.hid h4
               clear h4))
          go_roundw
          case rel => exact ⟨k + 1, _, _, by omega, by go_num, rfl, by rw [HSU.out]; exact HS4.out⟩
          case measure => simp [intOf]; omega
        · have hne : ((j2 : Int) != (j : Int)) = true := by rw [bne_iff_ne]; omega
          have HLT := Lib.hid (show r j2 < r j by
            have h1 := HR.out j (by omega) (by omega) (by rw [hj2]; omega)
            rw [hj2] at h1
            simpa using h1)
          have HJ2 := Lib.hid hj2
          clear hit hg2 he hj2
          go_wp2_with (first
            | (go_at_call 115
               with_reducible refine (HC.out _ HK2.out).mono ?_
               rintro e w3 ⟨rfl, hg3⟩
               have HG3 := Lib.hid (grownBy_trans HGW.out hg3)
               have HK3 := Lib.hid (grownBy_trans HK2.out hg3)
               obtain ⟨z0, z1, z2, _⟩ := bx3 (HS.out.grown (grownBy_trans HGW.out hg3)).tl.tl.hd
               clear hg3)
            | (go_at_call 115
               with_reducible refine (HC.out _ HK3.out).mono ?_
               rintro e w4 ⟨rfl, hg4⟩
               have HG4 := Lib.hid (grownBy_trans HG3.out hg4)
               clear hg4))
          go_roundw
          case rel => exact ⟨i + 1, j2, rfl, hjm2, by show (j2 : Int) = standL gs (iterL (standL gs) i k); rw [← HIT.out, HJ2.out], HG4.out⟩
          case measure =>
            show r j2 < r j
            exact HLT.out
    · have hkm : k = m := by omega
      subst hkm
      have HZ := Lib.hid (show IntsV wr (.slice ta k tc) (finsL gs k) from hs.hd.read)
      clear hs hlt
      generalize finsL gs k = L at *
      go_wp2_with (
        go_at_call 52
        with_reducible refine (HRP.out _ _ HKP.out HZ.out).mono ?_
        rintro e w4 ⟨a1, c1, a2, c2, rfl, hsg⟩
        have hs1 := (HS.out.tl.graft2 hsg OR_own OI_own).s3
        obtain ⟨r0, r1, r2, r3, r4, r5⟩ := bx3 hs1.hd
        have hs2 := ((hs1.setB 0 (.int .i64 n)).setB 1 (.slice a1 k c1)).setB 2 (.slice a2 m2 c2)
        obtain ⟨t0, t1, t2, _⟩ := bx3 hs2.hd
        have HSF := Lib.hid (show Sep _ [OR gateE (.slice a1 k c1) (gs.map (withL (finL gs))), OI (.slice a2 m2 c2) (os.map (finL gs)), KeepA w] from hs2.tl.under (fun h => h.drop2) (by simp +contextual))
        clear hsg hs1 hs2)
      refine bodyPost_ret_by (v := .agg #[.int .i64 n, .slice a1 k c1, .slice a2 m2 c2]) ?_ rfl ⟨a1, c1, a2, c2, rfl, HSF.out⟩
      simp [results, go_sem, *]
end Go.Proofs.YtkamcgonacmieaaDoor

/-
  SimplifyGates in the reference: the whole function. Conditions: at most 2,000,000 gates and outputs.
-/
namespace Go.Proofs.YtkamcgonacmieaaDoor
open Go.RowKit
set_option linter.unusedVariables false
set_option maxRecDepth 100000

end Go.Proofs.YtkamcgonacmieaaDoor

/-
  What the exact laws on circuits ask of sizes, and the order of parts. Conditions: none.
-/
namespace Go.Proofs.YtkamcgonacmieaaDoor
open Go.RowKit
set_option linter.unusedVariables false
set_option maxRecDepth 100000

def szR (left : Int) (n1 n2 : Nat) : Int := if left - n1 < 0 then -1 else if left - n1 - n2 < 0 then -1 else left - n1 - n2
theorem szR_ok {n1 n2 : Nat} (h : 0 ≤ szR 1048576 n1 n2) : n1 ≤ 1048576 ∧ n2 ≤ 1048576 := by
  unfold szR at h
  split at h
  · omega
  · split at h <;> omega
theorem szCircuit_val (n : Int) (a1 a2 : Option Addr) (n1 c1 n2 c2 : Nat) (left : Int) (w : World) (h0 : 0 ≤ left) (h1 : left ≤ 1048576) (hn1 : n1 ≤ 9223372036854775807) (hn2 : n2 ≤ 9223372036854775807) :
    Calls Tryd.prog 9 #[.agg #[.int .i64 n, .slice a1 n1 c1, .slice a2 n2 c2], .int .i64 left] w fun e w' => e = .returned (.int .i64 (szR left n1 n2)) ∧ w.grownBy w' none := by
  have HC := Lib.hid fun W => szGateS_any a1 n1 c1 left W h0 h1 hn1
  by_cases h : left - n1 < 0
  · have hz : szR left n1 n2 = -1 := by unfold szR; rw [if_pos h]
    rw [hz]
    rw [if_pos h] at HC
    clear hz
    go_enter Tryd.func9, Tryd.ntmps9
    go_wp2_with (go_at_call 46; refine (HC.out _).mono ?_; rintro e w' ⟨rfl, rfl⟩)
    go_ret
    exact ⟨rfl, gr1 _ _⟩
  · rw [if_neg h] at HC
    have hz : szR left n1 n2 = if left - n1 - n2 < 0 then -1 else left - n1 - n2 := by unfold szR; rw [if_neg h]
    rw [hz]
    obtain ⟨m, hm⟩ : ∃ m, m = left - n1 := ⟨_, rfl⟩
    rw [← hm] at HC ⊢
    have hm0 : 0 ≤ m := by omega
    have HD := Lib.hid fun W => szIntS_any a2 n2 c2 m W (by omega) (by omega) hn2
    by_cases h' : m - n2 < 0
    · rw [if_pos h'] at HD ⊢
      clear hm hz
      go_enter Tryd.func9, Tryd.ntmps9
      go_wp2_with (first
        | (go_at_call 46; refine (HC.out _).mono ?_; rintro e w' ⟨rfl, rfl⟩)
        | (go_at_call 47; refine (HD.out _).mono ?_; rintro e w' ⟨rfl, rfl⟩))
      go_ret
      exact ⟨rfl, gr1 _ _⟩
    · rw [if_neg h'] at HD ⊢
      obtain ⟨m2, hm2⟩ : ∃ m2, m2 = m - n2 := ⟨_, rfl⟩
      rw [← hm2] at HD ⊢
      have hm20 : 0 ≤ m2 := by omega
      clear hm hm2 hz
      go_enter Tryd.func9, Tryd.ntmps9
      go_wp2_with (first
        | (go_at_call 46; refine (HC.out _).mono ?_; rintro e w' ⟨rfl, rfl⟩)
        | (go_at_call 47; refine (HD.out _).mono ?_; rintro e w' ⟨rfl, rfl⟩))
      go_ret
      exact ⟨rfl, gr1 _ _⟩
theorem simpRes_len (p : Int) (c : Circ) (h1 : c.gs.length ≤ 1048576) (h2 : c.os.length ≤ 1048576) : (simpRes p c).gs.length ≤ 1048576 ∧ (simpRes p c).os.length ≤ 1048576 := by
  unfold simpRes
  split
  · simp only [simpC, redirL, List.length_map]; exact ⟨h1, h2⟩
  · simp [circ0]
theorem Sep.s6 {w : World} {A C D E F G : Asrt} {l : List Asrt} (h : Sep w (A :: C :: D :: E :: F :: G :: l)) : Sep w (G :: A :: C :: D :: E :: F :: l) := (h.under Sep.s5 (by simp +contextual)).s2
end Go.Proofs.YtkamcgonacmieaaDoor

/-
  DecompileProgram in the program and in the reference: the whole functions. Conditions: at most 2,000,000 instructions.
-/
import Derived.Test.YtmofaaceadnafaaDoorNc03
import Derived.Test.YtmofaaceadnafaaDoorNa04
import Derived.Test.YtmofaaceadnafaaDoorNc00
import Derived.Deep.CutRange
namespace Go.Proofs.YtmofaaceadnafaaDoor
open Go.RowKit
set_option linter.unusedVariables false
set_option maxRecDepth 100000

theorem dec_len {p I O C R : Int} {is : List It} (hv : progB p I O C R is = true) : (decC I O C is).n = I ∧ (decC I O C is).gs.length ≤ 200 ∧ (decC I O C is).os.length ≤ 200 := by
  obtain ⟨⟨hI0, hI1⟩, ⟨hO0, hO1⟩, ⟨hC0, hC1⟩, ⟨hR0, hR1⟩, hlen, -⟩ := dec_bnd hv
  obtain ⟨h1, h2, h3, h4⟩ := run_lenD is (s0D O C)
  unfold decC
  simp only [lnk_len]
  refine ⟨trivial, ?_, ?_⟩
  · have : (s0D O C).gs.length = C.toNat + 1 := by simp [s0D]
    omega
  · rw [h2]
    simp [s0D]
    omega
def decOk (p I O C R : Int) (is : List It) : Bool := progB p I O C R is && circE p (decC I O C is)
def decRes (p I O C R : Int) (is : List It) : Circ := if decOk p I O C R is = true then decC I O C is else circ0
theorem Sep.reads {w w0 : World} {gv ov : Value} {gs : List Gt} {os : List Int} (h : Sep w [OR gateE gv gs, OI ov os, KeepA w0]) : RdR gateE w gv gs ∧ IntsV w ov os ∧ w0.grownBy w none := ⟨h.hd.read, h.tl.hd.read, h.tl.tl.hd⟩

set_option maxHeartbeats 2000000 in
theorem validCircuit_any (p n : Int) (gv ov : Value) (gs : List Gt) (os : List Int) (w : World) (ht : Tab w) (hg : RdR gateE w gv gs) (ho : IntsV w ov os) (l1 : gs.length ≤ 2000000) (l2 : os.length ≤ 2000000) :
    Calls Tryd.prog 61 #[.int .i64 p, cirV n gv ov] w fun e w' => e = .returned (.tuple #[if circE p ⟨n, gs, os⟩ = true then cirV n gv ov else cirV 0 nilS nilS, .bool (circE p ⟨n, gs, os⟩)]) ∧ w.grownBy w' none := by
  have HIC := Lib.hid fun W (h : w.grownBy W none) => isCircuit_any p n gv ov gs os W (ht.grown h) (hg.carry h) (ho.carry h) l1 l2
  obtain ⟨ga, gc, rfl⟩ := hg.shape
  obtain ⟨oa, oc, rfl⟩ := ho.shape
  generalize circE p ⟨n, gs, os⟩ = b at *
  unfold cirV nilS at *
  clear hg ho ht
  have hs0 := ((Sep.start w).box #[.int .i64 n, .slice ga gs.length gc, .slice oa os.length oc] 29).box #[.int .i64 0, .slice none 0 0, .slice none 0 0] 29
  have e1 : (w.alloc (.cells #[.int .i64 n, .slice ga gs.length gc, .slice oa os.length oc] 29)).heap.size = w.heap.size + 1 := by simp
  rw [e1] at hs0
  have HS0 := Lib.hid hs0
  have HK0 := Lib.hid (show w.grownBy _ none from hs0.tl.tl.hd)
  clear hs0 e1
  generalize gs.length = m at *
  generalize os.length = m2 at *
  cases b
  · go_enter Tryd.func61, Tryd.ntmps61
    go_wp2_with (
      go_at_call 37
      with_reducible refine (HIC.out _ HK0.out).mono ?_
      rintro e w4 ⟨rfl, hg4⟩
      have hs1 := HS0.out.grown hg4
      obtain ⟨r0, r1, r2, r3, r4, r5⟩ := bx3 hs1.hd
      have hs2 := ((hs1.setB 0 (.int .i64 0)).setB 1 (.slice none 0 0)).setB 2 (.slice none 0 0)
      obtain ⟨t0, t1, t2, _⟩ := bx3 hs2.hd
      have HKF := Lib.hid (show w.grownBy _ none from hs2.tl.tl.hd)
      clear hg4 hs1 hs2)
    refine bodyPost_ret_by (v := .tuple #[.agg #[.int .i64 0, .slice none 0 0, .slice none 0 0], .bool false]) ?_ rfl ⟨rfl, HKF.out⟩
    simp [results, go_sem, *]
  · go_enter Tryd.func61, Tryd.ntmps61
    go_wp2_with (
      go_at_call 37
      with_reducible refine (HIC.out _ HK0.out).mono ?_
      rintro e w4 ⟨rfl, hg4⟩
      have hs1 := HS0.out.grown hg4
      obtain ⟨r0, r1, r2, r3, r4, r5⟩ := bx3 hs1.hd
      obtain ⟨y0, y1, y2, y3, y4, y5⟩ := bx3 hs1.tl.hd
      have hs2 := ((hs1.setB 0 (.int .i64 n)).setB 1 (.slice ga m gc)).setB 2 (.slice oa m2 oc)
      obtain ⟨t0, t1, t2, _⟩ := bx3 hs2.hd
      have HKF := Lib.hid (show w.grownBy _ none from hs2.tl.tl.hd)
      clear hg4 hs1 hs2)
    refine bodyPost_ret_by (v := .tuple #[.agg #[.int .i64 n, .slice ga m gc, .slice oa m2 oc], .bool true]) ?_ rfl ⟨rfl, HKF.out⟩
    simp [results, go_sem, *]
set_option maxHeartbeats 2000000 in
theorem crIf_any (p n : Int) (gv ov : Value) (gs : List Gt) (os : List Int) (w : World) (hg : RdR gateE w gv gs) (ho : IntsV w ov os) (l1 : gs.length ≤ 2000000) (l2 : os.length ≤ 2000000) :
    Calls Tryd.prog 57 #[.int .i64 p, cirV n gv ov] w fun e w' => e = .returned (.tuple #[if circE p ⟨n, gs, os⟩ = true then cirV n gv ov else cirV 0 nilS nilS, .bool (circE p ⟨n, gs, os⟩)]) ∧ w.grownBy w' none := by
  have HIC := Lib.hid fun W (h : w.grownBy W none) => crGood_any p n gv ov gs os W (hg.carry h) (ho.carry h) l1 l2
  obtain ⟨ga, gc, rfl⟩ := hg.shape
  obtain ⟨oa, oc, rfl⟩ := ho.shape
  generalize circE p ⟨n, gs, os⟩ = b at *
  unfold cirV nilS at *
  clear hg ho
  have hs0 := ((Sep.start w).box #[.int .i64 n, .slice ga gs.length gc, .slice oa os.length oc] 29).box #[.int .i64 0, .slice none 0 0, .slice none 0 0] 29
  have e1 : (w.alloc (.cells #[.int .i64 n, .slice ga gs.length gc, .slice oa os.length oc] 29)).heap.size = w.heap.size + 1 := by simp
  rw [e1] at hs0
  have HS0 := Lib.hid hs0
  have HK0 := Lib.hid (show w.grownBy _ none from hs0.tl.tl.hd)
  clear hs0 e1
  generalize gs.length = m at *
  generalize os.length = m2 at *
  cases b
  · go_enter Tryd.func57, Tryd.ntmps57
    go_wp2_with (
      go_at_call 33
      with_reducible refine (HIC.out _ HK0.out).mono ?_
      rintro e w4 ⟨rfl, hg4⟩
      have hs1 := HS0.out.grown hg4
      obtain ⟨r0, r1, r2, r3, r4, r5⟩ := bx3 hs1.hd
      have hs2 := ((hs1.setB 0 (.int .i64 0)).setB 1 (.slice none 0 0)).setB 2 (.slice none 0 0)
      obtain ⟨t0, t1, t2, _⟩ := bx3 hs2.hd
      have HKF := Lib.hid (show w.grownBy _ none from hs2.tl.tl.hd)
      clear hg4 hs1 hs2)
    refine bodyPost_ret_by (v := .tuple #[.agg #[.int .i64 0, .slice none 0 0, .slice none 0 0], .bool false]) ?_ rfl ⟨rfl, HKF.out⟩
    simp [results, go_sem, *]
  · go_enter Tryd.func57, Tryd.ntmps57
    go_wp2_with (
      go_at_call 33
      with_reducible refine (HIC.out _ HK0.out).mono ?_
      rintro e w4 ⟨rfl, hg4⟩
      have hs1 := HS0.out.grown hg4
      obtain ⟨r0, r1, r2, r3, r4, r5⟩ := bx3 hs1.hd
      obtain ⟨y0, y1, y2, y3, y4, y5⟩ := bx3 hs1.tl.hd
      have hs2 := ((hs1.setB 0 (.int .i64 n)).setB 1 (.slice ga m gc)).setB 2 (.slice oa m2 oc)
      obtain ⟨t0, t1, t2, _⟩ := bx3 hs2.hd
      have HKF := Lib.hid (show w.grownBy _ none from hs2.tl.tl.hd)
      clear hg4 hs1 hs2)
    refine bodyPost_ret_by (v := .tuple #[.agg #[.int .i64 n, .slice ga m gc, .slice oa m2 oc], .bool true]) ?_ rfl ⟨rfl, HKF.out⟩
    simp [results, go_sem, *]
set_option maxHeartbeats 2000000 in
theorem iDecompile_any (p I O C R : Int) (cv : Value) (is : List It) (w : World) (ht : Tab w) (hg : RdR instE w cv is) (l1 : is.length ≤ 2000000) :
    Calls Tryd.prog 22 #[.int .i64 p, prV I O C R cv] w (CirRes (decRes p I O C R is) (decOk p I O C R is) w) := by
  have HT := Lib.hid ht
  have HIP := Lib.hid fun W (h : w.grownBy W none) => isProgram_any p I O C R cv is W (ht.grown h) (hg.carry h) l1
  cases hp : progB p I O C R is
  · have hok : decOk p I O C R is = false := by unfold decOk; rw [hp]; rfl
    have hr : decRes p I O C R is = circ0 := by unfold decRes; rw [hok]; rfl
    rw [hr, hok]
    rw [hp] at HIP
    obtain ⟨a0, c0, rfl⟩ := hg.shape
    unfold prV at *
    clear hp hok hr hg ht
    have hs0 := ((Sep.start w).box #[.int .i64 I, .int .i64 O, .int .i64 C, .int .i64 R, .slice a0 is.length c0] 43).box #[.int .i64 0, .slice none 0 0, .slice none 0 0] 29
    have e1 : (w.alloc (.cells #[.int .i64 I, .int .i64 O, .int .i64 C, .int .i64 R, .slice a0 is.length c0] 43)).heap.size = w.heap.size + 1 := by simp
    rw [e1] at hs0
    have HS0 := Lib.hid hs0
    have HK0 := Lib.hid (show w.grownBy _ none from hs0.tl.tl.hd)
    clear hs0 e1
    generalize is.length = m at *
    go_enter Tryd.func22, Tryd.ntmps22
    go_wp2_with (
      go_at_call 60
      with_reducible refine (HIP.out _ HK0.out).mono ?_
      rintro e w4 ⟨rfl, hg4⟩
      have hs1 := HS0.out.grown hg4
      obtain ⟨r0, r1, r2, r3, r4, r5⟩ := bx3 hs1.hd
      have hs2 := ((hs1.setB 0 (.int .i64 0)).setB 1 (.slice none 0 0)).setB 2 (.slice none 0 0)
      obtain ⟨t0, t1, t2, _⟩ := bx3 hs2.hd
      have HKF := Lib.hid (show w.grownBy _ none from hs2.tl.tl.hd)
      clear hs1 hs2
      clear hg4)
    refine bodyPost_ret_by (v := .tuple #[.agg #[.int .i64 0, .slice none 0 0, .slice none 0 0], .bool false]) ?_ rfl (CirRes.zero HKF.out)
    simp [results, go_sem, *]
  · have hokd : decOk p I O C R is = circE p (decC I O C is) := by unfold decOk; rw [hp]; rfl
    have HD := Lib.hid fun W (h : w.grownBy W none) => progCircuit_any p I O C R cv is W hp (hg.carry h)
    obtain ⟨hn, hl1, hl2⟩ := dec_len hp
    rw [hp] at HIP
    have hres : decRes p I O C R is = if circE p (decC I O C is) = true then decC I O C is else circ0 := by unfold decRes; rw [hokd]
    rw [hokd, hres]
    clear hokd hres hp
    generalize decC I O C is = D at *
    obtain ⟨n, gs, os⟩ := D
    simp only at hn hl1 hl2
    replace hn := hn.symm
    subst hn
    have HV := Lib.hid fun W gv ov (ht : w.grownBy W none) (h1 : RdR gateE W gv gs) (h2 : IntsV W ov os) => validCircuit_any p I gv ov gs os W (HT.out.grown ht) h1 h2 (by omega) (by omega)
    obtain ⟨a0, c0, rfl⟩ := hg.shape
    unfold prV at *
    clear hg ht
    have hs0 := ((Sep.start w).box #[.int .i64 I, .int .i64 O, .int .i64 C, .int .i64 R, .slice a0 is.length c0] 43).box #[.int .i64 0, .slice none 0 0, .slice none 0 0] 29
    have e1 : (w.alloc (.cells #[.int .i64 I, .int .i64 O, .int .i64 C, .int .i64 R, .slice a0 is.length c0] 43)).heap.size = w.heap.size + 1 := by simp
    rw [e1] at hs0
    have HS0 := Lib.hid hs0
    have HK0 := Lib.hid (show w.grownBy _ none from hs0.tl.tl.hd)
    clear hs0 e1
    have HL := Lib.hid hl1
    clear hl1 hl2 HL
    generalize is.length = m at *
    generalize hb : circE p ⟨I, gs, os⟩ = b at *
    clear hb
    simp only at HD
    cases b
    · simp only [cirV, nilS, Bool.false_eq_true, if_false] at HV
      go_enter Tryd.func22, Tryd.ntmps22
      go_wp2_with (first
        | (go_at_call 60
           with_reducible refine (HIP.out _ HK0.out).mono ?_
           rintro e w4 ⟨rfl, hg4⟩
           have HS1 := Lib.hid (HS0.out.grown hg4)
           have HK1 := Lib.hid (grownBy_trans HK0.out hg4)
           obtain ⟨x0, x1, x2, x3, x4, _⟩ := bxP HS1.out.tl.hd
           clear hg4)
        | (go_at_call 62
           with_reducible refine (HD.out _ HK1.out).mono ?_
           rintro e w5 ⟨a1, c1, a2, c2, rfl, hsg⟩
           obtain ⟨hR, hI, hk5⟩ := hsg.reads
           have HR := Lib.hid hR
           have HI := Lib.hid hI
           have HK5 := Lib.hid (grownBy_trans HK1.out hk5)
           have HS5 := Lib.hid (HS1.out.graft2 hsg OR_own OI_own)
           clear hR hI hk5 hsg
           unfold cirV)
        | (go_at_call 61
           with_reducible refine (HV.out _ _ _ HK5.out HR.out HI.out).mono ?_
           rintro e w6 ⟨rfl, hg6⟩
           have hs1 := (HS5.out.grown hg6).s3
           obtain ⟨r0, r1, r2, r3, r4, r5⟩ := bx3 hs1.hd
           have hs2 := ((hs1.setB 0 (.int .i64 0)).setB 1 (.slice none 0 0)).setB 2 (.slice none 0 0)
           obtain ⟨t0, t1, t2, _⟩ := bx3 hs2.hd
           have HKF := Lib.hid (show w.grownBy _ none from hs2.tl.tl.tl.tl.hd)
           clear hg6 hs1 hs2))
      refine bodyPost_ret_by (v := .tuple #[.agg #[.int .i64 0, .slice none 0 0, .slice none 0 0], .bool false]) ?_ rfl (CirRes.zero HKF.out)
      simp [results, go_sem, *]
    · simp only [cirV, if_true] at HV
      go_enter Tryd.func22, Tryd.ntmps22
      go_wp2_with (first
        | (go_at_call 60
           with_reducible refine (HIP.out _ HK0.out).mono ?_
           rintro e w4 ⟨rfl, hg4⟩
           have HS1 := Lib.hid (HS0.out.grown hg4)
           have HK1 := Lib.hid (grownBy_trans HK0.out hg4)
           obtain ⟨x0, x1, x2, x3, x4, _⟩ := bxP HS1.out.tl.hd
           clear hg4)
        | (go_at_call 62
           with_reducible refine (HD.out _ HK1.out).mono ?_
           rintro e w5 ⟨a1, c1, a2, c2, rfl, hsg⟩
           obtain ⟨hR, hI, hk5⟩ := hsg.reads
           have HR := Lib.hid hR
           have HI := Lib.hid hI
           have HK5 := Lib.hid (grownBy_trans HK1.out hk5)
           have HS5 := Lib.hid (HS1.out.graft2 hsg OR_own OI_own)
           clear hR hI hk5 hsg
           unfold cirV)
        | (go_at_call 61
           with_reducible refine (HV.out _ _ _ HK5.out HR.out HI.out).mono ?_
           rintro e w6 ⟨rfl, hg6⟩
           have hs1 := (HS5.out.grown hg6).s3
           obtain ⟨r0, r1, r2, r3, r4, r5⟩ := bx3 hs1.hd
           have hs2 := ((hs1.setB 0 (.int .i64 I)).setB 1 (.slice a1 gs.length c1)).setB 2 (.slice a2 os.length c2)
           obtain ⟨t0, t1, t2, _⟩ := bx3 hs2.hd
           have HSF := Lib.hid (hs2.tl.under (fun h => h.drop2) (by simp +contextual))
           clear hg6 hs1 hs2))
      refine bodyPost_ret_by (v := .tuple #[  .agg #[.int .i64 I, .slice a1 gs.length c1, .slice a2 os.length c2], .bool true]) ?_ rfl ⟨a1, c1, a2, c2, rfl, HSF.out⟩
      simp [results, go_sem, *]
set_option maxHeartbeats 2000000 in
theorem sDecompile_any (p I O C R : Int) (cv : Value) (is : List It) (w : World) (hg : RdR instE w cv is) (l1 : is.length ≤ 2000000) :
    Calls Tryd.prog 20 #[.int .i64 p, prV I O C R cv] w (CirRes (decRes p I O C R is) (decOk p I O C R is) w) := by
  have HIP := Lib.hid fun W (h : w.grownBy W none) => cmGood_any p I O C R cv is W (hg.carry h) l1
  cases hp : progB p I O C R is
  · have hok : decOk p I O C R is = false := by unfold decOk; rw [hp]; rfl
    have hr : decRes p I O C R is = circ0 := by unfold decRes; rw [hok]; rfl
    rw [hr, hok]
    rw [hp] at HIP
    obtain ⟨a0, c0, rfl⟩ := hg.shape
    unfold prV at *
    clear hp hok hr hg
    have hs0 := ((Sep.start w).box #[.int .i64 I, .int .i64 O, .int .i64 C, .int .i64 R, .slice a0 is.length c0] 43).box #[.int .i64 0, .slice none 0 0, .slice none 0 0] 29
    have e1 : (w.alloc (.cells #[.int .i64 I, .int .i64 O, .int .i64 C, .int .i64 R, .slice a0 is.length c0] 43)).heap.size = w.heap.size + 1 := by simp
    rw [e1] at hs0
    have HS0 := Lib.hid hs0
    have HK0 := Lib.hid (show w.grownBy _ none from hs0.tl.tl.hd)
    clear hs0 e1
    generalize is.length = m at *
    go_enter Tryd.func20, Tryd.ntmps20
    go_wp2_with (
      go_at_call 56
      with_reducible refine (HIP.out _ HK0.out).mono ?_
      rintro e w4 ⟨rfl, hg4⟩
      have hs1 := HS0.out.grown hg4
      obtain ⟨r0, r1, r2, r3, r4, r5⟩ := bx3 hs1.hd
      have hs2 := ((hs1.setB 0 (.int .i64 0)).setB 1 (.slice none 0 0)).setB 2 (.slice none 0 0)
      obtain ⟨t0, t1, t2, _⟩ := bx3 hs2.hd
      have HKF := Lib.hid (show w.grownBy _ none from hs2.tl.tl.hd)
      clear hs1 hs2
      clear hg4)
    refine bodyPost_ret_by (v := .tuple #[.agg #[.int .i64 0, .slice none 0 0, .slice none 0 0], .bool false]) ?_ rfl (CirRes.zero HKF.out)
    simp [results, go_sem, *]
  · have hokd : decOk p I O C R is = circE p (decC I O C is) := by unfold decOk; rw [hp]; rfl
    have HD := Lib.hid fun W (h : w.grownBy W none) => cmCircuit_any p I O C R cv is W hp (hg.carry h)
    obtain ⟨hn, hl1, hl2⟩ := dec_len hp
    rw [hp] at HIP
    have hres : decRes p I O C R is = if circE p (decC I O C is) = true then decC I O C is else circ0 := by unfold decRes; rw [hokd]
    rw [hokd, hres]
    clear hokd hres hp
    generalize decC I O C is = D at *
    obtain ⟨n, gs, os⟩ := D
    simp only at hn hl1 hl2
    replace hn := hn.symm
    subst hn
    have HV := Lib.hid fun W gv ov (ht : w.grownBy W none) (h1 : RdR gateE W gv gs) (h2 : IntsV W ov os) => crIf_any p I gv ov gs os W h1 h2 (by omega) (by omega)
    obtain ⟨a0, c0, rfl⟩ := hg.shape
    unfold prV at *
    clear hg
    have hs0 := ((Sep.start w).box #[.int .i64 I, .int .i64 O, .int .i64 C, .int .i64 R, .slice a0 is.length c0] 43).box #[.int .i64 0, .slice none 0 0, .slice none 0 0] 29
    have e1 : (w.alloc (.cells #[.int .i64 I, .int .i64 O, .int .i64 C, .int .i64 R, .slice a0 is.length c0] 43)).heap.size = w.heap.size + 1 := by simp
    rw [e1] at hs0
    have HS0 := Lib.hid hs0
    have HK0 := Lib.hid (show w.grownBy _ none from hs0.tl.tl.hd)
    clear hs0 e1
    have HL := Lib.hid hl1
    clear hl1 hl2 HL
    generalize is.length = m at *
    generalize hb : circE p ⟨I, gs, os⟩ = b at *
    clear hb
    simp only at HD
    cases b
    · simp only [cirV, nilS, Bool.false_eq_true, if_false] at HV
      go_enter Tryd.func20, Tryd.ntmps20
      go_wp2_with (first
        | (go_at_call 56
           with_reducible refine (HIP.out _ HK0.out).mono ?_
           rintro e w4 ⟨rfl, hg4⟩
           have HS1 := Lib.hid (HS0.out.grown hg4)
           have HK1 := Lib.hid (grownBy_trans HK0.out hg4)
           obtain ⟨x0, x1, x2, x3, x4, _⟩ := bxP HS1.out.tl.hd
           clear hg4)
        | (go_at_call 58
           with_reducible refine (HD.out _ HK1.out).mono ?_
           rintro e w5 ⟨a1, c1, a2, c2, rfl, hsg⟩
           obtain ⟨hR, hI, hk5⟩ := hsg.reads
           have HR := Lib.hid hR
           have HI := Lib.hid hI
           have HK5 := Lib.hid (grownBy_trans HK1.out hk5)
           have HS5 := Lib.hid (HS1.out.graft2 hsg OR_own OI_own)
           clear hR hI hk5 hsg
           unfold cirV)
        | (go_at_call 57
           with_reducible refine (HV.out _ _ _ HK5.out HR.out HI.out).mono ?_
           rintro e w6 ⟨rfl, hg6⟩
           have hs1 := (HS5.out.grown hg6).s3
           obtain ⟨r0, r1, r2, r3, r4, r5⟩ := bx3 hs1.hd
           have hs2 := ((hs1.setB 0 (.int .i64 0)).setB 1 (.slice none 0 0)).setB 2 (.slice none 0 0)
           obtain ⟨t0, t1, t2, _⟩ := bx3 hs2.hd
           have HKF := Lib.hid (show w.grownBy _ none from hs2.tl.tl.tl.tl.hd)
           clear hg6 hs1 hs2))
      refine bodyPost_ret_by (v := .tuple #[.agg #[.int .i64 0, .slice none 0 0, .slice none 0 0], .bool false]) ?_ rfl (CirRes.zero HKF.out)
      simp [results, go_sem, *]
    · simp only [cirV, if_true] at HV
      go_enter Tryd.func20, Tryd.ntmps20
      go_wp2_with (first
        | (go_at_call 56
           with_reducible refine (HIP.out _ HK0.out).mono ?_
           rintro e w4 ⟨rfl, hg4⟩
           have HS1 := Lib.hid (HS0.out.grown hg4)
           have HK1 := Lib.hid (grownBy_trans HK0.out hg4)
           obtain ⟨x0, x1, x2, x3, x4, _⟩ := bxP HS1.out.tl.hd
           clear hg4)
        | (go_at_call 58
           with_reducible refine (HD.out _ HK1.out).mono ?_
           rintro e w5 ⟨a1, c1, a2, c2, rfl, hsg⟩
           obtain ⟨hR, hI, hk5⟩ := hsg.reads
           have HR := Lib.hid hR
           have HI := Lib.hid hI
           have HK5 := Lib.hid (grownBy_trans HK1.out hk5)
           have HS5 := Lib.hid (HS1.out.graft2 hsg OR_own OI_own)
           clear hR hI hk5 hsg
           unfold cirV)
        | (go_at_call 57
           with_reducible refine (HV.out _ _ _ HK5.out HR.out HI.out).mono ?_
           rintro e w6 ⟨rfl, hg6⟩
           have hs1 := (HS5.out.grown hg6).s3
           obtain ⟨r0, r1, r2, r3, r4, r5⟩ := bx3 hs1.hd
           have hs2 := ((hs1.setB 0 (.int .i64 I)).setB 1 (.slice a1 gs.length c1)).setB 2 (.slice a2 os.length c2)
           obtain ⟨t0, t1, t2, _⟩ := bx3 hs2.hd
           have HSF := Lib.hid (hs2.tl.under (fun h => h.drop2) (by simp +contextual))
           clear hg6 hs1 hs2))
      refine bodyPost_ret_by (v := .tuple #[  .agg #[.int .i64 I, .slice a1 gs.length c1, .slice a2 os.length c2], .bool true]) ?_ rfl ⟨a1, c1, a2, c2, rfl, HSF.out⟩
      simp [results, go_sem, *]
end Go.Proofs.YtmofaaceadnafaaDoor

/-
  The walk of FnExactDecompileProgram. Conditions: the table of small primes holds what its text lays; the slices' lengths are those of slices.
-/
namespace Go.Proofs.YtmofaaceadnafaaDoor
open Go.RowKit
set_option linter.unusedVariables false
set_option maxRecDepth 100000

theorem decRes_len (p I O C R : Int) (is : List It) : (decRes p I O C R is).gs.length ≤ 1048576 ∧ (decRes p I O C R is).os.length ≤ 1048576 := by
  unfold decRes
  split
  · rename_i h
    unfold decOk at h
    rw [Bool.and_eq_true] at h
    obtain ⟨_, h1, h2⟩ := dec_len h.1
    omega
  · simp [circ0]
set_option maxHeartbeats 16000000 in
theorem fnDecompile_any (p pi po pc pr : Int) (gv : Value) (is : List It) (w : World) (ht : Tab w) (hg : RdR argI w gv is) (k1 : is.length ≤ 9223372036854775807) :
    Calls Tryd.prog 6 #[.int .i64 p, .agg #[.int .i64 pi, .int .i64 po, .int .i64 pc, .int .i64 pr, gv]] w fun e w' => e = .returned (.bool true) ∧ w.grownBy w' none := by
  obtain ⟨ga, gc, rfl⟩ := hg.shape
  have hs0 := (Sep.start w).box #[.int .i64 pi, .int .i64 po, .int .i64 pc, .int .i64 pr, .slice ga is.length gc] 38
  have HSZ := Lib.hid fun W => szProgram_val pi po pc pr ga is.length gc 1048576 W (by decide) (by decide) k1
  by_cases hr : szP 1048576 is.length < 0
  · generalize szP 1048576 is.length = r at *
    have HS0 := Lib.hid hs0
    clear hs0 hg ht
    go_enter Tryd.func6, Tryd.ntmps6
    go_wp2_with (
      go_at_call 19
      with_reducible refine (HSZ.out _).mono ?_
      rintro e w2 ⟨rfl, hg2⟩
      have HF := Lib.hid (HS0.out.grown hg2).tl.hd
      clear hg2)
    go_ret
    exact ⟨rfl, HF.out⟩
  · have l1 := szP_ok (Int.not_lt.1 hr)
    have HTC := Lib.hid fun W (h : w.grownBy W none) => toProgram_any pi po pc pr _ is W (hg.carry h) (by omega)
    have HSP := Lib.hid fun W gv (h : w.grownBy W none) (h1 : RdR instE W gv is) => sDecompile_any p pi po pc pr gv is W h1 (by omega)
    have HIM := Lib.hid fun W gv (h : w.grownBy W none) (h1 : RdR instE W gv is) => iDecompile_any p pi po pc pr gv is W (ht.grown h) h1 (by omega)
    obtain ⟨hR1, hR2⟩ := decRes_len p pi po pc pr is
    have HEX := Lib.hid fun W a1 c1 a3 c3 (h1 : RdR instE W (.slice a1 is.length c1) is) (h3 : RdR instE W (.slice a3 is.length c3) is) =>
      eqProgram_same pi po pc pr (.slice a1 is.length c1) (.slice a3 is.length c3) is W h1 h3 (by omega)
    generalize decRes p pi po pc pr is = R at *
    generalize decOk p pi po pc pr is = b at *
    have HER := Lib.hid fun W a1 c1 a2 c2 (h1 : RdR gateE W (.slice a1 R.gs.length c1) R.gs) (h2 : IntsV W (.slice a2 R.os.length c2) R.os) a3 c3 a4 c4 (h3 : RdR gateE W (.slice a3 R.gs.length c3) R.gs) (h4 : IntsV W (.slice a4 R.os.length c4) R.os) =>
      eqCircuit_same R.n (.slice a1 R.gs.length c1) (.slice a2 R.os.length c2) (.slice a3 R.gs.length c3) (.slice a4 R.os.length c4) R.gs R.os W h1 h3 h2 h4 (by omega) (by omega)
    have HMX := Lib.hid fun W l a1 c1 (h : Sep W (OR instE (.slice a1 is.length c1) is :: l)) => markProgram_any pi po pc pr a1 is.length c1 is 1 W l h rfl (by omega) (by decide) (by decide)
    have HMG := Lib.hid fun W l a1 c1 a2 c2 (h : Sep W (OR gateE (.slice a1 R.gs.length c1) R.gs :: OI (.slice a2 R.os.length c2) R.os :: l)) => markCircuit_any R.n a1 a2 R.gs.length c1 R.os.length c2 R.gs R.os 1 W l h rfl rfl (by omega) (by omega) (by decide) (by decide)
    have HHG := Lib.hid fun W a1 c1 a2 c2 (h1 : RdR gateE W (.slice a1 R.gs.length c1) (cntG 1 R.gs.length)) (h2 : IntsV W (.slice a2 R.os.length c2) (cntI (1 + 4 * R.gs.length) R.os.length)) => heldCircuit_any R.n a1 a2 R.gs.length c1 R.os.length c2 1 W h1 h2 (by omega) (by omega) (by decide) (by decide)
    unfold CirRes at HSP HIM
    have HS0 := Lib.hid hs0
    clear hs0 hg ht
    generalize szP 1048576 is.length = r at *
    generalize hm1 : is.length = m1 at *
    obtain ⟨Rn, Rg, Ro⟩ := R
    simp only at HSP HIM HER HMG HHG hR1 hR2
    generalize hr1 : Rg.length = r1 at *
    generalize hr2 : Ro.length = r2 at *
    obtain ⟨q1, hq1⟩ : ∃ q : Int, q = 1 + 5 * (m1 : Int) := ⟨_, rfl⟩
    obtain ⟨q2, hq2⟩ : ∃ q : Int, q = 1 + 4 * (r1 : Int) + r2 := ⟨_, rfl⟩
    rw [← hq1] at HMX
    rw [← hq2] at HMG HHG
    have hq10 : ¬ q1 < 0 := by omega
    have hq20 : ¬ q2 < 0 := by omega
    clear hm1 hr1 hr2 hq1 hq2
    unfold cirV at *
    unfold prV at *
    go_enter Tryd.func6, Tryd.ntmps6
    go_upto_region 10 with (first
      | (go_at_call 19
         with_reducible refine (HSZ.out _).mono ?_
         rintro e w2 ⟨rfl, hg2⟩
         have HS2 := Lib.hid (HS0.out.grown hg2)
         have HK2 := Lib.hid (show w.grownBy w2 none from HS2.out.tl.hd)
         obtain ⟨a20, a21, a22, a23, a24, _⟩ := bxP HS2.out.hd
         clear hg2)
      | (go_at_call 21
         with_reducible refine (HTC.out _ HK2.out).mono ?_
         rintro e w3 ⟨yg, yc, rfl, hs⟩
         have HS3 := Lib.hid (HS2.out.graft1 hs OR_own)
         have HK3 := Lib.hid (show w.grownBy w3 none from HS3.out.tl.tl.hd)
         have HY1 := Lib.hid HS3.out.hd.read
         clear hs)
      | (go_at_call 20
         with_reducible refine (HSP.out _ _ HK3.out HY1.out).mono ?_
         rintro e w4 ⟨wg, wc, wo, wd, rfl, hs⟩
         have hs4 := ((HS3.out.graft2 hs OR_own OI_own).s3.tl).box #[.int .i64 Rn, .slice wg r1 wc, .slice wo r2 wd] 29
         have HS4 := Lib.hid hs4
         have HK4 := Lib.hid (show w.grownBy _ none from hs4.tl.tl.tl.tl.hd)
         obtain ⟨a40, a41, a42, a43, a44, _⟩ := bxP hs4.tl.tl.tl.hd
         clear hs hs4)
      | (go_at_call 21
         with_reducible refine (HTC.out _ HK4.out).mono ?_
         rintro e w6 ⟨xg, xc, rfl, hs⟩
         have hs6 := (HS4.out.graft1 hs OR_own).box #[.int .i64 pi, .int .i64 po, .int .i64 pc, .int .i64 pr, .slice (some ⟨xg, 0, none⟩) m1 xc] 43
         have HS6 := Lib.hid hs6
         have HK6 := Lib.hid (show w.grownBy _ none from hs6.tl.tl.tl.tl.tl.tl.hd)
         have HX1 := Lib.hid hs6.tl.hd.read
         obtain ⟨a60, a61, a62, a63, a64, _⟩ := bxP hs6.hd
         clear hs hs6)
      | (go_at_call 22
         with_reducible refine (HIM.out _ _ HK6.out HX1.out).mono ?_
         rintro e w8 ⟨hg1, hc1, ho1, hd1, rfl, hs⟩
         have hs8 := (HS6.out.graft2 hs OR_own OI_own).box #[.int .i64 Rn, .slice hg1 r1 hc1, .slice ho1 r2 hd1] 29
         have HS8 := Lib.hid hs8
         have HG1 := Lib.hid hs8.tl.hd.read
         have HG2 := Lib.hid hs8.tl.tl.hd.read
         have HW1 := Lib.hid hs8.tl.tl.tl.tl.tl.tl.hd.read
         have HW2 := Lib.hid hs8.tl.tl.tl.tl.tl.tl.tl.hd.read
         obtain ⟨a80, a81, a82, _⟩ := bx3 hs8.hd
         obtain ⟨a83, a84, a85, _⟩ := bx3 hs8.tl.tl.tl.tl.tl.hd
         clear hs hs8)
      | (go_at_call 12
         with_reducible refine (HER.out _ _ _ _ _ HG1.out HG2.out _ _ _ _ HW1.out HW2.out).mono ?_
         rintro e w10 ⟨rfl, hg10⟩
         have HS10 := Lib.hid (HS8.out.grown hg10)
         clear hg10))
    -- the parts at w10: box9 G g, G o, box8, X g, X o, box6, W g, W o, arg, keep
    generalize w4.heap.size = b6 at *
    generalize w6.heap.size = b8 at *
    generalize w8.heap.size = b9 at *
    go_cut [49] from 45 to 49 (fun t wx => t = .bool false ∧ Sep wx [BxA b9 #[.int .i64 Rn, .slice hg1 r1 hc1, .slice ho1 r2 hd1] 29, OR gateE (.slice hg1 r1 hc1) Rg, OI (.slice ho1 r2 hd1) Ro, BxA b8 #[.int .i64 pi, .int .i64 po, .int .i64 pc, .int .i64 pr, .slice (some ⟨xg, 0, none⟩) m1 xc] 43, OR instE (.slice (some ⟨xg, 0, none⟩) m1 xc) is, BxA b6 #[.int .i64 Rn, .slice wg r1 wc, .slice wo r2 wd] 29, OR gateE (.slice wg r1 wc) Rg, OI (.slice wo r2 wd) Ro, BxA w.heap.size #[.int .i64 pi, .int .i64 po, .int .i64 pc, .int .i64 pr, .slice ga m1 gc] 38, KeepA w])
    case first =>
      have hs11 := HS10.out.dr
      have HS11 := Lib.hid hs11
      have HK11 := Lib.hid (show w.grownBy _ none from hs11.tl.tl.tl.tl.tl.tl.tl.tl.tl.hd)
      obtain ⟨c0, c1, c2, c3, c4, _⟩ := bxP hs11.tl.tl.tl.hd
      obtain ⟨d0, d1, d2, d3, d4, _⟩ := bxP hs11.tl.tl.tl.tl.tl.tl.tl.tl.hd
      clear hs11
      go_region_law (first
        | (try go_simp
           go_at_call 21
           with_reducible refine (HTC.out _ HK11.out).mono ?_
           rintro e w12 ⟨zg, zc, rfl, hs⟩
           have HS12 := Lib.hid (HS11.out.graft1 hs OR_own)
           have HZ1 := Lib.hid HS12.out.hd.read
           have HX3 := Lib.hid HS12.out.tl.tl.tl.tl.tl.hd.read
           obtain ⟨e0, e1, e2, e3, e4, _⟩ := bxP HS12.out.tl.tl.tl.tl.hd
           obtain ⟨f0, f1, f2, f3, f4, _⟩ := bxP HS12.out.tl.tl.tl.tl.tl.tl.tl.tl.tl.hd
           clear hs)
        | (try go_simp
           go_at_call 23
           with_reducible refine (HEX.out _ _ _ _ _ HX3.out HZ1.out).mono ?_
           rintro e w13 ⟨rfl, hg13⟩
           have HS13 := Lib.hid (HS12.out.grown hg13).tl
           clear hg13))
      all_goals
        go_wp2_with fail
        go_meet
        exact ⟨rfl, HS13.out⟩
    case rest =>
      obtain ⟨rfl, hs⟩ := hcut
      have HS14 := Lib.hid hs
      obtain ⟨a0, a1, a2, a3, a4, _⟩ := bxP hs.tl.tl.tl.hd
      have HSM := Lib.hid hs.s5
      clear hs
      go_wp2_with (first
        | (go_at_call 24
           with_reducible refine (HMX.out _ _ _ _ HSM.out).mono ?_
           rintro e w15 ⟨rfl, hs⟩
           have hs15 := hs.tl
           have HS15 := Lib.hid hs15
           have HG1 := Lib.hid hs15.tl.hd.read
           have HG2 := Lib.hid hs15.tl.tl.hd.read
           have HW1 := Lib.hid hs15.tl.tl.tl.tl.tl.hd.read
           have HW2 := Lib.hid hs15.tl.tl.tl.tl.tl.tl.hd.read
           obtain ⟨b0, b1, b2, _⟩ := bx3 hs15.hd
           obtain ⟨b3, b4, b5, _⟩ := bx3 hs15.tl.tl.tl.tl.hd
           clear hs hs15)
        | (go_at_call 12
           with_reducible refine (HER.out _ _ _ _ _ HG1.out HG2.out _ _ _ _ HW1.out HW2.out).mono ?_
           rintro e w16 ⟨rfl, hg16⟩
           have hs16 := HS15.out.grown hg16
           obtain ⟨c0, c1, c2, _⟩ := bx3 hs16.hd
           have HSN := Lib.hid hs16.s2.s3.s2
           clear hg16 hs16)
        | (go_at_call 13
           with_reducible refine (HMG.out _ _ _ _ _ _ HSN.out).mono ?_
           rintro e w17 ⟨rfl, hs⟩
           have HS17 := Lib.hid hs
           have HC1 := Lib.hid hs.hd.read
           have HC2 := Lib.hid hs.tl.hd.read
           obtain ⟨d0, d1, d2, _⟩ := bx3 hs.tl.tl.hd
           clear hs)
        | (go_at_call 14
           with_reducible refine (HHG.out _ _ _ _ _ HC1.out HC2.out).mono ?_
           rintro e w18 ⟨rfl, hg18⟩
           have hs18 := HS17.out.grown hg18
           have HS18 := Lib.hid hs18
           have HK18 := Lib.hid (show w.grownBy w18 none from hs18.tl.tl.tl.tl.tl.tl.tl.tl.hd)
           obtain ⟨e0, e1, e2, e3, e4, _⟩ := bxP hs18.tl.tl.tl.tl.tl.tl.tl.hd
           clear hg18 hs18)
        | (go_at_call 21
           with_reducible refine (HTC.out _ HK18.out).mono ?_
           rintro e w19 ⟨vg, vc, rfl, hs⟩
           have HS19 := Lib.hid (HS18.out.graft1 hs OR_own)
           have HK19 := Lib.hid (show w.grownBy w19 none from HS19.out.tl.tl.tl.tl.tl.tl.tl.tl.tl.hd)
           have HV1 := Lib.hid HS19.out.hd.read
           clear hs)
        | (go_at_call 22
           with_reducible refine (HIM.out _ _ HK19.out HV1.out).mono ?_
           rintro e w20 ⟨ig, ic, io, id', rfl, hs⟩
           have hs20 := ((HS19.out.graft2 hs OR_own OI_own).s3.tl).box #[.int .i64 Rn, .slice ig r1 ic, .slice io r2 id'] 29
           have HS20 := Lib.hid hs20
           have HI1 := Lib.hid hs20.tl.hd.read
           have HI2 := Lib.hid hs20.tl.tl.hd.read
           have HW3 := Lib.hid hs20.tl.tl.tl.tl.tl.tl.tl.tl.hd.read
           have HW4 := Lib.hid hs20.tl.tl.tl.tl.tl.tl.tl.tl.tl.hd.read
           obtain ⟨f0, f1, f2, _⟩ := bx3 hs20.hd
           obtain ⟨f3, f4, f5, _⟩ := bx3 hs20.tl.tl.tl.tl.tl.tl.tl.hd
           clear hs hs20)
        | (go_at_call 12
           with_reducible refine (HER.out _ _ _ _ _ HI1.out HI2.out _ _ _ _ HW3.out HW4.out).mono ?_
           rintro e w21 ⟨rfl, hg21⟩
           have hs21 := HS20.out.grown hg21
           have HS21 := Lib.hid hs21
           have HC3 := Lib.hid hs21.tl.tl.tl.hd.read
           have HC4 := Lib.hid hs21.tl.tl.tl.tl.hd.read
           obtain ⟨g0', g1', g2', _⟩ := bx3 hs21.tl.tl.tl.tl.tl.hd
           clear hg21 hs21)
        | (go_at_call 14
           with_reducible refine (HHG.out _ _ _ _ _ HC3.out HC4.out).mono ?_
           rintro e w22 ⟨rfl, hg22⟩
           have HKF := Lib.hid (show w.grownBy w22 none from (HS21.out.grown hg22).tl.tl.tl.tl.tl.tl.tl.tl.tl.tl.tl.hd)
           clear hg22))
      go_ret
      exact ⟨rfl, HKF.out⟩
end Go.Proofs.YtmofaaceadnafaaDoor

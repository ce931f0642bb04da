/-
  The product of two fractions, in the program. Conditions: valid fractions.
-/
import Derived.Test.YtpeaeminjbjlnaaDoorMu02
import Derived.Test.YtpeaeminjbjlnaaDoorMu01
import Derived.Test.YtpeaeminjbjlnaaDoorMp01
import Derived.Test.YtpeaeminjbjlnaaDoorMu00
import Derived.StillTailTactics
import Derived.Test.YtpeaeminjbjlnaaDoorMk08
import Derived.Deep.Upon
namespace Go.Proofs.YtpeaeminjbjlnaaDoor
open Go.RowKit
set_option linter.unusedVariables false

set_option maxRecDepth 100000 in
set_option maxHeartbeats 4000000 in
theorem fractionMul_any (q : Nat) [NeZero q] (u1 v1 u2 v2 : Value) (n d n' d' : List Int) (w : World) (I : FrIs q n d) (J : FrIs q n' d') (h1 : IntsV w u1 n) (h2 : IntsV w v1 d) (h3 : IntsV w u2 n') (h4 : IntsV w v2 d') :
    Calls Tryd.prog 147 #[.int .i64 q, frV u1 v1, frV u2 v2] w fun e w' => ∃ o1 o2, e = .returned (frV o1 o2) ∧ IntsV w' o1 (mulK q n d n' d').1 ∧ IntsV w' o2 (mulK q n d n' d').2 ∧ w.grownBy w' none := by
  have hs := (((Sep.start w).box #[u1, v1] 53).box #[u2, v2] 53).box #[.slice none 0 0, .slice none 0 0] 53
  simp only [show ∀ (W : World) o, (W.alloc o).heap.size = W.heap.size + 1 from fun W o => by simp] at hs
  have S0 := Lib.hid hs.dr
  have G0 := Lib.hid (show w.grownBy _ none from hs.dr.tl.tl.tl.hd)
  have i1 := I.ln; have i2 := I.ld; have j1 := J.ln; have j2 := J.ld
  have hm1 := poMul_len (p := q) n n'
  have hm2 := poMul_len (p := q) d d'
  have hne := poMul_ne I.hf I.od J.od I.dne J.dne
  have L1 : (poMulL q n n').length ≤ 41 := by omega
  have L2 : (poMulL q d d').length ≤ 41 := by omega
  have M1 := Lib.hid fun W (hg : w.grownBy W none) => polyMul_any q u1 u2 n n' W I.q2 I.q97 (h1.carry hg) (h3.carry hg) I.on.els J.on.els (by omega) (by omega)
  have M2 := Lib.hid fun W (hg : w.grownBy W none) => polyMul_any q v1 v2 d d' W I.q2 I.q97 (h2.carry hg) (h4.carry hg) I.od.els J.od.els (by omega) (by omega)
  have LO := Lib.hid fun W x y (hx : IntsV W x (poMulL q n n')) (hy : IntsV W y (poMulL q d d')) => lowest_any q x y _ _ W I.hf I.q97 hx hy (poMul_ok _ _) (poMul_ok _ _) hne L1 L2
  obtain ⟨e1, f1, rfl, _⟩ := id h1
  obtain ⟨e2, f2, rfl, _⟩ := id h2
  obtain ⟨e3, f3, rfl, _⟩ := id h3
  obtain ⟨e4, f4, rfl, _⟩ := id h4
  have XF := Lib.hid fun W cs (h : Sep W [BxA (w.heap.size + 1 + 1) cs 53, BxA (w.heap.size + 1) #[.slice e3 n'.length f3, .slice e4 d'.length f4] 53, BxA w.heap.size #[.slice e1 n.length f1, .slice e2 d.length f2] 53, KeepA w]) =>
    (show W.cell? ⟨w.heap.size, 0, none⟩ = some (.slice e1 n.length f1) ∧ W.cell? ⟨w.heap.size, 1, none⟩ = some (.slice e2 d.length f2) ∧ W.cell? ⟨w.heap.size + 1, 0, none⟩ = some (.slice e3 n'.length f3) ∧ W.cell? ⟨w.heap.size + 1, 1, none⟩ = some (.slice e4 d'.length f4) from ⟨(bx h.tl.tl.hd).1, (bx h.tl.tl.hd).2.1, (bx h.tl.hd).1, (bx h.tl.hd).2.1⟩)
  have X0 := Lib.hid (XF.out _ _ S0.out)
  unfold frV mulK at *
  clear hs h1 h2 h3 h4 hm1 hm2 hne L1 L2 i1 i2 j1 j2 I J
  generalize poMulL (q : Int) n n' = N at *
  generalize poMulL (q : Int) d d' = D at *
  generalize (lowL (q : Int) N D).1 = K1 at *
  generalize (lowL (q : Int) N D).2 = K2 at *
  go_enter Tryd.func147, Tryd.ntmps147
  go_wp2_with fail
  go_region_held3 (fun w' => w'.cell? ⟨w.heap.size, 0, none⟩ = some (.slice e1 n.length f1) ∧ w'.cell? ⟨w.heap.size, 1, none⟩ = some (.slice e2 d.length f2) ∧ w'.cell? ⟨w.heap.size + 1, 0, none⟩ = some (.slice e3 n'.length f3) ∧ w'.cell? ⟨w.heap.size + 1, 1, none⟩ = some (.slice e4 d'.length f4))
    (first | with_reducible exact X0.out | with_reducible exact X1.out | with_reducible exact X2.out | with_reducible exact X3.out | with_reducible exact X4.out | with_reducible exact X5.out | with_reducible exact X6.out | with_reducible exact Y5.out | with_reducible exact Y6.out)
    (first
      | (go_at_call 106
         with_reducible refine (M1.out _ G0.out).mono ?_
         rintro e w1 ⟨o, rfl, hi, hg⟩
         obtain ⟨a1, c1, rfl, _⟩ := id hi
         have I1 := Lib.hid hi
         have E1 := Lib.hid hg
         have S1 := Lib.hid (S0.out.grown hg)
         have G1 := Lib.hid (G0.out.trans hg)
         have X1 := Lib.hid (XF.out _ _ (S0.out.grown hg))
         clear hi hg)
      | (go_at_call 106
         with_reducible refine (M2.out _ G0.out).mono ?_
         rintro e w2 ⟨o, rfl, hi, hg⟩
         obtain ⟨a2, c2, rfl, _⟩ := id hi
         have I2 := Lib.hid hi
         have E2 := Lib.hid hg
         have S2 := Lib.hid (S0.out.grown hg)
         have G2 := Lib.hid (G0.out.trans hg)
         have X2 := Lib.hid (XF.out _ _ (S0.out.grown hg))
         clear hi hg)
      | (go_at_call 106
         with_reducible refine (M2.out _ G1.out).mono ?_
         rintro e w3 ⟨o, rfl, hi, hg⟩
         obtain ⟨a3, c3, rfl, _⟩ := id hi
         have I3 := Lib.hid hi
         have E3 := Lib.hid hg
         have S3 := Lib.hid (S1.out.grown hg)
         have G3 := Lib.hid (G1.out.trans hg)
         have X3 := Lib.hid (XF.out _ _ (S1.out.grown hg))
         clear hi hg)
      | (go_at_call 106
         with_reducible refine (M1.out _ G2.out).mono ?_
         rintro e w4 ⟨o, rfl, hi, hg⟩
         obtain ⟨a4, c4, rfl, _⟩ := id hi
         have I4 := Lib.hid hi
         have E4 := Lib.hid hg
         have S4 := Lib.hid (S2.out.grown hg)
         have G4 := Lib.hid (G2.out.trans hg)
         have X4 := Lib.hid (XF.out _ _ (S2.out.grown hg))
         clear hi hg)
      | (go_at_call 145
         with_reducible refine (LO.out _ _ _ (I1.out.carry E3.out) I3.out).mono ?_
         rintro e w5 ⟨o1, o2, rfl, hi1, hi2, hg⟩
         obtain ⟨a5, c5, rfl, _⟩ := id hi1
         obtain ⟨b5, d5, rfl, _⟩ := id hi2
         have hs5 := S3.out.grown hg
         have X5 := Lib.hid (XF.out _ _ hs5)
         obtain ⟨t0, t1, t2, t3⟩ := bx hs5.hd
         have hf5 := (hs5.setB 0 (.slice a5 K1.length c5)).setB 1 (.slice b5 K2.length d5)
         have Y5 := Lib.hid (XF.out _ _ hf5)
         have Q5 := Lib.hid (ints_box (i := 1) (ints_box (i := 0) hi1 hs5.hd (.slice a5 K1.length c5)) (hs5.setB 0 (.slice a5 K1.length c5)).hd (.slice b5 K2.length d5))
         have R5 := Lib.hid (ints_box (i := 1) (ints_box (i := 0) hi2 hs5.hd (.slice a5 K1.length c5)) (hs5.setB 0 (.slice a5 K1.length c5)).hd (.slice b5 K2.length d5))
         have F5 := Lib.hid hf5
         clear hi1 hi2 hg hs5 hf5)
      | (go_at_call 145
         with_reducible refine (LO.out _ _ _ I4.out (I2.out.carry E4.out)).mono ?_
         rintro e w6 ⟨o1, o2, rfl, hi1, hi2, hg⟩
         obtain ⟨a6, c6, rfl, _⟩ := id hi1
         obtain ⟨b6, d6, rfl, _⟩ := id hi2
         have hs6 := S4.out.grown hg
         have X6 := Lib.hid (XF.out _ _ hs6)
         obtain ⟨t0, t1, t2, t3⟩ := bx hs6.hd
         have hf6 := (hs6.setB 0 (.slice a6 K1.length c6)).setB 1 (.slice b6 K2.length d6)
         have Y6 := Lib.hid (XF.out _ _ hf6)
         have Q6 := Lib.hid (ints_box (i := 1) (ints_box (i := 0) hi1 hs6.hd (.slice a6 K1.length c6)) (hs6.setB 0 (.slice a6 K1.length c6)).hd (.slice b6 K2.length d6))
         have R6 := Lib.hid (ints_box (i := 1) (ints_box (i := 0) hi2 hs6.hd (.slice a6 K1.length c6)) (hs6.setB 0 (.slice a6 K1.length c6)).hd (.slice b6 K2.length d6))
         have F6 := Lib.hid hf6
         clear hi1 hi2 hg hs6 hf6))
  all_goals
    go_wp2
    first
    | (refine bodyPost_ret_by (v := .agg #[.slice a5 K1.length c5, .slice b5 K2.length d5]) ?_ rfl ⟨_, _, rfl, Q5.out, R5.out, F5.out.tl.tl.tl.hd⟩
       obtain ⟨k0, k1, _, _⟩ := bx F5.out.hd
       simp [results, go_sem, *])
    | (refine bodyPost_ret_by (v := .agg #[.slice a6 K1.length c6, .slice b6 K2.length d6]) ?_ rfl ⟨_, _, rfl, Q6.out, R6.out, F6.out.tl.tl.tl.hd⟩
       obtain ⟨k0, k1, _, _⟩ := bx F6.out.hd
       simp [results, go_sem, *])
end Go.Proofs.YtpeaeminjbjlnaaDoor

/-
  The product of two fractions, checked, in the program. Conditions: small sizes.
-/
namespace Go.Proofs.YtpeaeminjbjlnaaDoor
open Go.RowKit
set_option linter.unusedVariables false

def frmB (p : Int) (n d n' d' : List Int) : Bool := (frB p n d && frB p n' d') && frFit (mulK p n d n' d').1 (mulK p n d n' d').2
def frmR (p : Int) (n d n' d' : List Int) : List Int × List Int := if frmB p n d n' d' = true then mulK p n d n' d' else ([], [])
theorem frmR_no {p : Int} {n d n' d' : List Int} (h : (frB p n d && frB p n' d') = false) : frmB p n d n' d' = false ∧ frmR p n d n' d' = ([], []) := by
  have e : frmB p n d n' d' = false := by unfold frmB; rw [h]; rfl
  refine ⟨e, ?_⟩
  unfold frmR
  rw [e]
  rfl
theorem frmR_yes {p : Int} {n d n' d' : List Int} (h : (frB p n d && frB p n' d') = true) : frmB p n d n' d' = frFit (mulK p n d n' d').1 (mulK p n d n' d').2 ∧ (frmR p n d n' d').1 = (if frFit (mulK p n d n' d').1 (mulK p n d n' d').2 = true then (mulK p n d n' d').1 else []) ∧ (frmR p n d n' d').2 = (if frFit (mulK p n d n' d').1 (mulK p n d n' d').2 = true then (mulK p n d n' d').2 else []) := by
  have e : frmB p n d n' d' = frFit (mulK p n d n' d').1 (mulK p n d n' d').2 := by unfold frmB; rw [h]; rfl
  refine ⟨e, ?_, ?_⟩ <;>
  · unfold frmR
    rw [e]
    split <;> rfl
set_option maxRecDepth 100000 in
set_option maxHeartbeats 4000000 in
theorem cFrMul_any (p : Int) (u1 v1 u2 v2 : Value) (n d n' d' : List Int) (w : World) (ht : Tab w) (h1 : IntsV w u1 n) (h2 : IntsV w v1 d) (h3 : IntsV w u2 n') (h4 : IntsV w v2 d') (l1 : n.length ≤ 1000000) (l2 : d.length ≤ 1000000) (l3 : n'.length ≤ 1000000) (l4 : d'.length ≤ 1000000) :
    Calls Tryd.prog 41 #[.int .i64 p, frV u1 v1, frV u2 v2] w fun e w' => ∃ o1 o2, e = .returned (.tuple #[frV o1 o2, .bool (frmB p n d n' d')]) ∧ IntsV w' o1 (frmR p n d n' d').1 ∧ IntsV w' o2 (frmR p n d n' d').2 ∧ w.grownBy w' none := by
  have hs := (((Sep.start w).box #[u1, v1] 53).box #[u2, v2] 53).box #[.slice none 0 0, .slice none 0 0] 53
  simp only [show ∀ (W : World) o, (W.alloc o).heap.size = W.heap.size + 1 from fun W o => by simp] at hs
  have hs4 := hs.al (.cells #[u1, v1, u2, v2] 53)
  have hg4 : w.grownBy _ none := hs4.tl.tl.tl.hd
  have hbx := alloc_heap_new (((w.alloc (.cells #[u1, v1] 53)).alloc (.cells #[u2, v2] 53)).alloc (.cells #[.slice none 0 0, .slice none 0 0] 53)) (.cells #[u1, v1, u2, v2] 53)
  simp only [show ∀ (W : World) o, (W.alloc o).heap.size = W.heap.size + 1 from fun W o => by simp] at hbx
  have ha := areFr_any p (w.heap.size + 1 + 1 + 1) 2 (fun i => if i = 0 then u1 else u2) (fun i => if i = 0 then v1 else v2) (fun i => if i = 0 then n else n') (fun i => if i = 0 then d else d') _ (ht.grown hg4) (by simp) (fun i hi => by
    rcases (show i = 0 ∨ i = 1 by omega) with rfl | rfl
    · exact ⟨cell_blk hbx 0, cell_blk hbx 1⟩
    · exact ⟨cell_blk hbx 2, cell_blk hbx 3⟩) (fun i hi => by
    rcases (show i = 0 ∨ i = 1 by omega) with rfl | rfl
    · exact ⟨h1.carry hg4, h2.carry hg4, l1, l2⟩
    · exact ⟨h3.carry hg4, h4.carry hg4, l3, l4⟩) (by omega) (by omega)
  have ha2 := ha.mono (R' := fun e w' => e = .returned (.bool (frB p n d && frB p n' d')) ∧ World.grownBy _ w' none) (by
      rintro e w' ⟨b, rfl, hb, hg⟩
      have hb' : b = (frB p n d && frB p n' d') := by
        rw [Bool.eq_iff_iff, hb, Bool.and_eq_true]
        exact ⟨fun h => ⟨h 0 (by omega), h 1 (by omega)⟩, fun h i hi => by
          rcases (show i = 0 ∨ i = 1 by omega) with rfl | rfl
          · exact h.1
          · exact h.2⟩
      exact ⟨by rw [hb'], hg⟩)
  have HS4 := Lib.hid hs4
  have HT := Lib.hid ht
  have HI1 := Lib.hid h1; have HI2 := Lib.hid h2; have HI3 := Lib.hid h3; have HI4 := Lib.hid h4
  obtain ⟨e1, f1, rfl, _⟩ := id h1
  obtain ⟨e2, f2, rfl, _⟩ := id h2
  obtain ⟨e3, f3, rfl, _⟩ := id h3
  obtain ⟨e4, f4, rfl, _⟩ := id h4
  have XF := Lib.hid fun W cs (h : Sep W [BxA (w.heap.size + 1 + 1) cs 53, BxA (w.heap.size + 1) #[.slice e3 n'.length f3, .slice e4 d'.length f4] 53, BxA w.heap.size #[.slice e1 n.length f1, .slice e2 d.length f2] 53, KeepA w]) =>
    (show W.cell? ⟨w.heap.size, 0, none⟩ = some (.slice e1 n.length f1) ∧ W.cell? ⟨w.heap.size, 1, none⟩ = some (.slice e2 d.length f2) ∧ W.cell? ⟨w.heap.size + 1, 0, none⟩ = some (.slice e3 n'.length f3) ∧ W.cell? ⟨w.heap.size + 1, 1, none⟩ = some (.slice e4 d'.length f4) from ⟨(bx h.tl.tl.hd).1, (bx h.tl.tl.hd).2.1, (bx h.tl.hd).1, (bx h.tl.hd).2.1⟩)
  obtain ⟨z0, z1, z2, z3⟩ := XF.out _ _ hs
  clear ha hbx hg4 hs hs4 h1 h2 h3 h4 ht
  cases hb : (frB p n d && frB p n' d')
  · rw [hb] at ha2
    have HA := Lib.hid ha2
    obtain ⟨m1, m2⟩ := frmR_no hb
    rw [m1, m2]
    unfold frV at *
    clear ha2 hb m1 m2 HI1 HI2 HI3 HI4
    go_enter Tryd.func41, Tryd.ntmps41
    go_wp2_with (
       go_at_call 132
       go_loud (with_reducible refine HA.out.mono ?_)
       rintro e w5 ⟨rfl, hg⟩
       have hs5 := HS4.out.grown hg
       obtain ⟨y0, y1, y2, y3⟩ := bx hs5.hd
       have h2 := (hs5.setB 0 (.slice none 0 0)).setB 1 (.slice none 0 0)
       obtain ⟨k0, k1, _, _⟩ := bx h2.hd
       have HGF := Lib.hid (show w.grownBy _ none from h2.tl.tl.tl.hd)
       clear hg hs5 h2)
    refine bodyPost_ret_by (v := .tuple #[.agg #[.slice none 0 0, .slice none 0 0], .bool false]) ?_ rfl ⟨_, _, rfl, IntsV.nil _, IntsV.nil _, HGF.out⟩
    simp [results, go_sem, *]
  · rw [hb] at ha2
    have HA := Lib.hid ha2
    obtain ⟨m1, m2, m3⟩ := frmR_yes hb
    rw [m1, m2, m3]
    have hbb := hb
    rw [Bool.and_eq_true] at hbb
    have MF := mul_facts hbb.1 hbb.2
    obtain ⟨q, iq, rfl, I⟩ := frIs_of hbb.1
    obtain ⟨q', iq', e1', J⟩ := frIs_of hbb.2
    obtain rfl : q = q' := by omega
    have kn := MF.kn; have kd := MF.kd
    have FM := Lib.hid fun W (hg : w.grownBy W none) => fractionMul_any q _ _ _ _ n d n' d' W I J (HI1.out.carry hg) (HI2.out.carry hg) (HI3.out.carry hg) (HI4.out.carry hg)
    have vf := fun W x y (hg : w.grownBy W none) (hx : IntsV W x (mulK q n d n' d').1) (hy : IntsV W y (mulK q n d n' d').2) => validFraction_any q x y _ _ W (HT.out.grown hg) hx hy (by omega) (by omega)
    rw [MF.fr] at vf
    have VF := Lib.hid vf
    clear ha2 hb hbb m1 m2 m3 vf MF kn kd I J HI1 HI2 HI3 HI4 HT e1'
    unfold frV at *
    generalize (mulK (q : Int) n d n' d').1 = K1 at *
    generalize (mulK (q : Int) n d n' d').2 = K2 at *
    generalize (if frFit K1 K2 = true then K1 else []) = R1 at *
    generalize (if frFit K1 K2 = true then K2 else []) = R2 at *
    generalize frFit K1 K2 = fit at *
    go_enter Tryd.func41, Tryd.ntmps41
    go_wp2_with (first
    | (go_at_call 132
       go_loud (with_reducible refine HA.out.mono ?_)
       rintro e w5 ⟨rfl, hg⟩
       have hs5 := HS4.out.grown hg
       have HS5 := Lib.hid hs5
       have HG5 := Lib.hid (show w.grownBy _ none from hs5.tl.tl.tl.hd)
       obtain ⟨x0, x1, x2, x3⟩ := XF.out _ _ hs5
       clear hg hs5)
    | (go_at_call 147
       go_loud (with_reducible refine (FM.out _ HG5.out).mono ?_)
       rintro e w6 ⟨o1, o2, rfl, hi1, hi2, hg⟩
       obtain ⟨a6, c6, rfl, _⟩ := id hi1
       obtain ⟨b6, d6, rfl, _⟩ := id hi2
       have I1 := Lib.hid hi1; have I2 := Lib.hid hi2
       have HS6 := Lib.hid (HS5.out.grown hg)
       have HG6 := Lib.hid (HG5.out.trans hg)
       clear hi1 hi2 hg)
    | (go_at_call 144
       go_loud (with_reducible refine (VF.out _ _ _ HG6.out I1.out I2.out).mono ?_)
       rintro e w7 ⟨o1, o2, rfl, hi1, hi2, hg⟩
       obtain ⟨a7, c7, rfl, _⟩ := id hi1
       obtain ⟨b7, d7, rfl, _⟩ := id hi2
       have hs7 := HS6.out.grown hg
       obtain ⟨y0, y1, y2, y3⟩ := bx hs7.hd
       have h2 := (hs7.setB 0 (.slice a7 R1.length c7)).setB 1 (.slice b7 R2.length d7)
       obtain ⟨k0, k1, _, _⟩ := bx h2.hd
       have HQ1 := Lib.hid (ints_box (i := 1) (ints_box (i := 0) hi1 hs7.hd (.slice a7 R1.length c7)) (hs7.setB 0 (.slice a7 R1.length c7)).hd (.slice b7 R2.length d7))
       have HQ2 := Lib.hid (ints_box (i := 1) (ints_box (i := 0) hi2 hs7.hd (.slice a7 R1.length c7)) (hs7.setB 0 (.slice a7 R1.length c7)).hd (.slice b7 R2.length d7))
       have HGF := Lib.hid (show w.grownBy _ none from h2.tl.tl.tl.hd)
       clear hi1 hi2 hg hs7 h2))
    refine bodyPost_ret_by (v := .tuple #[.agg #[.slice a7 R1.length c7, .slice b7 R2.length d7], .bool fit]) ?_ rfl ⟨_, _, rfl, HQ1.out, HQ2.out, HGF.out⟩
    simp [results, go_sem, *]
end Go.Proofs.YtpeaeminjbjlnaaDoor

/-
  The product of two fractions, checked, in the reference. Conditions: small sizes.
-/
namespace Go.Proofs.YtpeaeminjbjlnaaDoor
open Go.RowKit
set_option linter.unusedVariables false

set_option maxRecDepth 100000 in
set_option maxHeartbeats 1000000 in
theorem frTwo_any (p : Int) (u1 v1 u2 v2 : Value) (n d n' d' : List Int) (w : World) (hp0 : -1000 ≤ p) (hp1 : p ≤ 1000) (h1 : IntsV w u1 n) (h2 : IntsV w v1 d) (h3 : IntsV w u2 n') (h4 : IntsV w v2 d') (l1 : n.length ≤ 1000000) (l2 : d.length ≤ 1000000) (l3 : n'.length ≤ 1000000) (l4 : d'.length ≤ 1000000) :
    Calls Tryd.prog 148 #[.int .i64 p, frV u1 v1, frV u2 v2] w fun e w' => e = .returned (.bool (frB p n d && frB p n' d')) ∧ w.grownBy w' none := by
  have hs := ((Sep.start w).box #[u1, v1] 53).box #[u2, v2] 53
  simp only [show ∀ (W : World) o, (W.alloc o).heap.size = W.heap.size + 1 from fun W o => by simp] at hs
  have HS := Lib.hid hs
  have HG := Lib.hid (show w.grownBy _ none from hs.tl.tl.hd)
  obtain ⟨x0, x1, _, _⟩ := bx hs.hd
  obtain ⟨x2, x3, _, _⟩ := bx hs.tl.hd
  have g1 := fun W (hg : w.grownBy W none) => frGood_any p u1 v1 n d W hp0 hp1 (h1.carry hg) (h2.carry hg) l1 l2
  have g2 := fun W (hg : w.grownBy W none) => frGood_any p u2 v2 n' d' W hp0 hp1 (h3.carry hg) (h4.carry hg) l3 l4
  obtain ⟨e1, f1, rfl, _⟩ := id h1
  obtain ⟨e2, f2, rfl, _⟩ := id h2
  obtain ⟨e3, f3, rfl, _⟩ := id h3
  obtain ⟨e4, f4, rfl, _⟩ := id h4
  unfold frV at *
  clear hs h1 h2 h3 h4
  cases hb : frB p n d
  · rw [hb] at g1
    have HA := Lib.hid g1
    clear g1 g2 hb
    rw [Bool.false_and]
    · go_enter Tryd.func148, Tryd.ntmps148
      go_wp2_with (
        go_at_call 135
        with_reducible refine (HA.out _ HG.out).mono ?_
        rintro e w5 ⟨rfl, hg⟩
        have HG5 := Lib.hid (HG.out.trans hg)
        clear hg)
      go_ret
      exact ⟨rfl, HG5.out⟩
  · rw [hb] at g1
    have HA := Lib.hid g1; have HB := Lib.hid g2
    clear g1 g2 hb
    rw [Bool.true_and]
    generalize frB p n' d' = bb at *
    · go_enter Tryd.func148, Tryd.ntmps148
      go_wp2_with (first
       | (go_at_call 135
          with_reducible refine (HA.out _ HG.out).mono ?_
          rintro e w5 ⟨rfl, hg⟩
          have hs5 := HS.out.grown hg
          obtain ⟨z0, z1, _, _⟩ := bx hs5.hd
          have HG5 := Lib.hid (HG.out.trans hg)
          clear hg hs5)
       | (go_at_call 135
          with_reducible refine (HB.out _ HG5.out).mono ?_
          rintro e w6 ⟨rfl, hg⟩
          have HG6 := Lib.hid (HG5.out.trans hg)
          clear hg))
      go_ret
      exact ⟨rfl, HG6.out⟩
set_option maxRecDepth 100000 in
set_option maxHeartbeats 4000000 in
theorem sFrMul_any (p : Int) (u1 v1 u2 v2 : Value) (n d n' d' : List Int) (w : World) (hp0 : -1000 ≤ p) (hp1 : p ≤ 1000) (h1 : IntsV w u1 n) (h2 : IntsV w v1 d) (h3 : IntsV w u2 n') (h4 : IntsV w v2 d') (l1 : n.length ≤ 1000000) (l2 : d.length ≤ 1000000) (l3 : n'.length ≤ 1000000) (l4 : d'.length ≤ 1000000) :
    Calls Tryd.prog 42 #[.int .i64 p, frV u1 v1, frV u2 v2] w fun e w' => ∃ o1 o2, e = .returned (.tuple #[frV o1 o2, .bool (frmB p n d n' d')]) ∧ IntsV w' o1 (frmR p n d n' d').1 ∧ IntsV w' o2 (frmR p n d n' d').2 ∧ w.grownBy w' none := by
  have hs := (((Sep.start w).box #[u1, v1] 53).box #[u2, v2] 53).box #[.slice none 0 0, .slice none 0 0] 53
  simp only [show ∀ (W : World) o, (W.alloc o).heap.size = W.heap.size + 1 from fun W o => by simp] at hs
  have hg3 : w.grownBy _ none := hs.tl.tl.tl.hd
  have ha2 := frTwo_any p u1 v1 u2 v2 n d n' d' _ hp0 hp1 (h1.carry hg3) (h2.carry hg3) (h3.carry hg3) (h4.carry hg3) l1 l2 l3 l4
  have HS4 := Lib.hid hs
  have HI1 := Lib.hid h1; have HI2 := Lib.hid h2; have HI3 := Lib.hid h3; have HI4 := Lib.hid h4
  obtain ⟨e1, f1, rfl, _⟩ := id h1
  obtain ⟨e2, f2, rfl, _⟩ := id h2
  obtain ⟨e3, f3, rfl, _⟩ := id h3
  obtain ⟨e4, f4, rfl, _⟩ := id h4
  have XF := Lib.hid fun W cs (h : Sep W [BxA (w.heap.size + 1 + 1) cs 53, BxA (w.heap.size + 1) #[.slice e3 n'.length f3, .slice e4 d'.length f4] 53, BxA w.heap.size #[.slice e1 n.length f1, .slice e2 d.length f2] 53, KeepA w]) =>
    (show W.cell? ⟨w.heap.size, 0, none⟩ = some (.slice e1 n.length f1) ∧ W.cell? ⟨w.heap.size, 1, none⟩ = some (.slice e2 d.length f2) ∧ W.cell? ⟨w.heap.size + 1, 0, none⟩ = some (.slice e3 n'.length f3) ∧ W.cell? ⟨w.heap.size + 1, 1, none⟩ = some (.slice e4 d'.length f4) from ⟨(bx h.tl.tl.hd).1, (bx h.tl.tl.hd).2.1, (bx h.tl.hd).1, (bx h.tl.hd).2.1⟩)
  obtain ⟨z0, z1, z2, z3⟩ := XF.out _ _ hs
  clear hg3 hs h1 h2 h3 h4
  cases hb : (frB p n d && frB p n' d')
  · rw [hb] at ha2
    unfold frV at *
    have HA := Lib.hid ha2
    obtain ⟨m1, m2⟩ := frmR_no hb
    rw [m1, m2]
    clear ha2 hb m1 m2 HI1 HI2 HI3 HI4
    go_enter Tryd.func42, Tryd.ntmps42
    go_wp2_with (
       go_at_call 148
       go_loud (with_reducible refine HA.out.mono ?_)
       rintro e w5 ⟨rfl, hg⟩
       have hs5 := HS4.out.grown hg
       obtain ⟨y0, y1, y2, y3⟩ := bx hs5.hd
       have h2 := (hs5.setB 0 (.slice none 0 0)).setB 1 (.slice none 0 0)
       obtain ⟨k0, k1, _, _⟩ := bx h2.hd
       have HGF := Lib.hid (show w.grownBy _ none from h2.tl.tl.tl.hd)
       clear hg hs5 h2)
    refine bodyPost_ret_by (v := .tuple #[.agg #[.slice none 0 0, .slice none 0 0], .bool false]) ?_ rfl ⟨_, _, rfl, IntsV.nil _, IntsV.nil _, HGF.out⟩
    simp [results, go_sem, *]
  · rw [hb] at ha2
    obtain ⟨m1, m2, m3⟩ := frmR_yes hb
    rw [m1, m2, m3]
    have hbb := hb
    rw [Bool.and_eq_true] at hbb
    have MF := mul_facts hbb.1 hbb.2
    obtain ⟨q, iq, rfl, I⟩ := frIs_of hbb.1
    obtain ⟨q', iq', e1', J⟩ := frIs_of hbb.2
    obtain rfl : q = q' := by omega
    have kn := MF.kn; have kd := MF.kd
    have fm := fun W (hg : w.grownBy W none) => (frMul_any q _ _ _ _ n d n' d' W I J (HI1.out.carry hg) (HI2.out.carry hg) (HI3.out.carry hg) (HI4.out.carry hg)).mono (R' := fun e w' => ∃ o1 o2, e = .returned (frV o1 o2) ∧ IntsV w' o1 (mulK q n d n' d').1 ∧ IntsV w' o2 (mulK q n d n' d').2 ∧ W.grownBy w' none) fun _ _ ⟨o1, o2, h, hs⟩ => ⟨o1, o2, h, hs.hd.read, hs.tl.hd.read, hs.tl.tl.hd⟩
    have vf := fun W x y (hg : w.grownBy W none) (hx : IntsV W x (mulK q n d n' d').1) (hy : IntsV W y (mulK q n d n' d').2) => frIf_any x y _ _ W hx hy (by omega) (by omega)
    unfold frV at *
    have HA := Lib.hid ha2
    have FM := Lib.hid fm
    have VF := Lib.hid vf
    clear ha2 hb hbb m1 m2 m3 fm vf MF kn kd I J HI1 HI2 HI3 HI4 e1'
    generalize (mulK (q : Int) n d n' d').1 = K1 at *
    generalize (mulK (q : Int) n d n' d').2 = K2 at *
    generalize (if frFit K1 K2 = true then K1 else []) = R1 at *
    generalize (if frFit K1 K2 = true then K2 else []) = R2 at *
    generalize frFit K1 K2 = fit at *
    go_enter Tryd.func42, Tryd.ntmps42
    go_wp2_with (first
    | (go_at_call 148
       go_loud (with_reducible refine HA.out.mono ?_)
       rintro e w5 ⟨rfl, hg⟩
       have hs5 := HS4.out.grown hg
       have HS5 := Lib.hid hs5
       have HG5 := Lib.hid (show w.grownBy _ none from hs5.tl.tl.tl.hd)
       obtain ⟨x0, x1, x2, x3⟩ := XF.out _ _ hs5
       clear hg hs5)
    | (go_at_call 150
       go_loud (with_reducible refine (FM.out _ HG5.out).mono ?_)
       rintro e w6 ⟨o1, o2, rfl, hi1, hi2, hg⟩
       obtain ⟨a6, c6, rfl, _⟩ := id hi1
       obtain ⟨b6, d6, rfl, _⟩ := id hi2
       have I1 := Lib.hid hi1; have I2 := Lib.hid hi2
       have HS6 := Lib.hid (HS5.out.grown hg)
       have HG6 := Lib.hid (HG5.out.trans hg)
       clear hi1 hi2 hg)
    | (go_at_call 149
       go_loud (with_reducible refine (VF.out _ _ _ HG6.out I1.out I2.out).mono ?_)
       rintro e w7 ⟨o1, o2, rfl, hi1, hi2, hg⟩
       obtain ⟨a7, c7, rfl, _⟩ := id hi1
       obtain ⟨b7, d7, rfl, _⟩ := id hi2
       have hs7 := HS6.out.grown hg
       obtain ⟨y0, y1, y2, y3⟩ := bx hs7.hd
       have h2 := (hs7.setB 0 (.slice a7 R1.length c7)).setB 1 (.slice b7 R2.length d7)
       obtain ⟨k0, k1, _, _⟩ := bx h2.hd
       have HQ1 := Lib.hid (ints_box (i := 1) (ints_box (i := 0) hi1 hs7.hd (.slice a7 R1.length c7)) (hs7.setB 0 (.slice a7 R1.length c7)).hd (.slice b7 R2.length d7))
       have HQ2 := Lib.hid (ints_box (i := 1) (ints_box (i := 0) hi2 hs7.hd (.slice a7 R1.length c7)) (hs7.setB 0 (.slice a7 R1.length c7)).hd (.slice b7 R2.length d7))
       have HGF := Lib.hid (show w.grownBy _ none from h2.tl.tl.tl.hd)
       clear hi1 hi2 hg hs7 h2))
    refine bodyPost_ret_by (v := .tuple #[.agg #[.slice a7 R1.length c7, .slice b7 R2.length d7], .bool fit]) ?_ rfl ⟨_, _, rfl, HQ1.out, HQ2.out, HGF.out⟩
    simp [results, go_sem, *]
end Go.Proofs.YtpeaeminjbjlnaaDoor

/-
  The order of a fraction, checked, in the program. Conditions: a valid fraction.
-/
namespace Go.Proofs.YtpeaeminjbjlnaaDoor
open Go.RowKit
set_option linter.unusedVariables false

set_option maxRecDepth 100000 in
theorem orderOfFraction_yes (p : Int) (u v : Value) (n d : List Int) (w : World) (ht : Tab w) (hu : IntsV w u n) (hv : IntsV w v d) (hfr : frB p n d = true) :
    Calls Tryd.prog 37 #[.int .i64 p, frV u v] w fun e w' => e = .returned (.tuple #[.int .i64 (ordL n d), .bool true]) ∧ w.grownBy w' none := by
  obtain ⟨_, l1, l2, _⟩ := frB_ok hfr
  have ln : n.length ≤ 1000000 := by omega
  have ld : d.length ≤ 1000000 := by omega
  have hs := ((Sep.start w).box #[u, v] 53)
  have hs2 := hs.al (.cells #[u, v] 53)
  obtain ⟨x0, x1, _, _⟩ := bx hs.hd
  obtain ⟨x2, x3, _, _⟩ := bx hs2.hd
  have hg2 : w.grownBy ((w.alloc (.cells #[u, v] 53)).alloc (.cells #[u, v] 53)) none := hs2.tl.hd
  have hsz : (w.alloc (.cells #[u, v] 53)).heap.size = w.heap.size + 1 := by simp
  have hbx := bx (alloc_heap_new (w.alloc (.cells #[u, v] 53)) (.cells #[u, v] 53))
  rw [hsz] at hbx
  have ha := (areFr_any p (w.heap.size + 1) 1 (fun _ => u) (fun _ => v) (fun _ => n) (fun _ => d) ((w.alloc (.cells #[u, v] 53)).alloc (.cells #[u, v] 53)) (ht.grown hg2) (by simp) (fun i hi => by
    obtain rfl : i = 0 := by omega
    exact ⟨hbx.1, hbx.2.1⟩) (fun i _ => ⟨hu.carry hg2, hv.carry hg2, ln, ld⟩) (Nat.le_refl _) (by omega)).mono (R' := fun e w' => e = .returned (.bool (frB p n d)) ∧ ((w.alloc (.cells #[u, v] 53)).alloc (.cells #[u, v] 53)).grownBy w' none) (by
      rintro e w' ⟨b, rfl, hb, hg⟩
      have hb' : b = frB p n d := by
        rw [Bool.eq_iff_iff, hb]
        exact ⟨fun h => h 0 (by omega), fun h i _ => h⟩
      exact ⟨by rw [hb'], hg⟩)
  rw [hfr] at ha
  have HA := Lib.hid ha
  have HS2 := Lib.hid hs2
  have HOO := Lib.hid fun W (hg : w.grownBy W none) => orderOf_any u v n d W (hu.carry hg) (hv.carry hg) (by omega) (by omega)
  obtain ⟨ua, uc, rfl, _⟩ := id hu
  obtain ⟨va, vc, rfl, _⟩ := id hv
  unfold frV at *
  clear hs hs2 hg2 hsz hbx ht hu hv ha hfr
  generalize ordL n d = od at *
  go_enter Tryd.func37, Tryd.ntmps37
  go_wp2_with (first
    | (go_at_call 132
       with_reducible refine HA.out.mono ?_
       rintro e w1 ⟨rfl, hg⟩
       have hs3 := HS2.out.grown hg
       obtain ⟨t0, t1, _, _⟩ := bx hs3.hd
       have HG3 := Lib.hid (show w.grownBy w1 none from hs3.tl.hd)
       clear hg hs3)
    | (go_at_call 139
       with_reducible refine (HOO.out _ HG3.out).mono ?_
       rintro e w2 ⟨rfl, hg⟩
       have HG4 := Lib.hid (HG3.out.trans hg)
       clear hg))
  go_ret2
  exact ⟨rfl, HG4.out⟩
end Go.Proofs.YtpeaeminjbjlnaaDoor

/-
  Products of series, in the program. Conditions: small sizes.
-/
namespace Go.Proofs.YtpeaeminjbjlnaaDoor
open Go.RowKit
set_option linter.unusedVariables false

theorem set_mid (A R : List Int) (z x : Int) : (A ++ z :: R).set A.length x = A ++ x :: R := by
  rw [List.set_append_right _ _ (Nat.le_refl _), Nat.sub_self, List.set_cons_zero]
theorem get_mid (A R : List Int) (z : Int) (h : A.length < (A ++ z :: R).length) : (A ++ z :: R)[A.length] = z := by
  rw [List.getElem_append_right (Nat.le_refl _)]
  simp
theorem convL_succ (p : Int) (a b : List Int) (k : Nat) : convL p a b (k + 1) = convL p a b k ++ [convT a b k (k + 1) % p] := by
  unfold convL
  rw [List.range_succ, List.map_append]
  rfl
theorem convT_bd {q : Nat} {a b : List Int} (h1 : ∀ z ∈ a, 0 ≤ z ∧ z < (q : Int)) (h2 : ∀ z ∈ b, 0 ≤ z ∧ z < (q : Int)) (hq : 2 ≤ q) (hq2 : q ≤ 97) (k : Nat) : ∀ i : Nat, 0 ≤ convT a b k i ∧ convT a b k i ≤ 9409 * (i : Int)
  | 0 => by show (0 : Int) ≤ 0 ∧ (0 : Int) ≤ _; omega
  | i + 1 => by
    have ih := convT_bd h1 h2 hq hq2 k i
    have b1 := getD_bd h1 hq i
    have b2 := getD_bd h2 hq (k - i)
    have b3 := mul_bd (X := 97) (Y := 97) b1.1 (by omega) b2.1 (by omega)
    show 0 ≤ convT a b k i + a.getD i 0 * b.getD (k - i) 0 ∧ convT a b k i + a.getD i 0 * b.getD (k - i) 0 ≤ _
    generalize a.getD i 0 * b.getD (k - i) 0 = x at *
    omega
theorem flip_eq {f : FuncId} {args : Array Value} {w : World} {v : Value} (h : Calls Tryd.prog f args w fun e w' => e = .returned v ∧ w = w') : Calls Tryd.prog f args w fun e w' => e = .returned v ∧ w' = w :=
  h.mono fun _ _ ⟨h1, h2⟩ => ⟨h1, h2.symm⟩
set_option maxRecDepth 100000 in
set_option maxHeartbeats 2000000 in
theorem convolve_any (q n : Nat) [NeZero q] (u v : Value) (A B : List Int) (w : World) (hq : 2 ≤ q) (hq2 : q ≤ 97) (hu : IntsV w u A) (hv : IntsV w v B) (h1 : ∀ z ∈ A, 0 ≤ z ∧ z < (q : Int)) (h2 : ∀ z ∈ B, 0 ≤ z ∧ z < (q : Int)) (la : A.length ≤ 1000000) (lb : B.length ≤ 1000000) (hn : n ≤ 60) :
    Calls Tryd.prog 143 #[.int .i64 q, u, v, .int .i64 n] w fun e w' => ∃ o, e = .returned o ∧ OwnInts w.heap.size w' o (convL q A B n) ∧ w.grownBy w' none := by
  have HZ := Lib.hid (zeros_at n w (by omega))
  have HCA := Lib.hid fun k W (hg : w.grownBy W none) => coef_any u A k W (hu.carry hg) la
  have HCB := Lib.hid fun k W (hg : w.grownBy W none) => coef_any v B k W (hv.carry hg) lb
  have HTB := Lib.hid fun k i => convT_bd h1 h2 hq hq2 k i
  have HCS := Lib.hid fun k => convL_succ (q : Int) A B k
  have HCL := Lib.hid fun k => conv_len (q : Int) A B k
  have HS0 := Lib.hid (Sep.start w)
  have HTS := Lib.hid fun k i => (show convT A B k (i + 1) = convT A B k i + A.getD i 0 * B.getD (k - i) 0 from rfl)
  have HAB := Lib.hid fun k => getD_bd h1 hq k
  have HBB := Lib.hid fun k => getD_bd h2 hq k
  obtain ⟨ua, uc, rfl, _⟩ := id hu
  obtain ⟨va, vc, rfl, _⟩ := id hv
  clear hu hv h1 h2
  generalize hgz : w.heap.size = gz at *
  have HGZ := Lib.hid hgz
  clear hgz
  go_enter Tryd.func143, Tryd.ntmps143
  go_wp2_with (
    go_at_call 243
    go_loud (with_reducible refine HZ.out.mono ?_)
    rintro e w1 ⟨rfl, ho, hg⟩
    rw [← HGZ.out] at ho
    have hs1 := HS0.out.newI hg ho
    rw [HGZ.out] at hs1
    have HS1 := Lib.hid hs1
    clear ho hg hs1)
  go_loopw [16] (fun i wr => ∃ k : Nat, k ≤ n ∧ i = .int .i64 k ∧ Sep wr [OI (.slice (some ⟨gz, 0, none⟩) n n) (convL q A B k ++ List.replicate (n - k) 0), KeepA w]) (fun i _ => n - (intOf i).toNat)
  case atStart => exact ⟨0, by omega, rfl, HS1.out⟩
  case round =>
    obtain ⟨k, hk, rfl, hs⟩ := hrel
    have HSX := Lib.hid hs
    clear hs
    by_cases hlt : k < n
    · have HNX := Lib.hid (HCS.out k)
      have HCK := Lib.hid (HCL.out k)
      generalize convL (q : Int) A B k = C at *
      have hrep : List.replicate (n - k) (0 : Int) = 0 :: List.replicate (n - (k + 1)) 0 := by rw [show n - k = (n - (k + 1)) + 1 by omega]; rfl
      have hs0 := HSX.out
      rw [hrep] at hs0
      have HSR := Lib.hid (show (List.replicate (n - (k + 1)) (0 : Int)).length = n - (k + 1) from List.length_replicate)
      have HS2 := Lib.hid hs0
      generalize hR : List.replicate (n - (k + 1)) (0 : Int) = R at *
      have HR := Lib.hid hR
      have HLEN := Lib.hid fun z => (show (C ++ z :: R).length = n by rw [List.length_append, List.length_cons, HCK.out, HSR.out]; omega)
      clear hrep hs0 hR
      go_wp2_with fail
      go_loopw [11] (fun i wx => ∃ j : Nat, j ≤ k + 1 ∧ i = .int .i64 j ∧ Sep wx [OI (.slice (some ⟨gz, 0, none⟩) n n) (C ++ convT A B k j :: R), KeepA w]) (fun i _ => k + 1 - (intOf i).toNat)
      case atStart => exact ⟨0, by omega, rfl, HS2.out⟩
      case round =>
        obtain ⟨j, hj, rfl, hs⟩ := hrel
        have HSY := Lib.hid hs
        clear hs
        by_cases hlj : j < k + 1
        · have HD := Lib.hid HSY.out.dr
          have HGD := Lib.hid (show w.grownBy wr.drew none from HD.out.tl.hd)
          have hlen := HLEN.out (convT A B k j)
          have hkl : k < (C ++ convT A B k j :: R).length := by rw [hlen]; omega
          have hoi : OwnInts 0 wr.drew (.slice (some ⟨gz, 0, none⟩) n n) (C ++ convT A B k j :: R) := HD.out.hd
          have hcm := hoi.cell hlen.symm hkl
          have hfr := hoi.free hlen.symm k
          have hget : (C ++ convT A B k j :: R)[k] = convT A B k j := by
            have h := get_mid C R (convT A B k j)
            simp only [HCK.out] at h
            exact h hkl
          rw [hget] at hcm
          have hset := HD.out.setI hlen.symm k (convT A B k (j + 1))
          have hsm := set_mid C R (convT A B k j) (convT A B k (j + 1))
          rw [HCK.out] at hsm
          rw [hsm] at hset
          rw [HTS.out k j] at hset
          have HST := Lib.hid (HTS.out k j)
          have HSET := Lib.hid hset
          have tb := HTB.out k j
          have b1 := HAB.out j
          have b2 := HBB.out (k - j)
          have b3 := mul_bd (X := 97) (Y := 97) b1.1 (by omega) b2.1 (by omega)
          have w3 : (k : Int) - (j : Int) = ((k - j : Nat) : Int) := by omega
          have w4 : IntKind.i64.wrap ((k : Int) - (j : Int)) = ((k - j : Nat) : Int) := by rw [IntKind.wrap_i64]; omega
          have CA := Lib.hid (HCA.out j _ HGD.out)
          have CB := Lib.hid (HCB.out (k - j) _ HGD.out)
          have w1 : IntKind.i64.wrap (A.getD j 0 * B.getD (k - j) 0) = A.getD j 0 * B.getD (k - j) 0 := by
            generalize A.getD j 0 * B.getD (k - j) 0 = dd at *
            rw [IntKind.wrap_i64]; omega
          have w2 : IntKind.i64.wrap (convT A B k j + A.getD j 0 * B.getD (k - j) 0) = convT A B k j + A.getD j 0 * B.getD (k - j) 0 := by
            generalize A.getD j 0 * B.getD (k - j) 0 = dd at *
            rw [IntKind.wrap_i64]; omega
          have w5 : (k : Int) < (n : Int) := by omega
          have w6 : (j : Int) ≤ (k : Int) := by omega
          have w7 : (0 : Int) ≤ (k : Int) := by omega
          clear hlen hkl hget hset hsm b1 b2 b3 tb hoi w3
          generalize k - j = m at *
          generalize A.getD j 0 = aj at *
          generalize B.getD m 0 = bm at *
          generalize convT A B k j = tj at *
          go_wp2_with fail
          refine wp_region_still_tail 15 (by kernel_rfl) (by kernel_rfl) ?_
          simp only [List.take_succ_cons, List.take_zero, List.drop_succ_cons, List.drop_zero]
          repeat still_step
          still_call (flip_eq CA.out)
          repeat still_step
          still_call (flip_eq CB.out)
          repeat still_step
          refine wpStill_nil ?_
          change wpList _ _ _ _ _ wr.drew
          go_wp2
          go_roundw
          case rel => exact ⟨j + 1, by omega, by go_num, by rw [HST.out]; exact HSET.out⟩
          case measure => simp [intOf]; omega
        · have hjk : j = k + 1 := by omega
          subst hjk
          have hlen := HLEN.out (convT A B k (k + 1))
          have hkl : k < (C ++ convT A B k (k + 1) :: R).length := by rw [hlen]; omega
          have hoi : OwnInts 0 wr (.slice (some ⟨gz, 0, none⟩) n n) (C ++ convT A B k (k + 1) :: R) := HSY.out.hd
          have hcm := hoi.cell hlen.symm hkl
          have hfr := hoi.free hlen.symm k
          have hget : (C ++ convT A B k (k + 1) :: R)[k] = convT A B k (k + 1) := by
            have h := get_mid C R (convT A B k (k + 1))
            simp only [HCK.out] at h
            exact h hkl
          rw [hget] at hcm
          have hset := HSY.out.setI hlen.symm k (convT A B k (k + 1) % q)
          have hsm := set_mid C R (convT A B k (k + 1)) (convT A B k (k + 1) % q)
          rw [HCK.out] at hsm
          rw [hsm] at hset
          have hfin : C ++ convT A B k (k + 1) % q :: R = convL q A B (k + 1) ++ List.replicate (n - (k + 1)) 0 := by
            rw [HNX.out, HR.out, List.append_assoc]
            rfl
          rw [hfin] at hset
          have HSET := Lib.hid hset
          have tb := HTB.out k (k + 1)
          have hrem : (convT A B k (k + 1)).tmod q = convT A B k (k + 1) % q := Int.tmod_eq_emod_of_nonneg tb.1
          have m0 := Int.emod_nonneg (convT A B k (k + 1)) (show (q : Int) ≠ 0 by omega)
          have m1 := Int.emod_lt_of_pos (convT A B k (k + 1)) (show (0 : Int) < q by omega)
          have w6 : ¬ ((k + 1 : Nat) : Int) ≤ (k : Int) := by omega
          have w7 : (k : Int) < (n : Int) := by omega
          have hq0 : ((q : Int) == 0) = false := by rw [beq_eq_false_iff_ne]; omega
          have hq1 : (q : Int) ≠ 0 := by omega
          clear hlen hkl hoi hget hset hsm hfin
          generalize convT A B k (k + 1) = tj at *
          have w8 : IntKind.i64.wrap (tj % q) = tj % q := by
            generalize tj % (q : Int) = dd at *
            rw [IntKind.wrap_i64]; omega
          generalize tj % (q : Int) = tm at *
          go_wp2_with fail
          go_roundw
          case rel => exact ⟨k + 1, by omega, by go_num, HSET.out⟩
          case measure => simp [intOf]; omega
    · have hkn : k = n := by omega
      subst hkn
      have hs := HSX.out
      rw [Nat.sub_self, List.replicate_zero, List.append_nil] at hs
      have HO := Lib.hid hs.ints
      have HG := Lib.hid (show w.grownBy wr none from hs.tl.hd)
      clear hs
      have ho := HO.out
      rw [HGZ.out] at ho
      have HO2 := Lib.hid ho
      clear ho
      go_wp2
      go_ret
      exact ⟨_, rfl, HO2.out, HG.out⟩
end Go.Proofs.YtpeaeminjbjlnaaDoor

/-
  'append(out, list...)' for integers, as a step over parts of memory; copies of lists in the reference. Conditions: small sizes.
-/
namespace Go.Proofs.YtpeaeminjbjlnaaDoor
open Go.RowKit
set_option linter.unusedVariables false

section
variable {ops : Array Oper} {rest : List Oper} {o : Oper} {a : Act} {Q : Exit → Act → World → Prop} {K : Act → World → Prop} {E : Prop} {w : World} {v u : Value} {zs ys : List Int} {l : List Asrt}
theorem wp_app_intsS (s x : Operand) (ho : o.op = .call { callee := .builtin .append, args := #[s, x], argTypes := #[24, 24] })
    (hs : a.eval s = v) (hx : a.eval x = u) (H : Sep w (OI v zs :: l)) (hu : IntsV w u ys) (hl : zs.length + ys.length ≤ 1000000000)
    (h : ∀ a' c w', Sep w' (OI (.slice a' (zs.length + ys.length) c) (zs ++ ys) :: l) → zs.length + ys.length ≤ c → K (a.put o.dst (.slice a' (zs.length + ys.length) c)) w') :
    o.wp Tryd.prog a w K Q := by
  obtain ⟨i0, hi, hz0, hz1, hz2⟩ := info_parts info_int
  have hown : OwnInts 0 w v zs := H.hd
  by_cases hne : ys = []
  · subst hne
    have hsrc : Src Tryd.prog i0.size 24 u 0 [] w := by
      obtain ⟨ad, c, rfl, _⟩ := hu
      cases ad with
      | none => exact Src.ofNil w Tryd.underlying24 c
      | some ad => exact Src.ofSlice w Tryd.underlying24 ad 0 c [] (by simp) (fun j x hj => by simp at hj) (fun x hx => by cases hx)
    obtain ⟨va, vc, rfl, hle⟩ : ∃ va vc, v = .slice va zs.length vc ∧ zs.length ≤ vc := by
      obtain ⟨h1, h2⟩ := hown
      rcases h2 with ⟨rfl, h0⟩ | ⟨g, cap, cur, rfl, _, _, hnc, _⟩
      · exact ⟨none, 0, by rw [h0], by omega⟩
      · exact ⟨_, cap, rfl, hnc⟩
    have hr := run_append_nothing (P := Tryd.prog) w 24 24 o.type 3 i0 Tryd.underlying24 hi va zs.length vc hle u hsrc
    unfold Oper.wp execOp
    simp only [ho, resolve, invoke, builtin, Sem.run_bind, Sem.run_pure, Result.andThen_ok, List.map_toArray, List.map_cons, List.map_nil, hs, hx, hr]
    have h2 := h va vc w (by simpa using H) (by simpa using hle)
    have h3 : K (a.put o.dst (.slice va zs.length vc)) w := by simpa using h2
    exact h3
  · obtain ⟨ua, uc, rfl, hr⟩ := hu
    obtain ⟨d, rfl, hsp, hd, hc⟩ := hr hne
    obtain ⟨db, dof, _⟩ := d
    simp only at hsp hd hc
    subst hsp
    have hpos : 0 < ys.length := by cases ys with | nil => exact absurd rfl hne | cons _ _ => simp
    refine wp_append_lies (P := Tryd.prog) _ s x 24 ho 0 3 i0 (.int .i64 0) 1 8 Tryd.underlying24 hi hz0 hz1 hz2 rfl (by decide) v zs.length (zs.map (Value.int .i64)) hs hown
      ⟨db, dof, none⟩ ys.length uc (ys.map (Value.int .i64)) hx (by simp) (fun j x hj => ?_) (fun x hx => by obtain ⟨z, _, rfl⟩ := List.mem_map.1 hx; rfl) hpos (by unfold maxLen; omega) (by omega) (Nat.zero_le _) _ rfl ?_
    · have hjy : j < ys.length := by
        rcases Nat.lt_or_ge j ys.length with h | h
        · exact h
        · rw [List.getElem?_eq_none (by simpa using h)] at hj; cases hj
      rw [List.getElem?_map, List.getElem?_eq_getElem hjy] at hj
      simp only [Option.map_some, Option.some.injEq] at hj
      subst hj
      rw [Addr.add_lit]
      exact hc j hjy
    · intro g cap w1 hown' hgrow hg _
      have ho' : OwnInts 0 w1 (.slice (some ⟨g, 0, none⟩) (zs.length + ys.length) cap) (zs ++ ys) := by
        unfold OwnInts
        rw [List.length_append, List.map_append]
        exact hown'
      have hcap' : zs.length + ys.length ≤ cap := by
        have h2 := ho'.2
        rcases h2 with ⟨h0, _⟩ | ⟨g', cap', cur, h0, _, _, hc', _⟩
        · cases h0
        · simp only [Value.slice.injEq] at h0
          rw [h0.2.2]
          simpa using hc'
      refine h (some ⟨g, 0, none⟩) cap w1 (H.upd' (A' := OI _ _) (Only.of_grown (S := Hits v) hgrow fun k hk => hk) ho' fun k hk => ?_) hcap'
      have : g = k := by simpa [OI, Hits, Value.ownBlock] using hk
      subst this
      exact hg.imp id (fun h => Nat.le_of_eq h.symm)
theorem app_intsS (hgd : o.guard = none) (s x : Operand) (ho : o.op = .call { callee := .builtin .append, args := #[s, x], argTypes := #[24, 24] })
    (hs : a.eval s = v) (hx : a.eval x = u) (H : Sep w (OI v zs :: l)) (hu : IntsV w u ys) (hl : zs.length + ys.length ≤ 1000000000)
    (h : ∀ a' c w', Sep w' (OI (.slice a' (zs.length + ys.length) c) (zs ++ ys) :: l) → zs.length + ys.length ≤ c → wpList Tryd.prog ops Q rest (a.put o.dst (.slice a' (zs.length + ys.length) c)) w') :
    wpList Tryd.prog ops Q (o :: rest) a w :=
  wpList_plain hgd fun _ hK => wp_app_intsS s x ho hs hx H hu hl fun a' c w' h1 h2 => hK _ _ (h a' c w' h1 h2)
theorem step_app_intsS (hgd : o.guard = none) (s x : Operand) (ho : o.op = .call { callee := .builtin .append, args := #[s, x], argTypes := #[24, 24] })
    (hs : a.eval s = v) (hx : a.eval x = u) (H : Sep w (OI v zs :: l)) (hu : IntsV w u ys) (hl : zs.length + ys.length ≤ 1000000000)
    (h : ∀ a' c w', Sep w' (OI (.slice a' (zs.length + ys.length) c) (zs ++ ys) :: l) → zs.length + ys.length ≤ c → K (a.put o.dst (.slice a' (zs.length + ys.length) c)) w') :
    if Region.wanted o (yielded ops a.tmps) = true then Oper.wp Tryd.prog o a w K Q else E := by
  rw [if_pos (by simp [Region.wanted, hgd])]
  exact wp_app_intsS s x ho hs hx H hu hl h
end
end Go.Proofs.YtpeaeminjbjlnaaDoor

/-
  'append(out, list...)' where the list bears a type's name of its own. Conditions: small sizes.
-/
namespace Go.Proofs.YtpeaeminjbjlnaaDoor
open Go.RowKit
set_option linter.unusedVariables false

theorem append_same {P : Program} (w : World) (t tx ty e e' : TypeId) (ht : P.underlying t = some (.slice e)) (htx : P.underlying tx = some (.slice e')) (a : Option Addr) (n c : Nat) (u : Value) :
    (Builtin.append_ #[t, tx] ty #[.slice a n c, u]).run P w = (Builtin.append_ #[t, t] ty #[.slice a n c, u]).run P w := by
  simp [Builtin.append_, run_underlying ht, run_underlying htx]
section
variable {ops : Array Oper} {rest : List Oper} {o : Oper} {a : Act} {Q : Exit → Act → World → Prop} {K : Act → World → Prop} {E : Prop} {w : World} {v u : Value} {zs ys : List Int} {l : List Asrt}
set_option maxRecDepth 10000 in
theorem wp_app_intsT (s x : Operand) (tx : TypeId) (ho : o.op = .call { callee := .builtin .append, args := #[s, x], argTypes := #[24, tx] }) (htx : Tryd.prog.underlying tx = some (.slice 3))
    (hs : a.eval s = v) (hx : a.eval x = u) (H : Sep w (OI v zs :: l)) (hu : IntsV w u ys) (hl : zs.length + ys.length ≤ 1000000000)
    (h : ∀ a' c w', Sep w' (OI (.slice a' (zs.length + ys.length) c) (zs ++ ys) :: l) → zs.length + ys.length ≤ c → K (a.put o.dst (.slice a' (zs.length + ys.length) c)) w') :
    o.wp Tryd.prog a w K Q := by
  obtain ⟨va, vc, rfl, hvc⟩ := own_cap' (show OwnInts 0 w v zs from H.hd)
  have h1 := wp_app_intsS (Q := Q) (K := K) (o := { o with op := .call { callee := .builtin .append, args := #[s, x], argTypes := #[24, 24] } }) s x rfl hs hx H hu hl h
  unfold Oper.wp execOp at h1 ⊢
  simp only [ho, resolve, invoke, builtin, Sem.run_bind, Sem.run_pure, Result.andThen_ok, List.map_toArray, List.map_cons, List.map_nil, hs, hx] at h1 ⊢
  rw [append_same w _ tx _ _ _ Tryd.underlying24 htx]
  exact h1
set_option maxRecDepth 10000 in
theorem app_intsT (hgd : o.guard = none) (s x : Operand) (tx : TypeId) (ho : o.op = .call { callee := .builtin .append, args := #[s, x], argTypes := #[24, tx] }) (htx : Tryd.prog.underlying tx = some (.slice 3))
    (hs : a.eval s = v) (hx : a.eval x = u) (H : Sep w (OI v zs :: l)) (hu : IntsV w u ys) (hl : zs.length + ys.length ≤ 1000000000)
    (h : ∀ a' c w', Sep w' (OI (.slice a' (zs.length + ys.length) c) (zs ++ ys) :: l) → zs.length + ys.length ≤ c → wpList Tryd.prog ops Q rest (a.put o.dst (.slice a' (zs.length + ys.length) c)) w') :
    wpList Tryd.prog ops Q (o :: rest) a w :=
  wpList_plain hgd fun _ hK => wp_app_intsT s x tx ho htx hs hx H hu hl fun a' c w' h1 h2 => hK _ _ (h a' c w' h1 h2)
end
end Go.Proofs.YtpeaeminjbjlnaaDoor

/-
  ShareGates in the program. Conditions: the table of small primes holds what its text lays; at most 2,000,000 gates and outputs.
-/
import Derived.Test.YtkamcgonacmieaaDoorNb01
namespace Go.Proofs.YtkamcgonacmieaaDoor
open Go.RowKit
set_option linter.unusedVariables false
set_option maxRecDepth 100000

theorem fld_small {p : Int} (h : fldB p = true) : 2 ≤ p ∧ p ≤ 97 := by
  rw [fldB_iff] at h
  omega
theorem circE_wf {p : Int} {c : Circ} (h : circE p c = true) : ∀ g ∈ c.gs, (Lit.int .i64 g.k).wf = true ∧ (Lit.int .i64 g.v).wf = true := by
  rw [circE_eq] at h
  simp only [Bool.and_eq_true, decide_eq_true_iff, List.all_eq_true] at h
  obtain ⟨⟨⟨⟨⟨⟨h0, hn⟩, h1⟩, h2⟩, h3⟩, h4⟩, h5⟩ := h
  have hp := fld_small h0
  rw [inB_iff] at hn
  intro g hg
  have hb := h4 g hg
  unfold gateB at hb
  simp only [Bool.and_eq_true] at hb
  obtain ⟨-, hb⟩ := hb
  have key : (1 ≤ g.k ∧ g.k ≤ 5) ∧ (0 ≤ g.v ∧ g.v ≤ 97) := by
    split at hb
    · simp only [Bool.and_eq_true, decide_eq_true_iff, inB_iff] at hb
      omega
    · split at hb
      · simp only [Bool.and_eq_true, decide_eq_true_iff] at hb
        omega
      · split at hb
        · simp only [decide_eq_true_iff] at hb
          omega
        · split at hb
          · simp only [Bool.and_eq_true, decide_eq_true_iff, inB_iff] at hb
            omega
          · split at hb
            · simp only [Bool.and_eq_true, decide_eq_true_iff] at hb
              omega
            · cases hb
  exact ⟨WalkArith.wf_i64 (by omega), WalkArith.wf_i64 (by omega)⟩

/-- The first gate of a class. -/
theorem share_fn {gs : List Gt} {cl : List Int} {s : Nat} (hcl : cl.length = gs.length) (hk : KerEq gs.length cl (clsN gs s)) (hf : clsN gs (s + 1) = clsN gs s) (v : Value) (b : Nat) (w : World) (hl : gs.length ≤ 1000)
    (hb : w.cell? ⟨b, 0, none⟩ = some v) (hv : IntsV w v cl) : OfFn 137 #[.pointer (some ⟨b, 0, none⟩)] (fun x => 0 ≤ x ∧ x < gs.length) (ofL (finC gs)) w := by
  intro W x hx hg
  have hp := World.block_lt_of_cell? w _ hb
  obtain ⟨i, rfl⟩ := Int.eq_ofNat_of_zero_le hx.1
  have hi : i < gs.length := by omega
  obtain ⟨a1, a2, a3⟩ := lo_spec (fun k => cl.getD k 0) i
  have e := first_fin hk hi (m := loN (fun k => cl.getD k 0) i) (by omega) a2 (fun j hj e => by have := a3 j e; omega)
  have ef : ofL (finC gs) (i : Int) = (loN (fun k => cl.getD k 0) i : Nat) := by
    unfold ofL
    rw [finC_of hf, Int.toNat_natCast, e]
  rw [ef]
  exact share1_any b v cl (ofL (finC gs)) i W ((World.cell?_of_block (a := ⟨b, 0, none⟩) (hg.block _ hp (by simp))).trans hb) (hv.carry hg) (by omega) (by omega) (by omega) (loN (fun k => cl.getD k 0) i) (by omega) (by rw [Int.toNat_natCast]; exact a2) (fun j hj e => by rw [Int.toNat_natCast] at e; have := a3 j e; omega)

set_option maxHeartbeats 1000000 in
theorem share_any (n : Int) (d : Addr) (c : Nat) (ov : Value) (gs : List Gt) (os : List Int) (w : World) (hgs : Gates gs) (hos : ∀ x ∈ os, 0 ≤ x ∧ x < gs.length) (hg : RdR gateE w (.slice (some d) gs.length c) gs) (ho : IntsV w ov os) (l0 : 1 ≤ gs.length) (l1 : gs.length ≤ 1000) (l2 : os.length ≤ 1000) (hok : ∀ g ∈ gs, (Lit.int .i64 g.k).wf = true ∧ (Lit.int .i64 g.v).wf = true) :
    Calls Tryd.prog 62 #[.agg #[.int .i64 n, .slice (some d) gs.length c, ov]] w fun e w' => ∃ a1 c1 a2 c2, e = .returned (cirV n (.slice a1 gs.length c1) (.slice a2 os.length c2)) ∧
      Sep w' [OR gateE (.slice a1 gs.length c1) (gs.map (withL (ofL (finC gs)))), OI (.slice a2 os.length c2) (os.map (ofL (finC gs))), KeepA w] := by
  obtain ⟨oa, oc, rfl⟩ := ho.shape
  have HAL := Lib.hid fun W (h : w.grownBy W none) => alike_any n (.slice (some d) gs.length c) (.slice oa os.length oc) gs os.length W (hg.carry h) ⟨_, _, rfl⟩ hgs l0 l1 hok
  have HC := Lib.hid fun W b v cl s (h : w.grownBy W none) (hcl : cl.length = gs.length) (hk : KerEq gs.length cl (clsN gs s)) (hf : clsN gs (s + 1) = clsN gs s) (hb : W.cell? ⟨b, 0, none⟩ = some v) (hv : IntsV W v cl) =>
    redirected_any 137 #[.pointer (some ⟨b, 0, none⟩)] (enters_of Tryd.func137 (by kernel_rfl) rfl) (fun x => 0 ≤ x ∧ x < gs.length) (ofL (finC gs)) n d c (.slice oa os.length oc) gs os W
      (share_fn hcl hk hf v b W l1 hb hv) (fun y hy x hx => hgs.ops y hy x hx) hos (hg.carry h) (ho.carry h) l0 l1 l2
  generalize gs.map (withL (ofL (finC gs))) = G at *
  generalize os.map (ofL (finC gs)) = O at *
  unfold cirV at HC HAL ⊢
  clear hgs hos hg ho hok
  generalize gs.length = m at *
  generalize os.length = m2 at *
  have hs0 := ((Sep.start w).box #[.int .i64 n, .slice (some d) m c, .slice oa m2 oc] 29).box #[.int .i64 0, .slice none 0 0, .slice none 0 0] 29
  have e1 : (w.alloc (.cells #[.int .i64 n, .slice (some d) m c, .slice oa m2 oc] 29)).heap.size = w.heap.size + 1 := by simp
  rw [e1] at hs0
  have HK0 := Lib.hid (show w.grownBy _ none from hs0.tl.tl.hd)
  have HS0 := Lib.hid hs0
  clear hs0 e1
  go_enter Tryd.func62, Tryd.ntmps62
  go_wp2_with (first
    | (go_at_call 136
       with_reducible refine (HAL.out _ HK0.out).mono ?_
       rintro e w4 ⟨a0, c0, cl, s, rfl, hcl, hke, hfx, hsg⟩
       have hs1 := HS0.out.graft1 hsg OI_own
       have hs2 := hs1.box #[.slice a0 m c0] 23
       have HS2 := Lib.hid hs2
       have hb0 := bx1 hs2.hd
       have HC2 := Lib.hid (HC.out _ _ (.slice a0 m c0) cl s (show w.grownBy _ none from hs2.tl.tl.tl.tl.hd) hcl hke hfx hb0.1 hs2.tl.hd.read)
       obtain ⟨x0, x1, x2, _⟩ := bx3 hs2.tl.tl.tl.hd
       clear hs1 hs2 hsg hcl hke hfx hb0)
    | (go_at_call 133
       refine HC2.out.mono ?_
       rintro e w5 ⟨a1, c1, a2, c2, rfl, hsg⟩
       have hs3 := (((HS2.out.tl).tl).graft2 hsg OR_own OI_own).s3
       obtain ⟨r0, r1, r2, r3, r4, r5⟩ := bx3 hs3.hd
       have hs4 := ((hs3.setB 0 (.int .i64 n)).setB 1 (.slice a1 m c1)).setB 2 (.slice a2 m2 c2)
       obtain ⟨t0, t1, t2, _⟩ := bx3 hs4.hd
       have HSF := Lib.hid (show Sep _ [OR gateE (.slice a1 m c1) G, OI (.slice a2 m2 c2) O, KeepA w] from hs4.tl.under (fun h => h.drop2) (by simp +contextual))
       clear hsg hs3 hs4))
  refine bodyPost_ret_by (v := .agg #[.int .i64 n, .slice a1 m c1, .slice a2 m2 c2]) ?_ rfl ⟨a1, c1, a2, c2, rfl, HSF.out⟩
  simp [results, go_sem, *]
theorem shareRes_len (p : Int) (c : Circ) (h1 : c.gs.length ≤ 1048576) (h2 : c.os.length ≤ 1048576) : (shareRes p c).gs.length ≤ 1048576 ∧ (shareRes p c).os.length ≤ 1048576 := by
  unfold shareRes
  split
  · simp only [shareC, redirL, List.length_map]; exact ⟨h1, h2⟩
  · simp [circ0]
end Go.Proofs.YtkamcgonacmieaaDoor

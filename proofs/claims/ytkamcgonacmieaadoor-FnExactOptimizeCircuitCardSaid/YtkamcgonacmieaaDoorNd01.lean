/-
  Silent gates folded to zeros, in the program and in the reference. Conditions: at most 1,000 gates; operands are gates.
-/
import Derived.Test.YtkamcgonacmieaaDoorNd00
import Derived.Deep.AppendSrc
import Derived.Deep.Upon
import Derived.Test.YtkamcgonacmieaaDoorNa02
import Derived.Test.YtkamcgonacmieaaDoorNa05
namespace Go.Proofs.YtkamcgonacmieaaDoor
open Go.RowKit
set_option linter.unusedVariables false
set_option maxRecDepth 100000

theorem sil_spec (gs : List Gt) : IsSil gs (silL gs) := by
  classical
  let m : List Bool := (List.range gs.length).map fun i => decide (∃ m', m'.length = gs.length ∧ ClosedB gs m' ∧ m'.getD i false = true)
  have hm : ∀ i, i < gs.length → (m.getD i false = true ↔ ∃ m', m'.length = gs.length ∧ ClosedB gs m' ∧ m'.getD i false = true) := by
    intro i hi
    show ((List.range gs.length).map _).getD i false = true ↔ _
    rw [List.getD_eq_getElem?_getD, List.getElem?_map, List.getElem?_range hi]
    simp
  have hl : m.length = gs.length := by simp [m]
  have htop : TopB gs m := ⟨hl, fun m' h1 h2 i hi => (hm i (by rw [← h1]; exact getD_lt hi)).2 ⟨m', h1, h2, hi⟩⟩
  have hcl : ClosedB gs m := by
    intro i hi
    have hlt : i < gs.length := by rw [← hl]; exact getD_lt hi
    obtain ⟨m', h1, h2, h3⟩ := (hm i hlt).1 hi
    exact stays_mono (htop.2 m' h1 h2) (h2 i h3)
  have h : IsSil gs m := ⟨htop, hcl⟩
  rw [sil_eq h]
  exact h
theorem OI_adr {B : Nat} {w : World} {a : Option Addr} {n c : Nat} {zs : List Int} (h : OwnInts B w (.slice a n c) zs) (hz : 0 < zs.length) : ∃ g, a = some ⟨g, 0, none⟩ := by
  obtain ⟨g, cap, he, _⟩ := h.parts (by intro e; rw [e] at hz; simp at hz)
  injection he with h1
  exact ⟨g, h1⟩
theorem OR_adr {α : Type} {E : Lay α} {B : Nat} {w : World} {a : Option Addr} {n c : Nat} {zs : List α} (h : OwnR E B w (.slice a n c) zs) (hz : 0 < zs.length) : ∃ g, a = some ⟨g, 0, none⟩ := by
  obtain ⟨g, cap, he, _⟩ := h.parts hz
  injection he with h1
  exact ⟨g, h1⟩
theorem sil_len (gs : List Gt) : (silL gs).length = gs.length := (sil_spec gs).1.1
theorem mix_set {F gs : List Gt} {k : Nat} (hl : F.length = gs.length) (hk : k < gs.length) : (F.take k ++ gs.drop k).set k (F.getD k g0) = F.take (k + 1) ++ gs.drop (k + 1) := by
  have h1 : (F.take k).length = k := by rw [List.length_take]; omega
  rw [List.set_append_right _ _ (by omega), h1, Nat.sub_self, List.drop_eq_getElem_cons hk, List.set_cons_zero]
  rw [List.take_succ_eq_append_getElem (by omega), List.getD_eq_getElem?_getD, List.getElem?_eq_getElem (by omega), List.append_assoc]
  rfl
theorem mix_keep {F gs : List Gt} {k : Nat} (hl : F.length = gs.length) (hk : k < gs.length) (h : F.getD k g0 = gs.getD k g0) : F.take k ++ gs.drop k = F.take (k + 1) ++ gs.drop (k + 1) := by
  rw [List.take_succ_eq_append_getElem (by omega), List.drop_eq_getElem_cons hk, List.append_assoc]
  rw [List.getD_eq_getElem?_getD, List.getElem?_eq_getElem (by omega), List.getD_eq_getElem?_getD, List.getElem?_eq_getElem hk] at h
  simp only [Option.getD_some] at h
  rw [h]
  rfl
theorem mix_len {F gs : List Gt} {k : Nat} (hl : F.length = gs.length) (hk : k ≤ gs.length) : (F.take k ++ gs.drop k).length = gs.length := by
  rw [List.length_append, List.length_take, List.length_drop]
  omega

set_option maxHeartbeats 4000000 in
theorem foldZeros_any (n : Int) (d : Addr) (c : Nat) (ov : Value) (gs : List Gt) (os : List Int) (w : World) (hg : RdR gateE w (.slice (some d) gs.length c) gs) (ho : IntsV w ov os) (l0 : 0 < gs.length) (l1 : gs.length ≤ 1000) (l2 : os.length ≤ 1000) (hops : ∀ g ∈ gs, ∀ x ∈ opsL g, 0 ≤ x ∧ x < gs.length) :
    Calls Tryd.prog 60 #[.agg #[.int .i64 n, .slice (some d) gs.length c, ov]] w fun e w' => ∃ a1 c1 a2 c2, e = .returned (cirV n (.slice a1 gs.length c1) (.slice a2 os.length c2)) ∧
      Sep w' [OR gateE (.slice a1 gs.length c1) (foldL (silL gs) gs), OI (.slice a2 os.length c2) os, KeepA w] := by
  have HCP := Lib.hid fun W (h : w.grownBy W none) => copy_any n d c ov gs os W (hg.carry h) (ho.carry h) (by omega) (by omega)
  obtain ⟨oa, oc, rfl⟩ := ho.shape
  have HSI := Lib.hid fun W (h : w.grownBy W none) => silent_any n (.slice (some d) gs.length c) oa os.length oc gs W (hg.carry h) l1 hops
  have hsl := sil_len gs
  rw [hsl] at HSI
  generalize silL gs = bs at *
  have hfl := fold_len bs gs
  have HFA := Lib.hid fun (i : Nat) (hi : i < gs.length) => fold_at (m := bs) hi
  generalize foldL bs gs = F at *
  have HFL := Lib.hid hfl; have HBL := Lib.hid hsl
  unfold cirV at *
  clear hg ho hops hfl hsl
  generalize hm : gs.length = m at *
  have HM := Lib.hid hm
  generalize os.length = m2 at *
  clear hm
  have hs0 := ((Sep.start w).box #[.int .i64 n, .slice (some d) m c, .slice oa m2 oc] 29).box #[.int .i64 0, .slice none 0 0, .slice none 0 0] 29
  have e1 : (w.alloc (.cells #[.int .i64 n, .slice (some d) m c, .slice oa m2 oc] 29)).heap.size = w.heap.size + 1 := by simp
  rw [e1] at hs0
  have HS0 := Lib.hid hs0
  have HK0 := Lib.hid (show w.grownBy _ none from hs0.tl.tl.hd)
  obtain ⟨x0, x1, x2, _⟩ := bx3 hs0.tl.hd
  clear hs0 e1
  go_enter Tryd.func60, Tryd.ntmps60
  go_wp2_with (first
    | (go_at_call 58
       with_reducible refine (HCP.out _ HK0.out).mono ?_
       rintro e w2 ⟨a1, c1, a2, c2, rfl, hsg⟩
       have hs2 := (HS0.out.graft2 hsg OR_own OI_own).box #[.int .i64 n, .slice a1 m c1, .slice a2 m2 c2] 29
       have HS2 := Lib.hid hs2
       have HK2 := Lib.hid (show w.grownBy _ none from hs2.tl.tl.tl.tl.tl.hd)
       obtain ⟨z0, z1, z2, _⟩ := bx3 hs2.tl.tl.tl.tl.hd
       clear hsg hs2)
    | (go_at_call 132
       with_reducible refine (HSI.out _ HK2.out).mono ?_
       rintro e w3 ⟨ba, bc, rfl, hsg⟩
       have HS3 := Lib.hid (HS2.out.graft1 hsg OR_own)
       clear hsg))
  generalize w2.heap.size = cb at *
  go_loopw [4, 5, 11] (fun _ _ i wr => ∃ k : Nat, k ≤ m ∧ i = .int .i64 k ∧ Sep wr [OR boolE (.slice ba m bc) bs, BxA cb #[.int .i64 n, .slice a1 m c1, .slice a2 m2 c2] 29, OR gateE (.slice a1 m c1) (F.take k ++ gs.drop k), OI (.slice a2 m2 c2) os, BxA (w.heap.size + 1) #[.int .i64 0, .slice none 0 0, .slice none 0 0] 29, BxA w.heap.size #[.int .i64 n, .slice (some d) m c, .slice oa m2 oc] 29, KeepA w]) (fun _ _ i _ => m - (intOf i).toNat)
  case atStart => exact ⟨0, by omega, rfl, by simpa using HS3.out⟩
  case round =>
    obtain ⟨k, hk, rfl, hs⟩ := hrel
    have HSX := Lib.hid hs
    obtain ⟨y0, y1, y2, y3, y4, y5⟩ := bx3 hs.tl.hd
    clear hs HS3 x0 x1 x2 z0 z1 z2
    by_cases hlt : k < m
    · have hkg : k < gs.length := by rw [HM.out]; exact hlt
      obtain ⟨bg, rfl⟩ := OR_adr HSX.out.hd (by rw [HBL.out]; omega)
      have hb := bool_cell HSX.out.hd HBL.out.symm hlt
      have hfk := HFA.out k hlt
      cases hbk : bs.getD k false with
      | false =>
        rw [hbk] at hb hfk
        have HMX := Lib.hid (mix_keep (HFL.out.trans HM.out.symm) hkg (by rw [hfk]; simp))
        clear hfk hkg hbk
        go_wp2
        go_roundw
        case rel => exact ⟨k + 1, by omega, by go_num, by rw [← HMX.out]; exact HSX.out⟩
        case measure => simp [intOf]; omega
      | true =>
        rw [hbk] at hb hfk
        rw [if_pos rfl] at hfk
        have hml := mix_len (k := k) (HFL.out.trans HM.out.symm) (Nat.le_of_lt hkg)
        have hmx := mix_set (HFL.out.trans HM.out.symm) hkg
        rw [hfk] at hmx
        rw [HM.out] at hml
        generalize hL : F.take k ++ gs.drop k = L at *
        obtain ⟨gg, rfl⟩ := OR_adr HSX.out.tl.tl.hd (by rw [hml]; omega)
        obtain ⟨q, q0, q1, q2, q3⟩ := gate_cellsQ HSX.out.tl.tl.hd hml.symm (i := k) (by rw [hml]; exact hlt)
        obtain ⟨f0, f1, f2, f3⟩ := gate_free HSX.out.tl.tl.hd hml.symm k
        have hset := HSX.out.s3.setG hml.symm (i := k) (by rw [hml]; exact hlt) z2
        rw [hmx] at hset
        have HSET := Lib.hid hset.s3.s3
        unfold z2 at HSET
        clear hset hmx hml hfk hkg hbk hL
        go_wp2
        go_roundw
        case rel => exact ⟨k + 1, by omega, by go_num, HSET.out⟩
        case measure => simp [intOf]; omega
    · have hkn : k = m := by omega
      subst hkn
      have hs1 := HSX.out
      rw [List.take_of_length_le (by rw [HFL.out]; exact Nat.le_refl _), List.drop_of_length_le (by rw [HM.out]; exact Nat.le_refl _), List.append_nil] at hs1
      have hs2 := hs1.s5
      obtain ⟨r0, r1, r2, r3, r4, r5⟩ := bx3 hs2.hd
      have hs3 := ((hs2.setB 0 (.int .i64 n)).setB 1 (.slice a1 k c1)).setB 2 (.slice a2 m2 c2)
      obtain ⟨t0, t1, t2, _⟩ := bx3 hs3.hd
      have HSF := Lib.hid (hs3.tl.tl.tl.under (fun h => h.drop2) (by simp +contextual))
      clear hlt hs1 hs2 hs3 HSX
      go_wp2
      refine bodyPost_ret_by (v := .agg #[.int .i64 n, .slice a1 k c1, .slice a2 m2 c2]) ?_ rfl ⟨a1, c1, a2, c2, rfl, HSF.out⟩
      simp [results, go_sem, *]

set_option maxHeartbeats 4000000 in
theorem opFold_any (n : Int) (d : Addr) (c : Nat) (ov : Value) (gs : List Gt) (os : List Int) (w : World) (hg : RdR gateE w (.slice (some d) gs.length c) gs) (ho : IntsV w ov os) (l0 : 0 < gs.length) (l1 : gs.length ≤ 1000) (l2 : os.length ≤ 1000) (hops : ∀ g ∈ gs, ∀ x ∈ opsL g, 0 ≤ x ∧ x < gs.length) (hkd : ∀ g ∈ gs, 1 ≤ g.k ∧ g.k ≤ 5) :
    Calls Tryd.prog 50 #[.agg #[.int .i64 n, .slice (some d) gs.length c, ov]] w fun e w' => ∃ a1 c1 a2 c2, e = .returned (cirV n (.slice a1 gs.length c1) (.slice a2 os.length c2)) ∧
      Sep w' [OR gateE (.slice a1 gs.length c1) (foldL (silL gs) gs), OI (.slice a2 os.length c2) os, KeepA w] := by
  have HCP := Lib.hid fun W (h : w.grownBy W none) => opOwn_any n d c ov gs os W (hg.carry h) (ho.carry h) l0 (by omega) (by omega)
  obtain ⟨oa, oc, rfl⟩ := ho.shape
  have HSI := Lib.hid fun W (h : w.grownBy W none) => opSilent_any n (.slice (some d) gs.length c) oa os.length oc gs W (hg.carry h) l1 hops hkd
  have hsl := sil_len gs
  rw [hsl] at HSI
  generalize silL gs = bs at *
  have hfl := fold_len bs gs
  have HFA := Lib.hid fun (i : Nat) (hi : i < gs.length) => fold_at (m := bs) hi
  generalize foldL bs gs = F at *
  have HFL := Lib.hid hfl; have HBL := Lib.hid hsl
  unfold cirV at *
  clear hg ho hops hkd hfl hsl
  generalize hm : gs.length = m at *
  have HM := Lib.hid hm
  generalize os.length = m2 at *
  clear hm
  have hs0 := ((Sep.start w).box #[.int .i64 n, .slice (some d) m c, .slice oa m2 oc] 29).box #[.int .i64 0, .slice none 0 0, .slice none 0 0] 29
  have e1 : (w.alloc (.cells #[.int .i64 n, .slice (some d) m c, .slice oa m2 oc] 29)).heap.size = w.heap.size + 1 := by simp
  rw [e1] at hs0
  have HS0 := Lib.hid hs0
  have HK0 := Lib.hid (show w.grownBy _ none from hs0.tl.tl.hd)
  obtain ⟨x0, x1, x2, _⟩ := bx3 hs0.tl.hd
  clear hs0 e1
  go_enter Tryd.func50, Tryd.ntmps50
  go_wp2_with (first
    | (go_at_call 116
       with_reducible refine (HCP.out _ HK0.out).mono ?_
       rintro e w2 ⟨a1, c1, a2, c2, rfl, hsg⟩
       have hs2 := (HS0.out.graft2 hsg OR_own OI_own).box #[.int .i64 n, .slice a1 m c1, .slice a2 m2 c2] 29
       have HS2 := Lib.hid hs2
       have HK2 := Lib.hid (show w.grownBy _ none from hs2.tl.tl.tl.tl.tl.hd)
       obtain ⟨z0, z1, z2, _⟩ := bx3 hs2.tl.tl.tl.tl.hd
       clear hsg hs2)
    | (go_at_call 117
       with_reducible refine (HSI.out _ HK2.out).mono ?_
       rintro e w3 ⟨ba, bc, rfl, hsg⟩
       have HS3 := Lib.hid (HS2.out.graft1 hsg OR_own)
       clear hsg))
  generalize w2.heap.size = cb at *
  go_loopw [4, 5, 11] (fun _ _ i wr => ∃ k : Nat, k ≤ m ∧ i = .int .i64 k ∧ Sep wr [OR boolE (.slice ba m bc) bs, BxA cb #[.int .i64 n, .slice a1 m c1, .slice a2 m2 c2] 29, OR gateE (.slice a1 m c1) (F.take k ++ gs.drop k), OI (.slice a2 m2 c2) os, BxA (w.heap.size + 1) #[.int .i64 0, .slice none 0 0, .slice none 0 0] 29, BxA w.heap.size #[.int .i64 n, .slice (some d) m c, .slice oa m2 oc] 29, KeepA w]) (fun _ _ i _ => m - (intOf i).toNat)
  case atStart => exact ⟨0, by omega, rfl, by simpa using HS3.out⟩
  case round =>
    obtain ⟨k, hk, rfl, hs⟩ := hrel
    have HSX := Lib.hid hs
    obtain ⟨y0, y1, y2, y3, y4, y5⟩ := bx3 hs.tl.hd
    clear hs HS3 x0 x1 x2 z0 z1 z2
    by_cases hlt : k < m
    · have hkg : k < gs.length := by rw [HM.out]; exact hlt
      obtain ⟨bg, rfl⟩ := OR_adr HSX.out.hd (by rw [HBL.out]; omega)
      have hb := bool_cell HSX.out.hd HBL.out.symm hlt
      have hfk := HFA.out k hlt
      cases hbk : bs.getD k false with
      | false =>
        rw [hbk] at hb hfk
        have HMX := Lib.hid (mix_keep (HFL.out.trans HM.out.symm) hkg (by rw [hfk]; simp))
        clear hfk hkg hbk
        go_wp2
        go_roundw
        case rel => exact ⟨k + 1, by omega, by go_num, by rw [← HMX.out]; exact HSX.out⟩
        case measure => simp [intOf]; omega
      | true =>
        rw [hbk] at hb hfk
        rw [if_pos rfl] at hfk
        have hml := mix_len (k := k) (HFL.out.trans HM.out.symm) (Nat.le_of_lt hkg)
        have hmx := mix_set (HFL.out.trans HM.out.symm) hkg
        rw [hfk] at hmx
        rw [HM.out] at hml
        generalize hL : F.take k ++ gs.drop k = L at *
        obtain ⟨gg, rfl⟩ := OR_adr HSX.out.tl.tl.hd (by rw [hml]; omega)
        obtain ⟨q, q0, q1, q2, q3⟩ := gate_cellsQ HSX.out.tl.tl.hd hml.symm (i := k) (by rw [hml]; exact hlt)
        obtain ⟨f0, f1, f2, f3⟩ := gate_free HSX.out.tl.tl.hd hml.symm k
        have hset := HSX.out.s3.setG hml.symm (i := k) (by rw [hml]; exact hlt) z2
        rw [hmx] at hset
        have HSET := Lib.hid hset.s3.s3
        unfold z2 at HSET
        clear hset hmx hml hfk hkg hbk hL
        go_wp2
        go_roundw
        case rel => exact ⟨k + 1, by omega, by go_num, HSET.out⟩
        case measure => simp [intOf]; omega
    · have hkn : k = m := by omega
      subst hkn
      have hs1 := HSX.out
      rw [List.take_of_length_le (by rw [HFL.out]; exact Nat.le_refl _), List.drop_of_length_le (by rw [HM.out]; exact Nat.le_refl _), List.append_nil] at hs1
      have hs2 := hs1.s5
      obtain ⟨r0, r1, r2, r3, r4, r5⟩ := bx3 hs2.hd
      have hs3 := ((hs2.setB 0 (.int .i64 n)).setB 1 (.slice a1 k c1)).setB 2 (.slice a2 m2 c2)
      obtain ⟨t0, t1, t2, _⟩ := bx3 hs3.hd
      have HSF := Lib.hid (hs3.tl.tl.tl.under (fun h => h.drop2) (by simp +contextual))
      clear hlt hs1 hs2 hs3 HSX
      go_wp2
      refine bodyPost_ret_by (v := .agg #[.int .i64 n, .slice a1 k c1, .slice a2 m2 c2]) ?_ rfl ⟨a1, c1, a2, c2, rfl, HSF.out⟩
      simp [results, go_sem, *]
end Go.Proofs.YtkamcgonacmieaaDoor

/-
  Queues of numbers: an own slice that is cut at its front and appended to. Conditions: lengths are small.
-/
namespace Go.Proofs.YtkamcgonacmieaaDoor
open Go.RowKit
set_option linter.unusedVariables false
set_option maxRecDepth 100000

def QRow (w : World) (v : Value) (zs : List Int) : Prop :=
  ∃ a cap, v = .slice a zs.length cap ∧ zs.length ≤ cap ∧ cap ≤ maxLen ∧ (0 < cap → ∃ g off, a = some ⟨g, off, none⟩ ∧ g < w.heap.size ∧
    (∀ j, j < cap → (w.cell? ⟨g, off + j, none⟩).isSome = true ∧ w.frozen? ⟨g, off + j, none⟩ = false) ∧ ∀ j, j < zs.length → w.cell? ⟨g, off + j, none⟩ = some (.int .i64 (zs.getD j 0)))
def QHits : Value → Nat → Prop
  | .slice (some ad) _ cap, k => 0 < cap ∧ ad.block = k
  | _, _ => False
theorem QRow.lt {w : World} {v : Value} {zs : List Int} (h : QRow w v zs) : ∀ k, QHits v k → k < w.heap.size := by
  obtain ⟨a, cap, rfl, _, _, h⟩ := h
  intro k hk
  cases a with
  | none => exact hk.elim
  | some ad =>
    obtain ⟨hc, rfl⟩ := hk
    obtain ⟨g, off, ha, hg, _⟩ := h hc
    injection ha with ha
    subst ha
    exact hg
theorem QRow.only {S : Nat → Prop} {w w' : World} {v : Value} {zs : List Int} (h : QRow w v zs) (ho : Only S w w') (hs : ∀ k, QHits v k → ¬ S k) : QRow w' v zs := by
  obtain ⟨a, cap, rfl, h1, h2, h⟩ := h
  refine ⟨a, cap, rfl, h1, h2, fun hc => ?_⟩
  obtain ⟨g, off, rfl, hg, h3, h4⟩ := h hc
  have hb : w'.heap[g]? = w.heap[g]? := ho.block g hg (hs g ⟨hc, rfl⟩)
  refine ⟨g, off, rfl, Nat.lt_of_lt_of_le hg ho.size, fun j hj => ?_, fun j hj => ?_⟩
  · obtain ⟨h5, h6⟩ := h3 j hj
    refine ⟨?_, (World.frozen?_of_block (a := ⟨g, off + j, none⟩) hb).trans h6⟩
    rw [World.cell?_of_block (a := ⟨g, off + j, none⟩) hb]
    exact h5
  · exact (World.cell?_of_block (a := ⟨g, off + j, none⟩) hb).trans (h4 j hj)
/-- A queue as a part of the memory. -/
def QA (v : Value) (zs : List Int) : Asrt := ⟨QHits v, QHits v, fun w => QRow w v zs, fun _ h => h, fun w k h hk => h.lt k hk, fun w w' h ho => h.only ho fun k hk h' => h' hk⟩
theorem OwnInts.queue {B : Nat} {w : World} {v : Value} {zs : List Int} (h : OwnInts B w v zs) : QRow w v zs := by
  obtain ⟨a, c, rfl⟩ := own_shape h
  rcases h.2 with ⟨he, h0⟩ | ⟨g, cap, cur, he, _, hg, hn, hm, hs, ht⟩
  · injection he with e1 e2 e3
    exact ⟨a, c, rfl, by omega, by rw [e3]; exact Nat.zero_le _, fun hc => by omega⟩
  · injection he with e1 e2 e3
    subst e1 e3
    refine ⟨_, _, rfl, hn, hm, fun hc => ⟨g, 0, rfl, blk_lt hg, fun j hj => ?_, fun j hj => ?_⟩⟩
    · rw [Nat.zero_add]
      refine ⟨?_, frozen_of_row w g j _ _ hg⟩
      rw [cell_of_row w g j _ _ _ hg]
      rw [Array.getElem?_eq_getElem (by omega)]
      rfl
    · rw [Nat.zero_add, List.getD_eq_getElem?_getD, List.getElem?_eq_getElem hj]
      exact h.cell rfl hj
theorem Sep.queue {w : World} {v : Value} {zs : List Int} {l : List Asrt} (h : Sep w (OI v zs :: l)) : Sep w (QA v zs :: l) := by
  refine h.upd' (Only.refl _ _) h.hd.queue fun k hk => Or.inl ?_
  cases v with
  | slice a n c =>
    cases a with
    | none => exact hk.elim
    | some ad => exact congrArg some hk.2
  | _ => exact hk.elim
theorem QRow.head {w : World} {v : Value} {x : Int} {zs : List Int} (h : QRow w v (x :: zs)) : ∃ g off cap, v = .slice (some ⟨g, off, none⟩) (zs.length + 1) (cap + 1) ∧ w.cell? ⟨g, off, none⟩ = some (.int .i64 x) := by
  obtain ⟨a, cap, rfl, h1, _, h⟩ := h
  simp only [List.length_cons] at h1
  obtain ⟨c', rfl⟩ : ∃ c', cap = c' + 1 := ⟨cap - 1, by omega⟩
  obtain ⟨g, off, rfl, _, _, h4⟩ := h (by omega)
  exact ⟨g, off, c', rfl, h4 0 (by simp)⟩
/-- The first is taken off: the rest lies one further on. -/
theorem Sep.cutQ {w : World} {g off n cap : Nat} {x : Int} {zs : List Int} {l : List Asrt} (h : Sep w (QA (.slice (some ⟨g, off, none⟩) n (cap + 1)) (x :: zs) :: l)) : Sep w (QA (.slice (some ⟨g, off + 1, none⟩) zs.length cap) zs :: l) := by
  refine h.upd' (Only.refl _ _) ?_ fun k hk => Or.inl ⟨by omega, hk.2⟩
  obtain ⟨a, c, he, h1, h2, h3⟩ := h.hd
  injection he with e1 e2 e3
  subst e1 e3
  simp only [List.length_cons] at h1
  refine ⟨_, cap, rfl, by omega, by omega, fun hc => ?_⟩
  obtain ⟨g', off', ha, hg, h4, h5⟩ := h3 (by omega)
  injection ha with ha
  injection ha with hb ho
  subst hb ho
  refine ⟨g, off + 1, rfl, hg, fun j hj => ?_, fun j hj => ?_⟩
  · have := h4 (j + 1) (by omega)
    rwa [show off + (j + 1) = off + 1 + j by omega] at this
  · have := h5 (j + 1) (by simp; omega)
    rw [show off + (j + 1) = off + 1 + j by omega] at this
    exact this
theorem Sep.cutQ0 {w : World} {a : Option Addr} {g off n : Nat} {x : Int} {zs : List Int} {l : List Asrt} (h : Sep w (QA (.slice (some ⟨g, off, none⟩) n 1) (x :: zs) :: l)) : Sep w (QA (.slice a 0 0) [] :: l) := by
  refine h.upd' (Only.refl _ _) ⟨a, 0, rfl, Nat.le_refl _, Nat.zero_le _, fun hc => absurd hc (Nat.lt_irrefl _)⟩ fun k hk => ?_
  cases a with
  | none => exact hk.elim
  | some ad => exact absurd hk.1 (Nat.lt_irrefl _)
theorem only_setCells (g : Nat) : ∀ (vs : List Value) (o : Nat) (w : World), Only (fun k => k = g) w (w.setCells g o vs)
  | [], _, w => Only.refl _ w
  | v :: r, o, w => (set_only w ⟨g, o, none⟩ v).trans (only_setCells g r (o + 1) _)
theorem ints_src {w : World} {u : Value} {ys : List Int} (hu : IntsV w u ys) : Src Tryd.prog 1 23 u ys.length (ys.map (Value.int .i64)) w := by
  obtain ⟨ua, ucap, rfl, hr⟩ := hu
  cases ua with
  | none =>
    have hy : ys = [] := by
      cases ys with
      | nil => rfl
      | cons z zs => obtain ⟨d, hd, _⟩ := hr (by simp); cases hd
    subst hy
    exact Src.ofNil w Tryd.underlying23 ucap
  | some d =>
    refine Src.ofSlice w Tryd.underlying23 d ys.length ucap (ys.map (Value.int .i64)) (by simp) (fun j x hj => ?_) (fun x hx => by obtain ⟨z, _, rfl⟩ := List.mem_map.1 hx; rfl)
    have hjy : j < ys.length := by
      rcases Nat.lt_or_ge j ys.length with h | h
      · exact h
      · rw [List.getElem?_eq_none (by simpa using h)] at hj; cases hj
    obtain ⟨d', hd, hsp, hdb, hc⟩ := hr (by intro h; rw [h] at hjy; simp at hjy)
    cases hd
    have := hc j hjy
    simp [hjy] at hj
    subst hj
    obtain ⟨db, dof, _⟩ := d
    simp only at hsp
    subst hsp
    unfold Addr.add; split
    · next h0 => subst h0; simpa using this
    · exact this
theorem queue_new {W : World} {X : Array Value} {G b : Nat} {zs : List Int} (hb : b = W.heap.size) (hX : X.size = G) (hG : zs.length ≤ G) (hm : G ≤ maxLen) (hz : ∀ j, j < zs.length → X[j]? = some (.int .i64 (zs.getD j 0))) :
    QRow (W.alloc (.cells X 3)) (.slice (some ⟨b, 0, none⟩) zs.length G) zs := by
  subst hb
  have h := alloc_heap_new W (.cells X 3)
  refine ⟨_, G, rfl, hG, hm, fun hc => ⟨W.heap.size, 0, rfl, blk_lt h, fun j hj => ?_, fun j hj => ?_⟩⟩
  · rw [Nat.zero_add]
    refine ⟨?_, frozen_of_row _ _ j _ _ h⟩
    rw [cell_of_row _ _ j _ _ _ h, Array.getElem?_eq_getElem (by omega)]
    rfl
  · rw [Nat.zero_add, cell_of_row _ _ j _ _ _ h]
    exact hz j hj
theorem run_app_Q {w : World} {v u : Value} {zs ys : List Int} {l : List Asrt} (ty : TypeId) (H : Sep w (QA v zs :: l)) (hu : IntsV w u ys) (hl : zs.length + ys.length ≤ 1000000000) :
    ∃ v' w', (Builtin.append_ #[23, 23] ty #[v, u]).run Tryd.prog w = .ok v' w' ∧ Sep w' (QA v' (zs ++ ys) :: l) := by
  obtain ⟨i0, hi, hz0, hz1, hz2⟩ := info_parts info_int
  have hs := ints_src hu
  obtain ⟨a, cap, rfl, h1, h2, h3⟩ := H.hd
  by_cases hn : ys.length = 0
  · have hy : ys = [] := List.eq_nil_of_length_eq_zero hn
    subst hy
    have := run_append_nothing (P := Tryd.prog) w 23 23 ty 3 i0 Tryd.underlying23 hi a zs.length cap h1 u (by rw [hz1]; exact hs)
    exact ⟨_, _, this, by rw [List.append_nil]; exact H⟩
  have hnews : (ys.map (Value.int .i64)).length = ys.length := by simp
  by_cases hroom : zs.length + ys.length ≤ cap
  · obtain ⟨g, off, rfl, hg, h4, h5⟩ := h3 (by omega)
    have hrun := run_append_room_src (P := Tryd.prog) w 23 23 ty 3 i0 Tryd.underlying23 hi g off zs.length cap u ys.length (ys.map (Value.int .i64)) (by rw [hz1]; exact hs) hroom
      (fun j hj => by rw [hz1, Nat.mul_one, Nat.add_assoc]; exact (h4 (zs.length + j) (by omega)).1) (fun j hj => by rw [hz1, Nat.mul_one, Nat.add_assoc]; exact (h4 (zs.length + j) (by omega)).2)
    rw [hz1, Nat.mul_one] at hrun
    refine ⟨_, _, hrun, ?_⟩
    have hO := only_setCells g (ys.map (Value.int .i64)) (off + zs.length) w
    refine H.upd' (hO.mono fun k hk => ?_) ?_ fun k hk => Or.inl ?_
    · subst hk; exact ⟨by omega, rfl⟩
    · refine ⟨_, cap, by rw [List.length_append], by rw [List.length_append]; exact hroom, h2, fun hc => ⟨g, off, rfl, Nat.lt_of_lt_of_le hg hO.size, fun j hj => ?_, fun j hj => ?_⟩⟩
      · refine ⟨World.isSome_setCells g _ _ _ _ (h4 j hj).1, ?_⟩
        rw [World.frozen?_setCells]
        exact (h4 j hj).2
      · rw [List.length_append] at hj
        by_cases hjz : j < zs.length
        · rw [World.cell?_setCells_out g _ _ _ ⟨g, off + j, none⟩ (fun _ _ => Or.inl (by simp; omega)), h5 j hjz]
          rw [List.getD_eq_getElem?_getD, List.getD_eq_getElem?_getD, List.getElem?_append_left hjz]
        · have hk : j - zs.length < (ys.map (Value.int .i64)).length := by rw [hnews]; omega
          have := World.cell?_setCells_in g (ys.map (Value.int .i64)) (off + zs.length) w (fun i hi' => by rw [Nat.add_assoc]; exact (h4 (zs.length + i) (by rw [hnews] at hi'; omega)).1) (j - zs.length) hk
          rw [show off + zs.length + (j - zs.length) = off + j by omega] at this
          rw [this, List.getElem_map, List.getD_eq_getElem?_getD, List.getElem?_append_right (by omega), List.getElem?_eq_getElem (by rw [hnews] at hk; exact hk)]
          rfl
    · exact hk
  · have hold : (Builtin.firstCells i0.size zs.length (.slice a zs.length cap)).run Tryd.prog w.drew = .ok (zs.map (Value.int .i64)).toArray w.drew := by
      rw [hz1]
      by_cases hc : 0 < cap
      · obtain ⟨g, off, rfl, hg, h4, h5⟩ := h3 hc
        refine run_firstCells_some w.drew 1 zs.length ⟨g, off, none⟩ zs.length cap (zs.map (Value.int .i64)) (by simp) fun j x hj => ?_
        have hjz : j < zs.length := by
          rcases Nat.lt_or_ge j zs.length with h | h
          · exact h
          · rw [List.getElem?_eq_none (by simpa using h)] at hj; cases hj
        have h6 := h5 j hjz
        rw [List.getD_eq_getElem?_getD, List.getElem?_eq_getElem hjz] at h6
        simp [hjz] at hj
        subst hj
        show w.cell? _ = _
        unfold Addr.add
        split
        · next h0 => subst h0; simpa using h6
        · exact h6
      · have hz : zs = [] := List.eq_nil_of_length_eq_zero (by omega)
        subst hz
        cases a with
        | none => exact run_firstCells_none w.drew 1 0 0 cap
        | some ad => exact run_firstCells_some w.drew 1 0 ad 0 cap [] (by simp) (fun j x hj => by simp at hj)
    have hrun := run_append_grow_src (P := Tryd.prog) w 23 23 ty 3 i0 (.int .i64 0) Tryd.underlying23 hi hz0 a zs.length cap (zs.map (Value.int .i64)) hold u ys.length (ys.map (Value.int .i64)) (by rw [hz1]; exact hs) (by omega) (by omega) (growslice_fits (by omega) (by rw [hz2]; omega))
    refine ⟨_, _, hrun, ?_⟩
    have hge := grownCap_ge w (zs.length + ys.length) cap 3
    have hcm := grownCap_le_maxLen w (zs.length + ys.length) cap 3 (by unfold maxLen; omega)
    generalize hG : grownCap w (zs.length + ys.length) cap 3 = G at *
    have hsz : ((zs.map (Value.int .i64) ++ ys.map (Value.int .i64)).toArray ++ Builtin.zeroCells (Value.int .i64 0).cells (G - (zs.length + ys.length))).size = G := by
      rw [Array.size_append, List.size_toArray, List.length_append, List.length_map, List.length_map, size_zeroCells]
      show zs.length + ys.length + (G - (zs.length + ys.length)) * 1 = G
      omega
    generalize hX : (zs.map (Value.int .i64) ++ ys.map (Value.int .i64)).toArray ++ Builtin.zeroCells (Value.int .i64 0).cells (G - (zs.length + ys.length)) = X at *
    have hq : QRow (w.drew.alloc (.cells X 3)) (.slice (some ⟨w.heap.size, 0, none⟩) (zs ++ ys).length G) (zs ++ ys) := by
      refine queue_new rfl hsz (by rw [List.length_append]; exact hge) hcm fun j hj => ?_
      rw [List.length_append] at hj
      rw [← hX, Array.getElem?_append_left (by simp; omega), List.getElem?_toArray, ← List.map_append, List.getElem?_map, List.getD_eq_getElem?_getD, List.getElem?_eq_getElem (by simp; omega)]
      rfl
    rw [List.length_append] at hq
    refine H.upd' (A' := QA (.slice (some ⟨w.heap.size, 0, none⟩) (zs.length + ys.length) G) (zs ++ ys)) ((Only.drew _ w).trans (Only.of_grown (grownBy_alloc w.drew _ none) (by simp))) hq fun k hk => Or.inr ?_
    exact Nat.le_of_eq hk.2
/-- 'todo = append(todo, ys...)', todo a queue. -/
theorem app_Q {ops : Array Oper} {rest : List Oper} {o : Oper} {a : Act} {Q : Exit → Act → World → Prop} (hgd : o.guard = none) (s x : Operand)
    (ho : o.op = .call { callee := .builtin .append, args := #[s, x], argTypes := #[23, 23] })
    {w : World} {v u : Value} {zs ys : List Int} {l : List Asrt} (hs : a.eval s = v) (hx : a.eval x = u) (H : Sep w (QA v zs :: l)) (hu : IntsV w u ys) (hl : zs.length + ys.length ≤ 1000000000)
    (h : ∀ v' w', Sep w' (QA v' (zs ++ ys) :: l) → wpList Tryd.prog ops Q rest (a.put o.dst v') w') : wpList Tryd.prog ops Q (o :: rest) a w := by
  refine wpList_plain hgd fun K hK => ?_
  obtain ⟨v', w', hrun, hsep⟩ := run_app_Q o.type H hu hl
  unfold Oper.wp execOp
  simp only [ho, resolve, invoke, builtin, Sem.run_bind, Sem.run_pure, Result.andThen_ok, List.map_toArray, List.map_cons, List.map_nil, hs, hx, hrun]
  exact hK _ _ (h v' w' hsep)
end Go.Proofs.YtkamcgonacmieaaDoor

/-
  The gates that outputs depend on: plain law; the program's search with a queue. Conditions: at most 1,000 gates and outputs; operands and outputs are gates.
-/
namespace Go.Proofs.YtkamcgonacmieaaDoor
open Go.RowKit
set_option linter.unusedVariables false
set_option maxRecDepth 100000

/-- Outputs are marked, and what marked gates need. -/
def UseC (gs : List Gt) (os : List Int) (m : List Bool) : Prop :=
  (∀ x ∈ os, m.getD x.toNat false = true) ∧ ∀ i, m.getD i false = true → ∀ x ∈ opsL (gs.getD i g0), m.getD x.toNat false = true
def BotU (gs : List Gt) (os : List Int) (m : List Bool) : Prop := m.length = gs.length ∧ ∀ m', m'.length = gs.length → UseC gs os m' → LeB m m'
def IsUse (gs : List Gt) (os : List Int) (m : List Bool) : Prop := BotU gs os m ∧ UseC gs os m
theorem le_antisymmB {m m' : List Bool} (hl : m.length = m'.length) (h : LeB m m') (h' : LeB m' m) : m = m' := by
  apply List.ext_getElem hl
  intro i h1 h2
  have a := h i
  have b := h' i
  rw [List.getD_eq_getElem?_getD, List.getElem?_eq_getElem h1, List.getD_eq_getElem?_getD, List.getElem?_eq_getElem h2] at a
  rw [List.getD_eq_getElem?_getD, List.getElem?_eq_getElem h2, List.getD_eq_getElem?_getD, List.getElem?_eq_getElem h1] at b
  simp only [Option.getD_some] at a b
  cases e1 : m[i] <;> cases e2 : m'[i] <;> simp_all
theorem IsUse.uniq {gs : List Gt} {os : List Int} {m m' : List Bool} (h : IsUse gs os m) (h' : IsUse gs os m') : m = m' :=
  le_antisymmB (h.1.1.trans h'.1.1.symm) (h.1.2 m' h'.1.1 h'.2) (h'.1.2 m h.1.1 h.2)
noncomputable def useL (gs : List Gt) (os : List Int) : List Bool := open Classical in if h : ∃ m, IsUse gs os m then h.choose else []
theorem use_eq {gs : List Gt} {os : List Int} {m : List Bool} (h : IsUse gs os m) : useL gs os = m := by
  have he : ∃ m, IsUse gs os m := ⟨m, h⟩
  unfold useL
  rw [dif_pos he]
  exact he.choose_spec.uniq h
theorem use_spec {gs : List Gt} {os : List Int} (hops : ∀ g ∈ gs, ∀ x ∈ opsL g, 0 ≤ x ∧ x < gs.length) (hos : ∀ x ∈ os, 0 ≤ x ∧ x < gs.length) : IsUse gs os (useL gs os) := by
  classical
  let m : List Bool := (List.range gs.length).map fun i => decide (∀ m', m'.length = gs.length → UseC gs os m' → m'.getD i false = true)
  have hm : ∀ i, i < gs.length → (m.getD i false = true ↔ ∀ m', m'.length = gs.length → UseC gs os m' → m'.getD i false = true) := by
    intro i hi
    show ((List.range gs.length).map _).getD i false = true ↔ _
    rw [List.getD_eq_getElem?_getD, List.getElem?_map, List.getElem?_range hi]
    simp
  have hl : m.length = gs.length := by simp [m]
  have h : IsUse gs os m := by
    refine ⟨⟨hl, fun m' h1 h2 i hi => (hm i (by rw [← hl]; exact getD_lt hi)).1 hi m' h1 h2⟩, fun x hx => ?_, fun i hi x hx => ?_⟩
    · exact (hm _ (by have := hos x hx; omega)).2 fun m' h1 h2 => h2.1 x hx
    · have hlt : i < gs.length := by rw [← hl]; exact getD_lt hi
      have := hops _ (getD_mem3 g0 hlt) x hx
      exact (hm _ (by omega)).2 fun m' h1 h2 => h2.2 i ((hm i hlt).1 hi m' h1 h2) x hx
  rw [use_eq h]
  exact h
/-- The search's state: marks and what is still to be looked at. -/
structure UInv (gs : List Gt) (os : List Int) (m : List Bool) (td : List Int) : Prop where
  bot : BotU gs os m
  todo : ∀ m', m'.length = gs.length → UseC gs os m' → ∀ x ∈ td, m'.getD x.toNat false = true
  outs : ∀ x ∈ os, m.getD x.toNat false = true ∨ x ∈ td
  ops : ∀ i, m.getD i false = true → ∀ x ∈ opsL (gs.getD i g0), m.getD x.toNat false = true ∨ x ∈ td
  rng : ∀ x ∈ td, 0 ≤ x ∧ x < gs.length
theorem UInv.start {gs : List Gt} {os : List Int} (hos : ∀ x ∈ os, 0 ≤ x ∧ x < gs.length) : UInv gs os (List.replicate gs.length false) os :=
  ⟨⟨by simp, (fun m' _ _ i hi => by rw [getD_false] at hi; cases hi)⟩, fun m' _ h x hx => h.1 x hx, fun x hx => Or.inr hx, (fun i hi => by rw [getD_false] at hi; cases hi), hos⟩
theorem UInv.skip {gs : List Gt} {os : List Int} {m : List Bool} {x : Int} {td : List Int} (h : UInv gs os m (x :: td)) (hx : m.getD x.toNat false = true) : UInv gs os m td := by
  refine ⟨h.bot, fun m' h1 h2 y hy => h.todo m' h1 h2 y (List.mem_cons_of_mem _ hy), fun y hy => ?_, fun i hi y hy => ?_, fun y hy => h.rng y (List.mem_cons_of_mem _ hy)⟩
  · rcases h.outs y hy with h1 | h1
    · exact Or.inl h1
    · rcases List.mem_cons.1 h1 with rfl | h1
      · exact Or.inl hx
      · exact Or.inr h1
  · rcases h.ops i hi y hy with h1 | h1
    · exact Or.inl h1
    · rcases List.mem_cons.1 h1 with rfl | h1
      · exact Or.inl hx
      · exact Or.inr h1
theorem UInv.mark {gs : List Gt} {os : List Int} {m : List Bool} {x : Int} {td : List Int} (hops : ∀ g ∈ gs, ∀ x ∈ opsL g, 0 ≤ x ∧ x < gs.length) (h : UInv gs os m (x :: td)) : UInv gs os (m.set x.toNat true) (td ++ opsL (gs.getD x.toNat g0)) := by
  obtain ⟨hx0, hx1⟩ := h.rng x (by simp)
  have hxl : x.toNat < m.length := by rw [h.bot.1]; omega
  have hs := fun j => getD_set_b m x.toNat j true hxl
  refine ⟨⟨by rw [List.length_set]; exact h.bot.1, fun m' h1 h2 i hi => ?_⟩, fun m' h1 h2 y hy => ?_, fun y hy => ?_, fun i hi y hy => ?_, fun y hy => ?_⟩
  · rw [hs] at hi
    split at hi
    · rename_i e
      subst e
      exact h.todo m' h1 h2 x (by simp)
    · exact h.bot.2 m' h1 h2 i hi
  · rcases List.mem_append.1 hy with hy | hy
    · exact h.todo m' h1 h2 y (List.mem_cons_of_mem _ hy)
    · exact h2.2 x.toNat (h.todo m' h1 h2 x (by simp)) y hy
  · rw [hs]
    rcases h.outs y hy with h1 | h1
    · left; split
      · rfl
      · exact h1
    · rcases List.mem_cons.1 h1 with rfl | h1
      · left; rw [if_pos rfl]
      · right; exact List.mem_append_left _ h1
  · rw [hs]
    rw [hs] at hi
    by_cases e : i = x.toNat
    · subst e
      exact Or.inr (List.mem_append_right _ hy)
    · rw [if_neg e] at hi
      rcases h.ops i hi y hy with h1 | h1
      · left; split
        · rfl
        · exact h1
      · rcases List.mem_cons.1 h1 with rfl | h1
        · left; rw [if_pos rfl]
        · right; exact List.mem_append_left _ h1
  · rcases List.mem_append.1 hy with hy | hy
    · exact h.rng y (List.mem_cons_of_mem _ hy)
    · exact hops _ (getD_mem3 g0 (by omega)) y hy
theorem UInv.done {gs : List Gt} {os : List Int} {m : List Bool} (h : UInv gs os m []) : IsUse gs os m :=
  ⟨h.bot, fun x hx => (h.outs x hx).resolve_right (by simp), fun i hi x hx => (h.ops i hi x hx).resolve_right (by simp)⟩
theorem nT_mark {m : List Bool} {i : Nat} (hi : i < m.length) (h : m.getD i false = false) : nT (m.set i true) = nT m + 1 := by
  have h1 : m = (m.set i true).set i false := by
    rw [List.set_set]
    apply List.ext_getElem (by simp)
    intro j h1 h2
    rw [List.getElem_set]
    split
    · rename_i e
      subst e
      rw [List.getD_eq_getElem?_getD, List.getElem?_eq_getElem hi] at h
      exact h
    · rfl
  unfold nT
  rw [List.getD_eq_getElem?_getD, List.getElem?_eq_getElem hi, Option.getD_some] at h
  clear h1
  induction m generalizing i with
  | nil => simp at hi
  | cons x m ih =>
    cases i with
    | zero =>
      simp only [List.getElem_cons_zero] at h
      subst h
      simp
    | succ i =>
      simp only [List.getElem_cons_succ] at h
      simp only [List.length_cons] at hi
      have := ih (by omega) h
      simp only [List.set_cons_succ, List.countP_cons]
      omega
theorem nT_le (m : List Bool) : nT m ≤ m.length := List.countP_le_length
theorem ops_le (g : Gt) : (opsL g).length ≤ 2 := by
  unfold opsL
  split
  · simp
  · split <;> simp
end Go.Proofs.YtkamcgonacmieaaDoor

/-
  The gates that outputs depend on: the program's search with a queue. Conditions: at most 1,000 gates and outputs; operands and outputs are gates.
-/
namespace Go.Proofs.YtkamcgonacmieaaDoor
open Go.RowKit
set_option linter.unusedVariables false
set_option maxRecDepth 1000000

theorem QRow.shape {w : World} {v : Value} {zs : List Int} (h : QRow w v zs) : ∃ a c, v = .slice a zs.length c := by
  obtain ⟨a, cap, rfl, _⟩ := h
  exact ⟨a, cap, rfl⟩
theorem Sep.cutI {w : World} {g off n cap : Nat} {x : Int} {zs : List Int} {l : List Asrt} (h : Sep w (QA (.slice (some ⟨g, off, none⟩) n (cap + 1)) (x :: zs) :: l)) : Sep w (QA (.slice (if cap = 0 then some ⟨g, off, none⟩ else some ⟨g, off + 1, none⟩) zs.length cap) zs :: l) := by
  by_cases hc : cap = 0
  · subst hc
    have hz : zs = [] := by
      obtain ⟨a, c, he, h1, _⟩ := h.hd
      injection he with e1 e2 e3
      subst e3
      simp only [List.length_cons] at h1
      exact List.eq_nil_of_length_eq_zero (by omega)
    subst hz
    rw [if_pos rfl]
    exact h.cutQ0
  · rw [if_neg hc]
    exact h.cutQ
theorem nonneg_nat {x : Int} (h : 0 ≤ x) : ((x.toNat : Nat) : Int) = x := Int.toNat_of_nonneg h
set_option maxHeartbeats 8000000 in
theorem used_any (n : Int) (gv ov : Value) (gs : List Gt) (os : List Int) (w : World) (hg : RdR gateE w gv gs) (ho : IntsV w ov os) (hl : gs.length ≤ 1000) (hl2 : os.length ≤ 1000) (hops : ∀ g ∈ gs, ∀ x ∈ opsL g, 0 ≤ x ∧ x < gs.length) (hos : ∀ x ∈ os, 0 ≤ x ∧ x < gs.length) :
    Calls Tryd.prog 131 #[.agg #[.int .i64 n, gv, ov]] w fun e w' => ∃ a c, e = .returned (.slice a (useL gs os).length c) ∧ Sep w' [OR boolE (.slice a (useL gs os).length c) (useL gs os), KeepA w] := by
  obtain ⟨i0, hi, hz0, hz1, hz2⟩ := info_parts info_bool
  have HI := Lib.hid hi; have HZ0 := Lib.hid hz0; have HZ1 := Lib.hid hz1; have HZ2 := Lib.hid hz2
  clear hi hz0 hz1 hz2
  have HG := Lib.hid hg; have HOPS := Lib.hid hops
  have HCI := Lib.hid fun W (h : w.grownBy W none) => cloneI_any ov os W (ho.carry h) (by omega)
  have HST := Lib.hid (UInv.start hos)
  obtain ⟨a, c, rfl⟩ := hg.shape
  obtain ⟨oa, oc, rfl⟩ := ho.shape
  generalize hm : gs.length = m at *
  generalize hm2 : os.length = m2 at *
  have HM := Lib.hid hm
  have HM2 := Lib.hid hm2
  clear hg ho hm hm2 hops hos
  have hs0 := (Sep.start w).box #[.int .i64 n, .slice a m c, .slice oa m2 oc] 29
  have e1 : (w.alloc (.cells #[.int .i64 n, .slice a m c, .slice oa m2 oc] 29)).heap.size = w.heap.size + 1 := by simp
  have HE1 := Lib.hid e1
  have HS0 := Lib.hid hs0
  clear hs0 e1
  go_enter Tryd.func131, Tryd.ntmps131
  go_wp2_with (first
    | (at_make
       refine wpList_make_full _ rfl _ _ 133 rfl (w.heap.size + 1) 4 i0 _ 1 Tryd.underlying133 HI.out HZ0.out HZ1.out _ _ _ _ m rfl rfl rfl rfl (by rw [HZ2.out]; omega) (by unfold maxLen; omega) (by rw [HE1.out]; exact Nat.le_refl _) ?_
       intro w1 hown' hgr'
       have hs1 := HS0.out.newR hgr' (OwnR.made (E := boolE) falseCells (by rw [HE1.out]; exact hown'))
       rw [HE1.out] at hs1 ⊢
       obtain ⟨x0, x1, x2, _⟩ := bx3 hs1.tl.hd
       have HS1 := Lib.hid hs1
       have HK1 := Lib.hid (show w.grownBy w1 none from hs1.tl.tl.hd)
       clear hs1 hown' hgr')
    | (go_at_call 129
       with_reducible refine (HCI.out _ HK1.out).mono ?_
       rintro e w2 ⟨ta, tc, rfl, hsg⟩
       have HS2 := Lib.hid (HS1.out.graft1 hsg OI_own).queue
       clear hsg))
  go_loopw [4, 5] (fun t4 _ wr => ∃ (bs : List Bool) (td : List Int), UInv gs os bs td ∧ td.length ≤ 5000 ∧ td.length + 2 * (m - nT bs) ≤ 4000 ∧ (∃ a c, t4 = .slice a td.length c) ∧ Sep wr [QA t4 td, OR boolE (.slice (some ⟨w.heap.size + 1, 0, none⟩) m m) bs, BxA w.heap.size #[.int .i64 n, .slice a m c, .slice oa m2 oc] 29, KeepA w]) (fun t4 _ wr => 3 * (m - cntT wr (w.heap.size + 1) m) + sliceLen t4)
  case atStart => exact ⟨List.replicate m false, os, HST.out, by rw [HM2.out]; omega, by rw [HM2.out]; omega, ⟨ta, tc, by rw [HM2.out]⟩, HS2.out⟩
  case round =>
    obtain ⟨bs, td, hinv, hl5, hl4, ⟨qa, qc, rfl⟩, hs⟩ := hrel
    have HV := Lib.hid hinv
    have HS := Lib.hid hs
    have HBL := Lib.hid (show m = bs.length by rw [hinv.bot.1, HM.out])
    have HCN := Lib.hid (cnt_own hs.tl.hd (show m = bs.length by rw [hinv.bot.1, HM.out]))
    obtain ⟨y0, y1, y2, _⟩ := bx3 hs.tl.tl.hd
    clear hinv hs HS2 x0 x1 x2
    cases td with
    | nil =>
      have HSF := Lib.hid (HS.out.tl.drop2)
      clear HCN
      go_wp2
      go_ret
      have hsil := use_eq HV.out.done
      rw [hsil, ← HBL.out]
      exact ⟨_, _, rfl, HSF.out⟩
    | cons x td =>
      obtain ⟨qg, qo, cap, he, hq0⟩ := QRow.head HS.out.hd
      injection he with e1 e2 e3
      subst e1 e3
      simp only [List.length_cons] at hl5 hl4
      obtain ⟨hx0, hx1⟩ := HV.out.rng x (by simp)
      obtain ⟨nx, rfl⟩ := Int.eq_ofNat_of_zero_le hx0
      have hnx : nx < m := by have := HM.out; omega
      have hc := bool_cell HS.out.tl.hd HBL.out hnx
      have hf := bool_free HS.out.tl.hd HBL.out nx
      have HNL := Lib.hid (show nT bs ≤ m by rw [HBL.out]; exact nT_le bs)
      by_cases hcp : cap = 0
      · subst hcp
        have HCX := Lib.hid (show Sep wr (QA (.slice (some ⟨qg, qo, none⟩) td.length 0) td :: _) from by have := HS.out.cutI; rw [if_pos rfl] at this; exact this)
        cases hbx : bs.getD nx false with
        | true =>
          rw [hbx] at hc
          have HN := Lib.hid (HV.out.skip (by rw [Int.toNat_natCast]; exact hbx))
          have HC := Lib.hid HCX.out
          clear hbx
          go_wp2
          go_roundw
          case rel => exact ⟨bs, td, HN.out, by omega, by omega, ⟨_, _, rfl⟩, HC.out⟩
          case measure => simp [sliceLen]
        | false =>
          rw [hbx] at hc
          have HN := Lib.hid (HV.out.mark (by rw [HM.out]; exact HOPS.out))
          rw [Int.toNat_natCast] at HN
          have HC := Lib.hid HCX.out
          have hnt := nT_mark (by rw [← HBL.out]; exact hnx) hbx
          have hbl2 := Lib.hid (show m = (bs.set nx true).length by rw [List.length_set]; exact HBL.out)
          have HNT := Lib.hid hnt
          have HN1 := Lib.hid (show nT bs + 1 ≤ m by rw [← hnt, hbl2.out]; exact nT_le _)
          have hset := HC.out.s2.setBo HBL.out hnx true
          have HSET := Lib.hid hset
          obtain ⟨z0, z1, z2, _⟩ := bx3 hset.tl.tl.hd
          have hkg : nx < gs.length := by rw [HM.out]; exact hnx
          obtain ⟨b, o, rfl, hb, q0, q1, q2, q3⟩ := gate_at rfl rfl (HG.out.carry hset.tl.tl.tl.hd) hkg
          have HOG := Lib.hid (operands_any (gs.getD nx g0))
          have HOL := Lib.hid (ops_le (gs.getD nx g0))
          unfold gtV at HOG
          generalize gs.getD nx g0 = g at *
          clear hbx hset hkg hb hnt
          go_wp2_with (first
            | (go_at_call 191
               with_reducible refine (HOG.out _).mono ?_
               rintro e w4 ⟨pa, pc, rfl, hiv, hg4⟩
               have HIV := Lib.hid hiv
               have HS4 := Lib.hid (HSET.out.grown hg4).s2
               clear hiv hg4)
            | (at_builtin
               refine app_Q rfl (.tmp 29) (.tmp 35) rfl ?_ ?_ HS4.out HIV.out (by have := HOL.out; omega) ?_
               · rfl
               · rfl
               intro v5 w5 h5
               have HS5 := Lib.hid h5
               clear h5))
          obtain ⟨wa, wc, hv5⟩ := QRow.shape HS5.out.hd
          subst hv5
          have HCE := Lib.hid (cnt_own HS5.out.tl.hd hbl2.out)
          go_roundw
          case rel => exact ⟨bs.set nx true, td ++ opsL g, HN.out, by rw [List.length_append]; have := HOL.out; omega, by rw [List.length_append, HNT.out]; have := HOL.out; have := HN1.out; omega, ⟨_, _, rfl⟩, HS5.out⟩
          case measure =>
            rw [HCE.out, HCN.out, HNT.out]
            have := HOL.out; have := HN1.out
            simp [sliceLen]
            omega
      · have HCX := Lib.hid (show Sep wr (QA (.slice (some ⟨qg, qo + 1, none⟩) td.length cap) td :: _) from by have := HS.out.cutI; rw [if_neg hcp] at this; exact this)
        cases hbx : bs.getD nx false with
        | true =>
          rw [hbx] at hc
          have HN := Lib.hid (HV.out.skip (by rw [Int.toNat_natCast]; exact hbx))
          have HC := Lib.hid HCX.out
          clear hbx
          go_wp2
          go_roundw
          case rel => exact ⟨bs, td, HN.out, by omega, by omega, ⟨_, _, rfl⟩, HC.out⟩
          case measure => simp [sliceLen]
        | false =>
          rw [hbx] at hc
          have HN := Lib.hid (HV.out.mark (by rw [HM.out]; exact HOPS.out))
          rw [Int.toNat_natCast] at HN
          have HC := Lib.hid HCX.out
          have hnt := nT_mark (by rw [← HBL.out]; exact hnx) hbx
          have hbl2 := Lib.hid (show m = (bs.set nx true).length by rw [List.length_set]; exact HBL.out)
          have HNT := Lib.hid hnt
          have HN1 := Lib.hid (show nT bs + 1 ≤ m by rw [← hnt, hbl2.out]; exact nT_le _)
          have hset := HC.out.s2.setBo HBL.out hnx true
          have HSET := Lib.hid hset
          obtain ⟨z0, z1, z2, _⟩ := bx3 hset.tl.tl.hd
          have hkg : nx < gs.length := by rw [HM.out]; exact hnx
          obtain ⟨b, o, rfl, hb, q0, q1, q2, q3⟩ := gate_at rfl rfl (HG.out.carry hset.tl.tl.tl.hd) hkg
          have HOG := Lib.hid (operands_any (gs.getD nx g0))
          have HOL := Lib.hid (ops_le (gs.getD nx g0))
          unfold gtV at HOG
          generalize gs.getD nx g0 = g at *
          clear hbx hset hkg hb hnt
          go_wp2_with (first
            | (go_at_call 191
               with_reducible refine (HOG.out _).mono ?_
               rintro e w4 ⟨pa, pc, rfl, hiv, hg4⟩
               have HIV := Lib.hid hiv
               have HS4 := Lib.hid (HSET.out.grown hg4).s2
               clear hiv hg4)
            | (at_builtin
               refine app_Q rfl (.tmp 29) (.tmp 35) rfl ?_ ?_ HS4.out HIV.out (by have := HOL.out; omega) ?_
               · rfl
               · rfl
               intro v5 w5 h5
               have HS5 := Lib.hid h5
               clear h5))
          obtain ⟨wa, wc, hv5⟩ := QRow.shape HS5.out.hd
          subst hv5
          have HCE := Lib.hid (cnt_own HS5.out.tl.hd hbl2.out)
          go_roundw
          case rel => exact ⟨bs.set nx true, td ++ opsL g, HN.out, by rw [List.length_append]; have := HOL.out; omega, by rw [List.length_append, HNT.out]; have := HOL.out; have := HN1.out; omega, ⟨_, _, rfl⟩, HS5.out⟩
          case measure =>
            rw [HCE.out, HCN.out, HNT.out]
            have := HOL.out; have := HN1.out
            simp [sliceLen]
            omega
end Go.Proofs.YtkamcgonacmieaaDoor

/-
  Marked places as a list; elements at places; is a number in a list. Conditions: lengths are small; places are in range.
-/
namespace Go.Proofs.YtkamcgonacmieaaDoor
open Go.RowKit
set_option linter.unusedVariables false
set_option maxRecDepth 100000

/-- The first k places that are marked. -/
def markTo (bs : List Bool) : Nat → List Int
  | 0 => []
  | k + 1 => if bs.getD k false = true then markTo bs k ++ [(k : Int)] else markTo bs k
def markL (bs : List Bool) : List Int := markTo bs bs.length
theorem markTo_len (bs : List Bool) (k : Nat) : (markTo bs k).length ≤ k := by
  induction k with
  | zero => exact Nat.le_refl _
  | succ k ih =>
    unfold markTo
    split
    · simp; omega
    · omega
theorem marked_any (v : Value) (bs : List Bool) (w : World) (hv : RdR boolE w v bs) (hl : bs.length ≤ 1000000) :
    Calls Tryd.prog 199 #[v] w fun e w' => ∃ a c, e = .returned (.slice a (markL bs).length c) ∧ Sep w' [OI (.slice a (markL bs).length c) (markL bs), KeepA w] := by
  have HV := Lib.hid hv
  obtain ⟨a, c, rfl⟩ := hv.shape
  unfold markL
  generalize hm : bs.length = m at *
  have HM := Lib.hid hm
  clear hv hm
  have HS0 := Lib.hid (Sep.start w).emptyI
  go_enter Tryd.func199, Tryd.ntmps199
  go_wp2_with fail
  go_loopw [3, 4, 5, 9] (fun ov _ _ i wr => ∃ (k : Nat) (oa : Option Addr) (oc : Nat), k ≤ m ∧ i = .int .i64 k ∧ ov = .slice oa (markTo bs k).length oc ∧ Sep wr [OI (.slice oa (markTo bs k).length oc) (markTo bs k), KeepA w]) (fun _ _ _ i _ => m - (intOf i).toNat)
  case atStart => exact ⟨0, _, _, by omega, rfl, rfl, HS0.out⟩
  case round =>
    obtain ⟨k, oa, oc, hk, rfl, rfl, hs⟩ := hrel
    have HSX := Lib.hid hs
    clear hs HS0
    by_cases hlt : k < m
    · obtain ⟨b, o, rfl, hb, hc⟩ := bool_in (HV.out.carry HSX.out.tl.hd) (i := k) (by rw [HM.out]; exact hlt)
      have hc0 := hc k (by rw [HM.out]; exact hlt)
      have HML := Lib.hid (markTo_len bs k)
      have hst : markTo bs (k + 1) = if bs.getD k false = true then markTo bs k ++ [(k : Int)] else markTo bs k := rfl
      have HST := Lib.hid hst
      clear hc hb hst
      generalize hL : markTo bs k = L at *
      have HL := Lib.hid hL
      generalize hn : L.length = ln at *
      have HN := Lib.hid hn
      clear hL hn
      cases hbk : bs.getD k false with
      | false =>
        rw [hbk] at hc0 HST
        clear hbk
        go_wp2
        go_roundw
        case rel => exact ⟨k + 1, oa, oc, by omega, by go_num, by rw [HST.out]; simp [HN.out], by rw [HST.out]; simpa [HN.out] using HSX.out⟩
        case measure => simp [intOf]; omega
      | true =>
        rw [hbk] at hc0 HST
        clear hbk
        go_wp2_with (
          at_builtin
          go_loud (refine app_intG rfl (.tmp 15) (.tmp 17) rfl rfl rfl (by simp) HSX.out (by have := HML.out; rw [HN.out]; omega) ?_)
          intro g cg w3 h3
          rw [HN.out] at h3 ⊢
          have HS3 := Lib.hid h3
          clear h3)
        go_roundw
        case rel => exact ⟨k + 1, some ⟨g, 0, none⟩, cg, by omega, by go_num, by rw [HST.out]; simp [HN.out], by rw [HST.out]; simpa [HN.out] using HS3.out⟩
        case measure => simp [intOf]; omega
    · have hkm : k = m := by omega
      subst hkm
      clear hlt
      go_wp2
      go_ret
      exact ⟨oa, oc, rfl, HSX.out⟩
theorem l1Has_any (v : Value) (zs : List Int) (x : Int) (w : World) (hv : IntsV w v zs) (hl : zs.length ≤ 1000000) :
    Calls Tryd.prog 189 #[v, .int .i64 x] w fun e w' => e = .returned (.bool (decide (x ∈ zs))) ∧ w.grownBy w' none := by
  have HV := Lib.hid hv
  obtain ⟨a, c, rfl⟩ := hv.shape
  generalize hm : zs.length = m at *
  have HM := Lib.hid hm
  clear hv hm
  go_enter Tryd.func189, Tryd.ntmps189
  go_wp2_with fail
  go_loopw [6, 9] (fun _ i wr => ∃ k : Nat, k ≤ m ∧ i = .int .i64 k ∧ w.grownBy wr none ∧ ∀ j, j < k → zs.getD j 0 ≠ x) (fun _ i _ => m - (intOf i).toNat)
  case atStart => exact ⟨0, by omega, rfl, grownBy_refl _ _, fun j hj => absurd hj (Nat.not_lt_zero _)⟩
  case round =>
    obtain ⟨k, hk, rfl, hg, hne⟩ := hrel
    have HG := Lib.hid hg; have HNE := Lib.hid hne
    clear hg hne
    by_cases hlt : k < m
    · have hkz : k < zs.length := by rw [HM.out]; exact hlt
      have hv2 := HV.out.carry HG.out
      obtain ⟨d, rfl⟩ : ∃ d, a = some d := by
        obtain ⟨a', c', he, hr⟩ := hv2
        obtain ⟨d, hd, _⟩ := hr (by intro h; rw [h] at hkz; simp at hkz)
        injection he with e1
        exact ⟨d, e1.trans hd⟩
      obtain ⟨b, o, sp⟩ := d
      have hsp : sp = none := by
        obtain ⟨a', c', he, hr⟩ := hv2
        obtain ⟨d, hd, hsp, _⟩ := hr (by intro h; rw [h] at hkz; simp at hkz)
        injection he with e1
        rw [hd] at e1
        injection e1 with e1
        subst e1
        exact hsp
      subst hsp
      have hc0 := hv2.cellN hkz
      have HZ := Lib.hid (show zs.getD k 0 ∈ zs from getD_mem' hkz)
      by_cases he : zs.getD k 0 = x
      · rw [he] at hc0 HZ
        clear hv2
        go_wp2
        go_ret
        exact ⟨by rw [show decide (x ∈ zs) = true from decide_eq_true HZ.out]; rfl, HG.out⟩
      · have HE := Lib.hid he
        generalize hy : zs.getD k 0 = y at *
        have HY := Lib.hid hy
        clear hv2 hy
        go_wp2
        go_roundw
        case rel => exact ⟨k + 1, by omega, by go_num, HG.out, fun j hj => by
          by_cases e : j = k
          · subst e; rw [HY.out]; exact HE.out
          · exact HNE.out j (by omega)⟩
        case measure => simp [intOf]; omega
    · have hkm : k = m := by omega
      subst hkm
      clear hlt
      go_wp2
      go_ret
      have hn : ¬ x ∈ zs := by
        intro hx
        obtain ⟨i, hi, he⟩ := List.getElem_of_mem hx
        have := HNE.out i (by rw [← HM.out]; exact hi)
        rw [List.getD_eq_getElem?_getD, List.getElem?_eq_getElem hi] at this
        exact this he
      exact ⟨by rw [show decide (x ∈ zs) = false from decide_eq_false hn]; rfl, HG.out⟩
theorem make_cap (n : Nat) (hn : n ≤ 1000000) (w : World) : (Instr.makeSlice 23 (.int .i64 0) (.int .i64 n)).run Tryd.prog w = .ok (.slice (some ⟨w.heap.size, 0, none⟩) 0 n) (w.alloc (.cells (madeCells (Value.int .i64 0).cells (n * 1)) 3)) := by
  obtain ⟨i0, hi, hz0, hz1, hz2⟩ := info_parts info_int
  have h := run_make (P := Tryd.prog) w 23 3 i0 (.int .i64 0) Tryd.underlying23 hi hz0 .i64 .i64 0 n (by omega) (by omega) (by rw [hz2]; omega) (by omega)
  rw [hz1] at h
  simp only [Int.toNat_natCast] at h
  exact h
theorem Sep.capI {w : World} {l : List Asrt} (h : Sep w l) (n b : Nat) (hn : n ≤ 1000000) (hb : b = w.heap.size) : Sep (w.alloc (.cells (madeCells (Value.int .i64 0).cells (n * 1)) 3)) (OI (.slice (some ⟨b, 0, none⟩) 0 n) [] :: l) := by
  subst hb
  refine h.newI (grownBy_alloc _ _ none) ⟨by simp, Or.inr ⟨w.heap.size, n, _, rfl, Nat.le_refl _, alloc_heap_new _ _, Nat.zero_le _, by unfold maxLen; omega, size_madeCells _ _, by simp⟩⟩
theorem IntsV.addr {w : World} {a : Option Addr} {n c : Nat} {zs : List Int} (h : IntsV w (.slice a n c) zs) (hz : 0 < zs.length) : ∃ b o, a = some ⟨b, o, none⟩ := by
  obtain ⟨a', c', he, hr⟩ := h
  obtain ⟨d, hd, hsp, _⟩ := hr (by intro e; rw [e] at hz; simp at hz)
  injection he with e1
  obtain ⟨b, o, sp⟩ := d
  simp only at hsp
  subst hsp
  exact ⟨b, o, e1.trans hd⟩
set_option maxHeartbeats 2000000 in
theorem chosen_any (u v : Value) (zs xs : List Int) (w : World) (hu : IntsV w u zs) (hv : IntsV w v xs) (hl : xs.length ≤ 1000000) (hr : ∀ x ∈ xs, 0 ≤ x ∧ x < zs.length) :
    Calls Tryd.prog 226 #[u, v] w fun e w' => ∃ a c, e = .returned (.slice a xs.length c) ∧ Sep w' [OI (.slice a xs.length c) (xs.map (ofL zs)), KeepA w] := by
  have HU := Lib.hid hu; have HV := Lib.hid hv; have HR := Lib.hid hr
  obtain ⟨ua, uc, rfl⟩ := hu.shape
  obtain ⟨va, vc, rfl⟩ := hv.shape
  generalize hm : xs.length = m at *
  generalize hm2 : zs.length = m2 at *
  have HM := Lib.hid hm; have HM2 := Lib.hid hm2
  clear hu hv hr hm hm2
  have hmk := make_cap m (by omega)
  have HS0 := Lib.hid ((Sep.start w).capI m _ hl rfl)
  go_enter Tryd.func226, Tryd.ntmps226
  go_wp2_with fail
  go_loopw [5, 7, 13] (fun ov _ i wr => ∃ (k : Nat) (oa : Option Addr) (oc : Nat), k ≤ m ∧ i = .int .i64 k ∧ ov = .slice oa k oc ∧ Sep wr [OI (.slice oa k oc) ((xs.take k).map (ofL zs)), KeepA w]) (fun _ _ i _ => m - (intOf i).toNat)
  case atStart => exact ⟨0, _, _, by omega, rfl, rfl, by have h := HS0.out; simp only [Value.cells, Nat.mul_one] at h; simpa using h⟩
  case round =>
    obtain ⟨k, oa, oc, hk, rfl, rfl, hs⟩ := hrel
    have HSX := Lib.hid hs
    clear hs HS0 hmk
    by_cases hlt : k < m
    · have hkx : k < xs.length := by rw [HM.out]; exact hlt
      obtain ⟨b, o, rfl⟩ := IntsV.addr HV.out (by omega)
      have hc0 := (HV.out.carry HSX.out.tl.hd).cellN hkx
      obtain ⟨h0, h1⟩ := HR.out _ (getD_mem' hkx)
      have HT := Lib.hid (takeS hkx (ofL zs))
      generalize hx : xs.getD k 0 = x at *
      obtain ⟨nx, rfl⟩ := Int.eq_ofNat_of_zero_le h0
      have hnx : nx < zs.length := by rw [HM2.out]; omega
      obtain ⟨b2, o2, rfl⟩ := IntsV.addr HU.out (by omega)
      have hd0 := (HU.out.carry HSX.out.tl.hd).cellN hnx
      have ho : ofL zs (nx : Int) = zs.getD nx 0 := by unfold ofL; rw [Int.toNat_natCast]
      rw [ho] at HT
      generalize zs.getD nx 0 = y at *
      have HTL := Lib.hid (show ((xs.take k).map (ofL zs)).length = k by rw [List.length_map, List.length_take]; omega)
      clear hx hkx hnx ho
      go_wp2_with (
        at_builtin
        go_loud (refine app_intG rfl (.tmp 17) (.tmp 22) rfl rfl rfl (by simp) HSX.out (by rw [HTL.out]; omega) ?_)
        intro g cg w3 h3
        rw [HTL.out, ← HT.out] at h3
        rw [HTL.out]
        have HS3 := Lib.hid h3
        clear h3)
      go_roundw
      case rel => exact ⟨k + 1, some ⟨g, 0, none⟩, cg, by omega, by go_num, rfl, HS3.out⟩
      case measure => simp [intOf]; omega
    · have hkm : k = m := by omega
      subst hkm
      clear hlt
      go_wp2
      go_ret
      have h := HSX.out
      rw [List.take_of_length_le (by rw [HM.out]; exact Nat.le_refl _)] at h
      exact ⟨oa, oc, rfl, h⟩
theorem mapped_any (u v : Value) (zs xs : List Int) (w : World) (hu : IntsV w u zs) (hv : IntsV w v xs) (hl : xs.length ≤ 1000000) (hr : ∀ x ∈ xs, 0 ≤ x ∧ x < zs.length) :
    Calls Tryd.prog 201 #[v, u] w fun e w' => ∃ a c, e = .returned (.slice a xs.length c) ∧ Sep w' [OI (.slice a xs.length c) (xs.map (ofL zs)), KeepA w] := by
  have HC := Lib.hid (chosen_any u v zs xs w hu hv hl hr)
  clear hu hv hr
  go_enter Tryd.func201, Tryd.ntmps201
  go_wp2_with (
    go_at_call 226
    refine HC.out.mono ?_
    rintro e w2 ⟨a, c, rfl, hs⟩
    have HS := Lib.hid hs
    clear hs)
  go_ret
  exact ⟨_, _, rfl, HS.out⟩
end Go.Proofs.YtkamcgonacmieaaDoor

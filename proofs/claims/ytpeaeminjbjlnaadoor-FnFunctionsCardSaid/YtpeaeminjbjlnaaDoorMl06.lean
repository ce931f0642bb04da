/-
  Relations that the reference makes of rows; converses. Conditions: small sizes.
-/
import Derived.Test.YtpeaeminjbjlnaaDoorMl05
namespace Go.Proofs.YtpeaeminjbjlnaaDoor
open Go.RowKit
set_option linter.unusedVariables false

set_option maxRecDepth 100000 in
theorem rlOf_any (q : Nat) [NeZero q] (l r : Nat) (u : Value) (L : List (List Int)) (w : World) (hf : fldN q = true) (hq : q ≤ 1000) (hu : MatV w u L) (hL : RowsOk q (l + r) L) (hm : L.length ≤ 1000) (hn : l + r ≤ 1000) :
    Calls Tryd.prog 238 #[.int .i64 q, .int .i64 l, .int .i64 r, u] w fun e w' => ∃ o, e = .returned (rlV l r o) ∧ (∃ vs, OwnM w.heap.size w' o vs (reducedL q (l + r) L)) ∧ w.grownBy w' none := by
  have hgr := grownBy_alloc w (.cells #[.int .i64 0, .int .i64 0, .slice none 0 0] 65) none
  have hs : (w.alloc (.cells #[.int .i64 0, .int .i64 0, .slice none 0 0] 65)).heap.size = w.heap.size + 1 := by simp
  have HR := Lib.hid fun W (hg : w.grownBy W none) => spReduce_own q (l + r) u L W hf hq (hu.carry hg) hL hm hn
  unfold rlV
  have HGR := Lib.hid hgr; have HS := Lib.hid hs
  obtain ⟨ua, uc, rfl⟩ := hu.shape
  clear hu hL hgr hs
  have c1 : (0 : Int) ≤ (l : Int) := by omega
  have c2 : (0 : Int) ≤ (r : Int) := by omega
  have c3 : (l : Int) + (r : Int) ≤ 1000 := by omega
  generalize reducedL q (l + r) L = red at *
  generalize L.length = ll at *
  have HR2 := HR.out _ HGR.out
  rw [show (((l + r : Nat) : Int)) = (l : Int) + r by omega] at HR2
  have HR3 := Lib.hid HR2
  clear HR2 HR
  go_enter Tryd.func238, Tryd.ntmps238
  go_wp2_with (
    go_at_call 168
    go_loud (refine HR3.out.mono ?_)
    rintro e w1 ⟨ra, rc, rfl, hp, hg⟩
    obtain ⟨hbl, hgw⟩ := box1 w _ _ hg
    have HP := Lib.hid hp; have HG := Lib.hid hgw
    have HZ := Lib.hid hg.size
    obtain ⟨c0, c1, c2, f0, f1, f2⟩ := bx3 hbl
    clear hp hg hbl hgw)
  refine bodyPost_ret_by (v := .agg #[.int .i64 l, .int .i64 r, .slice ra red.length rc]) ?_ rfl ?_
  · simp [results, go_sem, *]
  · have hp := HP.out
    have hz := HZ.out
    rw [HS.out] at hp hz
    have h3 := three_set (w := w1) w.heap.size (.int .i64 l) (.int .i64 r) (.slice ra red.length rc)
    obtain ⟨vs, hp⟩ := hp
    exact ⟨_, rfl, ⟨vs, (hp.only h3 (fun k hk hk' => by have h1 : k = w.heap.size := hk'; have := (hp.lt hk).1; omega)).base (by omega)⟩, box3_end HG.out (by omega) _ _ _⟩

set_option maxRecDepth 100000 in
set_option maxHeartbeats 1000000 in
/-- what the program's converse makes of a row -/
theorem fn_conv (B l r : Nat) (b : Value) (bx0 : Nat) (w : World) (L : List (List Int)) (hL : ∀ row ∈ L, row.length = l + r) (hlr : l + r ≤ 1000) (hbx : w.heap[bx0]? = some (.cells #[.int .i64 l, .int .i64 r, b] 65 (0, 0))) :
    RowFn 272 (fun x => #[x, .pointer (some ⟨bx0, 0, none⟩)]) B w L (convRow l) := by
  intro W a c row hrow hg hi hc hb
  have hl := hL row hrow
  have HBX := Lib.hid fun W' (h : W.grownBy W' none) => (show W'.cell? ⟨bx0, 0, none⟩ = some (.int .i64 l) ∧ W'.cell? ⟨bx0, 1, none⟩ = some (.int .i64 r) ∧ W'.cell? ⟨bx0, 2, none⟩ = some b from ⟨(bx3 (bx_on hbx (hg.trans h))).1, (bx3 (bx_on hbx (hg.trans h))).2.1, (bx3 (bx_on hbx (hg.trans h))).2.2.1⟩)
  have hgd : W.grownBy W.drew none := ⟨rfl, rfl, rfl, Nat.le_refl _, fun _ _ _ => rfl⟩
  have GD := Lib.hid hgd
  have H1 := fun W' => second_any l r b a row.length c W' (by omega) hc
  have H2 := fun W' => first_any l r b a row.length c W' (by omega) hc
  have HT := fun W' (h : W.grownBy W' none) (a' : Option Addr) (c' : Nat) (ha : l < c → a' = a.map fun x => x.add l) => (hi.carry h).tail (l := l) (by omega) hc ha c'
  have HK := Lib.hid fun W' (h : W.grownBy W' none) => (hi.carry h).take (k := l) (by omega) c
  have hlen : (convRow l row).length = l + r := by unfold convRow; rw [List.length_append, List.length_drop, List.length_take, hl]; omega
  have HCV := Lib.hid (show [row.drop l, row.take l].flatten = convRow l row by simp [convRow])
  have HLN := Lib.hid hlen
  rw [hl] at H1 H2 HT ⊢
  rw [show l + r - l = r by omega] at H1 HT
  have H1 := Lib.hid H1; have H2 := Lib.hid H2; have HT := Lib.hid HT
  unfold rlV at *
  clear hi hc hb hg hlen hL hbx
  have X0 := Lib.hid (HBX.out _ hgd)
  clear hgd
  go_enter Tryd.func272, Tryd.ntmps272
  go_wp2_with fail
  go_region_held3 (fun w' => w'.cell? ⟨bx0, 0, none⟩ = some (.int .i64 l) ∧ w'.cell? ⟨bx0, 1, none⟩ = some (.int .i64 r) ∧ w'.cell? ⟨bx0, 2, none⟩ = some b)
    (first | with_reducible exact X0.out | with_reducible exact X3.out | with_reducible exact X4.out | with_reducible exact X5.out | with_reducible exact X6.out | with_reducible exact X7.out _ | with_reducible exact X8.out | with_reducible exact X9.out _ | with_reducible exact X10.out)
    (first
      | (go_at_call 268
         go_loud (with_reducible refine (H1.out W.drew).mono ?_)
         rintro e w3 ⟨a3, rfl, h3, h3b, g3⟩
         have G3 := Lib.hid (GD.out.trans g3)
         have X3 := Lib.hid (HBX.out _ (GD.out.trans g3))
         have S3 := Lib.hid fun W' (h : W.grownBy W' none) => HT.out W' h a3 (c - l) h3
         clear h3 h3b g3)
      | (go_at_call 269
         go_loud (with_reducible refine (H2.out w3).mono ?_)
         rintro e w4 ⟨rfl, g4⟩
         have G4 := Lib.hid (G3.out.trans g4)
         have X4 := Lib.hid (HBX.out _ (G3.out.trans g4))
         have X7 := Lib.hid fun o => HBX.out _ ((G3.out.trans g4).trans (grownBy_alloc w4 o none))
         clear g4)
      | (go_at_call 269
         go_loud (with_reducible refine (H2.out W.drew).mono ?_)
         rintro e w5 ⟨rfl, g5⟩
         have G5 := Lib.hid (GD.out.trans g5)
         have X5 := Lib.hid (HBX.out _ (GD.out.trans g5))
         clear g5)
      | (go_at_call 268
         go_loud (with_reducible refine (H1.out w5).mono ?_)
         rintro e w6 ⟨a6, rfl, h6, h6b, g6⟩
         have G6 := Lib.hid (G5.out.trans g6)
         have X6 := Lib.hid (HBX.out _ (G5.out.trans g6))
         have X9 := Lib.hid fun o => HBX.out _ ((G5.out.trans g6).trans (grownBy_alloc w6 o none))
         have S6 := Lib.hid fun W' (h : W.grownBy W' none) => HT.out W' h a6 (c - l) h6
         clear h6 h6b g6)
      | (go_at_call 208
         go_loud (refine (joined_any _ [row.drop l, row.take l] _ (pair_mat (S3.out w4 G4.out) (HK.out w4 G4.out)) (by simp) (by rw [HCV.out, HLN.out]; omega)).mono ?_)
         rintro e w8 ⟨o8, rfl, h8, g8⟩
         rw [HCV.out] at h8
         have O8 := Lib.hid h8
         have G8 := Lib.hid ((G4.out.trans (grownBy_alloc w4 _ none)).trans g8)
         have Z8 := Lib.hid (show W.heap.size ≤ (w4.alloc (.cells #[.slice a3 r (c - l), .slice a l c] 24)).heap.size from (G4.out.trans (grownBy_alloc w4 _ none)).size)
         have X8 := Lib.hid (HBX.out _ ((G4.out.trans (grownBy_alloc w4 _ none)).trans g8))
         clear h8 g8)
      | (go_at_call 208
         go_loud (refine (joined_any _ [row.drop l, row.take l] _ (pair_mat (S6.out w6 G6.out) (HK.out w6 G6.out)) (by simp) (by rw [HCV.out, HLN.out]; omega)).mono ?_)
         rintro e w8 ⟨o8, rfl, h8, g8⟩
         rw [HCV.out] at h8
         have O8 := Lib.hid h8
         have G8 := Lib.hid ((G6.out.trans (grownBy_alloc w6 _ none)).trans g8)
         have Z8 := Lib.hid (show W.heap.size ≤ (w6.alloc (.cells #[.slice a6 r (c - l), .slice a l c] 24)).heap.size from (G6.out.trans (grownBy_alloc w6 _ none)).size)
         have X8 := Lib.hid (HBX.out _ ((G6.out.trans (grownBy_alloc w6 _ none)).trans g8))
         clear h8 g8))
  all_goals
    obtain ⟨oa, oc, rfl⟩ := own_shape O8.out
    go_wp2
    go_ret
    exact ⟨oa, oc, rfl, O8.out.read, fun _ k hk => Or.inr (Nat.le_trans Z8.out (O8.out.lt k (by show (Value.slice _ _ _).ownBlock = some k; rw [← O8.out.blk]; exact hk)).1), G8.out⟩
end Go.Proofs.YtpeaeminjbjlnaaDoor

/-
  Converses of relations. Conditions: small sizes.
-/
namespace Go.Proofs.YtpeaeminjbjlnaaDoor
open Go.RowKit
set_option linter.unusedVariables false

set_option maxRecDepth 100000 in
set_option maxHeartbeats 2000000 in
theorem converse_any (q : Nat) [NeZero q] (l r : Nat) (u : Value) (A : List (List Int)) (w : World) (hf : fldN q = true) (hq : q ≤ 97) (hu : MatC w u A) (hA : RowsOk q (l + r) A) (ha : A.length ≤ 24) (hlr : l + r ≤ 24) :
    Calls Tryd.prog 161 #[.int .i64 q, rlV l r u] w fun e w' => ∃ o, e = .returned (rlV r l o) ∧ Pre w.heap.size w' o (convL q l r A) ∧ w.grownBy w' none := by
  have hok := map_ok (f := convRow l) hA fun x hx => convRow_ok hx
  have H1 := fun W (hg : w.grownBy W none) (hb : W.heap[w.heap.size]? = some (.cells #[.int .i64 l, .int .i64 r, u] 65 (0, 0))) => eachConv_any (.pointer (some ⟨w.heap.size, 0, none⟩)) l r u A (convRow l) W w hu hg (by omega) (fn_conv w.heap.size l r u w.heap.size W A (fun row hr => (hA row hr).1) (by omega) hb)
  have H2 := Lib.hid fun W o (h : MatV W o (A.map (convRow l))) => relation_any q r l o _ W hf (by omega) h hok (by rw [List.length_map]; omega) (by omega)
  rw [show reducedL q (r + l) (A.map (convRow l)) = convL q l r A from rfl] at H2
  obtain ⟨ua, uc, rfl⟩ := hu.shape
  unfold rlV at *
  have H1 := Lib.hid H1
  have HML := Lib.hid (show (A.map (convRow l)).length = A.length by simp)
  generalize convL q l r A = PL at *
  generalize A.map (convRow l) = CV at *
  generalize A.length = la at *
  have HS := Lib.hid (((Sep.start w).box #[.int .i64 l, .int .i64 r, .slice ua la uc] 65).box #[.int .i64 0, .int .i64 0, .slice none 0 0] 65)
  have HG := Lib.hid (show w.grownBy _ none from HS.out.tl.tl.hd)
  simp only [show ∀ (W : World) o, (W.alloc o).heap.size = W.heap.size + 1 from fun W o => by simp] at HS
  have hmf : ∀ (fn : Fn) (first cap : Array Value) (W : World), (Instr.makeFunc fn first cap).run Tryd.prog W = .ok (.func fn first cap) W := fun _ _ _ _ => rfl
  have HD := Lib.hid HS.out.dr
  have HGD := Lib.hid (show w.grownBy _ none from HD.out.tl.tl.hd)
  have XF := Lib.hid fun W (c6 : Array Value) (h : Sep W [BxA (w.heap.size + 1) c6 65, BxA w.heap.size #[.int .i64 l, .int .i64 r, .slice ua la uc] 65, KeepA w]) =>
    And.intro (bx3 h.s2.hd).1 (And.intro (bx3 h.s2.hd).2.1 (bx3 h.s2.hd).2.2.1)
  have X0 := Lib.hid (XF.out _ _ HD.out)
  have HB := Lib.hid (show _ = _ from HD.out.s2.hd)
  clear hu hA hf hok
  go_enter Tryd.func161, Tryd.ntmps161
  go_wp2_with fail
  go_region_held3 (fun w' => w'.cell? ⟨w.heap.size, 0, none⟩ = some (.int .i64 l) ∧ w'.cell? ⟨w.heap.size, 1, none⟩ = some (.int .i64 r) ∧ w'.cell? ⟨w.heap.size, 2, none⟩ = some (.slice ua la uc))
    (first | with_reducible exact X0.out | with_reducible exact X2.out | with_reducible exact X3.out | with_reducible exact X4.out)
    (first
      | (go_at_call 234
         go_loud (refine (H1.out _ HGD.out HB.out).mono ?_)
         rintro e w2 ⟨o, us, rfl, hs2, _⟩
         have HM2 := Lib.hid hs2.readS
         have HD2 := Lib.hid (HD.out.grown (show World.grownBy _ w2 none from hs2.s2.hd))
         have X2 := Lib.hid (XF.out _ _ HD2.out)
         clear hs2)
      | (go_at_call 270
         go_loud (refine (H2.out _ _ HM2.out).mono ?_)
         rintro e w3 ⟨o3, rfl, hp, g3⟩
         obtain ⟨ra, rc, rfl⟩ := hp.shape
         have HP := Lib.hid hp
         have hsz := lt_of_blk HD2.out.hd
         have HD3 := Lib.hid (HD2.out.grown g3)
         have X3 := Lib.hid (XF.out _ _ HD3.out)
         obtain ⟨t0, t1, t2, t3, t4, t5⟩ := bx3 HD3.out.hd
         have HD4 := Lib.hid (((HD3.out.setB 0 (.int .i64 r)).setB 1 (.int .i64 l)).setB 2 (.slice ra PL.length rc))
         have X4 := Lib.hid (XF.out _ _ HD4.out)
         clear hp g3))
  all_goals
    have HMM := Lib.hid (HP.out.only (three_set (w := w3) (w.heap.size + 1) (.int .i64 r) (.int .i64 l) (.slice ra PL.length rc)) (fun k' hk' => by have : k' = w.heap.size + 1 := hk'; omega))
    obtain ⟨u0, u1, u2, u3, u4, u5⟩ := bx3 HD4.out.hd
    have HE := Lib.hid (show w.grownBy _ none from HD4.out.tl.tl.hd)
    generalize PL.length = rl at *
    generalize ((w3.setCell ⟨w.heap.size + 1, 0, none⟩ (.int .i64 r)).setCell ⟨w.heap.size + 1, 1, none⟩ (.int .i64 l)).setCell ⟨w.heap.size + 1, 2, none⟩ (.slice ra rl rc) = w4 at *
    go_wp2
    refine bodyPost_ret_by (v := .agg #[.int .i64 r, .int .i64 l, .slice ra rl rc]) ?_ rfl ⟨_, rfl, HMM.out.base (by omega), HE.out⟩
    simp [results, go_sem, *]

set_option maxRecDepth 100000 in
set_option maxHeartbeats 1000000 in
theorem converseRelation_yes (p l r : Int) (u : Value) (A : List (List Int)) (w : World) (ht : Tab w) (hu : MatC w u A) (hb : relB p l r A = true) :
    Calls Tryd.prog 48 #[.int .i64 p, rlV l r u] w fun e w' => ∃ o, e = .returned (.tuple #[rlV r l o, .bool true]) ∧ Pre w.heap.size w' o (convL p l.toNat r.toNat A) ∧ w.grownBy w' none := by
  have hb0 := hb
  obtain ⟨q, iq, a, b, rfl, rfl, rfl, hf, hq, h1, h2, hA, hok⟩ := relB_parts hb
  simp only [Int.toNat_natCast]
  have H1 := fun W (hg : w.grownBy W none) => isRelation_any q a b u A W (ht.grown hg) (hu.v.carry hg) (by omega) (fun row hr => by rw [(hok row hr).1]; omega)
  rw [hb0] at H1
  have HA := Lib.hid H1
  have HD := Lib.hid fun W (hg : w.grownBy W none) => converse_any q a b u A W hf hq (hu.carry hg) hok (by omega) h1
  obtain ⟨ua, uc, rfl⟩ := hu.shape
  unfold rlV at *
  generalize convL q a b A = PL at *
  generalize A.length = la at *
  have HS := Lib.hid (((Sep.start w).box #[.int .i64 a, .int .i64 b, .slice ua la uc] 65).box #[.int .i64 0, .int .i64 0, .slice none 0 0] 65)
  have HG := Lib.hid (show w.grownBy _ none from HS.out.tl.tl.hd)
  have hbz : w.heap.size + 1 < ((w.alloc (.cells #[.int .i64 a, .int .i64 b, .slice ua la uc] 65)).alloc (.cells #[.int .i64 0, .int .i64 0, .slice none 0 0] 65)).heap.size := by simp
  simp only [show ∀ (W : World) o, (W.alloc o).heap.size = W.heap.size + 1 from fun W o => by simp] at HS
  obtain ⟨y0, y1, y2, _, _, _⟩ := bx3 HS.out.s2.hd
  clear hu hok hA hb hb0 H1 ht hf
  go_enter Tryd.func48, Tryd.ntmps48
  go_wp2_with (first
    | (go_at_call 156
       go_loud (with_reducible refine (HA.out _ HG.out).mono ?_)
       rintro e w1 ⟨rfl, g1⟩
       have HS1 := Lib.hid (HS.out.grown g1)
       have HG1 := Lib.hid (HG.out.trans g1)
       have HZ1 := Lib.hid (Nat.lt_of_lt_of_le hbz g1.size)
       obtain ⟨a0, a1, a2, _, _, _⟩ := bx3 HS1.out.s2.hd
       clear g1)
    | (go_at_call 161
       go_loud (with_reducible refine (HD.out _ HG1.out).mono ?_)
       rintro e w4 ⟨o, rfl, hp, g4⟩
       obtain ⟨ra, rc, rfl⟩ := hp.shape
       have HP := Lib.hid hp
       have HG4 := Lib.hid (HG1.out.trans g4)
       obtain ⟨t0, t1, t2, t3, t4, t5⟩ := bx3 (HS1.out.grown g4).hd
       clear hp g4))
  have hz2 := HZ1.out
  have HMM := Lib.hid (HP.out.only (three_set (w := w4) (w.heap.size + 1) (.int .i64 b) (.int .i64 a) (.slice ra PL.length rc)) (fun k' hk' => by have : k' = w.heap.size + 1 := hk'; omega))
  have HE := Lib.hid (box3_end HG4.out (show w.heap.size ≤ w.heap.size + 1 by omega) (.int .i64 b) (.int .i64 a) (.slice ra PL.length rc))
  generalize PL.length = rl at *
  refine bodyPost_ret_by (v := .tuple #[.agg #[.int .i64 b, .int .i64 a, .slice ra rl rc], .bool true]) ?_ rfl ⟨_, rfl, HMM.out.base (by omega), HE.out⟩
  simp [results, go_sem, *]
end Go.Proofs.YtpeaeminjbjlnaaDoor

/-
  Identities among relations. Conditions: small sizes.
-/
namespace Go.Proofs.YtpeaeminjbjlnaaDoor
open Go.RowKit
set_option linter.unusedVariables false

theorem idRel_snoc {n k : Nat} (h : k < n) : (idRel n).take (k + 1) = (idRel n).take k ++ [idRow n k] := by
  rw [← take_push (show k < (idRel n).length by rw [idRel_len]; exact h)]
  simp [idRel]
theorem Sep.setB3 {w : World} {l : List Asrt} {b : Nat} {x y z : Value} {t : TypeId} (h : Sep w (BxA b #[x, y, z] t :: l)) (z' : Value) : Sep (w.setCell ⟨b, 2, none⟩ z') (BxA b #[x, y, z'] t :: l) := h.setB 2 z'
set_option maxRecDepth 100000 in
set_option maxHeartbeats 2000000 in
theorem identityRelation_any (n : Nat) (w : World) (hn : n ≤ 24) :
    Calls Tryd.prog 162 #[.int .i64 n] w fun e w' => ∃ o vs, e = .returned (rlV n n o) ∧ OwnM w.heap.size w' o vs (idRel n) ∧ w.grownBy w' none := by
  unfold rlV
  have HS0 := Lib.hid ((((Sep.start w).box #[.int .i64 0, .int .i64 0, .slice none 0 0] 65).box #[.int .i64 n, .int .i64 n, .slice none 0 0] 65).nilM)
  simp only [show ∀ (W : World) o, (W.alloc o).heap.size = W.heap.size + 1 from fun W o => by simp] at HS0
  go_enter Tryd.func162, Tryd.ntmps162
  go_wp2_with fail
  go_loopw [9] (fun i wr => ∃ (k : Nat) (oa : Option Addr) (oc : Nat) (vs : List Value), k ≤ n ∧ i = .int .i64 k ∧ Sep wr [OM (.slice oa k oc) vs ((idRel n).take k), BxA (w.heap.size + 1) #[.int .i64 n, .int .i64 n, .slice oa k oc] 65, BxA w.heap.size #[.int .i64 0, .int .i64 0, .slice none 0 0] 65, KeepA w]) (fun i _ => n - (intOf i).toNat)
  case atStart => exact ⟨0, none, 0, [], by omega, rfl, HS0.out⟩
  case round =>
    obtain ⟨k, oa, oc, vs, hk, rfl, hs⟩ := hrel
    have HSX := Lib.hid hs
    clear hs
    by_cases hlt : k < n
    · have HSN := Lib.hid (idRel_snoc hlt)
      have HD := Lib.hid HSX.out.dr
      obtain ⟨a0, a1, a2, a3, a4, a5⟩ := bx3 HD.out.s2.hd
      have HPL := Lib.hid (show ((idRel n).take k).length = k by rw [List.length_take, idRel_len]; omega)
      have HUL := Lib.hid (show (unitL n k).length = n by simp [unitL])
      have HFL := Lib.hid (show [unitL n k, unitL n k].flatten = idRow n k by simp [idRow])
      have HRL := Lib.hid (show (idRow n k).length = n + n by simp [idRow, unitL])
      go_wp2_with fail
      go_region_law (first
        | (try go_simp
           go_at_call 209
           go_loud (with_reducible refine (unit_any n k wr.drew (by omega) hlt).mono ?_)
           rintro e w2 ⟨u2, rfl, hu2, g2⟩
           obtain ⟨ua2, uc2, rfl⟩ := own_shape hu2
           rw [HUL.out] at hu2 ⊢
           have HS2 := Lib.hid (HD.out.newI g2 hu2)
           obtain ⟨b0, b1, b2, b3, b4, b5⟩ := bx3 HS2.out.s3.hd
           clear hu2 g2)
        | (try go_simp
           go_at_call 209
           go_loud (with_reducible refine (unit_any n k w2 (by omega) hlt).mono ?_)
           rintro e w3 ⟨u3, rfl, hu3, g3⟩
           obtain ⟨ua3, uc3, rfl⟩ := own_shape hu3
           rw [HUL.out] at hu3 ⊢
           have HS3 := Lib.hid (HS2.out.newI g3 hu3)
           obtain ⟨c0, c1, c2, c3, c4, c5⟩ := bx3 HS3.out.s4.hd
           have z2 := fun o => cell_alloc c2 o
           have R3 := Lib.hid (OwnInts.read (show OwnInts 0 w3 _ _ from HS3.out.hd))
           have R2 := Lib.hid (OwnInts.read (show OwnInts 0 w3 _ _ from HS3.out.s2.hd))
           clear hu3 g3)
        | (try go_simp
           go_at_call 208
           first
             | (with_reducible refine (joined_any _ [unitL n k, unitL n k] _ (pair_mat R2.out R3.out) (by simp) (by rw [HFL.out, HRL.out]; omega)).mono ?_)
             | (with_reducible refine (joined_any _ [unitL n k, unitL n k] _ (pair_mat R3.out R2.out) (by simp) (by rw [HFL.out, HRL.out]; omega)).mono ?_)
           rintro e w4 ⟨jo, rfl, hj, g4⟩
           rw [HFL.out] at hj
           obtain ⟨ja, jc, rfl⟩ := own_shape hj
           rw [HRL.out] at hj ⊢
           have HS4 := Lib.hid (((HS3.out.al _).newI g4 hj).drop2.drop2)
           obtain ⟨d0, d1, d2, d3, d4, d5⟩ := bx3 HS4.out.s3.hd
           have z4 := fun o => cell_alloc d2 o
           clear hj g4)
        | (go_loud (refine step_app_rowS rfl _ _ rfl rfl rfl HS4.out (by rw [HPL.out]; omega) ?_)
           intro g5 c5 w5 h5
           rw [HPL.out] at h5 ⊢
           have HS5 := Lib.hid h5
           obtain ⟨e0, e1, e2, e3, e4, e5⟩ := bx3 HS5.out.s2.hd
           have HS6 := Lib.hid ((HS5.out.s2.setB3 (.slice (some ⟨g5, 0, none⟩) (k + 1) c5)).s2)
           clear h5))
      all_goals
        go_wp2
        go_roundw
        case rel => exact ⟨k + 1, _, _, _, by omega, by go_num, by rw [HSN.out]; exact HS6.out⟩
        case measure => simp [intOf]; omega
    · have hkn : k = n := by omega
      subst hkn
      have hall : (idRel k).take k = idRel k := List.take_of_length_le (by rw [idRel_len]; exact Nat.le_refl _)
      have HALL := Lib.hid hall
      obtain ⟨a0, a1, a2, a3, a4, a5⟩ := bx3 HSX.out.s2.hd
      obtain ⟨b0, b1, b2, b3, b4, b5⟩ := bx3 HSX.out.s3.hd
      have HQ := Lib.hid (((HSX.out.s3.setB 0 (.int .i64 k)).setB 1 (.int .i64 k)).setB 2 (.slice oa k oc))
      clear hall
      go_wp2
      refine bodyPost_ret_by (v := .agg #[.int .i64 k, .int .i64 k, .slice oa k oc]) ?_ rfl ?_
      · simp [results, go_sem, *]
      · have h := HQ.out.s2.drop2.drop2
        rw [HALL.out] at h
        exact ⟨_, vs, rfl, h.mat, h.s2.hd⟩
set_option maxRecDepth 100000 in
theorem identityRelation_yes (n : Nat) (w : World) (hn : n + n ≤ 24) :
    Calls Tryd.prog 49 #[.int .i64 n] w fun e w' => ∃ o vs, e = .returned (.tuple #[rlV n n o, .bool true]) ∧ OwnM w.heap.size w' o vs (idRel n) ∧ w.grownBy w' none := by
  have HA := fun W => fits_any n n W
  rw [fitsB_iff.2 (by omega)] at HA
  have HA := Lib.hid HA
  have HD := Lib.hid fun W => identityRelation_any n W (by omega)
  have HLN := Lib.hid (idRel_len n)
  unfold rlV at *
  have HS := Lib.hid ((Sep.start w).box #[.int .i64 0, .int .i64 0, .slice none 0 0] 65)
  go_enter Tryd.func49, Tryd.ntmps49
  go_wp2_with (first
    | (go_at_call 157
       with_reducible refine (HA.out _).mono ?_
       rintro e w' ⟨rfl, rfl⟩)
    | (go_at_call 162
       go_loud (with_reducible refine (HD.out _).mono ?_)
       rintro e w4 ⟨o, vs, rfl, hp, g4⟩
       obtain ⟨ra, rc, hoe, _, _⟩ := own_form hp
       subst hoe
       rw [HLN.out] at hp ⊢
       have HS4 := Lib.hid (HS.out.newM g4 hp)
       obtain ⟨t0, t1, t2, t3, t4, t5⟩ := bx3 HS4.out.s2.hd
       clear hp g4))
  have HQ := Lib.hid (((HS4.out.s2.setB 0 (.int .i64 n)).setB 1 (.int .i64 n)).setB 2 (.slice ra n rc))
  refine bodyPost_ret_by (v := .tuple #[.agg #[.int .i64 n, .int .i64 n, .slice ra n rc], .bool true]) ?_ rfl ?_
  · simp [results, go_sem, *]
  · have h := HQ.out.s2.drop2
    exact ⟨_, vs, rfl, h.mat, h.s2.hd⟩
end Go.Proofs.YtpeaeminjbjlnaaDoor

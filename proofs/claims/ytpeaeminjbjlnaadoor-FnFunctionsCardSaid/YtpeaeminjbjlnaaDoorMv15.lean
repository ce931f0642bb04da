/-
  The entry that draws a space and a matrix. Conditions: the code is well laid.
-/
import Derived.Test.YtpeaeminjbjlnaaDoorMv14
import Derived.Test.YtpeaeminjbjlnaaDoorMv05
import Derived.Test.YtpeaeminjbjlnaaDoorMv07
import Derived.Test.YtpeaeminjbjlnaaDoorMv00
import Derived.Deep.CutRange
namespace Go.Proofs.YtpeaeminjbjlnaaDoor
open Go.RowKit
set_option linter.unusedVariables false

theorem snoc_all {L : List (List Int)} {row : List Int} {B : Nat} (h : ∀ r ∈ L, r.length ≤ B) (hr : row.length ≤ B) : ∀ r ∈ L ++ [row], r.length ≤ B := by
  intro r hr'
  rcases List.mem_append.1 hr' with h1 | h1
  · exact h r h1
  · rw [List.mem_singleton] at h1; rw [h1]; exact hr
/-- a drawn number, a space and a matrix -/
def DPre (w : World) (e : Ending) (w' : World) : Prop :=
  ∃ (p c d : Int) (o : Value) (vs : List Value) (L : List (List Int)) (u : Value) (us : List Value) (M : List (List Int)), e = .returned (.tuple #[.int .i64 p, mxV c o, mxV d u]) ∧ anyP p ∧ 0 ≤ c ∧ c ≤ 25 ∧ 0 ≤ d ∧ d ≤ 25 ∧ OwnM w.heap.size w' o vs L ∧ L.length ≤ 1000 ∧ (∀ row ∈ L, row.length ≤ 1000) ∧ OwnM w.heap.size w' u us M ∧ M.length ≤ 1000 ∧ (∀ row ∈ M, row.length ≤ 1000) ∧ w.grownBy w' none

set_option maxRecDepth 100000 in
set_option maxHeartbeats 2000000 in
theorem drawPreimageOf_any (cv : Value) (w : World) (hc : CodeAt w cv) : Calls Tryd.prog 57 #[cv] w (DPre w) := by
  have HS := Lib.hid (Sep.startD2 hc #[.int .i64 0, .slice none 0 0] #[.int .i64 0, .slice none 0 0] 74 39)
  have hs0 : ((w.alloc (.cells #[.int .i64 0, .slice none 0 0] 74)).alloc (.cells #[.int .i64 0, .slice none 0 0] 39)).heap.size = w.heap.size + 1 + 1 := by simp
  have hs00 : (w.alloc (.cells #[.int .i64 0, .slice none 0 0] 74)).heap.size = w.heap.size + 1 := by simp
  obtain ⟨a0, len, cap, rfl, _, _⟩ := hc
  go_enter Tryd.func57, Tryd.ntmps57
  go_wp2_with fail
  generalize ((w.alloc (.cells #[.int .i64 0, .slice none 0 0] 74)).alloc (.cells #[.int .i64 0, .slice none 0 0] 39)).alloc (.cells #[.slice a0 len cap, .int .i64 0, .int .u64 0] 140) = w0 at *
  generalize hN : w.heap.size = N at *
  refine (Bd.anyPrime_any _ _ _ HS.out.hd (by omega)).mono ?_
  rintro e w1 ⟨p, rfl, hp, c1, g1⟩
  have hpb := anyP_bd hp
  have HP := Lib.hid hp
  have HS1 := Lib.hid (HS.out.draw c1 g1)
  clear hp c1 g1
  go_wp2_with (first
    | (go_at_call 163
       go_loud (refine (size_any _ _ _ HS1.out.hd (by omega)).mono ?_)
       rintro e w2 ⟨sz, rfl, ⟨hz0, hz1⟩, c2, g2⟩
       obtain ⟨sz, rfl⟩ := Int.eq_ofNat_of_zero_le hz0
       have hsz : sz ≤ 24 := by omega
       have HS2 := Lib.hid (HS1.out.draw c2 g2)
       clear c2 g2 hz0 hz1)
    | (go_at_call 164
       go_loud (refine (anySpace_any p sz _ _ _ (by omega) (by omega) HS2.out.hd hsz (by omega)).mono ?_)
       rintro e w3 ⟨c, o, vs, L, rfl, hc0, hc1, ho, hl, hll, c3, g3⟩
       obtain ⟨c, rfl⟩ := Int.eq_ofNat_of_zero_le hc0
       obtain ⟨oa, oc, hoe, _, _⟩ := own_form ho
       subst hoe
       have HS3 := Lib.hid (HS2.out.drawM c3 g3 ho)
       have HL := Lib.hid hl; have HLL := Lib.hid hll
       have hcb : c ≤ 25 := by omega
       unfold mxV
       clear ho hl hll c3 g3 hc0 hc1))
  have HS4 := Lib.hid (HS3.out.box #[.int .i64 c, .slice oa L.length oc] 74)
  generalize w3.heap.size = s at *
  generalize hw4 : w3.alloc (.cells #[.int .i64 c, .slice oa L.length oc] 74) = w4 at *
  clear hw4
  generalize hlen : L.length = l at *
  have HLEN := Lib.hid hlen
  clear hlen
  have HS5 := Lib.hid HS4.out.s3
  clear HS4
  refine (Bd.one_any 16 _ _ _ HS5.out.hd (by omega) (by omega)).mono ?_
  rintro e w5 ⟨bv, rfl, c5, g5⟩
  have HS6 := Lib.hid (HS5.out.draw c5 g5)
  clear c5 g5
  cases bv
  · go_wp2_with fail
    have HS7 := Lib.hid ((HS6.out.box #[.int .i64 sz, .slice none 0 0] 39).s2)
    generalize w5.heap.size = mb at *
    generalize w5.alloc (.cells #[.int .i64 sz, .slice none 0 0] 39) = w6 at *
    refine (Bd.pick_any 6 _ _ _ HS7.out.hd (by omega) (by omega)).mono ?_
    rintro e w7 ⟨x, rfl, ⟨x0, x1⟩, c7, g7⟩
    obtain ⟨x, rfl⟩ := Int.eq_ofNat_of_zero_le x0
    have hx6 : x < 6 := by omega
    have HS8 := Lib.hid (HS7.out.draw c7 g7)
    clear c7 g7 x0 x1
    go_wp2_with fail
    go_loopw [10] (fun i wr => ∃ (j : Nat) (oa2 : Option Addr) (oc2 : Nat) (us : List Value) (M : List (List Int)), j ≤ x ∧ i = .int .i64 ((x : Int) - j) ∧ M.length = j ∧ (∀ row ∈ M, row.length ≤ 1000) ∧ Sep wr [CA N (N + 1 + 1) (40000000 + 3000 * j), OM (.slice oa2 j oc2) us M, BxA mb #[.int .i64 sz, .slice oa2 j oc2] 39, BxA s #[.int .i64 c, .slice oa l oc] 74, OM (.slice oa l oc) vs L, BxA (N + 1) #[.int .i64 0, .slice none 0 0] 39, BxA N #[.int .i64 0, .slice none 0 0] 74, KeepA w]) (fun i _ => (intOf i).toNat)
    case atStart => exact ⟨0, none, 0, [], [], by omega, by simp, rfl, fun r hr => by simp at hr, ((HS8.out.more (m := 40000000 + 3000 * ((0 : Nat) : Int)) (by omega)).nilM).s2⟩
    case round =>
      obtain ⟨j, oa2, oc2, us, M, hj, rfl, hml, hrow, hs⟩ := hrel
      have HML := Lib.hid hml; have HROW := Lib.hid hrow; have HX := Lib.hid hs
      obtain ⟨b0, b1, b2, b3⟩ := bx hs.s3.hd
      obtain ⟨d0, d1, d2, d3⟩ := bx hs.s4.hd
      clear hml hrow hs
      by_cases hlt : j < x
      · have hpos : (0 : Int) < (x : Int) - j := by omega
        have HD := Lib.hid HX.out.dr
        obtain ⟨e0, e1, e2, e3⟩ := bx HD.out.s3.hd
        have HML2 := Lib.hid (show M.length ≤ 1000 by have := HML.out; omega)
        go_wp2_with fail
        go_region_law (first
          | (try go_simp
             go_at_call 175
             go_loud (refine (elems_any p sz _ _ _ HD.out.hd (by omega) (by omega) (by omega) (by omega)).mono ?_)
             rintro e w9 ⟨o1, zs, rfl, ho1, hz, hok, c9, g9⟩
             obtain ⟨oa1, oc1, rfl⟩ := own_shape ho1
             have HZ := Lib.hid (show zs.length ≤ 1000 by omega)
             generalize hzl : zs.length = zl at *
             have HZL := Lib.hid hzl
             clear hzl
             have HS9 := Lib.hid ((HD.out.drawI c9 g9 ho1).s3.s2)
             obtain ⟨f0, f1, f2, f3⟩ := bx HS9.out.s4.hd
             have z0 := fun o => cell_alloc f0 o
             have z1 := fun o => cell_alloc f1 o
             clear ho1 hz hok c9 g9)
          | (go_loud (refine step_app_rowS rfl _ _ rfl rfl rfl HS9.out (by have := HML.out; omega) ?_)
             intro g3 c3 w10 h10
             rw [HML.out] at h10 ⊢
             have HS10 := Lib.hid h10
             obtain ⟨q0, q1, q2, q3⟩ := bx h10.s3.hd
             have HS11 := Lib.hid (h10.s3.setB 1 (.slice (some ⟨g3, 0, none⟩) (j + 1) c3))
             clear h10))
        all_goals
          go_wp2
          go_roundw
          case rel => exact ⟨j + 1, _, _, _, M ++ [zs], by omega, by rw [show (x : Int) - (j : Int) - 1 = (x : Int) - ((j + 1 : Nat) : Int) by omega], by rw [List.length_append, HML.out]; rfl, snoc_all HROW.out (by rw [HZL.out]; exact HZ.out), (HS11.out.s3.more (m := 40000000 + 3000 * ((j + 1 : Nat) : Int)) (by omega)).under (fun h => h.s2) (by simp +contextual)⟩
          case measure => simp [intOf]; omega
      · have hjx : j = x := by omega
        subst hjx
        have hpos : ¬ (0 : Int) < (j : Int) - j := by omega
        obtain ⟨k0, k1, k2, k3⟩ := bx HX.out.s7.hd
        obtain ⟨n0, n1, n2, n3⟩ := bx HX.out.s6.hd
        have HS9 := Lib.hid ((HX.out.s7.setB 0 (.int .i64 c)).setB 1 (.slice oa l oc))
        obtain ⟨i0, i1, _, _⟩ := bx HS9.out.s4.hd
        obtain ⟨i2, i3, _, _⟩ := bx HS9.out.s5.hd
        obtain ⟨m0, m1, m2, m3⟩ := bx HS9.out.s7.hd
        have HS10 := Lib.hid ((HS9.out.s7.setB 0 (.int .i64 sz)).setB 1 (.slice oa2 j oc2))
        obtain ⟨j0, j1, _, _⟩ := bx HS10.out.s5.hd
        obtain ⟨j2, j3, _, _⟩ := bx HS10.out.s6.hd
        have hs10 := HS10.out.dr
        have HF := Lib.hid (And.intro (hs10.s7.drop2.drop2.drop2.drop2.drop2.drop2.mat) (And.intro (hs10.s4.drop2.drop2.drop2.drop2.drop2.drop2.mat) (show w.grownBy _ none from hs10.tl.tl.tl.tl.tl.tl.tl.hd)))
        obtain ⟨v0, v1, v2, v3⟩ := bx hs10.hd
        obtain ⟨v4, v5, v6, v7⟩ := bx hs10.s2.hd
        clear hs10
        go_wp2_with fail
        go_region
        generalize ((((wr.setCell ⟨N, 0, none⟩ (.int .i64 c)).setCell ⟨N, 1, none⟩ (.slice oa l oc)).setCell ⟨N + 1, 0, none⟩ (.int .i64 sz)).setCell ⟨N + 1, 1, none⟩ (.slice oa2 j oc2)).drew = w11 at *
        go_wp2_with fail
        refine bodyPost_ret_by (v := .tuple #[.int .i64 p, .agg #[.int .i64 c, .slice oa l oc], .agg #[.int .i64 sz, .slice oa2 j oc2]]) ?_ rfl ?_
        · simp [results, go_sem, *]
        · exact ⟨p, c, sz, _, vs, L, _, us, M, rfl, HP.out, by omega, by omega, by omega, by omega, HF.out.1, by rw [HLEN.out]; exact HL.out, HLL.out, HF.out.2.1, by have := HML.out; omega, HROW.out, HF.out.2.2⟩
  · go_wp2_with fail
    have HS7 := Lib.hid ((HS6.out.box #[.int .i64 (sz + 1), .slice none 0 0] 39).s2)
    generalize w5.heap.size = mb at *
    generalize w5.alloc (.cells #[.int .i64 (sz + 1), .slice none 0 0] 39) = w6 at *
    refine (Bd.pick_any 6 _ _ _ HS7.out.hd (by omega) (by omega)).mono ?_
    rintro e w7 ⟨x, rfl, ⟨x0, x1⟩, c7, g7⟩
    obtain ⟨x, rfl⟩ := Int.eq_ofNat_of_zero_le x0
    have hx6 : x < 6 := by omega
    have HS8 := Lib.hid (HS7.out.draw c7 g7)
    clear c7 g7 x0 x1
    go_wp2_with fail
    go_loopw [10] (fun i wr => ∃ (j : Nat) (oa2 : Option Addr) (oc2 : Nat) (us : List Value) (M : List (List Int)), j ≤ x ∧ i = .int .i64 ((x : Int) - j) ∧ M.length = j ∧ (∀ row ∈ M, row.length ≤ 1000) ∧ Sep wr [CA N (N + 1 + 1) (40000000 + 3000 * j), OM (.slice oa2 j oc2) us M, BxA mb #[.int .i64 (sz + 1), .slice oa2 j oc2] 39, BxA s #[.int .i64 c, .slice oa l oc] 74, OM (.slice oa l oc) vs L, BxA (N + 1) #[.int .i64 0, .slice none 0 0] 39, BxA N #[.int .i64 0, .slice none 0 0] 74, KeepA w]) (fun i _ => (intOf i).toNat)
    case atStart => exact ⟨0, none, 0, [], [], by omega, by simp, rfl, fun r hr => by simp at hr, ((HS8.out.more (m := 40000000 + 3000 * ((0 : Nat) : Int)) (by omega)).nilM).s2⟩
    case round =>
      obtain ⟨j, oa2, oc2, us, M, hj, rfl, hml, hrow, hs⟩ := hrel
      have HML := Lib.hid hml; have HROW := Lib.hid hrow; have HX := Lib.hid hs
      obtain ⟨b0, b1, b2, b3⟩ := bx hs.s3.hd
      obtain ⟨d0, d1, d2, d3⟩ := bx hs.s4.hd
      clear hml hrow hs
      by_cases hlt : j < x
      · have hpos : (0 : Int) < (x : Int) - j := by omega
        have HD := Lib.hid HX.out.dr
        obtain ⟨e0, e1, e2, e3⟩ := bx HD.out.s3.hd
        have HML2 := Lib.hid (show M.length ≤ 1000 by have := HML.out; omega)
        go_wp2_with fail
        go_region_law (first
          | (try go_simp
             go_at_call 175
             go_loud (refine (elems_any p (sz + 1) _ _ _ HD.out.hd (by omega) (by omega) (by omega) (by omega)).mono ?_)
             rintro e w9 ⟨o1, zs, rfl, ho1, hz, hok, c9, g9⟩
             obtain ⟨oa1, oc1, rfl⟩ := own_shape ho1
             have HZ := Lib.hid (show zs.length ≤ 1000 by omega)
             generalize hzl : zs.length = zl at *
             have HZL := Lib.hid hzl
             clear hzl
             have HS9 := Lib.hid ((HD.out.drawI c9 g9 ho1).s3.s2)
             obtain ⟨f0, f1, f2, f3⟩ := bx HS9.out.s4.hd
             have z0 := fun o => cell_alloc f0 o
             have z1 := fun o => cell_alloc f1 o
             clear ho1 hz hok c9 g9)
          | (go_loud (refine step_app_rowS rfl _ _ rfl rfl rfl HS9.out (by have := HML.out; omega) ?_)
             intro g3 c3 w10 h10
             rw [HML.out] at h10 ⊢
             have HS10 := Lib.hid h10
             obtain ⟨q0, q1, q2, q3⟩ := bx h10.s3.hd
             have HS11 := Lib.hid (h10.s3.setB 1 (.slice (some ⟨g3, 0, none⟩) (j + 1) c3))
             clear h10))
        all_goals
          go_wp2
          go_roundw
          case rel => exact ⟨j + 1, _, _, _, M ++ [zs], by omega, by rw [show (x : Int) - (j : Int) - 1 = (x : Int) - ((j + 1 : Nat) : Int) by omega], by rw [List.length_append, HML.out]; rfl, snoc_all HROW.out (by rw [HZL.out]; exact HZ.out), (HS11.out.s3.more (m := 40000000 + 3000 * ((j + 1 : Nat) : Int)) (by omega)).under (fun h => h.s2) (by simp +contextual)⟩
          case measure => simp [intOf]; omega
      · have hjx : j = x := by omega
        subst hjx
        have hpos : ¬ (0 : Int) < (j : Int) - j := by omega
        obtain ⟨k0, k1, k2, k3⟩ := bx HX.out.s7.hd
        obtain ⟨n0, n1, n2, n3⟩ := bx HX.out.s6.hd
        have HS9 := Lib.hid ((HX.out.s7.setB 0 (.int .i64 c)).setB 1 (.slice oa l oc))
        obtain ⟨i0, i1, _, _⟩ := bx HS9.out.s4.hd
        obtain ⟨i2, i3, _, _⟩ := bx HS9.out.s5.hd
        obtain ⟨m0, m1, m2, m3⟩ := bx HS9.out.s7.hd
        have HS10 := Lib.hid ((HS9.out.s7.setB 0 (.int .i64 (sz + 1))).setB 1 (.slice oa2 j oc2))
        obtain ⟨j0, j1, _, _⟩ := bx HS10.out.s5.hd
        obtain ⟨j2, j3, _, _⟩ := bx HS10.out.s6.hd
        have hs10 := HS10.out.dr
        have HF := Lib.hid (And.intro (hs10.s7.drop2.drop2.drop2.drop2.drop2.drop2.mat) (And.intro (hs10.s4.drop2.drop2.drop2.drop2.drop2.drop2.mat) (show w.grownBy _ none from hs10.tl.tl.tl.tl.tl.tl.tl.hd)))
        obtain ⟨v0, v1, v2, v3⟩ := bx hs10.hd
        obtain ⟨v4, v5, v6, v7⟩ := bx hs10.s2.hd
        clear hs10
        go_wp2_with fail
        go_region
        generalize ((((wr.setCell ⟨N, 0, none⟩ (.int .i64 c)).setCell ⟨N, 1, none⟩ (.slice oa l oc)).setCell ⟨N + 1, 0, none⟩ (.int .i64 (sz + 1))).setCell ⟨N + 1, 1, none⟩ (.slice oa2 j oc2)).drew = w11 at *
        go_wp2_with fail
        refine bodyPost_ret_by (v := .tuple #[.int .i64 p, .agg #[.int .i64 c, .slice oa l oc], .agg #[.int .i64 (sz + 1), .slice oa2 j oc2]]) ?_ rfl ?_
        · simp [results, go_sem, *]
        · exact ⟨p, c, (sz + 1), _, vs, L, _, us, M, rfl, HP.out, by omega, by omega, by omega, by omega, HF.out.1, by rw [HLEN.out]; exact HL.out, HLL.out, HF.out.2.1, by have := HML.out; omega, HROW.out, HF.out.2.2⟩
end Go.Proofs.YtpeaeminjbjlnaaDoor

/-
  Lists that are compared with themselves. Conditions: small sizes.
-/
namespace Go.Proofs.YtpeaeminjbjlnaaDoor
open Go.RowKit
set_option linter.unusedVariables false

theorem same_self (v1 v2 : Value) (x : List Int) (w : World) (h1 : IntsV w v1 x) (h2 : IntsV w v2 x) (l1 : x.length ≤ 1000000000) :
    Calls Tryd.prog 17 #[v1, v2] w fun e w' => e = .returned (.bool true) ∧ w.grownBy w' none := by
  refine (sameInts_q v1 v2 x x w h1 h2 l1 l1).mono ?_
  rintro e w' ⟨rfl, q, rfl⟩
  exact ⟨by simp, grown_drewN _ _⟩


theorem colTo_bd {q : Nat} (C : List Int) (L : List (List Int)) (j k : Nat) (hq : (1 : Int) ≤ q) : 0 ≤ colTo q C L j k ∧ colTo q C L j k < q := by
  cases k with
  | zero => simp only [colTo]; omega
  | succ k => exact ⟨Int.emod_nonneg _ (by omega), Int.emod_lt_of_pos _ (by omega)⟩
theorem same_selfL (v1 v2 : Value) (x : List (List Int)) (w : World) (h1 : MatV w v1 x) (h2 : MatV w v2 x) (l1 : x.length ≤ 1000000) (m1 : ∀ row ∈ x, row.length ≤ 1000000) :
    Calls Tryd.prog 53 #[v1, v2] w fun e w' => e = .returned (.bool true) ∧ w.grownBy w' none := by
  refine (sameLists_q v1 v2 x x w h1 h2 l1 l1 m1 m1).mono ?_
  rintro e w' ⟨rfl, q, rfl⟩
  exact ⟨by simp, grown_drewN _ _⟩
theorem nil_mat' (w : World) : MatV w (.slice none 0 0) [] := ⟨none, 0, rfl, fun h => absurd rfl h⟩
end Go.Proofs.YtpeaeminjbjlnaaDoor

/-
  The laws' test of the lengths. Conditions: none.
-/
namespace Go.Proofs.YtpeaeminjbjlnaaDoor
open Go.RowKit
set_option linter.unusedVariables false

def Gives (v : Value) (w : World) (e : Ending) (w' : World) : Prop := e = .returned v ∧ w.grownBy w' none
theorem Gives.mono {v v' : Value} {w w' : World} {e : Ending} (h : Gives v w e w') (hv : v = v') : Gives v' w e w' := by subst hv; exact h

def bigB (l m : Nat) : Bool := decide (1048576 < (l : Int)) || decide (1048576 - (l : Int) < m)
theorem bigB_no {l m : Nat} (h : bigB l m = false) : l ≤ 1048576 ∧ m ≤ 1048576 := by
  unfold bigB at h
  rw [Bool.or_eq_false_iff, decide_eq_false_iff_not, decide_eq_false_iff_not] at h
  omega
theorem big_any (a b : Option Addr) (l m c d : Nat) (w : World) (hl : l ≤ 9223372036854775807) (hm : m ≤ 9223372036854775807) : Calls Tryd.prog 13 #[.slice a l c, .slice b m d] w fun e w' => e = .returned (.bool (bigB l m)) ∧ w = w' := by
  by_cases h1 : 1048576 < (l : Int)
  · have HF := Lib.hid (show bigB l m = true by unfold bigB; simp only [h1, decide_true, Bool.true_or])
    go_enter Tryd.func13, Tryd.ntmps13
    go_wp2
    go_ret
    exact ⟨by rw [HF.out]; rfl, rfl⟩
  · have hd : decide (1048576 < (l : Int)) = false := by simpa using h1
    by_cases h2 : 1048576 - (l : Int) < m
    · have HF := Lib.hid (show bigB l m = true by unfold bigB; simp only [h2, decide_true, Bool.or_true])
      go_enter Tryd.func13, Tryd.ntmps13
      go_wp2
      go_ret
      exact ⟨by rw [HF.out]; rfl, rfl⟩
    · have hd2 : decide (1048576 - (l : Int) < m) = false := by simpa using h2
      have HF := Lib.hid (show bigB l m = false by unfold bigB; rw [hd, hd2]; rfl)
      go_enter Tryd.func13, Tryd.ntmps13
      go_wp2
      go_ret
      exact ⟨by rw [HF.out]; rfl, rfl⟩

end Go.Proofs.YtpeaeminjbjlnaaDoor

/-
  The law on spaces: its walk. Conditions: both arguments read as bytes; the table of small primes holds what its text lays.
-/
namespace Go.Proofs.YtpeaeminjbjlnaaDoor
open Go.RowKit
set_option linter.unusedVariables false

set_option maxRecDepth 100000 in
set_option maxHeartbeats 4000000 in
theorem fnSpaces_any (cv mv : Value) (w : World) (hc : CodeRaw w cv) (hm : CodeRaw w mv) (ht : Tab w) : Calls Tryd.prog 7 #[cv, mv] w (Gives (.bool true) w) := by
  have HT := Lib.hid ht
  obtain ⟨a1, l1, c1, rfl, hl1, hx1⟩ := hc
  obtain ⟨a2, l2, c2, rfl, hl2, hx2⟩ := hm
  have HX1 := Lib.hid hx1
  have HX2 := Lib.hid hx2
  clear ht hx1 hx2
  cases hbig : bigB l1 l2
  case true =>
    go_enter Tryd.func7, Tryd.ntmps7
    go_wp2_with (go_at_call 13; refine (big_any _ _ _ _ _ _ _ hl1 hl2).mono ?_; rintro e w' ⟨rfl, rfl⟩)
    go_ret
    exact ⟨rfl, grownBy_refl _ _⟩
  case false =>
    obtain ⟨b1, b2⟩ := bigB_no hbig
    have HC := Lib.hid (show CodeAt w (.slice a1 l1 c1) from ⟨a1, l1, c1, rfl, by omega, HX1.out⟩)
    have HM := Lib.hid (show CodeAt w (.slice a2 l2 c2) from ⟨a2, l2, c2, rfl, by omega, HX2.out⟩)
    clear b1 b2
    go_enter Tryd.func7, Tryd.ntmps7
    go_wp2_with fail
    refine (big_any _ _ _ _ _ _ _ hl1 hl2).mono ?_
    rintro e w' ⟨rfl, rfl⟩
    go_wp2_with fail
    refine (drawSumOf_any _ _ HC.out).mono ?_
    rintro e w1 ⟨p, c, d, o, vs, L, u, us, M, rfl, hp, hc0, hc1, hd0, hd1, ho, hl, hll, hu, hm, hmm, g1⟩
    have hpb := anyP_bd hp
    obtain ⟨oa, oc, hoe, _, _⟩ := own_form ho
    subst hoe
    obtain ⟨ua, uc, hue, _, _⟩ := own_form hu
    subst hue
    obtain ⟨c, rfl⟩ := Int.eq_ofNat_of_zero_le hc0
    obtain ⟨d, rfl⟩ := Int.eq_ofNat_of_zero_le hd0
    unfold mxV
    generalize hlen : L.length = l at *
    generalize hmen : M.length = m at *
    have hsp := spc1 (p := p) (c := c) (d := d) (HT.out.grown (g1.trans ((grownBy_alloc w1 (.cells #[.int .i64 c, .slice oa l oc] 74) none).trans (grownBy_alloc (w1.alloc (.cells #[.int .i64 c, .slice oa l oc] 74)) (.cells #[.int .i64 d, .slice ua m uc] 74) none)))) (ho.read.carry ((grownBy_alloc w1 _ none).trans (grownBy_alloc _ _ none))) (hu.read.carry ((grownBy_alloc w1 _ none).trans (grownBy_alloc _ _ none))) (by rw [hlen]; exact hl) hll (by rw [hmen]; exact hm) hmm (by omega) (by omega)
    have hga := (grownBy_alloc w1 (.cells #[.int .i64 c, .slice oa l oc] 74) none).trans (grownBy_alloc (w1.alloc (.cells #[.int .i64 c, .slice oa l oc] 74)) (.cells #[.int .i64 d, .slice ua m uc] 74) none)
    have HU := Lib.hid (ho.read.carry hga)
    have HGW := Lib.hid (g1.trans hga)
    have HB0 := Lib.hid fun W (h : ((w1.alloc (.cells #[.int .i64 c, .slice oa l oc] 74)).alloc (.cells #[.int .i64 d, .slice ua m uc] 74)).grownBy W none) => And.intro (bx_on (alloc_heap_new w1 (.cells #[.int .i64 c, .slice oa l oc] 74)) ((grownBy_alloc _ _ none).trans h)) (bx_on (alloc_heap_new (w1.alloc (.cells #[.int .i64 c, .slice oa l oc] 74)) (.cells #[.int .i64 d, .slice ua m uc] 74)) h)
    rw [show (w1.alloc (.cells #[.int .i64 c, .slice oa l oc] 74)).heap.size = w1.heap.size + 1 by simp] at HB0
    go_wp2_with fail
    generalize (w1.alloc (.cells #[.int .i64 c, .slice oa l oc] 74)).alloc (.cells #[.int .i64 d, .slice ua m uc] 74) = W2 at *
    have G0 := Lib.hid (grownBy_refl W2 none)
    have fb := HB0.out _ (grownBy_refl _ _)
    obtain ⟨y00, y01, _, _⟩ := bx fb.1
    obtain ⟨y02, y03, _, _⟩ := bx fb.2
    have HLL := Lib.hid hll; have HLEN := Lib.hid hlen; have HMEN := Lib.hid hmen
    clear hp ho hl hll hu hm hmm g1 hga fb hlen hmen hc0 hd0 hc1 hd1
    rcases hsp with hs | ⟨q, k, S, ME, X, Y, Z, rfl, hck, hdk, hs, hS, hME, hZ, hL, hsum⟩
    · obtain ⟨H1, H2⟩ := hs
      have H1 := Lib.hid H1; have H2 := Lib.hid H2
      unfold mxV nilS at H1 H2
      have HNIL := Lib.hid (show ([] : List (List Int)).length ≤ 1000000 ∧ ∀ row ∈ ([] : List (List Int)), row.length ≤ 1000000 from ⟨by simp, fun r hr => by simp at hr⟩)
      go_wp2_with (first
        | (go_at_call 51
           go_loud (with_reducible refine (H1.out _ G0.out).mono ?_)
           rintro e v1 ⟨rfl, g⟩
           have ga := g.trans (grownBy_alloc v1 (.cells #[.int .i64 0, .slice none 0 0] 74) none)
           have HB1 := Lib.hid fun W (h : (v1.alloc (.cells #[.int .i64 0, .slice none 0 0] 74)).grownBy W none) => And.intro (bx_on (alloc_heap_new v1 _) h) (And.intro (nil_mat' W) (HB0.out W (ga.trans h)))
           have G1 := Lib.hid (G0.out.trans ga)
           have fb := HB1.out _ (grownBy_refl _ _)
           obtain ⟨y1A0, y1A1, _, _⟩ := bx fb.2.2.1
           obtain ⟨y1B0, y1B1, _, _⟩ := bx fb.2.2.2
           clear g ga fb)
        | (go_at_call 52
           go_loud (with_reducible refine (H2.out _ G1.out).mono ?_)
           rintro e v2 ⟨rfl, g⟩
           have ga := g.trans (grownBy_alloc v2 (.cells #[.int .i64 0, .slice none 0 0] 74) none)
           have HB2 := Lib.hid fun W (h : (v2.alloc (.cells #[.int .i64 0, .slice none 0 0] 74)).grownBy W none) => And.intro (bx_on (alloc_heap_new v2 _) h) (And.intro (nil_mat' W) (HB1.out W (ga.trans h)))
           have G2 := Lib.hid (G1.out.trans ga)
           have fb := HB2.out _ (grownBy_refl _ _)
           obtain ⟨y2S0, y2S1, _, _⟩ := bx fb.2.2.1
           obtain ⟨y2T0, y2T1, _, _⟩ := bx fb.1
           clear g ga fb)
        | (go_at_call 53
           go_loud (with_reducible refine (same_selfL _ _ [] _ (nil_mat' _) (nil_mat' _) HNIL.out.1 HNIL.out.2).mono ?_)
           rintro e v3 ⟨rfl, g⟩
           have HB3 := Lib.hid fun W (h : v3.grownBy W none) => HB2.out W (g.trans h)
           have G3 := Lib.hid (G2.out.trans g)
           have fb := HB3.out _ (grownBy_refl _ _)

           clear g fb))
      refine (drawPreimageOf_any _ _ (HM.out.carry (HGW.out.trans G3.out))).mono ?_
      rintro e z1 ⟨p2, c2, d2, o2, vs2, L2, u2, us2, M2, rfl, hp2, hc0, hc1, hd0, hd1, ho, hl, hll, hu, hm, hmm, sg⟩
      have hpb2 := anyP_bd hp2
      have hgd := HT.out.grown (HGW.out.trans (G3.out.trans sg))
      obtain ⟨oa2, oc2, hoe, _, _⟩ := own_form ho
      subst hoe
      obtain ⟨ua2, uc2, hue, _, _⟩ := own_form hu
      subst hue
      obtain ⟨c2, rfl⟩ := Int.eq_ofNat_of_zero_le hc0
      obtain ⟨d2, rfl⟩ := Int.eq_ofNat_of_zero_le hd0
      unfold mxV
      generalize hlen2 : L2.length = l2' at *
      generalize hmen2 : M2.length = m2 at *
      have hga := (grownBy_alloc z1 (.cells #[.int .i64 c2, .slice oa2 l2' oc2] 74) none).trans (grownBy_alloc (z1.alloc (.cells #[.int .i64 c2, .slice oa2 l2' oc2] 74)) (.cells #[.int .i64 d2, .slice ua2 m2 uc2] 39) none)
      have hsp2 := spc2 (p := p2) (c := c2) (d := d2) (hgd.grown hga) (ho.read.carry hga) (hu.read.carry hga) (by rw [hlen2]; exact hl) hll (by rw [hmen2]; exact hm) hmm (by omega) (by omega)
      have HX0 := Lib.hid ((HGW.out.trans (G3.out.trans sg)).trans hga)
      have HB20 := Lib.hid fun W (h : ((z1.alloc (.cells #[.int .i64 c2, .slice oa2 l2' oc2] 74)).alloc (.cells #[.int .i64 d2, .slice ua2 m2 uc2] 39)).grownBy W none) => And.intro (bx_on (alloc_heap_new z1 (.cells #[.int .i64 c2, .slice oa2 l2' oc2] 74)) ((grownBy_alloc _ _ none).trans h)) (bx_on (alloc_heap_new (z1.alloc (.cells #[.int .i64 c2, .slice oa2 l2' oc2] 74)) (.cells #[.int .i64 d2, .slice ua2 m2 uc2] 39)) h)
      rw [show (z1.alloc (.cells #[.int .i64 c2, .slice oa2 l2' oc2] 74)).heap.size = z1.heap.size + 1 by simp] at HB20
      go_wp2_with fail
      generalize (z1.alloc (.cells #[.int .i64 c2, .slice oa2 l2' oc2] 74)).alloc (.cells #[.int .i64 d2, .slice ua2 m2 uc2] 39) = Z2 at *
      have G20 := Lib.hid (grownBy_refl Z2 none)
      have fb := HB20.out _ (grownBy_refl _ _)
      obtain ⟨x00, x01, _, _⟩ := bx fb.1
      obtain ⟨x02, x03, _, _⟩ := bx fb.2
      clear hp2 ho hl hll hu hm hmm sg hga fb hlen2 hmen2 hc0 hd0 hc1 hd1 hgd
      rcases hsp2 with hs2 | ⟨q2, k2, n2, R, I, rfl, hck2, hdk2, hs2, hR, hI⟩
      · obtain ⟨K1, K2⟩ := hs2
        have K1 := Lib.hid K1; have K2 := Lib.hid K2
        unfold mxV nilS at K1 K2
        have HNIL := Lib.hid (show ([] : List (List Int)).length ≤ 1000000 ∧ ∀ row ∈ ([] : List (List Int)), row.length ≤ 1000000 from ⟨by simp, fun r hr => by simp at hr⟩)
        go_wp2_with (first
          | (go_at_call 58
             go_loud (with_reducible refine (K1.out _ G20.out).mono ?_)
             rintro e v21 ⟨rfl, g⟩
             have ga := g.trans (grownBy_alloc v21 (.cells #[.int .i64 0, .slice none 0 0] 74) none)
             have HB21 := Lib.hid fun W (h : (v21.alloc (.cells #[.int .i64 0, .slice none 0 0] 74)).grownBy W none) => And.intro (bx_on (alloc_heap_new v21 _) h) (And.intro (nil_mat' W) (HB20.out W (ga.trans h)))
             have G21 := Lib.hid (G20.out.trans ga)
             have fb := HB21.out _ (grownBy_refl _ _)
             obtain ⟨y21C0, y21C1, _, _⟩ := bx fb.2.2.1
             obtain ⟨y21D0, y21D1, _, _⟩ := bx fb.2.2.2
             clear g ga fb)
          | (go_at_call 59
             go_loud (with_reducible refine (K2.out _ G21.out).mono ?_)
             rintro e v22 ⟨rfl, g⟩
             have ga := g.trans (grownBy_alloc v22 (.cells #[.int .i64 0, .slice none 0 0] 74) none)
             have HB22 := Lib.hid fun W (h : (v22.alloc (.cells #[.int .i64 0, .slice none 0 0] 74)).grownBy W none) => And.intro (bx_on (alloc_heap_new v22 _) h) (And.intro (nil_mat' W) (HB21.out W (ga.trans h)))
             have G22 := Lib.hid (G21.out.trans ga)
             have fb := HB22.out _ (grownBy_refl _ _)
             obtain ⟨y22P0, y22P1, _, _⟩ := bx fb.2.2.1
             obtain ⟨y22Q0, y22Q1, _, _⟩ := bx fb.1
             clear g ga fb)
          | (go_at_call 53
             go_loud (with_reducible refine (same_selfL _ _ [] _ (nil_mat' _) (nil_mat' _) HNIL.out.1 HNIL.out.2).mono ?_)
             rintro e v23 ⟨rfl, g⟩
             have HB23 := Lib.hid fun W (h : v23.grownBy W none) => HB22.out W (g.trans h)
             have G23 := Lib.hid (G22.out.trans g)
             have fb := HB23.out _ (grownBy_refl _ _)

             clear g fb))
        go_ret
        exact ⟨rfl, HX0.out.trans G23.out⟩
      · obtain rfl : c2 = k2 := by omega
        obtain rfl : d2 = c2 := by omega
        obtain ⟨K1, K2, K3, K4⟩ := hs2
        have K1 := Lib.hid K1; have K2 := Lib.hid K2; have K3 := Lib.hid K3; have K4 := Lib.hid K4
        unfold mxV at K1 K2 K3 K4
        have HSR := Lib.hid (show R.length ≤ 1000000 ∧ ∀ row ∈ R, row.length ≤ 1000000 from ⟨Nat.le_trans hR.1 (by decide), fun row hr => Nat.le_trans (hR.2 row hr) (by decide)⟩)
        have hi24 := hI.1
        clear hR hI
        generalize hlr : R.length = lr at *
        have LR := Lib.hid hlr
        generalize hli : I.length = li at *
        have LI := Lib.hid hli
        clear hlr hli
        go_wp2_with (first
          | (go_at_call 58
             go_loud (with_reducible refine (K1.out _ G20.out).mono ?_)
             rintro e v21 ⟨o21, rfl, hm, g⟩
             obtain ⟨xa21, xc21, rfl⟩ := hm.shape
             rw [LR.out] at hm ⊢
             have ga := g.trans (grownBy_alloc v21 (.cells #[.int .i64 n2, .slice xa21 lr xc21] 74) none)
             have HB21 := Lib.hid fun W (h : (v21.alloc (.cells #[.int .i64 n2, .slice xa21 lr xc21] 74)).grownBy W none) => And.intro (bx_on (alloc_heap_new v21 _) h) (And.intro (hm.carry ((grownBy_alloc v21 _ none).trans h)) (HB20.out W (ga.trans h)))
             have G21 := Lib.hid (G20.out.trans ga)
             have fb := HB21.out _ (grownBy_refl _ _)
             obtain ⟨y21C0, y21C1, _, _⟩ := bx fb.2.2.1
             obtain ⟨y21D0, y21D1, _, _⟩ := bx fb.2.2.2
             clear hm g ga fb)
          | (go_at_call 59
             go_loud (with_reducible refine (K2.out _ G21.out).mono ?_)
             rintro e v22 ⟨o22, rfl, hm, g⟩
             obtain ⟨xa22, xc22, rfl⟩ := hm.shape
             rw [LR.out] at hm ⊢
             have ga := g.trans (grownBy_alloc v22 (.cells #[.int .i64 n2, .slice xa22 lr xc22] 74) none)
             have HB22 := Lib.hid fun W (h : (v22.alloc (.cells #[.int .i64 n2, .slice xa22 lr xc22] 74)).grownBy W none) => And.intro (bx_on (alloc_heap_new v22 _) h) (And.intro (hm.carry ((grownBy_alloc v22 _ none).trans h)) (HB21.out W (ga.trans h)))
             have G22 := Lib.hid (G21.out.trans ga)
             have fb := HB22.out _ (grownBy_refl _ _)
             obtain ⟨y22P0, y22P1, _, _⟩ := bx fb.2.2.1
             obtain ⟨y22Q0, y22Q1, _, _⟩ := bx fb.1
             clear hm g ga fb)
          | (go_at_call 53
             go_loud (with_reducible refine (same_selfL _ _ R _ ((HB22.out _ (grownBy_refl _ _)).2.2.2.1) ((HB22.out _ (grownBy_refl _ _)).2.1) (by rw [LR.out]; exact HSR.out.1) HSR.out.2).mono ?_)
             rintro e v23 ⟨rfl, g⟩
             have HB23 := Lib.hid fun W (h : v23.grownBy W none) => HB22.out W (g.trans h)
             have G23 := Lib.hid (G22.out.trans g)
             have fb := HB23.out _ (grownBy_refl _ _)
             obtain ⟨y23P0, y23P1, _, _⟩ := bx fb.2.2.1
             obtain ⟨y23D0, y23D1, _, _⟩ := bx fb.2.2.2.2.2
             clear g fb)
          | (go_at_call 60
             go_loud (with_reducible refine (K3.out _ _ G23.out (HB23.out _ (grownBy_refl _ _)).2.2.2.1).mono ?_)
             rintro e v24 ⟨o24, rfl, hm, g⟩
             obtain ⟨xa24, xc24, rfl⟩ := hm.shape
             rw [LI.out] at hm ⊢
             have ga := g.trans (grownBy_alloc v24 (.cells #[.int .i64 d2, .slice xa24 li xc24] 74) none)
             have HB24 := Lib.hid fun W (h : (v24.alloc (.cells #[.int .i64 d2, .slice xa24 li xc24] 74)).grownBy W none) => And.intro (bx_on (alloc_heap_new v24 _) h) (And.intro (hm.carry ((grownBy_alloc v24 _ none).trans h)) (HB23.out W (ga.trans h)))
             have G24 := Lib.hid (G23.out.trans ga)
             have fb := HB24.out _ (grownBy_refl _ _)
             obtain ⟨y24J0, y24J1, _, _⟩ := bx fb.1
             clear hm g ga fb))
        go_loopw [263] (fun i wr => ∃ t : Nat, t ≤ li ∧ i = .int .i64 t ∧ (v24.alloc (.cells #[.int .i64 d2, .slice xa24 li xc24] 74)).grownBy wr none) (fun i _ => li - (intOf i).toNat)
        case atStart => exact ⟨0, by omega, rfl, grownBy_refl _ _⟩
        case round =>
          obtain ⟨t, htl, rfl, hg⟩ := hrel
          have HG := Lib.hid hg
          have fb := HB24.out _ hg
          obtain ⟨x04, x05, _, _⟩ := bx fb.2.2.2.2.2.2.1
          by_cases hlt : t < li
          · have hti : t < I.length := by rw [LI.out]; exact hlt
            obtain ⟨bb, bo, bcap, bml, br, bc, hbv, hcell, hrow⟩ := fb.2.1.rowK (grownBy_refl _ none) hti
            cases hbv
            have HK := Lib.hid (K4.out wr _ _ (G24.out.trans hg) (getD_mem hti) hrow)
            clear hg hrow fb
            generalize (I.getD t []).length = rlen at *
            go_wp2_with (
              go_at_call 56
              go_loud (with_reducible refine HK.out.mono ?_)
              rintro e v25 ⟨rfl, g⟩
              have HG5 := Lib.hid (HG.out.trans g)
              clear g)
            go_roundw
            case rel => exact ⟨t + 1, by omega, by go_num, HG5.out⟩
            case measure => simp [intOf]; omega
          · clear hg fb
            go_wp2
            go_ret
            exact ⟨rfl, HX0.out.trans (G24.out.trans HG.out)⟩
    · obtain rfl : c = k := by omega
      obtain rfl : d = c := by omega
      obtain ⟨H1, H2, H3, H4, H5, H6, H7, H8, H9, H10⟩ := hs
      have H1 := Lib.hid H1; have H2 := Lib.hid H2; have H3 := Lib.hid H3; have H4 := Lib.hid H4; have H5 := Lib.hid H5; have H6 := Lib.hid H6; have H7 := Lib.hid H7; have H8 := Lib.hid H8; have H9 := Lib.hid H9; have H10 := Lib.hid H10
      unfold mxV at H1 H2 H3 H4 H5 H6 H7 H8 H9 H10
      have big := fun (K : List (List Int)) (h : Small 24 K) => (show K.length ≤ 1000000 ∧ ∀ row ∈ K, row.length ≤ 1000000 from ⟨Nat.le_trans h.1 (by decide), fun row hr => Nat.le_trans (h.2 row hr) (by decide)⟩)
      have HSS := Lib.hid (big S hS); have HSZ := Lib.hid (big Z hZ); have HSL := Lib.hid (big L hL)
      have s24 := hS.1; have e24 := hME.1; have z24 := hZ.1; have l24 := hL.1
      clear big hS hME hZ hL
      rw [HLEN.out, HMEN.out] at hsum
      rw [HLEN.out] at l24
      generalize hls : S.length = ls at *
      have LS := Lib.hid hls
      generalize hle : ME.length = le at *
      have LE := Lib.hid hle
      generalize hlx : X.length = lx at *
      have LX := Lib.hid hlx
      generalize hly : Y.length = ly at *
      have LY := Lib.hid hly
      generalize hlz : Z.length = lz at *
      have LZ := Lib.hid hlz
      have LLL := HLEN
      clear hls hle hlx hly hlz
      have hsi : (ls : Int) + (le : Int) = (l : Int) + (m : Int) := by omega
      have hsb : ((ls : Int) + (le : Int) != (l : Int) + (m : Int)) = false := by rw [bne_eq_false_iff_eq]; exact hsi
      clear hsum
      go_wp2_with (first
        | (go_at_call 51
           go_loud (with_reducible refine (H1.out _ G0.out).mono ?_)
           rintro e v1 ⟨o1, rfl, hm, g⟩
           obtain ⟨xa1, xc1, rfl⟩ := hm.shape
           rw [LS.out] at hm ⊢
           have ga := g.trans (grownBy_alloc v1 (.cells #[.int .i64 d, .slice xa1 ls xc1] 74) none)
           have HB1 := Lib.hid fun W (h : (v1.alloc (.cells #[.int .i64 d, .slice xa1 ls xc1] 74)).grownBy W none) => And.intro (bx_on (alloc_heap_new v1 _) h) (And.intro (hm.carry ((grownBy_alloc v1 _ none).trans h)) (HB0.out W (ga.trans h)))
           have G1 := Lib.hid (G0.out.trans ga)
           have fb := HB1.out _ (grownBy_refl _ _)
           obtain ⟨y1A0, y1A1, _, _⟩ := bx fb.2.2.1
           obtain ⟨y1B0, y1B1, _, _⟩ := bx fb.2.2.2
           clear hm g ga fb)
        | (go_at_call 52
           go_loud (with_reducible refine (H2.out _ G1.out).mono ?_)
           rintro e v2 ⟨o2, rfl, hm, g⟩
           obtain ⟨xa2, xc2, rfl⟩ := hm.shape
           rw [LS.out] at hm ⊢
           have ga := g.trans (grownBy_alloc v2 (.cells #[.int .i64 d, .slice xa2 ls xc2] 74) none)
           have HB2 := Lib.hid fun W (h : (v2.alloc (.cells #[.int .i64 d, .slice xa2 ls xc2] 74)).grownBy W none) => And.intro (bx_on (alloc_heap_new v2 _) h) (And.intro (hm.carry ((grownBy_alloc v2 _ none).trans h)) (HB1.out W (ga.trans h)))
           have G2 := Lib.hid (G1.out.trans ga)
           have fb := HB2.out _ (grownBy_refl _ _)
           obtain ⟨y2S0, y2S1, _, _⟩ := bx fb.2.2.1
           obtain ⟨y2T0, y2T1, _, _⟩ := bx fb.1
           clear hm g ga fb)
        | (go_at_call 53
           go_loud (with_reducible refine (same_selfL _ _ S _ ((HB2.out _ (grownBy_refl _ _)).2.2.2.1) ((HB2.out _ (grownBy_refl _ _)).2.1) (by rw [LS.out]; exact HSS.out.1) HSS.out.2).mono ?_)
           rintro e v3 ⟨rfl, g⟩
           have HB3 := Lib.hid fun W (h : v3.grownBy W none) => HB2.out W (g.trans h)
           have G3 := Lib.hid (G2.out.trans g)
           have fb := HB3.out _ (grownBy_refl _ _)
           obtain ⟨y3A0, y3A1, _, _⟩ := bx fb.2.2.2.2.1
           obtain ⟨y3B0, y3B1, _, _⟩ := bx fb.2.2.2.2.2
           clear g fb)
        | (go_at_call 54
           go_loud (with_reducible refine (H3.out _ G3.out).mono ?_)
           rintro e v4 ⟨o4, rfl, hm, g⟩
           obtain ⟨xa4, xc4, rfl⟩ := hm.shape
           rw [LE.out] at hm ⊢
           have ga := g.trans (grownBy_alloc v4 (.cells #[.int .i64 d, .slice xa4 le xc4] 74) none)
           have HB4 := Lib.hid fun W (h : (v4.alloc (.cells #[.int .i64 d, .slice xa4 le xc4] 74)).grownBy W none) => And.intro (bx_on (alloc_heap_new v4 _) h) (And.intro (hm.carry ((grownBy_alloc v4 _ none).trans h)) (HB3.out W (ga.trans h)))
           have G4 := Lib.hid (G3.out.trans ga)
           have fb := HB4.out _ (grownBy_refl _ _)
           obtain ⟨y4A0, y4A1, _, _⟩ := bx fb.2.2.2.2.2.2.1
           clear hm g ga fb)
        | (go_at_call 55
           go_loud (with_reducible refine (H4.out _ G4.out).mono ?_)
           rintro e v5 ⟨o5, rfl, hm, g⟩
           obtain ⟨xa5, xc5, rfl⟩ := hm.shape
           rw [LX.out] at hm ⊢
           have ga := g.trans (grownBy_alloc v5 (.cells #[.int .i64 d, .slice xa5 lx xc5] 74) none)
           have HB5 := Lib.hid fun W (h : (v5.alloc (.cells #[.int .i64 d, .slice xa5 lx xc5] 74)).grownBy W none) => And.intro (bx_on (alloc_heap_new v5 _) h) (And.intro (hm.carry ((grownBy_alloc v5 _ none).trans h)) (HB4.out W (ga.trans h)))
           have G5 := Lib.hid (G4.out.trans ga)
           have fb := HB5.out _ (grownBy_refl _ _)
           obtain ⟨y5B0, y5B1, _, _⟩ := bx fb.2.2.2.2.2.2.2.2.2
           clear hm g ga fb)
        | (go_at_call 55
           go_loud (with_reducible refine (H5.out _ G5.out).mono ?_)
           rintro e v6 ⟨o6, rfl, hm, g⟩
           obtain ⟨xa6, xc6, rfl⟩ := hm.shape
           rw [LY.out] at hm ⊢
           have ga := g.trans (grownBy_alloc v6 (.cells #[.int .i64 d, .slice xa6 ly xc6] 74) none)
           have HB6 := Lib.hid fun W (h : (v6.alloc (.cells #[.int .i64 d, .slice xa6 ly xc6] 74)).grownBy W none) => And.intro (bx_on (alloc_heap_new v6 _) h) (And.intro (hm.carry ((grownBy_alloc v6 _ none).trans h)) (HB5.out W (ga.trans h)))
           have G6 := Lib.hid (G5.out.trans ga)
           have fb := HB6.out _ (grownBy_refl _ _)
           obtain ⟨y6S0, y6S1, _, _⟩ := bx fb.2.2.2.2.2.2.2.2.1
           clear hm g ga fb)
        | (go_at_call 55
           go_loud (with_reducible refine (H6.out _ _ G6.out (HB6.out _ (grownBy_refl _ _)).2.2.2.2.2.2.2.2.2.1).mono ?_)
           rintro e v7 ⟨o7, rfl, hm, g⟩
           obtain ⟨xa7, xc7, rfl⟩ := hm.shape
           rw [LZ.out] at hm ⊢
           have ga := g.trans (grownBy_alloc v7 (.cells #[.int .i64 d, .slice xa7 lz xc7] 74) none)
           have HB7 := Lib.hid fun W (h : (v7.alloc (.cells #[.int .i64 d, .slice xa7 lz xc7] 74)).grownBy W none) => And.intro (bx_on (alloc_heap_new v7 _) h) (And.intro (hm.carry ((grownBy_alloc v7 _ none).trans h)) (HB6.out W (ga.trans h)))
           have G7 := Lib.hid (G6.out.trans ga)
           have fb := HB7.out _ (grownBy_refl _ _)
           obtain ⟨y7X0, y7X1, _, _⟩ := bx fb.2.2.2.2.1
           obtain ⟨y7Y0, y7Y1, _, _⟩ := bx fb.2.2.1
           clear hm g ga fb)
        | (go_at_call 54
           go_loud (with_reducible refine (H7.out _ _ _ G7.out (HB7.out _ (grownBy_refl _ _)).2.2.2.2.2.1 (HB7.out _ (grownBy_refl _ _)).2.2.2.1).mono ?_)
           rintro e v8 ⟨o8, rfl, hm, g⟩
           obtain ⟨xa8, xc8, rfl⟩ := hm.shape
           rw [LZ.out] at hm ⊢
           have ga := g.trans (grownBy_alloc v8 (.cells #[.int .i64 d, .slice xa8 lz xc8] 74) none)
           have HB8 := Lib.hid fun W (h : (v8.alloc (.cells #[.int .i64 d, .slice xa8 lz xc8] 74)).grownBy W none) => And.intro (bx_on (alloc_heap_new v8 _) h) (And.intro (hm.carry ((grownBy_alloc v8 _ none).trans h)) (HB7.out W (ga.trans h)))
           have G8 := Lib.hid (G7.out.trans ga)
           have fb := HB8.out _ (grownBy_refl _ _)
           obtain ⟨y8X0, y8X1, _, _⟩ := bx fb.2.2.2.2.2.2.1
           clear hm g ga fb)
        | (go_at_call 55
           go_loud (with_reducible refine (H8.out _ _ G8.out (HB8.out _ (grownBy_refl _ _)).2.2.2.2.2.2.2.1).mono ?_)
           rintro e v9 ⟨o9, rfl, hm, g⟩
           obtain ⟨xa9, xc9, rfl⟩ := hm.shape
           rw [LLL.out] at hm ⊢
           have ga := g.trans (grownBy_alloc v9 (.cells #[.int .i64 d, .slice xa9 l xc9] 74) none)
           have HB9 := Lib.hid fun W (h : (v9.alloc (.cells #[.int .i64 d, .slice xa9 l xc9] 74)).grownBy W none) => And.intro (bx_on (alloc_heap_new v9 _) h) (And.intro (hm.carry ((grownBy_alloc v9 _ none).trans h)) (HB8.out W (ga.trans h)))
           have G9 := Lib.hid (G8.out.trans ga)
           have fb := HB9.out _ (grownBy_refl _ _)
           obtain ⟨y9V0, y9V1, _, _⟩ := bx fb.2.2.1
           obtain ⟨y9Z0, y9Z1, _, _⟩ := bx fb.2.2.2.2.1
           clear hm g ga fb)
        | (go_at_call 53
           go_loud (with_reducible refine (same_selfL _ _ Z _ ((HB9.out _ (grownBy_refl _ _)).2.2.2.1) ((HB9.out _ (grownBy_refl _ _)).2.2.2.2.2.1) (by rw [LZ.out]; exact HSZ.out.1) HSZ.out.2).mono ?_)
           rintro e v10 ⟨rfl, g⟩
           have HB10 := Lib.hid fun W (h : v10.grownBy W none) => HB9.out W (g.trans h)
           have G10 := Lib.hid (G9.out.trans g)
           have fb := HB10.out _ (grownBy_refl _ _)
           obtain ⟨y10U0, y10U1, _, _⟩ := bx fb.1
           obtain ⟨y10A0, y10A1, _, _⟩ := bx fb.2.2.2.2.2.2.2.2.2.2.2.2.2.2.2.2.1
           clear g fb)
        | (go_at_call 53
           go_loud (with_reducible refine (same_selfL _ _ L _ ((HB10.out _ (grownBy_refl _ _)).2.1) (HU.out.carry G10.out) HSL.out.1 HSL.out.2).mono ?_)
           rintro e v11 ⟨rfl, g⟩
           have HB11 := Lib.hid fun W (h : v11.grownBy W none) => HB10.out W (g.trans h)
           have G11 := Lib.hid (G10.out.trans g)
           have fb := HB11.out _ (grownBy_refl _ _)
           obtain ⟨y11S0, y11S1, _, _⟩ := bx fb.2.2.2.2.2.2.2.2.2.2.2.2.2.2.1
           obtain ⟨y11E0, y11E1, _, _⟩ := bx fb.2.2.2.2.2.2.2.2.2.2.1
           obtain ⟨y11A0, y11A1, _, _⟩ := bx fb.2.2.2.2.2.2.2.2.2.2.2.2.2.2.2.2.1
           obtain ⟨y11B0, y11B1, _, _⟩ := bx fb.2.2.2.2.2.2.2.2.2.2.2.2.2.2.2.2.2
           clear g fb))
      go_loopw [179] (fun i wr => ∃ t : Nat, t ≤ le ∧ i = .int .i64 t ∧ v11.grownBy wr none) (fun i _ => le - (intOf i).toNat)
      case atStart => exact ⟨0, by omega, rfl, grownBy_refl _ _⟩
      case round =>
        obtain ⟨t, htl, rfl, hg⟩ := hrel
        have HG := Lib.hid hg
        have fb := HB11.out _ hg
        obtain ⟨x04, x05, _, _⟩ := bx fb.2.2.2.2.2.2.2.2.2.2.2.2.2.2.2.2.1
        by_cases hlt : t < le
        · have hti : t < ME.length := by rw [LE.out]; exact hlt
          obtain ⟨bb, bo, bcap, bml, br, bc, hbv, hcell, hrow⟩ := fb.2.2.2.2.2.2.2.2.2.2.2.1.rowK (grownBy_refl _ none) hti
          cases hbv
          have HK := Lib.hid (H9.out wr _ _ (G11.out.trans hg) (getD_mem hti) hrow)
          have HK2 := Lib.hid fun W (h : wr.grownBy W none) => H10.out W _ _ (G11.out.trans (hg.trans h)) (getD_mem hti) (hrow.carry h)
          clear hg hrow fb
          generalize (ME.getD t []).length = rlen at *
          go_wp2_with (first
            | (go_at_call 56
               go_loud (with_reducible refine HK.out.mono ?_)
               rintro e v12 ⟨rfl, g⟩
               have E12 := Lib.hid g
               have HG5 := Lib.hid (HG.out.trans g)
               have fb := HB11.out _ (HG.out.trans g)
               obtain ⟨x06, x07, _, _⟩ := bx fb.2.2.2.2.2.2.2.2.2.2.2.2.2.2.2.2.2
               clear g fb)
            | (go_at_call 56
               go_loud (with_reducible refine (HK2.out _ E12.out).mono ?_)
               rintro e v13 ⟨rfl, g⟩
               have HG6 := Lib.hid (HG5.out.trans g)
               clear g))
          go_roundw
          case rel => exact ⟨t + 1, by omega, by go_num, HG6.out⟩
          case measure => simp [intOf]; omega
        · have G12 := Lib.hid (G11.out.trans hg)
          clear hg fb
          go_wp2_with fail
          refine (drawPreimageOf_any _ _ (HM.out.carry (HGW.out.trans G12.out))).mono ?_
          rintro e z1 ⟨p2, c2, d2, o2, vs2, L2, u2, us2, M2, rfl, hp2, hc0, hc1, hd0, hd1, ho, hl, hll, hu, hm, hmm, sg⟩
          have hpb2 := anyP_bd hp2
          have hgd := HT.out.grown (HGW.out.trans (G12.out.trans sg))
          obtain ⟨oa2, oc2, hoe, _, _⟩ := own_form ho
          subst hoe
          obtain ⟨ua2, uc2, hue, _, _⟩ := own_form hu
          subst hue
          obtain ⟨c2, rfl⟩ := Int.eq_ofNat_of_zero_le hc0
          obtain ⟨d2, rfl⟩ := Int.eq_ofNat_of_zero_le hd0
          unfold mxV
          generalize hlen2 : L2.length = l2' at *
          generalize hmen2 : M2.length = m2 at *
          have hga := (grownBy_alloc z1 (.cells #[.int .i64 c2, .slice oa2 l2' oc2] 74) none).trans (grownBy_alloc (z1.alloc (.cells #[.int .i64 c2, .slice oa2 l2' oc2] 74)) (.cells #[.int .i64 d2, .slice ua2 m2 uc2] 39) none)
          have hsp2 := spc2 (p := p2) (c := c2) (d := d2) (hgd.grown hga) (ho.read.carry hga) (hu.read.carry hga) (by rw [hlen2]; exact hl) hll (by rw [hmen2]; exact hm) hmm (by omega) (by omega)
          have HX0 := Lib.hid ((HGW.out.trans (G12.out.trans sg)).trans hga)
          have HB20 := Lib.hid fun W (h : ((z1.alloc (.cells #[.int .i64 c2, .slice oa2 l2' oc2] 74)).alloc (.cells #[.int .i64 d2, .slice ua2 m2 uc2] 39)).grownBy W none) => And.intro (bx_on (alloc_heap_new z1 (.cells #[.int .i64 c2, .slice oa2 l2' oc2] 74)) ((grownBy_alloc _ _ none).trans h)) (bx_on (alloc_heap_new (z1.alloc (.cells #[.int .i64 c2, .slice oa2 l2' oc2] 74)) (.cells #[.int .i64 d2, .slice ua2 m2 uc2] 39)) h)
          rw [show (z1.alloc (.cells #[.int .i64 c2, .slice oa2 l2' oc2] 74)).heap.size = z1.heap.size + 1 by simp] at HB20
          go_wp2_with fail
          generalize (z1.alloc (.cells #[.int .i64 c2, .slice oa2 l2' oc2] 74)).alloc (.cells #[.int .i64 d2, .slice ua2 m2 uc2] 39) = Z2 at *
          have G20 := Lib.hid (grownBy_refl Z2 none)
          have fb := HB20.out _ (grownBy_refl _ _)
          obtain ⟨x00, x01, _, _⟩ := bx fb.1
          obtain ⟨x02, x03, _, _⟩ := bx fb.2
          clear hp2 ho hl hll hu hm hmm sg hga fb hlen2 hmen2 hc0 hd0 hc1 hd1 hgd
          rcases hsp2 with hs2 | ⟨q2, k2, n2, R, I, rfl, hck2, hdk2, hs2, hR, hI⟩
          · obtain ⟨K1, K2⟩ := hs2
            have K1 := Lib.hid K1; have K2 := Lib.hid K2
            unfold mxV nilS at K1 K2
            have HNIL := Lib.hid (show ([] : List (List Int)).length ≤ 1000000 ∧ ∀ row ∈ ([] : List (List Int)), row.length ≤ 1000000 from ⟨by simp, fun r hr => by simp at hr⟩)
            go_wp2_with (first
              | (go_at_call 58
                 go_loud (with_reducible refine (K1.out _ G20.out).mono ?_)
                 rintro e v21 ⟨rfl, g⟩
                 have ga := g.trans (grownBy_alloc v21 (.cells #[.int .i64 0, .slice none 0 0] 74) none)
                 have HB21 := Lib.hid fun W (h : (v21.alloc (.cells #[.int .i64 0, .slice none 0 0] 74)).grownBy W none) => And.intro (bx_on (alloc_heap_new v21 _) h) (And.intro (nil_mat' W) (HB20.out W (ga.trans h)))
                 have G21 := Lib.hid (G20.out.trans ga)
                 have fb := HB21.out _ (grownBy_refl _ _)
                 obtain ⟨y21C0, y21C1, _, _⟩ := bx fb.2.2.1
                 obtain ⟨y21D0, y21D1, _, _⟩ := bx fb.2.2.2
                 clear g ga fb)
              | (go_at_call 59
                 go_loud (with_reducible refine (K2.out _ G21.out).mono ?_)
                 rintro e v22 ⟨rfl, g⟩
                 have ga := g.trans (grownBy_alloc v22 (.cells #[.int .i64 0, .slice none 0 0] 74) none)
                 have HB22 := Lib.hid fun W (h : (v22.alloc (.cells #[.int .i64 0, .slice none 0 0] 74)).grownBy W none) => And.intro (bx_on (alloc_heap_new v22 _) h) (And.intro (nil_mat' W) (HB21.out W (ga.trans h)))
                 have G22 := Lib.hid (G21.out.trans ga)
                 have fb := HB22.out _ (grownBy_refl _ _)
                 obtain ⟨y22P0, y22P1, _, _⟩ := bx fb.2.2.1
                 obtain ⟨y22Q0, y22Q1, _, _⟩ := bx fb.1
                 clear g ga fb)
              | (go_at_call 53
                 go_loud (with_reducible refine (same_selfL _ _ [] _ (nil_mat' _) (nil_mat' _) HNIL.out.1 HNIL.out.2).mono ?_)
                 rintro e v23 ⟨rfl, g⟩
                 have HB23 := Lib.hid fun W (h : v23.grownBy W none) => HB22.out W (g.trans h)
                 have G23 := Lib.hid (G22.out.trans g)
                 have fb := HB23.out _ (grownBy_refl _ _)

                 clear g fb))
            go_ret
            exact ⟨rfl, HX0.out.trans G23.out⟩
          · obtain rfl : c2 = k2 := by omega
            obtain rfl : d2 = c2 := by omega
            obtain ⟨K1, K2, K3, K4⟩ := hs2
            have K1 := Lib.hid K1; have K2 := Lib.hid K2; have K3 := Lib.hid K3; have K4 := Lib.hid K4
            unfold mxV at K1 K2 K3 K4
            have HSR := Lib.hid (show R.length ≤ 1000000 ∧ ∀ row ∈ R, row.length ≤ 1000000 from ⟨Nat.le_trans hR.1 (by decide), fun row hr => Nat.le_trans (hR.2 row hr) (by decide)⟩)
            have hi24 := hI.1
            clear hR hI
            generalize hlr : R.length = lr at *
            have LR := Lib.hid hlr
            generalize hli : I.length = li at *
            have LI := Lib.hid hli
            clear hlr hli
            go_wp2_with (first
              | (go_at_call 58
                 go_loud (with_reducible refine (K1.out _ G20.out).mono ?_)
                 rintro e v21 ⟨o21, rfl, hm, g⟩
                 obtain ⟨xa21, xc21, rfl⟩ := hm.shape
                 rw [LR.out] at hm ⊢
                 have ga := g.trans (grownBy_alloc v21 (.cells #[.int .i64 n2, .slice xa21 lr xc21] 74) none)
                 have HB21 := Lib.hid fun W (h : (v21.alloc (.cells #[.int .i64 n2, .slice xa21 lr xc21] 74)).grownBy W none) => And.intro (bx_on (alloc_heap_new v21 _) h) (And.intro (hm.carry ((grownBy_alloc v21 _ none).trans h)) (HB20.out W (ga.trans h)))
                 have G21 := Lib.hid (G20.out.trans ga)
                 have fb := HB21.out _ (grownBy_refl _ _)
                 obtain ⟨y21C0, y21C1, _, _⟩ := bx fb.2.2.1
                 obtain ⟨y21D0, y21D1, _, _⟩ := bx fb.2.2.2
                 clear hm g ga fb)
              | (go_at_call 59
                 go_loud (with_reducible refine (K2.out _ G21.out).mono ?_)
                 rintro e v22 ⟨o22, rfl, hm, g⟩
                 obtain ⟨xa22, xc22, rfl⟩ := hm.shape
                 rw [LR.out] at hm ⊢
                 have ga := g.trans (grownBy_alloc v22 (.cells #[.int .i64 n2, .slice xa22 lr xc22] 74) none)
                 have HB22 := Lib.hid fun W (h : (v22.alloc (.cells #[.int .i64 n2, .slice xa22 lr xc22] 74)).grownBy W none) => And.intro (bx_on (alloc_heap_new v22 _) h) (And.intro (hm.carry ((grownBy_alloc v22 _ none).trans h)) (HB21.out W (ga.trans h)))
                 have G22 := Lib.hid (G21.out.trans ga)
                 have fb := HB22.out _ (grownBy_refl _ _)
                 obtain ⟨y22P0, y22P1, _, _⟩ := bx fb.2.2.1
                 obtain ⟨y22Q0, y22Q1, _, _⟩ := bx fb.1
                 clear hm g ga fb)
              | (go_at_call 53
                 go_loud (with_reducible refine (same_selfL _ _ R _ ((HB22.out _ (grownBy_refl _ _)).2.2.2.1) ((HB22.out _ (grownBy_refl _ _)).2.1) (by rw [LR.out]; exact HSR.out.1) HSR.out.2).mono ?_)
                 rintro e v23 ⟨rfl, g⟩
                 have HB23 := Lib.hid fun W (h : v23.grownBy W none) => HB22.out W (g.trans h)
                 have G23 := Lib.hid (G22.out.trans g)
                 have fb := HB23.out _ (grownBy_refl _ _)
                 obtain ⟨y23P0, y23P1, _, _⟩ := bx fb.2.2.1
                 obtain ⟨y23D0, y23D1, _, _⟩ := bx fb.2.2.2.2.2
                 clear g fb)
              | (go_at_call 60
                 go_loud (with_reducible refine (K3.out _ _ G23.out (HB23.out _ (grownBy_refl _ _)).2.2.2.1).mono ?_)
                 rintro e v24 ⟨o24, rfl, hm, g⟩
                 obtain ⟨xa24, xc24, rfl⟩ := hm.shape
                 rw [LI.out] at hm ⊢
                 have ga := g.trans (grownBy_alloc v24 (.cells #[.int .i64 d2, .slice xa24 li xc24] 74) none)
                 have HB24 := Lib.hid fun W (h : (v24.alloc (.cells #[.int .i64 d2, .slice xa24 li xc24] 74)).grownBy W none) => And.intro (bx_on (alloc_heap_new v24 _) h) (And.intro (hm.carry ((grownBy_alloc v24 _ none).trans h)) (HB23.out W (ga.trans h)))
                 have G24 := Lib.hid (G23.out.trans ga)
                 have fb := HB24.out _ (grownBy_refl _ _)
                 obtain ⟨y24J0, y24J1, _, _⟩ := bx fb.1
                 clear hm g ga fb))
            go_loopw [263] (fun i wr => ∃ t : Nat, t ≤ li ∧ i = .int .i64 t ∧ (v24.alloc (.cells #[.int .i64 d2, .slice xa24 li xc24] 74)).grownBy wr none) (fun i _ => li - (intOf i).toNat)
            case atStart => exact ⟨0, by omega, rfl, grownBy_refl _ _⟩
            case round =>
              obtain ⟨t, htl, rfl, hg⟩ := hrel
              have HG := Lib.hid hg
              have fb := HB24.out _ hg
              obtain ⟨x04, x05, _, _⟩ := bx fb.2.2.2.2.2.2.1
              by_cases hlt : t < li
              · have hti : t < I.length := by rw [LI.out]; exact hlt
                obtain ⟨bb, bo, bcap, bml, br, bc, hbv, hcell, hrow⟩ := fb.2.1.rowK (grownBy_refl _ none) hti
                cases hbv
                have HK := Lib.hid (K4.out wr _ _ (G24.out.trans hg) (getD_mem hti) hrow)
                clear hg hrow fb
                generalize (I.getD t []).length = rlen at *
                go_wp2_with (
                  go_at_call 56
                  go_loud (with_reducible refine HK.out.mono ?_)
                  rintro e v25 ⟨rfl, g⟩
                  have HG5 := Lib.hid (HG.out.trans g)
                  clear g)
                go_roundw
                case rel => exact ⟨t + 1, by omega, by go_num, HG5.out⟩
                case measure => simp [intOf]; omega
              · clear hg fb
                go_wp2
                go_ret
                exact ⟨rfl, HX0.out.trans (G24.out.trans HG.out)⟩
end Go.Proofs.YtpeaeminjbjlnaaDoor

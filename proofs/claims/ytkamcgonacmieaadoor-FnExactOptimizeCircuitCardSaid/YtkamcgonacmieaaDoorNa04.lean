/-
  The order in which gates are made, in the reference: the walk. Conditions: at most 1000 gates, whose operands are gates.
-/
import Derived.Test.YtkamcgonacmieaaDoorNa03
import Derived.Test.YtkamcgonacmieaaDoorNa01
import Derived.Shelf.Abstract
import Derived.Lib.SliceRun
namespace Go.Proofs.YtkamcgonacmieaaDoor
open Go.RowKit
set_option linter.unusedVariables false
set_option maxRecDepth 100000

/-- the operands of one gate -/
def OrdInv (w : World) (n : Nat) (v0 v1 v2 : Value) (g : Nat) (op : List Bool) (ov : Value) (out : List Int) (wr : World) : Prop :=
  Sep wr [OR boolE (.slice (some ⟨g, 0, none⟩) n n) (dn op), OI ov out, BxA w.heap.size #[v0, v1, v2] 29, KeepA w]
theorem openComb {gs : List Gt} {op : List Bool} (h : ∀ i, op.getD i false = true → combB (gs.getD i g0) = true) {i : Nat} (hi : op.getD i false = true) : opsL (gs.getD i g0) = needsL (gs.getD i g0) := by
  have h1 := h i hi
  unfold combB at h1
  unfold needsL
  rw [if_pos (of_decide_eq_true h1)]

set_option maxHeartbeats 4000000 in
theorem crOrder_any (m : Int) (gv : Value) (a2 : Option Addr) (n2 c2 : Nat) (gs : List Gt) (w : World) (hg : RdR gateE w gv gs) (hl : gs.length ≤ 1000) (hops : ∀ g ∈ gs, ∀ x ∈ opsL g, 0 ≤ x ∧ x < gs.length) :
    Calls Tryd.prog 114 #[.agg #[.int .i64 m, gv, .slice a2 n2 c2]] w fun e w' => ∃ a c, e = .returned (.slice a (sched gs).1.length c) ∧ Sep w' [OI (.slice a (sched gs).1.length c) (sched gs).1, KeepA w] := by
  obtain ⟨i0, hi, hz0, hz1, hz2⟩ := info_parts info_bool
  have HI := Lib.hid hi; have HZ0 := Lib.hid hz0; have HZ1 := Lib.hid hz1; have HZ2 := Lib.hid hz2
  clear hi hz0 hz1 hz2
  have HG := Lib.hid hg; have HOPS := Lib.hid hops
  obtain ⟨a, c, rfl⟩ := hg.shape
  generalize hn : gs.length = n at *
  have HN := Lib.hid hn
  clear hg hn hops
  have hs0 := (Sep.start w).box #[.int .i64 m, .slice a n c, .slice a2 n2 c2] 29
  have e1 : (w.alloc (.cells #[.int .i64 m, .slice a n c, .slice a2 n2 c2] 29)).heap.size = w.heap.size + 1 := by simp
  have HE1 := Lib.hid e1
  have HS0 := Lib.hid hs0
  clear hs0 e1
  have HOL := Lib.hid (show (open0 gs).length = n by unfold open0; rw [List.length_map, HN.out])
  go_enter Tryd.func114, Tryd.ntmps114
  go_wp2_with (
    at_make
    refine wpList_make_full _ rfl _ _ 133 rfl (w.heap.size + 1) 4 i0 _ 1 Tryd.underlying133 HI.out HZ0.out HZ1.out _ _ _ _ n rfl rfl rfl rfl (by rw [HZ2.out]; omega) (by unfold maxLen; omega) (by rw [HE1.out]; exact Nat.le_refl _) ?_
    intro w1 hown' hgr'
    have hs1 := HS0.out.newR hgr' (OwnR.made (E := boolE) falseCells (by rw [HE1.out]; exact hown'))
    have hs2 : Sep w1 [OR boolE (.slice (some ⟨w.heap.size + 1, 0, none⟩) n n) (List.replicate n false), OI nilS [], BxA w.heap.size #[.int .i64 m, .slice a n c, .slice a2 n2 c2] 29, KeepA w] := by
      rw [HE1.out] at hs1
      exact hs1.nilI.s2
    rw [HE1.out]
    obtain ⟨x0, x1, x2, _⟩ := bx3 hs2.tl.tl.hd
    have HS := Lib.hid hs2
    clear hs1 hs2 hown' hgr')
  go_loopw [20] (fun i wr => ∃ k : Nat, k ≤ n ∧ i = .int .i64 k ∧ Sep wr [OR boolE (.slice (some ⟨w.heap.size + 1, 0, none⟩) n n) ((dn (open0 gs)).take k ++ List.replicate (n - k) false), OI nilS [], BxA w.heap.size #[.int .i64 m, .slice a n c, .slice a2 n2 c2] 29, KeepA w]) (fun i _ => n - (intOf i).toNat)
  case atStart => exact ⟨0, by omega, rfl, by simpa using HS.out⟩
  case round =>
    obtain ⟨k, hk, rfl, hs⟩ := hrel
    have HSX := Lib.hid hs
    clear hs
    have hdl : (dn (open0 gs)).length = n := by rw [dn_len]; exact HOL.out
    by_cases hlt : k < n
    · obtain ⟨b, o, rfl, hb, q0, q1, q2, q3⟩ := gate_at rfl rfl (HG.out.carry HSX.out.tl.tl.tl.hd) (i := k) (by rw [HN.out]; exact hlt)
      have hv : (dn (open0 gs)).getD k false = !combB (gs.getD k g0) := by rw [dn_at (by rw [HOL.out]; exact hlt), open0_getD]
      have HSET := Lib.hid (fillB_set hdl hlt)
      rw [hv] at HSET
      have HLL := Lib.hid (show n = ((dn (open0 gs)).take k ++ List.replicate (n - k) false).length by rw [List.length_append, List.length_take, List.length_replicate, hdl]; omega)
      generalize gs.getD k g0 = g at *
      have HC := Lib.hid (crCombines_any g)
      unfold gtV at HC
      generalize combB g = cb at *
      generalize (dn (open0 gs)).take k ++ List.replicate (n - k) false = bs at *
      clear hb hv hdl
      go_wp2_with (
        go_at_call 113
        refine (HC.out _).mono ?_
        rintro e w2 ⟨rfl, hg'⟩
        have HS2 := Lib.hid (HSX.out.grown (grownBy_trans (gr1 _ _) hg'))
        have hf := bool_free HS2.out.hd HLL.out k
        have hc := bool_cell HS2.out.hd HLL.out hlt
        generalize bs.getD k false = q at hc
        have HS3 := Lib.hid (HS2.out.setBo HLL.out hlt (!cb))
        clear hg')
      go_roundw
      case rel => exact ⟨k + 1, by omega, by go_num, by rw [← HSET.out]; exact HS3.out⟩
      case measure => simp [intOf]; omega
    · have hkn : k = n := by omega
      subst hkn
      have hs1 := HSX.out
      rw [Nat.sub_self, List.replicate_zero, List.append_nil, List.take_of_length_le (by omega)] at hs1
      have HS1 := Lib.hid hs1
      obtain ⟨N0, hN0⟩ : ∃ N0, N0 = nOpen (open0 gs) := ⟨_, rfl⟩
      have HN0 := Lib.hid hN0
      have HN01 := Lib.hid (show N0 ≤ k by rw [hN0]; have := nOpen_le (open0 gs); have := HOL.out; omega)
      clear hlt hs1 hdl hN0 HSX
      go_wp2_with fail
      go_loopw [3] (fun ov wr => ∃ (op : List Bool) (out : List Int) (oa : Option Addr) (oc : Nat), ov = .slice oa out.length oc ∧ op.length = k ∧ sched gs = schedGo gs (nOpen op) op out ∧ out.length + nOpen op = N0 ∧ (∀ i, op.getD i false = true → combB (gs.getD i g0) = true) ∧
          OrdInv w k (.int .i64 m) (.slice a k c) (.slice a2 n2 c2) (w.heap.size + 1) op ov out wr) (fun ov _ => k - sliceLen ov)
      case atStart => exact ⟨open0 gs, [], none, 0, rfl, HOL.out, schedGo_fuel gs _ _ _ _ (by have := nOpen_le (open0 gs); have := HOL.out; have := HN.out; omega) (Nat.le_refl _), by rw [HN0.out]; simp, fun i hi => by rw [← open0_getD]; exact hi, HS1.out⟩
      case round =>
        obtain ⟨op, out, oa, oc, rfl, hol, hsc, hcnt, hcb, hs⟩ := hrel
        have HS := Lib.hid hs
        have HSC := Lib.hid hsc; have HCNT := Lib.hid hcnt; have HOL2 := Lib.hid hol; have HCB := Lib.hid hcb
        obtain ⟨y0, y1, y2, _⟩ := bx3 hs.tl.tl.hd
        generalize hol' : out.length = ol at *
        have HO := Lib.hid hol'
        clear hs hsc hcnt hol hol' hcb
        have HLD := Lib.hid (show k = (dn op).length by rw [dn_len]; exact HOL2.out.symm)
        go_wp2_with fail
        go_loopw [7, 35] (fun av i wr' => ∃ (j : Nat) (t : Int), j ≤ k ∧ i = .int .i64 j ∧ av = .int .i64 t ∧ t = atK gs op j ∧ OrdInv w k (.int .i64 m) (.slice a k c) (.slice a2 n2 c2) (w.heap.size + 1) op (.slice oa ol oc) out wr') (fun _ i _ => k - (intOf i).toNat)
        case atStart => exact ⟨0, _, by omega, rfl, rfl, rfl, HS.out⟩
        case round =>
          obtain ⟨j, t, hj, rfl, rfl, ht, hs⟩ := hrel
          have HSX := Lib.hid hs
          have HTT := Lib.hid ht
          have htge : -1 ≤ t := by rw [ht]; exact atK_ge _ _ _
          obtain ⟨z0, z1, z2, _⟩ := bx3 hs.tl.tl.hd
          by_cases hlt : j < k
          · obtain ⟨b, o, rfl, hb, q0, q1, q2, q3⟩ := gate_at rfl rfl (HG.out.carry hs.tl.tl.tl.hd) (i := j) (by rw [HN.out]; exact hlt)
            have HAL := Lib.hid fun ob => show OrdInv w k (.int .i64 m) (.slice (some ⟨b, o, none⟩) k c) (.slice a2 n2 c2) (w.heap.size + 1) op (.slice oa ol oc) out (wr.alloc ob) from hs.al ob
            have hdc := fun ob => bool_cell (hs.al ob).hd HLD.out hlt
            rw [dn_at (by rw [HOL2.out]; exact hlt)] at hdc
            have hrb : readyB gs op j = (op.getD j false && !(needsL (gs.getD j g0)).any fun k => op.getD k.toNat false) := rfl
            have HSU := Lib.hid (atK_succ gs op j)
            rw [hrb, ← ht] at HSU
            have hmem : gs.getD j g0 ∈ gs := by
              rw [List.getD_eq_getElem?_getD, List.getElem?_eq_getElem (by rw [HN.out]; exact hlt)]
              exact List.getElem_mem _
            have HOB := Lib.hid (HOPS.out _ hmem)
            have HON := Lib.hid fun hi => openComb HCB.out (i := j) hi
            clear hs ht hb hrb hmem
            generalize gs.getD j g0 = g at *
            have HCO := Lib.hid (crOperands_any g)
            unfold gtV at HCO
            cases hop : op.getD j false
            · rw [hop] at hdc HSU
              have HE := Lib.hid (show atK gs op (j + 1) = t by
                rw [HSU.out]
                split
                · rfl
                · rw [Bool.false_and]
                  rw [if_neg (by decide)]
                  omega)
              clear hop
              go_wp2_with fail
              go_roundw
              case rel => exact ⟨j + 1, t, by omega, by go_num, rfl, HE.out.symm, HAL.out _⟩
              case measure => simp [intOf]; omega
            · rw [hop] at hdc HSU
              have HZ := Lib.hid (HON.out hop)
              clear hop
              by_cases hpos : 0 ≤ t
              · have HE := Lib.hid (show atK gs op (j + 1) = t by rw [HSU.out, if_pos hpos])
                go_wp2_with fail
                go_roundw
                case rel => exact ⟨j + 1, t, by omega, by go_num, rfl, HE.out.symm, HAL.out _⟩
                case measure => simp [intOf]; omega
              · have ht1 : t = -1 := by omega
                have HE := Lib.hid (show atK gs op (j + 1) = if (!(needsL g).any fun k => op.getD k.toNat false) = true then (j : Int) else -1 by rw [HSU.out, if_neg hpos, Bool.true_and])
                rw [← HZ.out, ← rdyTo_all] at HE
                subst ht1
                clear hpos htge
                have hz2 := ops_len g
                generalize opsL g = zs at *
                generalize hzl : zs.length = zl at *
                have HZL := Lib.hid hzl
                clear hzl
                go_wp2_with (
                  go_at_call 187
                  refine (HCO.out _).mono ?_
                  rintro e w2 ⟨a', c', rfl, hi', hg'⟩
                  have HI' := Lib.hid hi'
                  have HS2 := Lib.hid (show OrdInv w k (.int .i64 m) (.slice (some ⟨b, o, none⟩) k c) (.slice a2 n2 c2) (w.heap.size + 1) op (.slice oa ol oc) out w2 from (HAL.out _).grown hg')
                  clear hi' hg')
                go_loopw [10, 51] (fun rv tv wr' => ∃ (q : Nat) (r : Bool), q ≤ zl ∧ tv = .int .i64 q ∧ rv = .bool r ∧ r = rdyTo op zs q ∧ w2.grownBy wr' none) (fun _ tv _ => zl - (intOf tv).toNat)
                case atStart => exact ⟨0, true, by omega, rfl, rfl, rfl, grownBy_refl _ _⟩
                case round =>
                  obtain ⟨q, r, hq, rfl, rfl, hr, hg⟩ := hrel
                  have HR := Lib.hid hr; have HGW := Lib.hid hg
                  by_cases hql : q < zl
                  · obtain ⟨b2, o2, rfl, hb2, hc2⟩ := (HI'.out.carry hg).atD (i := q) (by rw [HZL.out]; exact hql)
                    have hq' : q < zs.length := by rw [HZL.out]; exact hql
                    obtain ⟨hx0, hx1⟩ := HOB.out _ (getD_mem' hq')
                    have HST := Lib.hid (rdyTo_succ op zs hq')
                    generalize zs.getD q 0 = x at *
                    obtain ⟨xk, rfl⟩ := Int.eq_ofNat_of_zero_le hx0
                    have hxk : xk < k := by omega
                    have hcd := bool_cell (HS2.out.grown hg).hd HLD.out hxk
                    rw [dn_at (by rw [HOL2.out]; exact hxk)] at hcd
                    rw [← hr] at HST
                    have HST2 := Lib.hid (show rdyTo op zs (q + 1) = (r && !op.getD xk false) from HST.out)
                    clear hr hg hb2 hx0 hx1 HST
                    generalize (!op.getD xk false) = y at *
                    cases r
                    · go_wp2_with fail
                      go_roundw
                      case rel => exact ⟨q + 1, false, by omega, by go_num, rfl, by rw [HST2.out]; rfl, HGW.out⟩
                      case measure => simp [intOf]; omega
                    · go_wp2_with fail
                      go_roundw
                      case rel => exact ⟨q + 1, y, by omega, by go_num, rfl, by rw [HST2.out]; rfl, HGW.out⟩
                      case measure => simp [intOf]; omega
                  · have hqz : q = zl := by omega
                    subst hqz
                    have HSF := Lib.hid (show OrdInv w k (.int .i64 m) (.slice (some ⟨b, o, none⟩) k c) (.slice a2 n2 c2) (w.heap.size + 1) op (.slice oa ol oc) out wr from HS2.out.grown hg)
                    rw [← hr] at HE
                    clear hql hr hg
                    cases r
                    · have HEE := Lib.hid (show atK gs op (j + 1) = -1 from HE.out)
                      go_wp2_with fail
                      go_roundw
                      case rel => exact ⟨j + 1, -1, by omega, by go_num, rfl, HEE.out.symm, HSF.out⟩
                      case measure => simp [intOf]; omega
                    · have HEE := Lib.hid (show atK gs op (j + 1) = j from HE.out)
                      go_wp2_with fail
                      go_roundw
                      case rel => exact ⟨j + 1, (j : Int), by omega, by go_num, rfl, HEE.out.symm, HSF.out⟩
                      case measure => simp [intOf]; omega
          · have hjk : j = k := by omega
            subst hjk
            have hnx := atK_next (op := op) HN.out
            rw [← ht] at hnx
            clear hlt ht htge
            cases hni : nextI gs op with
            | none =>
              rw [hni] at hnx
              have ht1 : t = -1 := hnx
              subst ht1
              have hfin : (sched gs).1 = out := by rw [HSC.out, sched_stop hni]
              have HF := Lib.hid hfin
              clear hnx hfin hni hs
              go_wp2_with fail
              go_ret
              exact ⟨oa, oc, by rw [HF.out, HO.out]; rfl, by rw [HF.out, HO.out]; exact HSX.out.tl.under (fun h => h.tl) (by simp +contextual)⟩
            | some i =>
              rw [hni] at hnx
              have ht1 : t = (i : Int) := hnx
              subst ht1
              obtain ⟨hi1, hi2, _, _⟩ := nextI_some hni
              have HNX := Lib.hid hni; have HI2 := Lib.hid hi2
              have hik : i < j := by rw [← HN.out]; exact hi1
              have hout : ol < j := by
                have h1 := HCNT.out
                have h2 := HN01.out
                have h3 := nOpen_set hi2
                omega
              have hf := bool_free hs.hd HLD.out i
              have hc := bool_cell hs.hd HLD.out hik
              have hset := hs.setBo HLD.out hik true
              rw [dn_set] at hset
              have HSET := Lib.hid hset.s2
              generalize (dn op).getD i false = qq at hc
              clear hnx hni hi1 hi2 hs hset
              go_wp2_with (
                at_builtin
                go_loud (refine app_intG rfl _ _ rfl rfl rfl (by simp) HSET.out (by rw [HO.out]; omega) ?_)
                intro g5 c5 w5 h5
                rw [HO.out] at h5 ⊢
                have HS5 := Lib.hid h5.s2
                clear h5)
              go_roundw
              case rel => exact ⟨op.set i false, out ++ [(i : Int)], _, _, by rw [List.length_append, HO.out]; rfl, by rw [List.length_set]; exact HOL2.out, by
                  rw [HSC.out, sched_step (Nat.le_refl _) HNX.out]
                  have h1 := nOpen_set HI2.out
                  exact schedGo_fuel gs _ _ _ _ (by omega) (Nat.le_refl _), by
                  have h1 := nOpen_set HI2.out
                  have h2 := HCNT.out
                  rw [List.length_append, HO.out, List.length_singleton]
                  omega, fun i' hi' => by
                  rw [getD_set_bool] at hi'
                  split at hi'
                  · cases hi'
                  · exact HCB.out i' hi', HS5.out⟩
              case measure =>
                show j - (ol + 1) < j - ol
                omega
end Go.Proofs.YtkamcgonacmieaaDoor

/-
  Is it a circuit: the reference's check. Conditions: at most 2,000,000 gates and outputs.
-/
namespace Go.Proofs.YtkamcgonacmieaaDoor
open Go.RowKit
set_option linter.unusedVariables false
set_option maxRecDepth 100000

set_option maxHeartbeats 4000000 in
theorem crGood_any (p n : Int) (gv ov : Value) (gs : List Gt) (os : List Int) (w : World) (hg : RdR gateE w gv gs) (ho : IntsV w ov os) (l1 : gs.length ≤ 2000000) (l2 : os.length ≤ 2000000) :
    Calls Tryd.prog 48 #[.int .i64 p, cirV n gv ov] w fun e w' => e = .returned (.bool (circE p ⟨n, gs, os⟩)) ∧ w.grownBy w' none := by
  have HF := Lib.hid fun W (h : w.grownBy W none) => fdGood_any p W
  have HW1 := Lib.hid (l1In_any n 0 8)
  have HW2 := Lib.hid (l1In_any gs.length 1 40)
  change Hid (∀ W, Calls _ _ _ _ fun e w' => e = .returned (.bool (inB n 0 8)) ∧ W = w') at HW1
  have hd3 : decide ((1 : Int) ≤ (gs.length : Int) ∧ (gs.length : Int) ≤ 40) = decide (1 ≤ gs.length ∧ gs.length ≤ 40) := decide_eq_decide.2 (by omega)
  rw [hd3] at HW2
  have hd4 : decide (8 < (os.length : Int)) = !decide (os.length ≤ 8) := by rw [Bool.eq_iff_iff, decide_eq_true_iff, Bool.not_eq_true', decide_eq_false_iff_not]; omega
  have HB := Lib.hid fun W (h : w.grownBy W none) (hl : os.length ≤ 1000000) => l1All_any 0 (gs.length - 1) ov os W (ho.carry h) hl
  change Hid (∀ W (h : w.grownBy W none) (hl : os.length ≤ 1000000), Calls _ _ _ _ fun e w' => e = .returned (.bool (os.all (fun x => inB x 0 (gs.length - 1)))) ∧ W = w') at HB
  have HG := Lib.hid hg
  have HGC := Lib.hid fun W (h : w.grownBy W none) (hl : gs.length ≤ 1000) (h5 : gs.all (gateB p n gs.length) = true) (a2 : Option Addr) (c2 : Nat) => crOrder_any n gv a2 os.length c2 gs W (hg.carry h) hl (gates_ops h5)
  have HE := Lib.hid (circE_eq p ⟨n, gs, os⟩)
  simp only at HE
  unfold cirV
  obtain ⟨a1, c1, rfl⟩ := hg.shape
  obtain ⟨a2, c2, rfl⟩ := ho.shape
  clear hg ho hd3
  generalize circE p ⟨n, gs, os⟩ = ce at *
  generalize os.all (fun x => inB x 0 (gs.length - 1)) = f5 at *
  have HG1 := Lib.hid (gr1 w (.cells #[.int .i64 n, .slice a1 gs.length c1, .slice a2 os.length c2] 29))
  have hs0 := (Sep.start w).box #[.int .i64 n, .slice a1 gs.length c1, .slice a2 os.length c2] 29
  generalize hn1 : gs.length = n1 at *
  generalize hn2 : os.length = n2 at *
  have HN1 := Lib.hid hn1; have HN2 := Lib.hid hn2
  have HS0 := Lib.hid hs0
  clear hn1 hn2 hs0
  cases f1 : fldB p
  · rw [f1] at HF HE
    have HC := Lib.hid (show ce = false from HE.out)
    clear HE f1 hd4
    go_enter Tryd.func48, Tryd.ntmps48
    go_wp2_with (go_at_call 109; with_reducible refine (HF.out _ HG1.out).mono ?_; rintro e w2 ⟨rfl, rfl⟩)
    go_ret
    exact ⟨by rw [HC.out]; rfl, HG1.out⟩
  · rw [f1] at HF
    have F1 := Lib.hid f1
    cases f2 : inB n 0 8
    · rw [f1, f2] at HE
      rw [f2] at HW1
      have HC := Lib.hid (show ce = false from HE.out)
      clear HE f1 f2 hd4
      go_enter Tryd.func48, Tryd.ntmps48
      go_wp2_with (first
        | (go_at_call 109; with_reducible refine (HF.out _ HG1.out).mono ?_; rintro e w2 ⟨rfl, rfl⟩)
        | (go_at_call 110; with_reducible refine (HW1.out _).mono ?_; rintro e w2 ⟨rfl, rfl⟩))
      go_ret
      exact ⟨by rw [HC.out]; rfl, HG1.out⟩
    · rw [f2] at HW1
      have hn := inB_iff.1 f2
      cases f3 : decide (1 ≤ n1 ∧ n1 ≤ 40)
      · rw [f1, f2, f3] at HE
        rw [f3] at HW2
        have HC := Lib.hid (show ce = false from HE.out)
        clear HE f1 f2 f3 hd4
        go_enter Tryd.func48, Tryd.ntmps48
        go_wp2_with (first
          | (go_at_call 109; with_reducible refine (HF.out _ HG1.out).mono ?_; rintro e w2 ⟨rfl, rfl⟩)
          | (go_at_call 110; with_reducible refine (HW1.out _).mono ?_; rintro e w2 ⟨rfl, rfl⟩)
          | (go_at_call 110; with_reducible refine (HW2.out _).mono ?_; rintro e w2 ⟨rfl, rfl⟩))
        go_ret
        exact ⟨by rw [HC.out]; rfl, HG1.out⟩
      · rw [f3] at HW2
        have hn1 := of_decide_eq_true f3
        cases f4 : decide (n2 ≤ 8)
        · rw [f1, f2, f3, f4] at HE
          rw [f4] at hd4
          have HC := Lib.hid (show ce = false from HE.out)
          clear HE f1 f2 f3 f4
          go_enter Tryd.func48, Tryd.ntmps48
          go_wp2_with (first
            | (go_at_call 109; with_reducible refine (HF.out _ HG1.out).mono ?_; rintro e w2 ⟨rfl, rfl⟩)
            | (go_at_call 110; with_reducible refine (HW1.out _).mono ?_; rintro e w2 ⟨rfl, rfl⟩)
            | (go_at_call 110; with_reducible refine (HW2.out _).mono ?_; rintro e w2 ⟨rfl, rfl⟩))
          go_ret
          exact ⟨by rw [HC.out]; rfl, HG1.out⟩
        · rw [f4] at hd4
          have hn2 := of_decide_eq_true f4
          rw [f1, f2, f3, f4] at HE
          simp only [Bool.true_and] at HE
          have HB2 := Lib.hid fun W h => HB.out W h (by omega)
          clear HB
          cases f5
          · have HC := Lib.hid (show ce = false from HE.out)
            clear HE f1 f2 f3 f4
            go_enter Tryd.func48, Tryd.ntmps48
            go_wp2_with (first
              | (go_at_call 109; with_reducible refine (HF.out _ HG1.out).mono ?_; rintro e w2 ⟨rfl, rfl⟩)
              | (go_at_call 110; with_reducible refine (HW1.out _).mono ?_; rintro e w2 ⟨rfl, rfl⟩)
              | (go_at_call 110; with_reducible refine (HW2.out _).mono ?_; rintro e w2 ⟨rfl, rfl⟩)
              | (go_at_call 111; with_reducible refine (HB2.out _ HG1.out).mono ?_; rintro e w2 ⟨rfl, rfl⟩))
            go_ret
            exact ⟨by rw [HC.out]; rfl, HG1.out⟩
          · rw [Bool.true_and] at HE
            clear f1 f2 f3 f4
            go_enter Tryd.func48, Tryd.ntmps48
            go_wp2_with (first
              | (go_at_call 109; with_reducible refine (HF.out _ HG1.out).mono ?_; rintro e w2 ⟨rfl, rfl⟩)
              | (go_at_call 110; with_reducible refine (HW1.out _).mono ?_; rintro e w2 ⟨rfl, rfl⟩)
              | (go_at_call 110; with_reducible refine (HW2.out _).mono ?_; rintro e w2 ⟨rfl, rfl⟩)
              | (go_at_call 111; with_reducible refine (HB2.out _ HG1.out).mono ?_; rintro e w2 ⟨rfl, rfl⟩))
            go_loopw [5, 43] (fun cv i wr => ∃ (k q : Nat), k ≤ n1 ∧ i = .int .i64 k ∧ cv = .int .i64 q ∧ q = (gs.take k).countP combB ∧ q ≤ k ∧ (∀ j, j < k → gateB p n n1 (gs.getD j g0) = true) ∧ Sep wr [BxA w.heap.size #[.int .i64 n, .slice a1 n1 c1, .slice a2 n2 c2] 29, KeepA w]) (fun _ i _ => n1 - (intOf i).toNat)
            case atStart => exact ⟨0, 0, by omega, rfl, rfl, rfl, by omega, fun _ h => absurd h (by omega), HS0.out⟩
            case round =>
              obtain ⟨k, q, hk, rfl, rfl, hq, hqk, hall, hs⟩ := hrel
              have HA := Lib.hid hall; have HS := Lib.hid hs; have HQ := Lib.hid hq
              obtain ⟨y0, y1, y2, _⟩ := bx3 hs.hd
              by_cases hlt : k < n1
              · obtain ⟨b, o, rfl, hb, q0, q1, q2, q3⟩ := gate_at rfl rfl (HG.out.carry hs.tl.hd) (i := k) (by rw [HN1.out]; exact hlt)
                have hcs : (gs.take (k + 1)).countP combB = q + if combB (gs.getD k g0) = true then 1 else 0 := by
                  rw [List.take_succ_eq_append_getElem (by rw [HN1.out]; exact hlt), List.countP_append, ← hq, List.countP_singleton]
                  have e : gs.getD k g0 = gs[k]'(by rw [HN1.out]; exact hlt) := by rw [List.getD_eq_getElem?_getD, List.getElem?_eq_getElem (by rw [HN1.out]; exact hlt)]; rfl
                  rw [e]
                have HCS := Lib.hid hcs
                clear hall hs hb hq hcs
                generalize hgk : gs.getD k g0 = g at *
                have HGK := Lib.hid hgk
                clear hgk
                have HGT := Lib.hid fun W => crGate_any n p n1 g W hn.1 hn.2 (by omega) (by have := fldB_bd F1.out; omega) (by have := fldB_bd F1.out; omega)
                have HCC := Lib.hid (crCombines_any g)
                unfold gtV at HGT HCC
                have HALB := Lib.hid (gr1 wr (.cells #[.int .i64 g.k, .int .i64 g.a, .int .i64 g.b, .int .i64 g.v] 130))
                obtain ⟨z0, z1, z2, _⟩ := bx3 (HS.out.grown HALB.out).hd
                have HBX := Lib.hid fun W => one_box4 (w := wr) (y1 := .int .i64 g.k) (y2 := .int .i64 g.a) (y3 := .int .i64 g.b) (y4 := .int .i64 g.v) (t2 := 130) (W := W)
                cases hgb : gateB p n n1 g
                · rw [hgb] at HGT
                  have HC := Lib.hid (show ce = false by rw [HE.out, all_no (by rw [HN1.out]; exact hlt) (by rw [HGK.out]; exact hgb)]; rfl)
                  clear hgb
                  go_wp2_with (go_at_call 112; with_reducible refine (HGT.out _).mono ?_; rintro e w2 ⟨rfl, hg⟩; have HSF := Lib.hid ((HS.out.grown HALB.out).grown hg); clear hg)
                  go_ret
                  exact ⟨by rw [HC.out]; rfl, HSF.out.tl.hd⟩
                · rw [hgb] at HGT
                  have HGB := Lib.hid hgb
                  clear hgb
                  cases hcb : combB g
                  all_goals
                    rw [hcb] at HCC HCS
                    clear hcb
                    go_wp2_with (first
                      | (go_at_call 112
                         with_reducible refine (HGT.out _).mono ?_
                         rintro e w2 ⟨rfl, hg⟩
                         have HSF := Lib.hid ((HS.out.grown HALB.out).grown hg)
                         obtain ⟨v0, v1, v2, v3⟩ := HBX.out _ hg
                         clear hg)
                      | (go_at_call 113
                         with_reducible refine (HCC.out _).mono ?_
                         rintro e w3 ⟨rfl, hg⟩
                         have HSF2 := Lib.hid (HSF.out.grown hg)
                         clear hg))
                    go_roundw
                    case rel => exact ⟨k + 1, _, by omega, by go_num, by first | rfl | go_num, HCS.out.symm, by split <;> omega, fun j hj => by
                      by_cases hjk : j = k
                      · subst hjk; rw [HGK.out]; exact HGB.out
                      · exact HA.out j (by omega), HSF2.out⟩
                    case measure => simp [intOf]; omega
              · have hkn : k = n1 := by omega
                subst hkn
                have h5 : gs.all (gateB p n k) = true := all_getD fun j hj => HA.out j (by rw [← HN1.out]; exact hj)
                have HSC := Lib.hid fun W h => HGC.out W h (by omega) h5 a2 c2
                have hC : ce = schedB gs := by rw [HE.out, h5]; rfl
                rw [List.take_of_length_le (by rw [HN1.out]; exact Nat.le_refl _)] at hq
                have hsc := sched_count gs
                rw [← hq] at hsc
                have HKP := Lib.hid hs.tl.hd
                generalize hsl : (sched gs).1.length = sl at *
                have hceq : (((sl : Nat) : Int) == (q : Int)) = ce := by
                  rw [hC, Bool.eq_iff_iff, ← hsc, beq_iff_eq]
                  omega
                have HSC2 := Lib.hid fun W h => (show Calls _ _ _ W fun e w' => ∃ a c, e = .returned (.slice a sl c) ∧ W.grownBy w' none from (HSC.out W h).mono fun e w' ⟨a, c, h1, h2⟩ => ⟨a, c, h1, h2.tl.hd⟩)
                have HCQ := Lib.hid hceq
                clear hlt hall hs h5 HGC HE HSC hC hq hsc hsl hceq HQ
                go_wp2_with (
                  go_at_call 114
                  refine (HSC2.out _ HKP.out).mono ?_
                  rintro e w2 ⟨a', c', rfl, hg⟩
                  have HG2 := Lib.hid (grownBy_trans HKP.out hg)
                  clear hg)
                go_ret
                exact ⟨by rw [← HCQ.out]; rfl, HG2.out⟩
end Go.Proofs.YtkamcgonacmieaaDoor

/-
  The gate for which a gate stands, in the program and in the reference. Conditions: operands are gates.
-/
namespace Go.Proofs.YtkamcgonacmieaaDoor
open Go.RowKit
set_option linter.unusedVariables false
set_option maxRecDepth 100000

theorem gate_in {E : Lay Gt} (hs : E.sz = 4) (hc : E.cs = gateC) {w : World} {b o n cap : Nat} {gs : List Gt} (h : RdR E w (.slice (some ⟨b, o, none⟩) n cap) gs) {i : Nat} (hi : i < gs.length) :
    w.cell? ⟨b, o + i * 4, none⟩ = some (.int .i64 (gs.getD i g0).k) ∧ w.cell? ⟨b, o + i * 4 + 1, none⟩ = some (.int .i64 (gs.getD i g0).a) ∧
      w.cell? ⟨b, o + i * 4 + 2, none⟩ = some (.int .i64 (gs.getD i g0).b) ∧ w.cell? ⟨b, o + i * 4 + 3, none⟩ = some (.int .i64 (gs.getD i g0).v) := by
  obtain ⟨b', o', he, _, h⟩ := gate_at hs hc h hi
  cases he
  exact h
theorem at3_nat (gs : List Gt) (i : Nat) : at3 gs i = gs.getD i g0 := by unfold at3; rw [Int.toNat_natCast]
theorem stand_eq (gs : List Gt) (k : Nat) : standL gs k = if (gs.getD k g0).k = 4 ∧ (gs.getD k g0).v = 1 then (gs.getD k g0).a
    else if (gs.getD k g0).k = 3 ∧ (at3 gs (gs.getD k g0).a).k = 2 then (gs.getD k g0).b
    else if (gs.getD k g0).k = 3 ∧ (at3 gs (gs.getD k g0).b).k = 2 then (gs.getD k g0).a
    else k := by
  unfold standL
  rw [at3_nat]
set_option maxHeartbeats 4000000 in
theorem standsFor_any (n : Int) (gv : Value) (a2 : Option Addr) (k2 c2 : Nat) (gs : List Gt) (k : Nat) (w : World) (hg : RdR gateE w gv gs) (hk : k < gs.length) (hl : gs.length ≤ 1000) (hops : ∀ g ∈ gs, ∀ x ∈ opsL g, 0 ≤ x ∧ x < gs.length) :
    Calls Tryd.prog 135 #[.agg #[.int .i64 n, gv, .slice a2 k2 c2], .int .i64 k] w fun e w' => e = .returned (.int .i64 (standL gs k)) ∧ w.grownBy w' none := by
  have hmem : gs.getD k g0 ∈ gs := by
    rw [List.getD_eq_getElem?_getD, List.getElem?_eq_getElem hk]
    exact List.getElem_mem _
  have HO := Lib.hid (hops _ hmem)
  have HST := Lib.hid (stand_eq gs k)
  obtain ⟨a, c, rfl⟩ := hg.shape
  obtain ⟨b, o, rfl, hb, q0, q1, q2, q3⟩ := gate_at rfl rfl (hg.carry (gr1 w (.cells #[.int .i64 n, .slice a gs.length c, .slice a2 k2 c2] 29))) hk
  generalize hgk : gs.getD k g0 = g at *
  have HR := Lib.hid fun W (h : w.grownBy W none) (j : Nat) (hj : j < gs.length) => (gate_in rfl rfl (hg.carry h) hj).1
  have HG2 := Lib.hid (gr2 w (.cells #[.int .i64 n, .slice (some ⟨b, o, none⟩) gs.length c, .slice a2 k2 c2] 29) (.cells #[.int .i64 g.k, .int .i64 g.a, .int .i64 g.b, .int .i64 g.v] 130))
  have HX := Lib.hid (two_boxes (w := w) (x1 := .int .i64 n) (x2 := .slice (some ⟨b, o, none⟩) gs.length c) (x3 := .slice a2 k2 c2) (y1 := .int .i64 g.k) (y2 := .int .i64 g.a) (y3 := .int .i64 g.b) (y4 := .int .i64 g.v) (t1 := 29) (t2 := 130) (grownBy_refl _ none))
  clear hops hmem hg hgk
  generalize standL gs k = st at *
  generalize hm : gs.length = m at *
  have HM := Lib.hid hm
  clear hm
  obtain ⟨gk, ga, gb, gv⟩ := g
  simp only at HST HO HG2 HX q0 q1 q2 q3
  obtain ⟨x0, x1, x2, y0, y1, y2, y3⟩ := HX.out
  by_cases h4 : gk = 4
  · subst h4
    by_cases h1 : gv = 1
    · subst h1
      have HF := Lib.hid (show st = ga by rw [HST.out, if_pos ⟨rfl, rfl⟩])
      clear HST
      go_enter Tryd.func135, Tryd.ntmps135
      go_wp2_with fail
      go_ret
      exact ⟨by rw [HF.out]; rfl, HG2.out⟩
    · have e1 : (gv == 1) = false := by simpa using h1
      have HF := Lib.hid (show st = k by rw [HST.out, if_neg (fun h => h1 h.2), if_neg (fun h => absurd h.1 (by decide)), if_neg (fun h => absurd h.1 (by decide))])
      clear HST h1
      go_enter Tryd.func135, Tryd.ntmps135
      go_wp2_with fail
      go_ret
      exact ⟨by rw [HF.out]; rfl, HG2.out⟩
  · by_cases h3 : gk = 3
    · subst h3
      obtain ⟨ra0, ra1⟩ := HO.out ga (by simp [opsL])
      obtain ⟨rb0, rb1⟩ := HO.out gb (by simp [opsL])
      obtain ⟨ia, rfl⟩ := Int.eq_ofNat_of_zero_le ra0
      obtain ⟨ib, rfl⟩ := Int.eq_ofNat_of_zero_le rb0
      have ha := HR.out _ HG2.out ia (by omega)
      have hb2 := HR.out _ HG2.out ib (by omega)
      have hla : ia < m := by omega
      have hlb : ib < m := by omega
      rw [at3_nat, at3_nat] at HST
      clear HO h4 ra0 ra1 rb0 rb1
      generalize (gs.getD ia g0).k = ka at *
      generalize (gs.getD ib g0).k = kb at *
      by_cases h5 : ka = 2
      · subst h5
        have HF := Lib.hid (show st = ib by rw [HST.out, if_neg (fun h => absurd h.1 (by decide)), if_pos ⟨rfl, rfl⟩])
        clear HST
        go_enter Tryd.func135, Tryd.ntmps135
        go_wp2_with fail
        go_ret
        exact ⟨by rw [HF.out]; rfl, HG2.out⟩
      · have e5 : (ka == 2) = false := by simpa using h5
        by_cases h6 : kb = 2
        · subst h6
          have HF := Lib.hid (show st = ia by rw [HST.out, if_neg (fun h => absurd h.1 (by decide)), if_neg (fun h => h5 h.2), if_pos ⟨rfl, rfl⟩])
          clear HST h5
          go_enter Tryd.func135, Tryd.ntmps135
          go_wp2_with fail
          go_ret
          exact ⟨by rw [HF.out]; rfl, HG2.out⟩
        · have e6 : (kb == 2) = false := by simpa using h6
          have HF := Lib.hid (show st = k by rw [HST.out, if_neg (fun h => absurd h.1 (by decide)), if_neg (fun h => h5 h.2), if_neg (fun h => h6 h.2)])
          clear HST h5 h6
          go_enter Tryd.func135, Tryd.ntmps135
          go_wp2_with fail
          go_ret
          exact ⟨by rw [HF.out]; rfl, HG2.out⟩
    · have e4 : (gk == 4) = false := by simpa using h4
      have e3 : (gk == 3) = false := by simpa using h3
      have HF := Lib.hid (show st = k by rw [HST.out, if_neg (fun h => h4 h.1), if_neg (fun h => h3 h.1), if_neg (fun h => h3 h.1)])
      clear HST h3 h4
      go_enter Tryd.func135, Tryd.ntmps135
      go_wp2_with fail
      go_ret
      exact ⟨by rw [HF.out]; rfl, HG2.out⟩
set_option maxHeartbeats 4000000 in
theorem opFor_any (n : Int) (gv : Value) (a2 : Option Addr) (k2 c2 : Nat) (gs : List Gt) (k : Nat) (w : World) (hg : RdR gateE w gv gs) (hk : k < gs.length) (hl : gs.length ≤ 1000) (hops : ∀ g ∈ gs, ∀ x ∈ opsL g, 0 ≤ x ∧ x < gs.length) :
    Calls Tryd.prog 115 #[.agg #[.int .i64 n, gv, .slice a2 k2 c2], .int .i64 k] w fun e w' => e = .returned (.int .i64 (standL gs k)) ∧ w.grownBy w' none := by
  have hmem : gs.getD k g0 ∈ gs := by
    rw [List.getD_eq_getElem?_getD, List.getElem?_eq_getElem hk]
    exact List.getElem_mem _
  have HO := Lib.hid (hops _ hmem)
  have HST := Lib.hid (stand_eq gs k)
  obtain ⟨a, c, rfl⟩ := hg.shape
  obtain ⟨b, o, rfl, hb, q0, q1, q2, q3⟩ := gate_at rfl rfl (hg.carry (gr1 w (.cells #[.int .i64 n, .slice a gs.length c, .slice a2 k2 c2] 29))) hk
  generalize hgk : gs.getD k g0 = g at *
  have HR := Lib.hid fun W (h : w.grownBy W none) (j : Nat) (hj : j < gs.length) => (gate_in rfl rfl (hg.carry h) hj).1
  have HG2 := Lib.hid (gr2 w (.cells #[.int .i64 n, .slice (some ⟨b, o, none⟩) gs.length c, .slice a2 k2 c2] 29) (.cells #[.int .i64 g.k, .int .i64 g.a, .int .i64 g.b, .int .i64 g.v] 130))
  have HX := Lib.hid (two_boxes (w := w) (x1 := .int .i64 n) (x2 := .slice (some ⟨b, o, none⟩) gs.length c) (x3 := .slice a2 k2 c2) (y1 := .int .i64 g.k) (y2 := .int .i64 g.a) (y3 := .int .i64 g.b) (y4 := .int .i64 g.v) (t1 := 29) (t2 := 130) (grownBy_refl _ none))
  clear hops hmem hg hgk
  generalize standL gs k = st at *
  generalize hm : gs.length = m at *
  have HM := Lib.hid hm
  clear hm
  obtain ⟨gk, ga, gb, gv⟩ := g
  simp only at HST HO HG2 HX q0 q1 q2 q3
  obtain ⟨x0, x1, x2, y0, y1, y2, y3⟩ := HX.out
  by_cases h4 : gk = 4
  · subst h4
    by_cases h1 : gv = 1
    · subst h1
      have HF := Lib.hid (show st = ga by rw [HST.out, if_pos ⟨rfl, rfl⟩])
      clear HST
      go_enter Tryd.func115, Tryd.ntmps115
      go_wp2_with fail
      go_ret
      exact ⟨by rw [HF.out]; rfl, HG2.out⟩
    · have e1 : (gv == 1) = false := by simpa using h1
      have HF := Lib.hid (show st = k by rw [HST.out, if_neg (fun h => h1 h.2), if_neg (fun h => absurd h.1 (by decide)), if_neg (fun h => absurd h.1 (by decide))])
      clear HST h1
      go_enter Tryd.func115, Tryd.ntmps115
      go_wp2_with fail
      go_ret
      exact ⟨by rw [HF.out]; rfl, HG2.out⟩
  · by_cases h3 : gk = 3
    · subst h3
      obtain ⟨ra0, ra1⟩ := HO.out ga (by simp [opsL])
      obtain ⟨rb0, rb1⟩ := HO.out gb (by simp [opsL])
      obtain ⟨ia, rfl⟩ := Int.eq_ofNat_of_zero_le ra0
      obtain ⟨ib, rfl⟩ := Int.eq_ofNat_of_zero_le rb0
      have ha := HR.out _ HG2.out ia (by omega)
      have hb2 := HR.out _ HG2.out ib (by omega)
      have hla : ia < m := by omega
      have hlb : ib < m := by omega
      rw [at3_nat, at3_nat] at HST
      clear HO h4 ra0 ra1 rb0 rb1
      generalize (gs.getD ia g0).k = ka at *
      generalize (gs.getD ib g0).k = kb at *
      by_cases h5 : ka = 2
      · subst h5
        have HF := Lib.hid (show st = ib by rw [HST.out, if_neg (fun h => absurd h.1 (by decide)), if_pos ⟨rfl, rfl⟩])
        clear HST
        go_enter Tryd.func115, Tryd.ntmps115
        go_wp2_with fail
        go_ret
        exact ⟨by rw [HF.out]; rfl, HG2.out⟩
      · have e5 : (ka == 2) = false := by simpa using h5
        by_cases h6 : kb = 2
        · subst h6
          have HF := Lib.hid (show st = ia by rw [HST.out, if_neg (fun h => absurd h.1 (by decide)), if_neg (fun h => h5 h.2), if_pos ⟨rfl, rfl⟩])
          clear HST h5
          go_enter Tryd.func115, Tryd.ntmps115
          go_wp2_with fail
          go_ret
          exact ⟨by rw [HF.out]; rfl, HG2.out⟩
        · have e6 : (kb == 2) = false := by simpa using h6
          have HF := Lib.hid (show st = k by rw [HST.out, if_neg (fun h => absurd h.1 (by decide)), if_neg (fun h => h5 h.2), if_neg (fun h => h6 h.2)])
          clear HST h5 h6
          go_enter Tryd.func115, Tryd.ntmps115
          go_wp2_with fail
          go_ret
          exact ⟨by rw [HF.out]; rfl, HG2.out⟩
    · have e4 : (gk == 4) = false := by simpa using h4
      have e3 : (gk == 3) = false := by simpa using h3
      have HF := Lib.hid (show st = k by rw [HST.out, if_neg (fun h => h4 h.1), if_neg (fun h => h3 h.1), if_neg (fun h => h3 h.1)])
      clear HST h3 h4
      go_enter Tryd.func115, Tryd.ntmps115
      go_wp2_with fail
      go_ret
      exact ⟨by rw [HF.out]; rfl, HG2.out⟩
end Go.Proofs.YtkamcgonacmieaaDoor

/-
  The end of a chain of gates that stand for others, in the program. Conditions: operands are gates, and there are ranks.
-/
namespace Go.Proofs.YtkamcgonacmieaaDoor
open Go.RowKit
set_option linter.unusedVariables false
set_option maxRecDepth 100000

/-- A function value that makes f of every x in S, and writes nothing old. -/
def OfFn (g : FuncId) (lb : Array Value) (S : Int → Prop) (f : Int → Int) (w : World) : Prop :=
  ∀ W x, S x → w.grownBy W none → Calls Tryd.prog g (#[.int .i64 x] ++ lb) W fun e w' => e = .returned (.int .i64 (f x)) ∧ W.grownBy w' none
theorem Gates.opsN {gs : List Gt} (h : Gates gs) : ∀ g ∈ gs, ∀ x ∈ opsL g, 0 ≤ x ∧ x < (gs.length : Int) := h.ops

set_option maxHeartbeats 1000000 in
theorem simp1_any (n : Int) (gv : Value) (a2 : Option Addr) (k2 c2 p1 : Nat) (gs : List Gt) (x : Int) (w : World) (b0 : w.cell? ⟨p1, 0, none⟩ = some (.int .i64 n)) (b1 : w.cell? ⟨p1, 1, none⟩ = some gv) (b2 : w.cell? ⟨p1, 2, none⟩ = some (.slice a2 k2 c2))
    (hg : RdR gateE w gv gs) (hgs : Gates gs) (hl : gs.length ≤ 1000) (hx0 : 0 ≤ x) (hx1 : x < gs.length) :
    Calls Tryd.prog 134 #[.int .i64 x, .pointer (some ⟨p1, 0, none⟩)] w fun e w' => e = .returned (.int .i64 (finL gs x)) ∧ w.grownBy w' none := by
  have hp1 := World.block_lt_of_cell? w _ b0
  have HB := Lib.hid fun W (h : w.grownBy W none) => (show W.cell? ⟨p1, 0, none⟩ = some (.int .i64 n) ∧ W.cell? ⟨p1, 1, none⟩ = some gv ∧ W.cell? ⟨p1, 2, none⟩ = some (.slice a2 k2 c2) from
    ⟨(World.cell?_of_block (a := ⟨p1, 0, none⟩) (h.block _ hp1 (by simp))).trans b0, (World.cell?_of_block (a := ⟨p1, 1, none⟩) (h.block _ hp1 (by simp))).trans b1, (World.cell?_of_block (a := ⟨p1, 2, none⟩) (h.block _ hp1 (by simp))).trans b2⟩)
  have HS := Lib.hid fun W (h : w.grownBy W none) (k : Nat) (hk : k < gs.length) => standsFor_any n gv a2 k2 c2 gs k W (hg.carry h) hk hl hgs.opsN
  obtain ⟨r, hr⟩ := hgs.chain
  have HR := Lib.hid hr; have HGS := Lib.hid hgs
  obtain ⟨a, c, rfl⟩ := hg.shape
  obtain ⟨k0, rfl⟩ := Int.eq_ofNat_of_zero_le hx0
  have hk0 : k0 < gs.length := by omega
  have HFN := Lib.hid (show finL gs k0 = finL gs k0 from rfl)
  generalize hfin : finL gs k0 = fin at *
  have HFIN := Lib.hid hfin
  generalize hm : gs.length = m at *
  have HM := Lib.hid hm
  clear hr hgs hg hm hfin HFN hx0 hx1
  have HNAT := Lib.hid fun (k : Nat) (hk : k < m) => (show ∃ j : Nat, standL gs k = (j : Int) ∧ j < m from by
    obtain ⟨h1, h2⟩ := HGS.out.stand (k := (k : Int)) (by omega) (by have := HM.out; omega)
    obtain ⟨j, hj⟩ := Int.eq_ofNat_of_zero_le h1
    exact ⟨j, hj, by have := HM.out; omega⟩)
  obtain ⟨j1, hj1, hjm⟩ := HNAT.out k0 hk0
  have HC0 := Lib.hid (HS.out w (grownBy_refl _ _) k0 hk0)
  rw [hj1] at HC0
  have HJ1 := Lib.hid hj1
  clear hj1
  go_enter Tryd.func134, Tryd.ntmps134
  go_wp2_with (
    go_at_call 135
    refine HC0.out.mono ?_
    rintro e w2 ⟨rfl, hg2⟩
    have HG := Lib.hid hg2
    clear hg2)
  go_loopw [0, 4] (fun s0 s4 wr => ∃ (i k j : Nat), s0 = .int .i64 k ∧ s4 = .int .i64 j ∧ k < m ∧ j < m ∧ standL gs k = (j : Int) ∧ (k : Int) = iterL (standL gs) i k0 ∧ w.grownBy wr none) (fun s0 _ _ => r (intOf s0).toNat)
  case atStart => exact ⟨0, k0, j1, rfl, rfl, hk0, hjm, HJ1.out, rfl, HG.out⟩
  case round =>
    obtain ⟨i, k, j, rfl, rfl, hk, hj, hst, hit, hg2⟩ := hrel
    have HST := Lib.hid hst; have HIT := Lib.hid hit; have HGW := Lib.hid hg2
    obtain ⟨c0, c1', c2'⟩ := HB.out _ hg2
    by_cases he : j = k
    · subst he
      have hf : finL gs k0 = j := by
        have h1 : standL gs (iterL (standL gs) i k0) = iterL (standL gs) i k0 := by rw [← hit]; exact hst
        rw [fin_of h1, ← hit]
      have HF := Lib.hid (show fin = j by rw [← HFIN.out]; exact hf)
      clear hst hit hf hg2
      go_wp2_with fail
      go_ret
      exact ⟨by rw [HF.out]; rfl, HGW.out⟩
    · have hne : ((j : Int) != (k : Int)) = true := by rw [bne_iff_ne]; omega
      have hlt : r j < r k := by
        have h1 := HR.out k (by omega) (by omega) (by rw [hst]; omega)
        rw [hst] at h1
        simpa using h1
      obtain ⟨j2, hj2, hjm2⟩ := HNAT.out j hj
      have HC := Lib.hid (HS.out wr hg2 j hj)
      rw [hj2] at HC
      have HJ2 := Lib.hid hj2
      have HLT := Lib.hid hlt
      clear hst hit hg2 he hj2 hlt
      go_wp2_with (
        go_at_call 135
        refine HC.out.mono ?_
        rintro e w3 ⟨rfl, hg3⟩
        have HG3 := Lib.hid (grownBy_trans HGW.out hg3)
        clear hg3)
      go_roundw
      case rel => exact ⟨i + 1, j, j2, rfl, rfl, hj, hjm2, HJ2.out, by show (j : Int) = standL gs (iterL (standL gs) i k0); rw [← HIT.out, HST.out], HG3.out⟩
      case measure =>
        show r j < r k
        exact HLT.out
end Go.Proofs.YtkamcgonacmieaaDoor

/-
  A gate with other operands. Conditions: the function value writes nothing old.
-/
namespace Go.Proofs.YtkamcgonacmieaaDoor
open Go.RowKit
set_option linter.unusedVariables false
set_option maxRecDepth 100000

set_option maxHeartbeats 4000000 in
theorem withOperands_any (g : FuncId) (lb : Array Value) (eg : ∀ args w, (callFunc g args).run Tryd.prog w = .ok (.enter g args) w) (S : Int → Prop) (f : Int → Int) (y : Gt) (w : World) (hf : OfFn g lb S f w) (hS : ∀ x ∈ opsL y, S x) :
    Calls Tryd.prog 202 #[gtV y, .func (.func g) #[] lb] w fun e w' => e = .returned (gtV (withL f y)) ∧ w.grownBy w' none := by
  unfold gtV
  obtain ⟨k, a, b, v⟩ := y
  simp only
  have HF := Lib.hid hf; have HS := Lib.hid hS
  have hs0 := ((Sep.start w).box #[.int .i64 k, .int .i64 a, .int .i64 b, .int .i64 v] 130).box #[.int .i64 0, .int .i64 0, .int .i64 0, .int .i64 0] 130
  have e1 : (w.alloc (.cells #[.int .i64 k, .int .i64 a, .int .i64 b, .int .i64 v] 130)).heap.size = w.heap.size + 1 := by simp
  rw [e1] at hs0
  have HS0 := Lib.hid hs0
  clear hf hS hs0 e1
  by_cases h3 : k = 3
  · subst h3
    have HA := Lib.hid fun W (h : w.grownBy W none) => HF.out W a (HS.out a (by simp [opsL])) h
    have HB := Lib.hid fun W (h : w.grownBy W none) => HF.out W b (HS.out b (by simp [opsL])) h
    have hw : withL f ⟨3, a, b, v⟩ = ⟨3, f a, f b, v⟩ := by simp [withL]
    rw [hw]
    clear hw HF HS
    generalize f a = fa at *
    generalize f b = fb at *
    go_enter Tryd.func202, Tryd.ntmps202
    go_upto_region 3 with fail
    have hs1 := HS0.out.dr
    have HS1 := Lib.hid hs1
    have HK1 := Lib.hid (show w.grownBy _ none from hs1.tl.tl.hd)
    obtain ⟨x0, x1, x2, x3, x4, x5, x6, x7⟩ := bx4 hs1.tl.hd
    clear hs1
    go_region_law (first
      | (try go_simp
         go_at_fn g
         go_loud (with_reducible refine (HA.out _ HK1.out).mono ?_)
         rintro e w2 ⟨rfl, hg⟩
         have HS2 := Lib.hid (HS1.out.grown hg)
         have HK2 := Lib.hid (show w.grownBy w2 none from HS2.out.tl.tl.hd)
         obtain ⟨y0, y1, y2, y3, y4, y5, y6, y7⟩ := bx4 HS2.out.tl.hd
         clear hg)
      | (try go_simp
         go_at_fn g
         go_loud (with_reducible refine (HB.out _ HK2.out).mono ?_)
         rintro e w3 ⟨rfl, hg⟩
         have HS3 := Lib.hid (HS2.out.grown hg)
         obtain ⟨z0, z1, z2, z3, z4, z5, z6, z7⟩ := bx4 HS3.out.tl.hd
         clear hg))
    all_goals
      have hs3 := HS3.out.s2
      have hs4 := (hs3.setB 1 (.int .i64 fa)).setB 2 (.int .i64 fb)
      obtain ⟨c0, c1, c2, c3, _⟩ := bx4 hs4.hd
      have hs5 := hs4.s2
      obtain ⟨r0, r1, r2, r3, r4, r5, r6, r7⟩ := bx4 hs5.hd
      have hs6 := (((hs5.setB 0 (.int .i64 3)).setB 1 (.int .i64 fa)).setB 2 (.int .i64 fb)).setB 3 (.int .i64 v)
      obtain ⟨t0, t1, t2, t3, _⟩ := bx4 hs6.hd
      have HKF := Lib.hid (show w.grownBy _ none from hs6.tl.tl.hd)
      clear hs3 hs4 hs5 hs6
      go_wp2_with fail
      refine bodyPost_ret_by (v := .agg #[.int .i64 3, .int .i64 fa, .int .i64 fb, .int .i64 v]) ?_ rfl ⟨rfl, HKF.out⟩
      simp [results, go_sem, *]
  · by_cases h45 : k = 4 ∨ k = 5
    · have HA := Lib.hid fun W (h : w.grownBy W none) => HF.out W a (HS.out a (by simp [opsL, h3, h45])) h
      have hw : withL f ⟨k, a, b, v⟩ = ⟨k, f a, b, v⟩ := by simp [withL, h3, h45]
      rw [hw]
      have e3 : (k == 3) = false := by simpa using h3
      have HKA := Lib.hid (show w.grownBy _ none from HS0.out.tl.tl.hd)
      clear hw HF HS h3
      generalize f a = fa at *
      by_cases h4 : k = 4
      · subst h4
        clear h45 e3
        go_enter Tryd.func202, Tryd.ntmps202
        go_wp2_with (
          go_at_fn g
          with_reducible refine (HA.out _ HKA.out).mono ?_
          rintro e w2 ⟨rfl, hg⟩
          have HS2 := Lib.hid (HS0.out.grown hg)
          obtain ⟨y0, y1, y2, y3, y4, y5, y6, y7⟩ := bx4 HS2.out.tl.hd
          have hs3 := HS2.out.s2
          have hs4 := hs3.setB 1 (.int .i64 fa)
          obtain ⟨c0, c1, c2, c3, _⟩ := bx4 hs4.hd
          have hs5 := hs4.s2
          obtain ⟨r0, r1, r2, r3, r4, r5, r6, r7⟩ := bx4 hs5.hd
          have hs6 := (((hs5.setB 0 (.int .i64 4)).setB 1 (.int .i64 fa)).setB 2 (.int .i64 b)).setB 3 (.int .i64 v)
          obtain ⟨t0, t1, t2, t3, _⟩ := bx4 hs6.hd
          have HKF := Lib.hid (show w.grownBy _ none from hs6.tl.tl.hd)
          clear hs3 hs4 hs5 hs6
          clear hg)
        refine bodyPost_ret_by (v := .agg #[.int .i64 4, .int .i64 fa, .int .i64 b, .int .i64 v]) ?_ rfl ⟨rfl, HKF.out⟩
        simp [results, go_sem, *]
      · obtain rfl : k = 5 := by omega
        clear h45 e3 h4
        go_enter Tryd.func202, Tryd.ntmps202
        go_wp2_with (
          go_at_fn g
          with_reducible refine (HA.out _ HKA.out).mono ?_
          rintro e w2 ⟨rfl, hg⟩
          have HS2 := Lib.hid (HS0.out.grown hg)
          obtain ⟨y0, y1, y2, y3, y4, y5, y6, y7⟩ := bx4 HS2.out.tl.hd
          have hs3 := HS2.out.s2
          have hs4 := hs3.setB 1 (.int .i64 fa)
          obtain ⟨c0, c1, c2, c3, _⟩ := bx4 hs4.hd
          have hs5 := hs4.s2
          obtain ⟨r0, r1, r2, r3, r4, r5, r6, r7⟩ := bx4 hs5.hd
          have hs6 := (((hs5.setB 0 (.int .i64 5)).setB 1 (.int .i64 fa)).setB 2 (.int .i64 b)).setB 3 (.int .i64 v)
          obtain ⟨t0, t1, t2, t3, _⟩ := bx4 hs6.hd
          have HKF := Lib.hid (show w.grownBy _ none from hs6.tl.tl.hd)
          clear hs3 hs4 hs5 hs6
          clear hg)
        refine bodyPost_ret_by (v := .agg #[.int .i64 5, .int .i64 fa, .int .i64 b, .int .i64 v]) ?_ rfl ⟨rfl, HKF.out⟩
        simp [results, go_sem, *]
    · have hw : withL f ⟨k, a, b, v⟩ = ⟨k, a, b, v⟩ := by simp [withL, h3, h45]
      rw [hw]
      simp only [not_or] at h45
      have e3 : (k == 3) = false := by simpa using h3
      have e4 : (k == 4) = false := by simpa using h45.1
      have e5 : (k == 5) = false := by simpa using h45.2
      clear hw HF HS h3 h45
      go_enter Tryd.func202, Tryd.ntmps202
      go_wp2_with fail
      refine bodyPost_ret_by (v := .agg #[.int .i64 k, .int .i64 a, .int .i64 b, .int .i64 v]) ?_ rfl ⟨rfl, gr2 _ _ _⟩
      simp [results, go_sem, *]
end Go.Proofs.YtkamcgonacmieaaDoor

/-
  Copies of lists and of circuits. Conditions: lengths are small.
-/
namespace Go.Proofs.YtkamcgonacmieaaDoor
open Go.RowKit
set_option linter.unusedVariables false
set_option maxRecDepth 100000

/-- 'append(out, ys...)', out the call's own, ys readable: nil, empty or not. -/
theorem app_Rs {α : Type} {E : Lay α} {ops : Array Oper} {rest : List Oper} {o : Oper} {a : Act} {Q : Exit → Act → World → Prop} {t : TypeId} {z : Value} {bytes : Nat} (hinfo : (Tryd.prog.info? E.ty).map (fun i => (i.zero, i.size, i.bytes)) = some (some z, E.sz, bytes)) (hzs : z.cells.size = E.sz) (hby : bytes ≤ 10000) (ht : Tryd.prog.underlying t = some (.slice E.ty))
    (hone : ∀ y : α, ∀ u ∈ E.cs y, u.oneCell' = true) (hgd : o.guard = none) (s x : Operand)
    (ho : o.op = .call { callee := .builtin .append, args := #[s, x], argTypes := #[t, t] })
    {B : Nat} {w : World} {v u : Value} {xs ys : List α} (hs : a.eval s = v) (hx : a.eval x = u) (hu : RdR E w u ys)
    (hown : OwnR E B w v xs) (hB : B ≤ w.heap.size) (hl : xs.length + ys.length ≤ 10000000)
    (h : ∀ v' w', OwnR E B w' v' (xs ++ ys) → Below B w w' → wpList Tryd.prog ops Q rest (a.put o.dst v') w') :
    wpList Tryd.prog ops Q (o :: rest) a w := by
  obtain ⟨i0, hi, hz0, hz1, hz2⟩ := info_parts hinfo
  obtain ⟨ua, ucap, rfl, hr⟩ := hu
  cases ua with
  | none =>
    have hy : ys = [] := by
      cases ys with
      | nil => rfl
      | cons z zs => obtain ⟨d, hd, _⟩ := hr (by simp); cases hd
    subst hy
    refine wpList_plain hgd fun K hK => ?_
    have hrun := run_nil_any (P := Tryd.prog) w B t o.type E.ty i0 E.sz ht hi v xs.length _ hown ucap
    unfold Oper.wp execOp
    simp only [ho, resolve, invoke, builtin, Sem.run_bind, Sem.run_pure, Result.andThen_ok, List.map_toArray, List.map_cons, List.map_nil, hs, hx, List.length_nil, hrun]
    exact hK _ _ (h v w (by simpa using hown) (Below.refl _ _))
  | some d =>
    have hb : (xs.length + ys.length) * bytes ≤ 140737488355328 := Nat.le_trans (Nat.mul_le_mul hl hby) (by decide)
    refine wpList_append_own _ hgd s x t ho B E.ty i0 z E.sz bytes ht hi hz0 hz1 hz2 hzs E.pos v xs.length (xs.flatMap E.cs) hs hown
      d ys.length ucap (ys.flatMap E.cs) hx (flat_len E ys) ?_ ?_ (by unfold maxLen; omega) hb hB ?_
    · intro j u hj
      have hjy : j < ys.length * E.sz := by
        rcases Nat.lt_or_ge j (ys.length * E.sz) with h | h
        · exact h
        · rw [List.getElem?_eq_none (by rw [flat_len]; exact h)] at hj; cases hj
      have h1 : j / E.sz < ys.length := Nat.div_lt_of_lt_mul (by rw [Nat.mul_comm]; exact hjy)
      have h2 : j % E.sz < E.sz := Nat.mod_lt _ E.pos
      obtain ⟨d', hd, hsp, hdb, hc⟩ := hr (by intro h; rw [h] at h1; simp at h1)
      cases hd
      have h3 := hc (j / E.sz) h1 (j % E.sz) h2
      have h4 := flat_at E ys h1 h2
      rw [show j / E.sz * E.sz + j % E.sz = j by rw [Nat.mul_comm]; exact Nat.div_add_mod _ _] at h4
      rw [← h4, hj, show d.off + j / E.sz * E.sz + j % E.sz = d.off + j by rw [Nat.add_assoc, Nat.mul_comm, Nat.div_add_mod]] at h3
      obtain ⟨db, dof, _⟩ := d
      simp only at hsp
      subst hsp
      unfold Addr.add; split
      · next h0 => subst h0; simpa using h3
      · exact h3
    · intro u hu
      obtain ⟨y, _, hy⟩ := List.mem_flatMap.1 hu
      exact hone y u hy
    · intro v' w1 hown' hgrow _
      refine h v' w1 (by unfold OwnR; rw [List.length_append, List.flatMap_append]; exact hown') ?_
      exact (Below.refl B w).grown hgrow hB fun k hk => (hown.lt k hk).1
theorem OwnR.empty {α : Type} (E : Lay α) {B g : Nat} {w : World} (hB : B ≤ w.heap.size) (hg : g = w.heap.size) : OwnR E B (w.alloc (.cells #[] E.ty)) (.slice (some ⟨g, 0, none⟩) 0 0) [] := by
  subst hg
  exact ⟨by simp, Or.inr ⟨w.heap.size, 0, #[], rfl, hB, alloc_heap_new _ _, Nat.le_refl _, Nat.zero_le _, by simp, by simp⟩⟩

theorem cloneG_any (d : Addr) (n c : Nat) (gs : List Gt) (w : World) (hg : RdR gateE w (.slice (some d) n c) gs) (hl : gs.length ≤ 1000000) :
    Calls Tryd.prog 128 #[.slice (some d) n c] w fun e w' => ∃ a c', e = .returned (.slice a gs.length c') ∧ Sep w' [OR gateE (.slice a gs.length c') gs, KeepA w] := by
  have HG := Lib.hid (hg.carry (gr1 w (.cells #[] 130)))
  have HL := Lib.hid hl
  clear hg hl
  have hnil : ∀ (a' : Option Addr) (n c : Nat) (W : World), (binOp .eql 27 (.slice a' n c) (.slice none 0 0)).run Tryd.prog W = .ok (.bool a'.isNone) W := fun a' n c W => Lib.run_eql_slice_nil W _ _ a' n c 0 0 Tryd.underlying27
  go_enter Tryd.func128, Tryd.ntmps128
  go_wp2_with (
    at_builtin
    go_loud (refine app_Rs (E := gateE) info_gate rfl (by decide) Tryd.underlying27 gate_one rfl (.tmp 5) (.tmp 6) rfl rfl rfl HG.out (OwnR.empty gateE (Nat.le_refl _) rfl) (by simp) (by have := HL.out; simp; omega) ?_)
    intro v' w' ho hb
    rw [List.nil_append] at ho
    obtain ⟨a', c', rfl⟩ := ho.shape
    have HS := Lib.hid ((Sep.start w).newR (grown_of_below (((Below.refl _ _).alloc (Nat.le_refl _) _).trans hb)) ho)
    clear ho hb)
  go_ret
  exact ⟨_, _, rfl, HS.out⟩
end Go.Proofs.YtkamcgonacmieaaDoor

/-
  Copies of circuits. Conditions: lengths are small.
-/
namespace Go.Proofs.YtkamcgonacmieaaDoor
open Go.RowKit
set_option linter.unusedVariables false
set_option maxRecDepth 100000

theorem cloneI_any (u : Value) (ys : List Int) (w : World) (hu : IntsV w u ys) (hl : ys.length ≤ 1000000) :
    Calls Tryd.prog 129 #[u] w fun e w' => ∃ a c, e = .returned (.slice a ys.length c) ∧ Sep w' [OI (.slice a ys.length c) ys, KeepA w] := by
  have HU := Lib.hid hu
  obtain ⟨ua, ucap, rfl, hx⟩ := hu
  clear hx
  go_enter Tryd.func129, Tryd.ntmps129
  go_wp2_with (
    at_builtin
    go_loud (refine app_ints rfl (.tmp 3) (.tmp 4) rfl rfl rfl (HU.out.carry (grownBy_alloc _ _ _)) (OwnInts.empty (Nat.le_refl _) rfl) (by simp) (by simp; omega) ?_)
    intro v' w' ho hb
    rw [List.nil_append] at ho
    obtain ⟨a', c', rfl⟩ := own_shape ho
    have HS := Lib.hid ((Sep.start w).newI (grown_of_below (((Below.refl _ _).alloc (Nat.le_refl _) _).trans hb)) ho)
    clear ho hb)
  go_ret
  exact ⟨_, _, rfl, HS.out⟩

set_option maxHeartbeats 4000000 in
theorem copy_any (n : Int) (d : Addr) (c : Nat) (ov : Value) (gs : List Gt) (os : List Int) (w : World) (hg : RdR gateE w (.slice (some d) gs.length c) gs) (ho : IntsV w ov os) (l1 : gs.length ≤ 1000000) (l2 : os.length ≤ 1000000) :
    Calls Tryd.prog 58 #[.agg #[.int .i64 n, .slice (some d) gs.length c, ov]] w fun e w' => ∃ a1 c1 a2 c2, e = .returned (cirV n (.slice a1 gs.length c1) (.slice a2 os.length c2)) ∧
      Sep w' [OR gateE (.slice a1 gs.length c1) gs, OI (.slice a2 os.length c2) os, KeepA w] := by
  have HCG := Lib.hid fun W (h : w.grownBy W none) => cloneG_any d gs.length c gs W (hg.carry h) l1
  have HCI := Lib.hid fun W (h : w.grownBy W none) => cloneI_any ov os W (ho.carry h) l2
  obtain ⟨oa, oc, rfl⟩ := ho.shape
  clear hg ho
  generalize gs.length = m at *
  generalize os.length = m2 at *
  have hs0 := ((Sep.start w).box #[.int .i64 n, .slice (some d) m c, .slice oa m2 oc] 29).box #[.int .i64 0, .slice none 0 0, .slice none 0 0] 29
  have e1 : (w.alloc (.cells #[.int .i64 n, .slice (some d) m c, .slice oa m2 oc] 29)).heap.size = w.heap.size + 1 := by simp
  rw [e1] at hs0
  have HS0 := Lib.hid hs0
  clear hs0 e1
  go_enter Tryd.func58, Tryd.ntmps58
  go_upto_region 1 with fail
  have hs1 := HS0.out.dr
  have HS1 := Lib.hid hs1
  have HK1 := Lib.hid (show w.grownBy _ none from hs1.tl.tl.hd)
  obtain ⟨x0, x1, x2, x3, x4, x5⟩ := bx3 hs1.tl.hd
  obtain ⟨y0, y1, y2, y3, y4, y5⟩ := bx3 hs1.hd
  clear hs1
  go_region_law (first
    | (try go_simp
       go_at_call 128
       go_loud (with_reducible refine (HCG.out _ HK1.out).mono ?_)
       rintro e w2 ⟨a1, c1, rfl, hsg⟩
       have HS2 := Lib.hid (HS1.out.graft1 hsg OR_own)
       have HK2 := Lib.hid (show w.grownBy w2 none from HS2.out.tl.tl.tl.hd)
       obtain ⟨z0, z1, z2, z3, z4, z5⟩ := bx3 HS2.out.tl.tl.hd
       obtain ⟨v0, v1, v2, v3, v4, v5⟩ := bx3 HS2.out.tl.hd
       clear hsg)
    | (try go_simp
       go_at_call 129
       go_loud (with_reducible refine (HCI.out _ HK2.out).mono ?_)
       rintro e w3 ⟨a2, c2, rfl, hsg⟩
       have HS3 := Lib.hid (HS2.out.graft1 hsg OI_own)
       have HK3 := Lib.hid (show w.grownBy w3 none from HS3.out.tl.tl.tl.tl.hd)
       obtain ⟨p0, p1, p2, p3, p4, p5⟩ := bx3 HS3.out.tl.tl.tl.hd
       obtain ⟨q0, q1, q2, q3, q4, q5⟩ := bx3 HS3.out.tl.tl.hd
       have hs4 := ((HS3.out.s3.setB 0 (.int .i64 n)).setB 1 (.slice a1 m c1)).setB 2 (.slice a2 m2 c2)
       obtain ⟨t0, t1, t2, _⟩ := bx3 hs4.hd
       have HSF := Lib.hid (show Sep _ [OR gateE (.slice a1 m c1) gs, OI (.slice a2 m2 c2) os, KeepA w] from (hs4.tl.s2.under (fun h => h.under (fun h => h.tl) (by simp +contextual)) (by simp +contextual)))
       clear hsg hs4))
  all_goals
    go_wp2_with fail
    refine bodyPost_ret_by (v := .agg #[.int .i64 n, .slice a1 m c1, .slice a2 m2 c2]) ?_ rfl ⟨a1, c1, a2, c2, rfl, HSF.out⟩
    simp [results, go_sem, *]
end Go.Proofs.YtkamcgonacmieaaDoor

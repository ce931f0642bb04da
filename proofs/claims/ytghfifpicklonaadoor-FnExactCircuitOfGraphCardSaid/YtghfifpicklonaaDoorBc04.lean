/-
  The order in which gates are made, in the reference: the walk. Conditions: at most 1000 gates, whose operands are gates.
-/
import Derived.Test.YtghfifpicklonaaDoorBc03
import Derived.Test.YtghfifpicklonaaDoorBc00
import Derived.Shelf.Abstract
import Derived.Lib.SliceRun
import Derived.Test.YtghfifpicklonaaDoorBc02
import Derived.WalkMore
import Derived.ScopeJumps
import Derived.Deep.AppendSrc
import Derived.Deep.Upon
import Derived.Test.YtghfifpicklonaaDoorBc01
namespace Go.Proofs.YtghfifpicklonaaDoor
open Go.RowKit
set_option linter.unusedVariables false
set_option maxRecDepth 100000

/-- the operands of one gate -/
def OrdInv (w : World) (n : Nat) (v0 v1 v2 : Value) (g : Nat) (op : List Bool) (ov : Value) (out : List Int) (wr : World) : Prop :=
  Sep wr [OR boolE (.slice (some ⟨g, 0, none⟩) n n) (dn op), OI ov out, BxA w.heap.size #[v0, v1, v2] 29, KeepA w]
theorem openComb {gs : List Gt} {op : List Bool} (h : ∀ i, op.getD i false = true → combB (gs.getD i g0) = true) {i : Nat} (hi : op.getD i false = true) : opsL (gs.getD i g0) = needsL (gs.getD i g0) := by
  have h1 := h i hi
  unfold combB at h1
  unfold needsL
  rw [if_pos (of_decide_eq_true h1)]
set_option maxHeartbeats 4000000 in
theorem crOrder_any (m : Int) (gv : Value) (a2 : Option Addr) (n2 c2 : Nat) (gs : List Gt) (w : World) (hg : RdR gateE w gv gs) (hl : gs.length ≤ 1000) (hops : ∀ g ∈ gs, ∀ x ∈ opsL g, 0 ≤ x ∧ x < gs.length) :
    Calls Tryd.prog 117 #[.agg #[.int .i64 m, gv, .slice a2 n2 c2]] w fun e w' => ∃ a c, e = .returned (.slice a (sched gs).1.length c) ∧ Sep w' [OI (.slice a (sched gs).1.length c) (sched gs).1, KeepA w] := by
  obtain ⟨i0, hi, hz0, hz1, hz2⟩ := info_parts info_bool
  have HI := Lib.hid hi; have HZ0 := Lib.hid hz0; have HZ1 := Lib.hid hz1; have HZ2 := Lib.hid hz2
  clear hi hz0 hz1 hz2
  have HG := Lib.hid hg; have HOPS := Lib.hid hops
  obtain ⟨a, c, rfl⟩ := hg.shape
  generalize hn : gs.length = n at *
  have HN := Lib.hid hn
  clear hg hn hops
  have hs0 := (Sep.start w).box #[.int .i64 m, .slice a n c, .slice a2 n2 c2] 29
  have e1 : (w.alloc (.cells #[.int .i64 m, .slice a n c, .slice a2 n2 c2] 29)).heap.size = w.heap.size + 1 := by simp
  have HE1 := Lib.hid e1
  have HS0 := Lib.hid hs0
  clear hs0 e1
  have HOL := Lib.hid (show (open0 gs).length = n by unfold open0; rw [List.length_map, HN.out])
  go_enter Tryd.func117, Tryd.ntmps117
  go_wp2_with (
    at_make
    refine wpList_make_full _ rfl _ _ 160 rfl (w.heap.size + 1) 4 i0 _ 1 Tryd.underlying160 HI.out HZ0.out HZ1.out _ _ _ _ n rfl rfl rfl rfl (by rw [HZ2.out]; omega) (by unfold maxLen; omega) (by rw [HE1.out]; exact Nat.le_refl _) ?_
    intro w1 hown' hgr'
    have hs1 := HS0.out.newR hgr' (OwnR.made (E := boolE) falseCells (by rw [HE1.out]; exact hown'))
    have hs2 : Sep w1 [OR boolE (.slice (some ⟨w.heap.size + 1, 0, none⟩) n n) (List.replicate n false), OI nilS [], BxA w.heap.size #[.int .i64 m, .slice a n c, .slice a2 n2 c2] 29, KeepA w] := by
      rw [HE1.out] at hs1
      exact hs1.nilI.s2
    rw [HE1.out]
    obtain ⟨x0, x1, x2, _⟩ := bx3 hs2.tl.tl.hd
    have HS := Lib.hid hs2
    clear hs1 hs2 hown' hgr')
  go_loopw [20] (fun i wr => ∃ k : Nat, k ≤ n ∧ i = .int .i64 k ∧ Sep wr [OR boolE (.slice (some ⟨w.heap.size + 1, 0, none⟩) n n) ((dn (open0 gs)).take k ++ List.replicate (n - k) false), OI nilS [], BxA w.heap.size #[.int .i64 m, .slice a n c, .slice a2 n2 c2] 29, KeepA w]) (fun i _ => n - (intOf i).toNat)
  case atStart => exact ⟨0, by omega, rfl, by simpa using HS.out⟩
  case round =>
    obtain ⟨k, hk, rfl, hs⟩ := hrel
    have HSX := Lib.hid hs
    clear hs
    have hdl : (dn (open0 gs)).length = n := by rw [dn_len]; exact HOL.out
    by_cases hlt : k < n
    · obtain ⟨b, o, rfl, hb, q0, q1, q2, q3⟩ := gate_at rfl rfl (HG.out.carry HSX.out.tl.tl.tl.hd) (i := k) (by rw [HN.out]; exact hlt)
      have hv : (dn (open0 gs)).getD k false = !combB (gs.getD k g0) := by rw [dn_at (by rw [HOL.out]; exact hlt), open0_getD]
      have HSET := Lib.hid (fillB_set hdl hlt)
      rw [hv] at HSET
      have HLL := Lib.hid (show n = ((dn (open0 gs)).take k ++ List.replicate (n - k) false).length by rw [List.length_append, List.length_take, List.length_replicate, hdl]; omega)
      generalize gs.getD k g0 = g at *
      have HC := Lib.hid (crCombines_any g)
      unfold gtV at HC
      generalize combB g = cb at *
      generalize (dn (open0 gs)).take k ++ List.replicate (n - k) false = bs at *
      clear hb hv hdl
      go_wp2_with (
        go_at_call 116
        refine (HC.out _).mono ?_
        rintro e w2 ⟨rfl, hg'⟩
        have HS2 := Lib.hid (HSX.out.grown (grownBy_trans (gr1 _ _) hg'))
        have hf := bool_free HS2.out.hd HLL.out k
        have hc := bool_cell HS2.out.hd HLL.out hlt
        generalize bs.getD k false = q at hc
        have HS3 := Lib.hid (HS2.out.setBo HLL.out hlt (!cb))
        clear hg')
      go_roundw
      case rel => exact ⟨k + 1, by omega, by go_num, by rw [← HSET.out]; exact HS3.out⟩
      case measure => simp [intOf]; omega
    · have hkn : k = n := by omega
      subst hkn
      have hs1 := HSX.out
      rw [Nat.sub_self, List.replicate_zero, List.append_nil, List.take_of_length_le (by omega)] at hs1
      have HS1 := Lib.hid hs1
      obtain ⟨N0, hN0⟩ : ∃ N0, N0 = nOpen (open0 gs) := ⟨_, rfl⟩
      have HN0 := Lib.hid hN0
      have HN01 := Lib.hid (show N0 ≤ k by rw [hN0]; have := nOpen_le (open0 gs); have := HOL.out; omega)
      clear hlt hs1 hdl hN0 HSX
      go_wp2_with fail
      go_loopw [3] (fun ov wr => ∃ (op : List Bool) (out : List Int) (oa : Option Addr) (oc : Nat), ov = .slice oa out.length oc ∧ op.length = k ∧ sched gs = schedGo gs (nOpen op) op out ∧ out.length + nOpen op = N0 ∧ (∀ i, op.getD i false = true → combB (gs.getD i g0) = true) ∧
          OrdInv w k (.int .i64 m) (.slice a k c) (.slice a2 n2 c2) (w.heap.size + 1) op ov out wr) (fun ov _ => k - sliceLen ov)
      case atStart => exact ⟨open0 gs, [], none, 0, rfl, HOL.out, schedGo_fuel gs _ _ _ _ (by have := nOpen_le (open0 gs); have := HOL.out; have := HN.out; omega) (Nat.le_refl _), by rw [HN0.out]; simp, fun i hi => by rw [← open0_getD]; exact hi, HS1.out⟩
      case round =>
        obtain ⟨op, out, oa, oc, rfl, hol, hsc, hcnt, hcb, hs⟩ := hrel
        have HS := Lib.hid hs
        have HSC := Lib.hid hsc; have HCNT := Lib.hid hcnt; have HOL2 := Lib.hid hol; have HCB := Lib.hid hcb
        obtain ⟨y0, y1, y2, _⟩ := bx3 hs.tl.tl.hd
        generalize hol' : out.length = ol at *
        have HO := Lib.hid hol'
        clear hs hsc hcnt hol hol' hcb
        have HLD := Lib.hid (show k = (dn op).length by rw [dn_len]; exact HOL2.out.symm)
        go_wp2_with fail
        go_loopw [7, 35] (fun av i wr' => ∃ (j : Nat) (t : Int), j ≤ k ∧ i = .int .i64 j ∧ av = .int .i64 t ∧ t = atK gs op j ∧ OrdInv w k (.int .i64 m) (.slice a k c) (.slice a2 n2 c2) (w.heap.size + 1) op (.slice oa ol oc) out wr') (fun _ i _ => k - (intOf i).toNat)
        case atStart => exact ⟨0, _, by omega, rfl, rfl, rfl, HS.out⟩
        case round =>
          obtain ⟨j, t, hj, rfl, rfl, ht, hs⟩ := hrel
          have HSX := Lib.hid hs
          have HTT := Lib.hid ht
          have htge : -1 ≤ t := by rw [ht]; exact atK_ge _ _ _
          obtain ⟨z0, z1, z2, _⟩ := bx3 hs.tl.tl.hd
          by_cases hlt : j < k
          · obtain ⟨b, o, rfl, hb, q0, q1, q2, q3⟩ := gate_at rfl rfl (HG.out.carry hs.tl.tl.tl.hd) (i := j) (by rw [HN.out]; exact hlt)
            have HAL := Lib.hid fun ob => show OrdInv w k (.int .i64 m) (.slice (some ⟨b, o, none⟩) k c) (.slice a2 n2 c2) (w.heap.size + 1) op (.slice oa ol oc) out (wr.alloc ob) from hs.al ob
            have hdc := fun ob => bool_cell (hs.al ob).hd HLD.out hlt
            rw [dn_at (by rw [HOL2.out]; exact hlt)] at hdc
            have hrb : readyB gs op j = (op.getD j false && !(needsL (gs.getD j g0)).any fun k => op.getD k.toNat false) := rfl
            have HSU := Lib.hid (atK_succ gs op j)
            rw [hrb, ← ht] at HSU
            have hmem : gs.getD j g0 ∈ gs := by
              rw [List.getD_eq_getElem?_getD, List.getElem?_eq_getElem (by rw [HN.out]; exact hlt)]
              exact List.getElem_mem _
            have HOB := Lib.hid (HOPS.out _ hmem)
            have HON := Lib.hid fun hi => openComb HCB.out (i := j) hi
            clear hs ht hb hrb hmem
            generalize gs.getD j g0 = g at *
            have HCO := Lib.hid (crOperands_any g)
            unfold gtV at HCO
            cases hop : op.getD j false
            · rw [hop] at hdc HSU
              have HE := Lib.hid (show atK gs op (j + 1) = t by
                rw [HSU.out]
                split
                · rfl
                · rw [Bool.false_and]
                  rw [if_neg (by decide)]
                  omega)
              clear hop
              go_wp2_with fail
              go_roundw
              case rel => exact ⟨j + 1, t, by omega, by go_num, rfl, HE.out.symm, HAL.out _⟩
              case measure => simp [intOf]; omega
            · rw [hop] at hdc HSU
              have HZ := Lib.hid (HON.out hop)
              clear hop
              by_cases hpos : 0 ≤ t
              · have HE := Lib.hid (show atK gs op (j + 1) = t by rw [HSU.out, if_pos hpos])
                go_wp2_with fail
                go_roundw
                case rel => exact ⟨j + 1, t, by omega, by go_num, rfl, HE.out.symm, HAL.out _⟩
                case measure => simp [intOf]; omega
              · have ht1 : t = -1 := by omega
                have HE := Lib.hid (show atK gs op (j + 1) = if (!(needsL g).any fun k => op.getD k.toNat false) = true then (j : Int) else -1 by rw [HSU.out, if_neg hpos, Bool.true_and])
                rw [← HZ.out, ← rdyTo_all] at HE
                subst ht1
                clear hpos htge
                have hz2 := ops_len g
                generalize opsL g = zs at *
                generalize hzl : zs.length = zl at *
                have HZL := Lib.hid hzl
                clear hzl
                go_wp2_with (
                  go_at_call 144
                  refine (HCO.out _).mono ?_
                  rintro e w2 ⟨a', c', rfl, hi', hg'⟩
                  have HI' := Lib.hid hi'
                  have HS2 := Lib.hid (show OrdInv w k (.int .i64 m) (.slice (some ⟨b, o, none⟩) k c) (.slice a2 n2 c2) (w.heap.size + 1) op (.slice oa ol oc) out w2 from (HAL.out _).grown hg')
                  clear hi' hg')
                go_loopw [10, 51] (fun rv tv wr' => ∃ (q : Nat) (r : Bool), q ≤ zl ∧ tv = .int .i64 q ∧ rv = .bool r ∧ r = rdyTo op zs q ∧ w2.grownBy wr' none) (fun _ tv _ => zl - (intOf tv).toNat)
                case atStart => exact ⟨0, true, by omega, rfl, rfl, rfl, grownBy_refl _ _⟩
                case round =>
                  obtain ⟨q, r, hq, rfl, rfl, hr, hg⟩ := hrel
                  have HR := Lib.hid hr; have HGW := Lib.hid hg
                  by_cases hql : q < zl
                  · obtain ⟨b2, o2, rfl, hb2, hc2⟩ := (HI'.out.carry hg).atD (i := q) (by rw [HZL.out]; exact hql)
                    have hq' : q < zs.length := by rw [HZL.out]; exact hql
                    obtain ⟨hx0, hx1⟩ := HOB.out _ (getD_mem' hq')
                    have HST := Lib.hid (rdyTo_succ op zs hq')
                    generalize zs.getD q 0 = x at *
                    obtain ⟨xk, rfl⟩ := Int.eq_ofNat_of_zero_le hx0
                    have hxk : xk < k := by omega
                    have hcd := bool_cell (HS2.out.grown hg).hd HLD.out hxk
                    rw [dn_at (by rw [HOL2.out]; exact hxk)] at hcd
                    rw [← hr] at HST
                    have HST2 := Lib.hid (show rdyTo op zs (q + 1) = (r && !op.getD xk false) from HST.out)
                    clear hr hg hb2 hx0 hx1 HST
                    generalize (!op.getD xk false) = y at *
                    cases r
                    · go_wp2_with fail
                      go_roundw
                      case rel => exact ⟨q + 1, false, by omega, by go_num, rfl, by rw [HST2.out]; rfl, HGW.out⟩
                      case measure => simp [intOf]; omega
                    · go_wp2_with fail
                      go_roundw
                      case rel => exact ⟨q + 1, y, by omega, by go_num, rfl, by rw [HST2.out]; rfl, HGW.out⟩
                      case measure => simp [intOf]; omega
                  · have hqz : q = zl := by omega
                    subst hqz
                    have HSF := Lib.hid (show OrdInv w k (.int .i64 m) (.slice (some ⟨b, o, none⟩) k c) (.slice a2 n2 c2) (w.heap.size + 1) op (.slice oa ol oc) out wr from HS2.out.grown hg)
                    rw [← hr] at HE
                    clear hql hr hg
                    cases r
                    · have HEE := Lib.hid (show atK gs op (j + 1) = -1 from HE.out)
                      go_wp2_with fail
                      go_roundw
                      case rel => exact ⟨j + 1, -1, by omega, by go_num, rfl, HEE.out.symm, HSF.out⟩
                      case measure => simp [intOf]; omega
                    · have HEE := Lib.hid (show atK gs op (j + 1) = j from HE.out)
                      go_wp2_with fail
                      go_roundw
                      case rel => exact ⟨j + 1, (j : Int), by omega, by go_num, rfl, HEE.out.symm, HSF.out⟩
                      case measure => simp [intOf]; omega
          · have hjk : j = k := by omega
            subst hjk
            have hnx := atK_next (op := op) HN.out
            rw [← ht] at hnx
            clear hlt ht htge
            cases hni : nextI gs op with
            | none =>
              rw [hni] at hnx
              have ht1 : t = -1 := hnx
              subst ht1
              have hfin : (sched gs).1 = out := by rw [HSC.out, sched_stop hni]
              have HF := Lib.hid hfin
              clear hnx hfin hni hs
              go_wp2_with fail
              go_ret
              exact ⟨oa, oc, by rw [HF.out, HO.out]; rfl, by rw [HF.out, HO.out]; exact HSX.out.tl.under (fun h => h.tl) (by simp +contextual)⟩
            | some i =>
              rw [hni] at hnx
              have ht1 : t = (i : Int) := hnx
              subst ht1
              obtain ⟨hi1, hi2, _, _⟩ := nextI_some hni
              have HNX := Lib.hid hni; have HI2 := Lib.hid hi2
              have hik : i < j := by rw [← HN.out]; exact hi1
              have hout : ol < j := by
                have h1 := HCNT.out
                have h2 := HN01.out
                have h3 := nOpen_set hi2
                omega
              have hf := bool_free hs.hd HLD.out i
              have hc := bool_cell hs.hd HLD.out hik
              have hset := hs.setBo HLD.out hik true
              rw [dn_set] at hset
              have HSET := Lib.hid hset.s2
              generalize (dn op).getD i false = qq at hc
              clear hnx hni hi1 hi2 hs hset
              go_wp2_with (
                at_builtin
                go_loud (refine app_intG rfl _ _ rfl rfl rfl (by simp) HSET.out (by rw [HO.out]; omega) ?_)
                intro g5 c5 w5 h5
                rw [HO.out] at h5 ⊢
                have HS5 := Lib.hid h5.s2
                clear h5)
              go_roundw
              case rel => exact ⟨op.set i false, out ++ [(i : Int)], _, _, by rw [List.length_append, HO.out]; rfl, by rw [List.length_set]; exact HOL2.out, by
                  rw [HSC.out, sched_step (Nat.le_refl _) HNX.out]
                  have h1 := nOpen_set HI2.out
                  exact schedGo_fuel gs _ _ _ _ (by omega) (Nat.le_refl _), by
                  have h1 := nOpen_set HI2.out
                  have h2 := HCNT.out
                  rw [List.length_append, HO.out, List.length_singleton]
                  omega, fun i' hi' => by
                  rw [getD_set_bool] at hi'
                  split at hi'
                  · cases hi'
                  · exact HCB.out i' hi', HS5.out⟩
              case measure =>
                show j - (ol + 1) < j - ol
                omega
end Go.Proofs.YtghfifpicklonaaDoor

/-
  Is it a circuit: the reference's check. Conditions: at most 2,000,000 gates and outputs.
-/
namespace Go.Proofs.YtghfifpicklonaaDoor
open Go.RowKit
set_option linter.unusedVariables false
set_option maxRecDepth 100000

set_option maxHeartbeats 4000000 in
theorem crGood_any (p n : Int) (gv ov : Value) (gs : List Gt) (os : List Int) (w : World) (hg : RdR gateE w gv gs) (ho : IntsV w ov os) (l1 : gs.length ≤ 2000000) (l2 : os.length ≤ 2000000) :
    Calls Tryd.prog 70 #[.int .i64 p, cirV n gv ov] w fun e w' => e = .returned (.bool (circE p ⟨n, gs, os⟩)) ∧ w.grownBy w' none := by
  have HF := Lib.hid fun W (h : w.grownBy W none) => fdGood_any p W
  have HW1 := Lib.hid (l1In_any n 0 8)
  have HW2 := Lib.hid (l1In_any gs.length 1 40)
  change Hid (∀ W, Calls _ _ _ _ fun e w' => e = .returned (.bool (inB n 0 8)) ∧ W = w') at HW1
  have hd3 : decide ((1 : Int) ≤ (gs.length : Int) ∧ (gs.length : Int) ≤ 40) = decide (1 ≤ gs.length ∧ gs.length ≤ 40) := decide_eq_decide.2 (by omega)
  rw [hd3] at HW2
  have hd4 : decide (8 < (os.length : Int)) = !decide (os.length ≤ 8) := by rw [Bool.eq_iff_iff, decide_eq_true_iff, Bool.not_eq_true', decide_eq_false_iff_not]; omega
  have HB := Lib.hid fun W (h : w.grownBy W none) (hl : os.length ≤ 1000000) => l1All_any 0 (gs.length - 1) ov os W (ho.carry h) hl
  change Hid (∀ W (h : w.grownBy W none) (hl : os.length ≤ 1000000), Calls _ _ _ _ fun e w' => e = .returned (.bool (os.all (fun x => inB x 0 (gs.length - 1)))) ∧ W = w') at HB
  have HG := Lib.hid hg
  have HGC := Lib.hid fun W (h : w.grownBy W none) (hl : gs.length ≤ 1000) (h5 : gs.all (gateB p n gs.length) = true) (a2 : Option Addr) (c2 : Nat) => crOrder_any n gv a2 os.length c2 gs W (hg.carry h) hl (gates_ops h5)
  have HE := Lib.hid (circE_eq p ⟨n, gs, os⟩)
  simp only at HE
  unfold cirV
  obtain ⟨a1, c1, rfl⟩ := hg.shape
  obtain ⟨a2, c2, rfl⟩ := ho.shape
  clear hg ho hd3
  generalize circE p ⟨n, gs, os⟩ = ce at *
  generalize os.all (fun x => inB x 0 (gs.length - 1)) = f5 at *
  have HG1 := Lib.hid (gr1 w (.cells #[.int .i64 n, .slice a1 gs.length c1, .slice a2 os.length c2] 29))
  have hs0 := (Sep.start w).box #[.int .i64 n, .slice a1 gs.length c1, .slice a2 os.length c2] 29
  generalize hn1 : gs.length = n1 at *
  generalize hn2 : os.length = n2 at *
  have HN1 := Lib.hid hn1; have HN2 := Lib.hid hn2
  have HS0 := Lib.hid hs0
  clear hn1 hn2 hs0
  cases f1 : fldB p
  · rw [f1] at HF HE
    have HC := Lib.hid (show ce = false from HE.out)
    clear HE f1 hd4
    go_enter Tryd.func70, Tryd.ntmps70
    go_wp2_with (go_at_call 67; with_reducible refine (HF.out _ HG1.out).mono ?_; rintro e w2 ⟨rfl, rfl⟩)
    go_ret
    exact ⟨by rw [HC.out]; rfl, HG1.out⟩
  · rw [f1] at HF
    have F1 := Lib.hid f1
    cases f2 : inB n 0 8
    · rw [f1, f2] at HE
      rw [f2] at HW1
      have HC := Lib.hid (show ce = false from HE.out)
      clear HE f1 f2 hd4
      go_enter Tryd.func70, Tryd.ntmps70
      go_wp2_with (first
        | (go_at_call 67; with_reducible refine (HF.out _ HG1.out).mono ?_; rintro e w2 ⟨rfl, rfl⟩)
        | (go_at_call 68; with_reducible refine (HW1.out _).mono ?_; rintro e w2 ⟨rfl, rfl⟩))
      go_ret
      exact ⟨by rw [HC.out]; rfl, HG1.out⟩
    · rw [f2] at HW1
      have hn := inB_iff.1 f2
      cases f3 : decide (1 ≤ n1 ∧ n1 ≤ 40)
      · rw [f1, f2, f3] at HE
        rw [f3] at HW2
        have HC := Lib.hid (show ce = false from HE.out)
        clear HE f1 f2 f3 hd4
        go_enter Tryd.func70, Tryd.ntmps70
        go_wp2_with (first
          | (go_at_call 67; with_reducible refine (HF.out _ HG1.out).mono ?_; rintro e w2 ⟨rfl, rfl⟩)
          | (go_at_call 68; with_reducible refine (HW1.out _).mono ?_; rintro e w2 ⟨rfl, rfl⟩)
          | (go_at_call 68; with_reducible refine (HW2.out _).mono ?_; rintro e w2 ⟨rfl, rfl⟩))
        go_ret
        exact ⟨by rw [HC.out]; rfl, HG1.out⟩
      · rw [f3] at HW2
        have hn1 := of_decide_eq_true f3
        cases f4 : decide (n2 ≤ 8)
        · rw [f1, f2, f3, f4] at HE
          rw [f4] at hd4
          have HC := Lib.hid (show ce = false from HE.out)
          clear HE f1 f2 f3 f4
          go_enter Tryd.func70, Tryd.ntmps70
          go_wp2_with (first
            | (go_at_call 67; with_reducible refine (HF.out _ HG1.out).mono ?_; rintro e w2 ⟨rfl, rfl⟩)
            | (go_at_call 68; with_reducible refine (HW1.out _).mono ?_; rintro e w2 ⟨rfl, rfl⟩)
            | (go_at_call 68; with_reducible refine (HW2.out _).mono ?_; rintro e w2 ⟨rfl, rfl⟩))
          go_ret
          exact ⟨by rw [HC.out]; rfl, HG1.out⟩
        · rw [f4] at hd4
          have hn2 := of_decide_eq_true f4
          rw [f1, f2, f3, f4] at HE
          simp only [Bool.true_and] at HE
          have HB2 := Lib.hid fun W h => HB.out W h (by omega)
          clear HB
          cases f5
          · have HC := Lib.hid (show ce = false from HE.out)
            clear HE f1 f2 f3 f4
            go_enter Tryd.func70, Tryd.ntmps70
            go_wp2_with (first
              | (go_at_call 67; with_reducible refine (HF.out _ HG1.out).mono ?_; rintro e w2 ⟨rfl, rfl⟩)
              | (go_at_call 68; with_reducible refine (HW1.out _).mono ?_; rintro e w2 ⟨rfl, rfl⟩)
              | (go_at_call 68; with_reducible refine (HW2.out _).mono ?_; rintro e w2 ⟨rfl, rfl⟩)
              | (go_at_call 99; with_reducible refine (HB2.out _ HG1.out).mono ?_; rintro e w2 ⟨rfl, rfl⟩))
            go_ret
            exact ⟨by rw [HC.out]; rfl, HG1.out⟩
          · rw [Bool.true_and] at HE
            clear f1 f2 f3 f4
            go_enter Tryd.func70, Tryd.ntmps70
            go_wp2_with (first
              | (go_at_call 67; with_reducible refine (HF.out _ HG1.out).mono ?_; rintro e w2 ⟨rfl, rfl⟩)
              | (go_at_call 68; with_reducible refine (HW1.out _).mono ?_; rintro e w2 ⟨rfl, rfl⟩)
              | (go_at_call 68; with_reducible refine (HW2.out _).mono ?_; rintro e w2 ⟨rfl, rfl⟩)
              | (go_at_call 99; with_reducible refine (HB2.out _ HG1.out).mono ?_; rintro e w2 ⟨rfl, rfl⟩))
            go_loopw [5, 43] (fun cv i wr => ∃ (k q : Nat), k ≤ n1 ∧ i = .int .i64 k ∧ cv = .int .i64 q ∧ q = (gs.take k).countP combB ∧ q ≤ k ∧ (∀ j, j < k → gateB p n n1 (gs.getD j g0) = true) ∧ Sep wr [BxA w.heap.size #[.int .i64 n, .slice a1 n1 c1, .slice a2 n2 c2] 29, KeepA w]) (fun _ i _ => n1 - (intOf i).toNat)
            case atStart => exact ⟨0, 0, by omega, rfl, rfl, rfl, by omega, fun _ h => absurd h (by omega), HS0.out⟩
            case round =>
              obtain ⟨k, q, hk, rfl, rfl, hq, hqk, hall, hs⟩ := hrel
              have HA := Lib.hid hall; have HS := Lib.hid hs; have HQ := Lib.hid hq
              obtain ⟨y0, y1, y2, _⟩ := bx3 hs.hd
              by_cases hlt : k < n1
              · obtain ⟨b, o, rfl, hb, q0, q1, q2, q3⟩ := gate_at rfl rfl (HG.out.carry hs.tl.hd) (i := k) (by rw [HN1.out]; exact hlt)
                have hcs : (gs.take (k + 1)).countP combB = q + if combB (gs.getD k g0) = true then 1 else 0 := by
                  rw [List.take_succ_eq_append_getElem (by rw [HN1.out]; exact hlt), List.countP_append, ← hq, List.countP_singleton]
                  have e : gs.getD k g0 = gs[k]'(by rw [HN1.out]; exact hlt) := by rw [List.getD_eq_getElem?_getD, List.getElem?_eq_getElem (by rw [HN1.out]; exact hlt)]; rfl
                  rw [e]
                have HCS := Lib.hid hcs
                clear hall hs hb hq hcs
                generalize hgk : gs.getD k g0 = g at *
                have HGK := Lib.hid hgk
                clear hgk
                have HGT := Lib.hid fun W => crGate_any n p n1 g W hn.1 hn.2 (by omega) (by have := fldB_bd F1.out; omega) (by have := fldB_bd F1.out; omega)
                have HCC := Lib.hid (crCombines_any g)
                unfold gtV at HGT HCC
                have HALB := Lib.hid (gr1 wr (.cells #[.int .i64 g.k, .int .i64 g.a, .int .i64 g.b, .int .i64 g.v] 98))
                obtain ⟨z0, z1, z2, _⟩ := bx3 (HS.out.grown HALB.out).hd
                have HBX := Lib.hid fun W => one_box4 (w := wr) (y1 := .int .i64 g.k) (y2 := .int .i64 g.a) (y3 := .int .i64 g.b) (y4 := .int .i64 g.v) (t2 := 98) (W := W)
                cases hgb : gateB p n n1 g
                · rw [hgb] at HGT
                  have HC := Lib.hid (show ce = false by rw [HE.out, all_no (by rw [HN1.out]; exact hlt) (by rw [HGK.out]; exact hgb)]; rfl)
                  clear hgb
                  go_wp2_with (go_at_call 115; with_reducible refine (HGT.out _).mono ?_; rintro e w2 ⟨rfl, hg⟩; have HSF := Lib.hid ((HS.out.grown HALB.out).grown hg); clear hg)
                  go_ret
                  exact ⟨by rw [HC.out]; rfl, HSF.out.tl.hd⟩
                · rw [hgb] at HGT
                  have HGB := Lib.hid hgb
                  clear hgb
                  cases hcb : combB g
                  all_goals
                    rw [hcb] at HCC HCS
                    clear hcb
                    go_wp2_with (first
                      | (go_at_call 115
                         with_reducible refine (HGT.out _).mono ?_
                         rintro e w2 ⟨rfl, hg⟩
                         have HSF := Lib.hid ((HS.out.grown HALB.out).grown hg)
                         obtain ⟨v0, v1, v2, v3⟩ := HBX.out _ hg
                         clear hg)
                      | (go_at_call 116
                         with_reducible refine (HCC.out _).mono ?_
                         rintro e w3 ⟨rfl, hg⟩
                         have HSF2 := Lib.hid (HSF.out.grown hg)
                         clear hg))
                    go_roundw
                    case rel => exact ⟨k + 1, _, by omega, by go_num, by first | rfl | go_num, HCS.out.symm, by split <;> omega, fun j hj => by
                      by_cases hjk : j = k
                      · subst hjk; rw [HGK.out]; exact HGB.out
                      · exact HA.out j (by omega), HSF2.out⟩
                    case measure => simp [intOf]; omega
              · have hkn : k = n1 := by omega
                subst hkn
                have h5 : gs.all (gateB p n k) = true := all_getD fun j hj => HA.out j (by rw [← HN1.out]; exact hj)
                have HSC := Lib.hid fun W h => HGC.out W h (by omega) h5 a2 c2
                have hC : ce = schedB gs := by rw [HE.out, h5]; rfl
                rw [List.take_of_length_le (by rw [HN1.out]; exact Nat.le_refl _)] at hq
                have hsc := sched_count gs
                rw [← hq] at hsc
                have HKP := Lib.hid hs.tl.hd
                generalize hsl : (sched gs).1.length = sl at *
                have hceq : (((sl : Nat) : Int) == (q : Int)) = ce := by
                  rw [hC, Bool.eq_iff_iff, ← hsc, beq_iff_eq]
                  omega
                have HSC2 := Lib.hid fun W h => (show Calls _ _ _ W fun e w' => ∃ a c, e = .returned (.slice a sl c) ∧ W.grownBy w' none from (HSC.out W h).mono fun e w' ⟨a, c, h1, h2⟩ => ⟨a, c, h1, h2.tl.hd⟩)
                have HCQ := Lib.hid hceq
                clear hlt hall hs h5 HGC HE HSC hC hq hsc hsl hceq HQ
                go_wp2_with (
                  go_at_call 117
                  refine (HSC2.out _ HKP.out).mono ?_
                  rintro e w2 ⟨a', c', rfl, hg⟩
                  have HG2 := Lib.hid (grownBy_trans HKP.out hg)
                  clear hg)
                go_ret
                exact ⟨by rw [← HCQ.out]; rfl, HG2.out⟩
end Go.Proofs.YtghfifpicklonaaDoor

/-
  The gate for which a gate stands, in the program and in the reference. Conditions: operands are gates.
-/
namespace Go.Proofs.YtghfifpicklonaaDoor
open Go.RowKit
set_option linter.unusedVariables false
set_option maxRecDepth 100000

end Go.Proofs.YtghfifpicklonaaDoor

/-
  The end of a chain of gates that stand for others, in the program. Conditions: operands are gates, and there are ranks.
-/
namespace Go.Proofs.YtghfifpicklonaaDoor
open Go.RowKit
set_option linter.unusedVariables false
set_option maxRecDepth 100000

end Go.Proofs.YtghfifpicklonaaDoor

/-
  A gate with other operands. Conditions: the function value writes nothing old.
-/
namespace Go.Proofs.YtghfifpicklonaaDoor
open Go.RowKit
set_option linter.unusedVariables false
set_option maxRecDepth 100000

end Go.Proofs.YtghfifpicklonaaDoor

/-
  Copies of lists and of circuits. Conditions: lengths are small.
-/
namespace Go.Proofs.YtghfifpicklonaaDoor
open Go.RowKit
set_option linter.unusedVariables false
set_option maxRecDepth 100000

theorem OwnR.empty {α : Type} (E : Lay α) {B g : Nat} {w : World} (hB : B ≤ w.heap.size) (hg : g = w.heap.size) : OwnR E B (w.alloc (.cells #[] E.ty)) (.slice (some ⟨g, 0, none⟩) 0 0) [] := by
  subst hg
  exact ⟨by simp, Or.inr ⟨w.heap.size, 0, #[], rfl, hB, alloc_heap_new _ _, Nat.le_refl _, Nat.zero_le _, by simp, by simp⟩⟩
end Go.Proofs.YtghfifpicklonaaDoor

/-
  Copies of circuits. Conditions: lengths are small.
-/
namespace Go.Proofs.YtghfifpicklonaaDoor
open Go.RowKit
set_option linter.unusedVariables false
set_option maxRecDepth 100000

end Go.Proofs.YtghfifpicklonaaDoor

/-
  A circuit in which operands and outputs are other gates. Conditions: at most 1000 gates, the function value writes nothing old.
-/
namespace Go.Proofs.YtghfifpicklonaaDoor
open Go.RowKit
set_option linter.unusedVariables false
set_option maxRecDepth 100000

end Go.Proofs.YtghfifpicklonaaDoor

/-
  SimplifyGates in the program. Conditions: the table of small primes holds what its text lays; at most 2,000,000 gates and outputs.
-/
namespace Go.Proofs.YtghfifpicklonaaDoor
open Go.RowKit
set_option linter.unusedVariables false
set_option maxRecDepth 100000

/-- What a function that turns a circuit hands back: a circuit of its own, and whether it could. -/
def CirRes (R : Circ) (b : Bool) (w : World) (e : Ending) (w' : World) : Prop :=
  ∃ a1 c1 a2 c2, e = .returned (.tuple #[cirV R.n (.slice a1 R.gs.length c1) (.slice a2 R.os.length c2), .bool b]) ∧ Sep w' [OR gateE (.slice a1 R.gs.length c1) R.gs, OI (.slice a2 R.os.length c2) R.os, KeepA w]
theorem CirRes.zero {w w' : World} (h : w.grownBy w' none) : CirRes circ0 false w (.returned (.tuple #[.agg #[.int .i64 0, .slice none 0 0, .slice none 0 0], .bool false])) w' :=
  ⟨none, 0, none, 0, rfl, (((Sep.start w).grown h).nilI).nilR gateE⟩
end Go.Proofs.YtghfifpicklonaaDoor

/-
  May a gate be silent: the program's test. Conditions: operands are places of the list.
-/
namespace Go.Proofs.YtghfifpicklonaaDoor
open Go.RowKit
set_option linter.unusedVariables false
set_option maxRecDepth 100000

end Go.Proofs.YtghfifpicklonaaDoor

/-
  The silent gates: the program's search (goto). Conditions: at most 1,000 gates; operands are gates.
-/
namespace Go.Proofs.YtghfifpicklonaaDoor
open Go.RowKit
set_option linter.unusedVariables false
set_option maxRecDepth 1000000

end Go.Proofs.YtghfifpicklonaaDoor

/-
  The silent gates: the reference's search. Conditions: at most 1,000 gates; operands are gates; kinds from 1 to 5.
-/
namespace Go.Proofs.YtghfifpicklonaaDoor
open Go.RowKit
set_option linter.unusedVariables false
set_option maxRecDepth 1000000

end Go.Proofs.YtghfifpicklonaaDoor

/-
  Copies in the reference: lists, circuits. Conditions: lengths are small; there is a gate.
-/
namespace Go.Proofs.YtghfifpicklonaaDoor
open Go.RowKit
set_option linter.unusedVariables false
set_option maxRecDepth 100000

theorem l1Own_any (u : Value) (ys : List Int) (w : World) (hu : IntsV w u ys) (hl : ys.length ≤ 1000000) :
    Calls Tryd.prog 84 #[u] w fun e w' => ∃ a c, e = .returned (.slice a ys.length c) ∧ Sep w' [OI (.slice a ys.length c) ys, KeepA w] := by
  have HU := Lib.hid hu
  obtain ⟨ua, ucap, rfl, hx⟩ := hu
  clear hx
  go_enter Tryd.func84, Tryd.ntmps84
  go_wp2_with (
    at_builtin
    go_loud (refine app_ints rfl (.tmp 3) (.tmp 4) rfl rfl rfl (HU.out.carry (grownBy_alloc _ _ _)) (OwnInts.empty (Nat.le_refl _) rfl) (by simp) (by simp; omega) ?_)
    intro v' w' ho hb
    rw [List.nil_append] at ho
    obtain ⟨a', c', rfl⟩ := own_shape ho
    have HS := Lib.hid ((Sep.start w).newI (grown_of_below (((Below.refl _ _).alloc (Nat.le_refl _) _).trans hb)) ho)
    clear ho hb)
  go_ret
  exact ⟨_, _, rfl, HS.out⟩
section
variable {α : Type} {E : Lay α} {ops : Array Oper} {o : Oper} {a : Act} {Q : Exit → Act → World → Prop} {K : Act → World → Prop} {Ex : Prop} {w : World} {v : Value} {xs ys : List α} {l : List Asrt} {t : TypeId} {z : Value} {bytes : Nat}
end
end Go.Proofs.YtghfifpicklonaaDoor

/-
  Silent gates folded to zeros, in the program and in the reference. Conditions: at most 1,000 gates; operands are gates.
-/
namespace Go.Proofs.YtghfifpicklonaaDoor
open Go.RowKit
set_option linter.unusedVariables false
set_option maxRecDepth 100000

end Go.Proofs.YtghfifpicklonaaDoor

/-
  Queues of numbers: an own slice that is cut at its front and appended to. Conditions: lengths are small.
-/
namespace Go.Proofs.YtghfifpicklonaaDoor
open Go.RowKit
set_option linter.unusedVariables false
set_option maxRecDepth 100000

def QRow (w : World) (v : Value) (zs : List Int) : Prop :=
  ∃ a cap, v = .slice a zs.length cap ∧ zs.length ≤ cap ∧ cap ≤ maxLen ∧ (0 < cap → ∃ g off, a = some ⟨g, off, none⟩ ∧ g < w.heap.size ∧
    (∀ j, j < cap → (w.cell? ⟨g, off + j, none⟩).isSome = true ∧ w.frozen? ⟨g, off + j, none⟩ = false) ∧ ∀ j, j < zs.length → w.cell? ⟨g, off + j, none⟩ = some (.int .i64 (zs.getD j 0)))
def QHits : Value → Nat → Prop
  | .slice (some ad) _ cap, k => 0 < cap ∧ ad.block = k
  | _, _ => False
theorem QRow.lt {w : World} {v : Value} {zs : List Int} (h : QRow w v zs) : ∀ k, QHits v k → k < w.heap.size := by
  obtain ⟨a, cap, rfl, _, _, h⟩ := h
  intro k hk
  cases a with
  | none => exact hk.elim
  | some ad =>
    obtain ⟨hc, rfl⟩ := hk
    obtain ⟨g, off, ha, hg, _⟩ := h hc
    injection ha with ha
    subst ha
    exact hg
theorem QRow.only {S : Nat → Prop} {w w' : World} {v : Value} {zs : List Int} (h : QRow w v zs) (ho : Only S w w') (hs : ∀ k, QHits v k → ¬ S k) : QRow w' v zs := by
  obtain ⟨a, cap, rfl, h1, h2, h⟩ := h
  refine ⟨a, cap, rfl, h1, h2, fun hc => ?_⟩
  obtain ⟨g, off, rfl, hg, h3, h4⟩ := h hc
  have hb : w'.heap[g]? = w.heap[g]? := ho.block g hg (hs g ⟨hc, rfl⟩)
  refine ⟨g, off, rfl, Nat.lt_of_lt_of_le hg ho.size, fun j hj => ?_, fun j hj => ?_⟩
  · obtain ⟨h5, h6⟩ := h3 j hj
    refine ⟨?_, (World.frozen?_of_block (a := ⟨g, off + j, none⟩) hb).trans h6⟩
    rw [World.cell?_of_block (a := ⟨g, off + j, none⟩) hb]
    exact h5
  · exact (World.cell?_of_block (a := ⟨g, off + j, none⟩) hb).trans (h4 j hj)
end Go.Proofs.YtghfifpicklonaaDoor

/-
  The gates that outputs depend on: plain law; the program's search with a queue. Conditions: at most 1,000 gates and outputs; operands and outputs are gates.
-/
namespace Go.Proofs.YtghfifpicklonaaDoor
open Go.RowKit
set_option linter.unusedVariables false
set_option maxRecDepth 100000

/-- Outputs are marked, and what marked gates need. -/
def UseC (gs : List Gt) (os : List Int) (m : List Bool) : Prop :=
  (∀ x ∈ os, m.getD x.toNat false = true) ∧ ∀ i, m.getD i false = true → ∀ x ∈ opsL (gs.getD i g0), m.getD x.toNat false = true
def BotU (gs : List Gt) (os : List Int) (m : List Bool) : Prop := m.length = gs.length ∧ ∀ m', m'.length = gs.length → UseC gs os m' → LeB m m'
def IsUse (gs : List Gt) (os : List Int) (m : List Bool) : Prop := BotU gs os m ∧ UseC gs os m
/-- The search's state: marks and what is still to be looked at. -/
structure UInv (gs : List Gt) (os : List Int) (m : List Bool) (td : List Int) : Prop where
  bot : BotU gs os m
  todo : ∀ m', m'.length = gs.length → UseC gs os m' → ∀ x ∈ td, m'.getD x.toNat false = true
  outs : ∀ x ∈ os, m.getD x.toNat false = true ∨ x ∈ td
  ops : ∀ i, m.getD i false = true → ∀ x ∈ opsL (gs.getD i g0), m.getD x.toNat false = true ∨ x ∈ td
  rng : ∀ x ∈ td, 0 ≤ x ∧ x < gs.length
theorem UInv.start {gs : List Gt} {os : List Int} (hos : ∀ x ∈ os, 0 ≤ x ∧ x < gs.length) : UInv gs os (List.replicate gs.length false) os :=
  ⟨⟨by simp, (fun m' _ _ i hi => by rw [getD_false] at hi; cases hi)⟩, fun m' _ h x hx => h.1 x hx, fun x hx => Or.inr hx, (fun i hi => by rw [getD_false] at hi; cases hi), hos⟩
theorem UInv.done {gs : List Gt} {os : List Int} {m : List Bool} (h : UInv gs os m []) : IsUse gs os m :=
  ⟨h.bot, fun x hx => (h.outs x hx).resolve_right (by simp), fun i hi x hx => (h.ops i hi x hx).resolve_right (by simp)⟩
theorem nT_mark {m : List Bool} {i : Nat} (hi : i < m.length) (h : m.getD i false = false) : nT (m.set i true) = nT m + 1 := by
  have h1 : m = (m.set i true).set i false := by
    rw [List.set_set]
    apply List.ext_getElem (by simp)
    intro j h1 h2
    rw [List.getElem_set]
    split
    · rename_i e
      subst e
      rw [List.getD_eq_getElem?_getD, List.getElem?_eq_getElem hi] at h
      exact h
    · rfl
  unfold nT
  rw [List.getD_eq_getElem?_getD, List.getElem?_eq_getElem hi, Option.getD_some] at h
  clear h1
  induction m generalizing i with
  | nil => simp at hi
  | cons x m ih =>
    cases i with
    | zero =>
      simp only [List.getElem_cons_zero] at h
      subst h
      simp
    | succ i =>
      simp only [List.getElem_cons_succ] at h
      simp only [List.length_cons] at hi
      have := ih (by omega) h
      simp only [List.set_cons_succ, List.countP_cons]
      omega
end Go.Proofs.YtghfifpicklonaaDoor

/-
  The gates that outputs depend on: the program's search with a queue. Conditions: at most 1,000 gates and outputs; operands and outputs are gates.
-/
namespace Go.Proofs.YtghfifpicklonaaDoor
open Go.RowKit
set_option linter.unusedVariables false
set_option maxRecDepth 1000000

theorem QRow.shape {w : World} {v : Value} {zs : List Int} (h : QRow w v zs) : ∃ a c, v = .slice a zs.length c := by
  obtain ⟨a, cap, rfl, _⟩ := h
  exact ⟨a, cap, rfl⟩
end Go.Proofs.YtghfifpicklonaaDoor

/-
  A circuit with operands and outputs replaced, in the reference. Conditions: at most 1000 gates.
-/
namespace Go.Proofs.YtghfifpicklonaaDoor
open Go.RowKit
set_option linter.unusedVariables false
set_option maxRecDepth 100000

/-- what a list holds at an index -/
def ofL (zs : List Int) (x : Int) : Int := zs.getD x.toNat 0
theorem takeS {zs : List Int} {k : Nat} (h : k < zs.length) (f : Int → Int) : (zs.take (k + 1)).map f = (zs.take k).map f ++ [f (zs.getD k 0)] := by
  rw [List.take_succ_eq_append_getElem h, List.map_append, List.getD_eq_getElem?_getD, List.getElem?_eq_getElem h]
  rfl
theorem hgList_any (v u : Value) (l zs : List Int) (w : World) (hv : IntsV w v l) (hu : IntsV w u zs) (hl : l.length ≤ 1000000) (hin : ∀ x ∈ l, 0 ≤ x ∧ x < zs.length) :
    Calls Tryd.prog 102 #[v, u] w fun e w' => ∃ a c, e = .returned (.slice a l.length c) ∧ Sep w' [OI (.slice a l.length c) (l.map (ofL zs)), KeepA w] := by
  have HV := Lib.hid hv; have HU := Lib.hid hu; have HIN := Lib.hid hin
  obtain ⟨a1, c1, rfl⟩ := hv.shape
  obtain ⟨a2, c2, rfl⟩ := hu.shape
  generalize hn : l.length = n at *
  have HN := Lib.hid hn
  generalize hm : zs.length = m at *
  have HM := Lib.hid hm
  clear hv hu hin hn hm
  have HS0 := Lib.hid (Sep.start w).nilI
  go_enter Tryd.func102, Tryd.ntmps102
  go_wp2_with fail
  go_loopw [5, 10] (fun ov i wr => ∃ (k : Nat) (oa : Option Addr) (oc : Nat), k ≤ n ∧ i = .int .i64 k ∧ ov = .slice oa k oc ∧ Sep wr [OI (.slice oa k oc) ((l.take k).map (ofL zs)), KeepA w]) (fun _ i _ => n - (intOf i).toNat)
  case atStart => exact ⟨0, none, 0, by omega, rfl, rfl, HS0.out⟩
  case round =>
    obtain ⟨k, oa, oc, hk, rfl, rfl, hs⟩ := hrel
    have HS := Lib.hid hs
    by_cases hlt : k < n
    · have hkl : k < l.length := by rw [HN.out]; exact hlt
      obtain ⟨b1, o1, rfl, _, q1⟩ := (HV.out.carry hs.tl.hd).atD hkl
      obtain ⟨hx0, hx1⟩ := HIN.out _ (getD_mem' hkl)
      have HT := Lib.hid (takeS hkl (ofL zs))
      have hkl2 : ((l.take k).map (ofL zs)).length = k := by rw [List.length_map, List.length_take]; omega
      have HKL := Lib.hid hkl2
      generalize l.getD k 0 = x at *
      obtain ⟨j, rfl⟩ := Int.eq_ofNat_of_zero_le hx0
      have hjm : j < m := by omega
      obtain ⟨b2, o2, rfl, _, q2⟩ := (HU.out.carry hs.tl.hd).atD (i := j) (by rw [HM.out]; exact hjm)
      have HOF := Lib.hid (show ofL zs j = zs.getD j 0 by unfold ofL; rw [Int.toNat_natCast])
      rw [← HOF.out] at q2
      clear hs hx0 hx1 hkl hkl2 HOF
      generalize ofL zs j = y at *
      generalize (l.take k).map (ofL zs) = L at *
      go_wp2_with (
        at_builtin
        refine app_intS rfl _ _ rfl rfl rfl HS.out (by rw [HKL.out]; omega) ?_
        intro g c w3 h3
        rw [HKL.out] at h3 ⊢
        have HS3 := Lib.hid h3
        clear h3)
      go_roundw
      case rel => exact ⟨k + 1, _, _, by omega, by go_num, rfl, by rw [HT.out]; exact HS3.out⟩
      case measure => simp [intOf]; omega
    · have hkn : k = n := by omega
      subst hkn
      have hs1 := hs
      rw [List.take_of_length_le (by rw [HN.out]; exact Nat.le_refl _)] at hs1
      have HS1 := Lib.hid hs1
      clear hs hs1 hlt
      go_wp2_with fail
      go_ret
      exact ⟨oa, oc, rfl, HS1.out⟩
end Go.Proofs.YtghfifpicklonaaDoor

/-
  A circuit with operands and outputs replaced, in the reference: the walk. Conditions: at most 1000 gates.
-/
namespace Go.Proofs.YtghfifpicklonaaDoor
open Go.RowKit
set_option linter.unusedVariables false
set_option maxRecDepth 100000

theorem IntsV.cellN {w : World} {b o n cap : Nat} {zs : List Int} (h : IntsV w (.slice (some ⟨b, o, none⟩) n cap) zs) {i : Nat} (hi : i < zs.length) : w.cell? ⟨b, o + i, none⟩ = some (.int .i64 (zs.getD i 0)) := by
  obtain ⟨b', o', he, _, h⟩ := h.atD hi
  cases he
  exact h
end Go.Proofs.YtghfifpicklonaaDoor

/-
  Marked places as a list; elements at places; is a number in a list. Conditions: lengths are small; places are in range.
-/
namespace Go.Proofs.YtghfifpicklonaaDoor
open Go.RowKit
set_option linter.unusedVariables false
set_option maxRecDepth 100000

theorem make_cap (n : Nat) (hn : n ≤ 1000000) (w : World) : (Instr.makeSlice 27 (.int .i64 0) (.int .i64 n)).run Tryd.prog w = .ok (.slice (some ⟨w.heap.size, 0, none⟩) 0 n) (w.alloc (.cells (madeCells (Value.int .i64 0).cells (n * 1)) 3)) := by
  obtain ⟨i0, hi, hz0, hz1, hz2⟩ := info_parts info_int
  have h := run_make (P := Tryd.prog) w 27 3 i0 (.int .i64 0) Tryd.underlying27 hi hz0 .i64 .i64 0 n (by omega) (by omega) (by rw [hz2]; omega) (by omega)
  rw [hz1] at h
  simp only [Int.toNat_natCast] at h
  exact h
theorem Sep.capI {w : World} {l : List Asrt} (h : Sep w l) (n b : Nat) (hn : n ≤ 1000000) (hb : b = w.heap.size) : Sep (w.alloc (.cells (madeCells (Value.int .i64 0).cells (n * 1)) 3)) (OI (.slice (some ⟨b, 0, none⟩) 0 n) [] :: l) := by
  subst hb
  refine h.newI (grownBy_alloc _ _ none) ⟨by simp, Or.inr ⟨w.heap.size, n, _, rfl, Nat.le_refl _, alloc_heap_new _ _, Nat.zero_le _, by unfold maxLen; omega, size_madeCells _ _, by simp⟩⟩
theorem IntsV.addr {w : World} {a : Option Addr} {n c : Nat} {zs : List Int} (h : IntsV w (.slice a n c) zs) (hz : 0 < zs.length) : ∃ b o, a = some ⟨b, o, none⟩ := by
  obtain ⟨a', c', he, hr⟩ := h
  obtain ⟨d, hd, hsp, _⟩ := hr (by intro e; rw [e] at hz; simp at hz)
  injection he with e1
  obtain ⟨b, o, sp⟩ := d
  simp only at hsp
  subst hsp
  exact ⟨b, o, e1.trans hd⟩
end Go.Proofs.YtghfifpicklonaaDoor

/-
  Circuits with some of the gates: plain law; the program's kept. Conditions: at most 1,000 gates and outputs; operands and outputs are gates.
-/
namespace Go.Proofs.YtghfifpicklonaaDoor
open Go.RowKit
set_option linter.unusedVariables false
set_option maxRecDepth 100000

theorem Sep.q6 {w : World} {A C D E F G : Asrt} {l : List Asrt} (h : Sep w (A :: C :: D :: E :: F :: G :: l)) : Sep w (G :: A :: C :: D :: E :: F :: l) := (h.under Sep.s5 (by simp +contextual)).s2
section
variable {α : Type} {E : Lay α} {ops : Array Oper} {o : Oper} {a : Act} {Q : Exit → Act → World → Prop} {K : Act → World → Prop} {Ex : Prop} {w : World} {v : Value} {xs : List α} {l : List Asrt} {y : α} {t : TypeId} {z : Value} {bytes q : Nat}
/-- 'out = append(out, y)' as a step of a region that draws. -/
theorem step_app_RG (hinfo : (Tryd.prog.info? E.ty).map (fun i => (i.zero, i.size, i.bytes)) = some (some z, E.sz, bytes)) (hzs : z.cells.size = E.sz) (hby : bytes ≤ 10000) (ht : Tryd.prog.underlying t = some (.slice E.ty)) (hone : ∀ u ∈ E.cs y, u.oneCell' = true)
    (hgd : o.guard = none) (s x : Operand) (ho : o.op = .call { callee := .builtin .append, args := #[s, x], argTypes := #[t, t] })
    (hs : a.eval s = v) (hx : a.eval x = .slice (some ⟨q, 0, none⟩) 1 1) (hq : q = w.heap.size) {cs : Array Value} (hcs : cs.toList = E.cs y) (H : Sep w (OR E v xs :: l)) (hl : xs.length ≤ 10000000)
    (h : ∀ g cap w', Sep w' (OR E (.slice (some ⟨g, 0, none⟩) (xs.length + 1) cap) (xs ++ [y]) :: l) → K (a.put o.dst (.slice (some ⟨g, 0, none⟩) (xs.length + 1) cap)) w') :
    if Region.wanted o (yielded ops a.tmps) = true then Oper.wp Tryd.prog o a (w.alloc (.cells cs E.ty)) K Q else Ex := by
  subst hq
  rw [if_pos (by simp [Region.wanted, hgd])]
  exact wp_app_R hinfo hzs hby ht hone s x ho hs hx hcs H hl h
end
end Go.Proofs.YtghfifpicklonaaDoor

/-
  Several parts of the memory as one part. Conditions: none.
-/
namespace Go.Proofs.YtghfifpicklonaaDoor
open Go.RowKit
set_option linter.unusedVariables false

/-- Several parts as one. -/
def Bag (l : List Asrt) : Asrt where
  foot := fun k => ∃ A ∈ l, A.foot k
  sees := fun k => ∃ A ∈ l, A.sees k
  holds := fun w => Sep w l
  sub := fun k ⟨A, hA, hk⟩ => ⟨A, hA, A.sub k hk⟩
  lt := fun w k h ⟨A, hA, hk⟩ => A.lt w k (h.all A hA) hk
  keep := fun w w' h ho => h.only ho fun A hA k hk hn => hn ⟨A, hA, hk⟩
section
variable {w w' : World} {A C D : Asrt} {l r : List Asrt}
theorem Apt.bag (h : ∀ C ∈ l, Apt A C) : Apt A (Bag l) := ⟨fun k hk ⟨C, hC, hs⟩ => (h C hC).1 k hk hs, fun k ⟨C, hC, hf⟩ hs => (h C hC).2 k hf hs⟩
theorem Apt.of_bag (h : Apt A (Bag l)) (hC : C ∈ l) : Apt A C := ⟨fun k hk hs => h.1 k hk ⟨C, hC, hs⟩, fun k hk hs => h.2 k ⟨C, hC, hk⟩ hs⟩
theorem Sep.bag : ∀ {l : List Asrt}, Sep w (l ++ r) → Sep w (Bag l :: r)
  | [], h => ⟨trivial, fun C _ => ⟨(fun k ⟨A, hA, _⟩ => by cases hA), (fun k _ ⟨A, hA, _⟩ => by cases hA)⟩, h⟩
  | A :: l, h => by
    obtain ⟨h1, h2, h3⟩ := h
    obtain ⟨h4, h5, h6⟩ := Sep.bag (l := l) h3
    refine ⟨⟨h1, fun C hC => h2 C (List.mem_append_left _ hC), h4⟩, fun C hC => ?_, h6⟩
    have h7 := h2 C (List.mem_append_right _ hC)
    have h8 := h5 C hC
    refine ⟨fun k ⟨D, hD, hf⟩ hs => ?_, fun k hf ⟨D, hD, hs⟩ => ?_⟩
    · rcases List.mem_cons.1 hD with rfl | hD
      · exact h7.1 k hf hs
      · exact h8.1 k ⟨D, hD, hf⟩ hs
    · rcases List.mem_cons.1 hD with rfl | hD
      · exact h7.2 k hf hs
      · exact h8.2 k hf ⟨D, hD, hs⟩
theorem Sep.unbag : ∀ {l : List Asrt}, Sep w (Bag l :: r) → Sep w (l ++ r)
  | [], h => h.tl
  | A :: l, h => by
    obtain ⟨⟨h1, h2, h3⟩, h4, h5⟩ := h
    refine ⟨h1, fun C hC => ?_, Sep.unbag (l := l) ⟨h3, fun C hC => ?_, h5⟩⟩
    · rcases List.mem_append.1 hC with hC | hC
      · exact h2 C hC
      · exact (h4 C hC).symm.of_bag (by simp) |>.symm
    · have := h4 C hC
      exact ⟨fun k ⟨D, hD, hf⟩ hs => this.1 k ⟨D, List.mem_cons_of_mem _ hD, hf⟩ hs, fun k hf ⟨D, hD, hs⟩ => this.2 k hf ⟨D, List.mem_cons_of_mem _ hD, hs⟩⟩
theorem Sep.append : ∀ {l : List Asrt}, Sep w (l ++ r) → Sep w l ∧ Sep w r
  | [], h => ⟨trivial, h⟩
  | A :: l, h => by
    obtain ⟨h1, h2, h3⟩ := h
    obtain ⟨h4, h5⟩ := Sep.append (l := l) h3
    exact ⟨⟨h1, fun C hC => h2 C (List.mem_append_left _ hC), h4⟩, h5⟩
/-- Parts in another order. -/
theorem Sep.perm (p : l.Perm r) : Sep w l → Sep w r := by
  induction p with
  | nil => exact id
  | cons A q ih => exact fun h => h.under ih fun C hC => q.mem_iff.2 hC
  | swap A C l => exact Sep.s2
  | trans _ _ ih1 ih2 => exact fun h => ih2 (ih1 h)
/-- The first part goes into a bag. -/
theorem Sep.intoBag (h : Sep w (A :: Bag l :: r)) : Sep w (Bag (A :: l) :: r) := by
  have h1 := h.s2
  have h2 := Sep.unbag (l := l) h1
  refine Sep.bag (l := A :: l) ?_
  refine Sep.perm ?_ h2
  exact (List.perm_middle (a := A) (l₁ := l) (l₂ := r))
/-- The first part of a bag comes out. -/
theorem Sep.outBag (h : Sep w (Bag (A :: l) :: r)) : Sep w (A :: Bag l :: r) := by
  have h1 := Sep.unbag (l := A :: l) h
  have h2 : Sep w (l ++ (A :: r)) := Sep.perm (List.perm_middle (a := A) (l₁ := l) (l₂ := r)).symm h1
  exact (Sep.bag h2).s2
theorem Sep.noBag (h : Sep w r) : Sep w (Bag [] :: r) := Sep.bag (l := []) h
theorem Sep.bagPerm {l' : List Asrt} (p : l.Perm l') (h : Sep w (Bag l :: r)) : Sep w (Bag l' :: r) := Sep.bag (Sep.perm (p.append_right r) (Sep.unbag h))
/-- Two bags become one. -/
theorem Sep.joinBag {l' : List Asrt} (h : Sep w (Bag l :: Bag l' :: r)) : Sep w (Bag (l ++ l') :: r) := by
  have h1 := Sep.unbag (l := l) h
  have h2 : Sep w (Bag l' :: (l ++ r)) := Sep.perm (List.perm_middle (a := Bag l') (l₁ := l) (l₂ := r)) h1
  have h3 := Sep.unbag (l := l') h2
  refine Sep.bag (l := l ++ l') ?_
  rw [List.append_assoc]
  refine Sep.perm ?_ h3
  rw [← List.append_assoc, ← List.append_assoc]
  exact (List.perm_append_comm).append_right r
end
end Go.Proofs.YtghfifpicklonaaDoor

/-
  The specification's check of spaces. Conditions: the sizes are small.
-/
import Derived.Test.YtghfifpicklonaaDoorYu05
import Derived.Test.YtghfifpicklonaaDoorYu02
import Derived.Test.YtghfifpicklonaaDoorYu04
import Derived.Test.YtghfifpicklonaaDoorBc08
namespace Go.Proofs.YtghfifpicklonaaDoor
open Go.RowKit
set_option linter.unusedVariables false

theorem grown_dr {w w' : World} (h : w.grownBy w' none) : w.grownBy w'.drew none := ⟨h.os, h.tape, h.output, h.size, h.block⟩
theorem q0 {f : FuncId} {args : Array Value} {W : World} {v : Value} (h : Calls Tryd.prog f args W fun e w' => e = .returned v ∧ W = w') : Calls Tryd.prog f args W fun e w' => e = .returned v ∧ ∃ m, w' = W.drewN m :=
  h.mono fun _ _ h => ⟨h.1, 0, h.2 ▸ rfl⟩
end Go.Proofs.YtghfifpicklonaaDoor

/-
  The specification's coordinates and sums of vectors. Conditions: the sizes are small.
-/
namespace Go.Proofs.YtghfifpicklonaaDoor
open Go.RowKit
set_option linter.unusedVariables false

set_option maxRecDepth 100000 in
set_option maxHeartbeats 1000000 in
theorem spSum_any (p : Nat) [NeZero p] (n : Nat) (u v : Value) (L : List (List Int)) (x : List Int) (w : World) (hp1 : 1 < p) (hp2 : p ≤ 1000) (hu : MatV w u L) (hv : IntsV w v x) (hL : RowsOk p n L) (hx : x.length = L.length) (hxb : ∀ z ∈ x, 0 ≤ z ∧ z < p) (hm : L.length ≤ 1000) (hn : n ≤ 1000) :
    Calls Tryd.prog 125 #[.int .i64 p, .int .i64 n, u, v] w fun e w' => ∃ o, e = .returned o ∧ OwnInts w.heap.size w' o (combTo p x L n L.length) ∧ w.grownBy w' none := by
  obtain ⟨i0, hi, hz0, hz1, hz2⟩ := info_parts info_int
  have HI := Lib.hid hi; have HZ0 := Lib.hid hz0; have HZ1 := Lib.hid hz1; have HZ2 := Lib.hid hz2
  have HU := Lib.hid hu; have HV := Lib.hid hv; have HL := Lib.hid hL; have HXB := Lib.hid hxb
  have HCO := Lib.hid fun k (hk : k ≤ L.length) => combTo_ok (x := x) hp1 hL k hk
  obtain ⟨ua, uc, rfl⟩ := hu.shape
  obtain ⟨va, vc, rfl, hvx⟩ := hv
  have HX := Lib.hid hx
  rw [hx] at HV ⊢
  clear hu hL hxb hvx hx hi hz0 hz1 hz2
  generalize hml : L.length = l at *
  have HML := Lib.hid hml
  clear hml
  go_enter Tryd.func125, Tryd.ntmps125
  go_wp2_with (at_make; refine wpList_make_full _ rfl _ _ 27 rfl w.heap.size 3 i0 (.int .i64 0) 1 Tryd.underlying27 HI.out HZ0.out HZ1.out _ _ _ _ n rfl rfl rfl rfl (by rw [HZ2.out]; omega) (by unfold maxLen; omega) (Nat.le_refl _) ?_; intro w1 hown' hgr'
               have H1 := Lib.hid hown'; have H2 := Lib.hid hgr'
               clear hown' hgr')
  have ho := H1.out
  rw [madeCells_int] at ho
  have ho' : OwnInts w.heap.size w1 (.slice (some ⟨w.heap.size, 0, none⟩) n n) (List.replicate n 0) := by
    unfold OwnInts; rw [List.length_replicate]; exact ho
  have HS := Lib.hid ((Sep.start w).newI H2.out ho')
  clear ho ho' H1 H2 HI HZ0 HZ1 HZ2
  generalize w.heap.size = g at *
  go_loopw [18] (fun i wr => ∃ k : Nat, k ≤ l ∧ i = .int .i64 k ∧ Sep wr [OI (.slice (some ⟨g, 0, none⟩) n n) (combTo p x L n k), KeepA w]) (fun i _ => l - (intOf i).toNat)
  case atStart => exact ⟨0, by omega, rfl, HS.out⟩
  case round =>
    obtain ⟨k, hk, rfl, hs⟩ := hrel
    have HS := Lib.hid hs
    clear hs
    by_cases hlt : k < l
    · have hkl : k < L.length := by rw [HML.out]; exact hlt
      obtain ⟨b, o, cap, ml, r, rc, he, hcell, hrow0⟩ := HU.out.rowK HS.out.s2.hd hkl
      cases he
      have hro := HL.out _ (getD_memL hkl)
      rw [hro.1] at hcell hrow0
      have HROW := Lib.hid hrow0; have HRO := Lib.hid hro
      have hco := HCO.out k hk
      have HCK := Lib.hid hco
      have hnx : combTo p x L n (k + 1) = addT p (combTo p x L n k) (x.getD k 0) (L.getD k []) := rfl
      have HNX := Lib.hid hnx
      have hxk := HXB.out _ (List.getElem_mem (show k < x.length by rw [HX.out]; exact hlt))
      rw [← getD_ltL (by rw [HX.out]; exact hlt)] at hxk
      clear hrow0 hro hco hnx hkl
      generalize combTo p x L n k = cb at *
      generalize L.getD k [] = row at *
      go_wp2_with fail
      obtain ⟨w2, hw2⟩ : ∃ w2, w2 = wr := ⟨_, rfl⟩
      subst hw2
      clear hcell
      go_loopw [25] (fun i wx => ∃ (q : Nat) (zs : List Int), q ≤ n ∧ i = .int .i64 q ∧ zs.length = n ∧ (∀ t, t < q → zs.getD t 0 = (cb.getD t 0 + x.getD k 0 * row.getD t 0) % p) ∧ (∀ t, q ≤ t → zs.getD t 0 = cb.getD t 0) ∧ Sep wx [OI (.slice (some ⟨g, 0, none⟩) n n) zs, KeepA w]) (fun i _ => n - (intOf i).toNat)
      case atStart => exact ⟨0, cb, by omega, rfl, HCK.out.1, fun _ h => absurd h (by omega), fun _ _ => rfl, HS.out⟩
      case round =>
        obtain ⟨q, zs, hq, rfl, hz1, hz2, hz3, hsx⟩ := hrel
        have HZL := Lib.hid hz1; have HZ2 := Lib.hid hz2; have HZ3 := Lib.hid hz3; have HSX := Lib.hid hsx
        clear hz1 hz2 hz3 hsx
        by_cases hqn : q < n
        · obtain ⟨d, rfl, hs1, hd1, hc1⟩ := (HROW.out.carry HSX.out.s2.hd).at (show q < row.length by rw [HRO.out.1]; exact hqn)
          obtain ⟨d2, rfl, hs2, hd2, hc2⟩ := (HV.out.carry HSX.out.s2.hd).at (show k < x.length by rw [HX.out]; exact hlt)
          obtain ⟨db, dof, _⟩ := d
          obtain ⟨db2, dof2, _⟩ := d2
          simp only at hs1 hc1 hs2 hc2
          subst hs1 hs2
          have hc3 := HSX.out.hd.cell HZL.out.symm (show q < zs.length by rw [HZL.out]; exact hqn)
          have hf3 := HSX.out.hd.free HZL.out.symm q
          have HP := Lib.hid fun y => HSX.out.setI HZL.out.symm q y
          rw [← getD_ltL (by rw [HX.out]; exact hlt)] at hc2
          have hbx := HRO.out.2 _ (List.getElem_mem (show q < row.length by rw [HRO.out.1]; exact hqn))
          rw [← getD_ltL (by rw [HRO.out.1]; exact hqn)] at hbx hc1
          rw [← getD_ltL (by rw [HZL.out]; exact hqn), HZ3.out q (Nat.le_refl _)] at hc3
          have hbc := HCK.out.2 _ (List.getElem_mem (show q < cb.length by rw [HCK.out.1]; exact hqn))
          rw [← getD_ltL (by rw [HCK.out.1]; exact hqn)] at hbc
          generalize hxk' : x.getD k 0 = xk at *
          generalize hrq : row.getD q 0 = rq at *
          generalize hcq : cb.getD q 0 = cq at *
          have HXK := Lib.hid hxk'; have HRQ := Lib.hid hrq; have HCQ := Lib.hid hcq
          have b3 := mul_bd2 (a := xk) (b := rq) (A := 1000) (B := 1000) ⟨by omega, by omega⟩ (show 0 ≤ rq ∧ rq ≤ 1000 by omega) (by omega) (by omega)
          have b4 := Int.mul_nonneg hxk.1 hbx.1
          have q0 : (0 : Int) ≤ (q : Int) := by omega
          have q1 : (q : Int) < (n : Int) := by omega
          have q2 : (0 : Int) ≤ (k : Int) := by omega
          have q3 : (k : Int) < (l : Int) := by omega
          have q4 : (0 : Int) < (p : Int) := by omega
          clear hxk' hrq hcq hd1 hd2
          go_wp2_with fail
          go_region
          all_goals
            go_wp2
            go_roundw
            case rel =>
              refine ⟨q + 1, zs.set q ((cq + xk * rq) % p), by omega, by go_num, by rw [List.length_set]; exact HZL.out, fun t ht => ?_, fun t ht => ?_, (HP.out _).dr⟩
              · by_cases htq : q = t
                · subst htq
                  rw [getD_set_self (by rw [HZL.out]; exact hqn), HRQ.out, HCQ.out]
                · rw [getD_set_ne htq]
                  exact HZ2.out t (by omega)
              · rw [getD_set_ne (by omega)]
                exact HZ3.out t (by omega)
            case measure => simp [intOf]; omega
        · have hzs : zs = addT p cb (x.getD k 0) row := by
            refine list_ext_getD (by rw [HZL.out]; have h1 := HCK.out.1; have h2 := HRO.out.1; simp only [addT, List.length_zipWith]; omega) fun t ht => ?_
            have ht' : t < n := by have := HZL.out; omega
            rw [addT_getD (by rw [HCK.out.1, HRO.out.1]) (by rw [HCK.out.1]; exact ht')]
            exact HZ2.out t (by omega)
          have HZS := Lib.hid hzs
          clear hzs
          go_wp2
          go_roundw
          case rel => exact ⟨k + 1, by omega, by go_num, by rw [HNX.out, ← HZS.out]; exact HSX.out⟩
          case measure => simp [intOf]; omega
    · have hkl : k = l := by omega
      subst hkl
      go_wp2
      go_ret
      exact ⟨_, rfl, HS.out.ints, HS.out.s2.hd⟩
end Go.Proofs.YtghfifpicklonaaDoor

/-
  Products of rows, copies and units of the reference. Conditions: lengths are small; the numbers are elements of a field.
-/
namespace Go.Proofs.YtghfifpicklonaaDoor
open Go.RowKit
set_option linter.unusedVariables false
set_option maxRecDepth 100000

set_option maxHeartbeats 1000000 in
theorem ssTimes_any (p : Nat) [NeZero p] (u v : Value) (R M : List (List Int)) (n : Nat) (w : World) (hp : 1 < p) (hp2 : p ≤ 1000) (hu : MatV w u R) (hv : MatV w v M) (hR : RowsOk p M.length R) (hM : RowsOk p n M) (hm : M.length ≤ 1000) (hn : n ≤ 1000) (hr : R.length ≤ 1000) :
    Calls Tryd.prog 88 #[.int .i64 p, .int .i64 n, u, v] w fun e w' => ∃ o vs, e = .returned o ∧ OwnM w.heap.size w' o vs (prodL p R M n) ∧ w.grownBy w' none := by
  have HU := Lib.hid hu; have HR := Lib.hid hR
  have HCM := Lib.hid fun (uu : Value) (x : List Int) W (hg : w.grownBy W none) (h1 : IntsV W uu x) (hx : VecOk p M.length x) => spSum_any p n v uu M x W hp hp2 (hv.carry hg) h1 hM hx.1 hx.2 hm hn
  obtain ⟨ua, ucap, rfl⟩ := hu.shape
  obtain ⟨P, hP⟩ : ∃ P, prodL p R M n = P := ⟨_, rfl⟩
  have HPG := Lib.hid fun k (hk : k < R.length) (hk2 : k < P.length) => show P[k] = combTo p R[k] M n M.length from by
    subst hP
    simp [prodL]
  have HPL := Lib.hid (show P.length = R.length from by rw [← hP, prodL_len])
  rw [hP]
  clear hu hv hR hM hm hP
  obtain ⟨l, hlen⟩ : ∃ l, R.length = l := ⟨_, rfl⟩
  have HLEN := Lib.hid hlen
  rw [hlen] at hr HU HPL ⊢
  clear hlen
  go_enter Tryd.func88, Tryd.ntmps88
  go_wp2
  go_loopw [9, 11, 14] (fun v _ i wr => ∃ (k : Nat) (vs : List Value), k ≤ l ∧ i = .int .i64 k ∧ OwnM w.heap.size wr v vs (P.take k) ∧ Below w.heap.size w wr) (fun _ _ i _ => l - (intOf i).toNat)
  case atStart => exact ⟨0, [], by omega, rfl, OwnM.start (World.ownsRow_nil _ _ _ _), Below.refl _ _⟩
  case round =>
    obtain ⟨k, vs, hk, rfl, hown, hbel⟩ := hrel
    have HO := Lib.hid hown; have HB := Lib.hid hbel
    have hsize := hbel.size
    clear hown hbel
    by_cases hlt : k < l
    · have hkl : k < R.length := by rw [HLEN.out]; exact hlt
      have hkp : k < P.length := by rw [HPL.out]; exact hlt
      have hgr := grown_of_below HB.out
      have hrow := (HU.out.carry hgr).row hkl
      obtain ⟨d, r, c, rfl, hs, hd, hcell, hrow⟩ := hrow
      obtain ⟨db, dof, _⟩ := d
      simp only at hs hcell
      subst hs
      have hok := HR.out _ (List.getElem_mem hkl)
      have HC := Lib.hid (HCM.out _ _ wr hgr hrow hok)
      rw [← HPG.out k hkl hkp] at HC
      have HTP := Lib.hid (take_push hkp)
      generalize P[k] = y at *
      generalize R[k].length = zl at *
      have A5 := Lib.hid (show (List.take k P).length ≤ 1000000 by rw [List.length_take]; omega)
      clear hrow hok hgr
      go_wp2_with (first
        | (go_at_call 125
           with_reducible refine HC.out.mono ?_
           rintro e w2 ⟨uu, rfl, hu, hg⟩
           obtain ⟨ua2, uc2, rfl⟩ := own_shape hu
           have A := Lib.hid (after_row HO.out hsize hu hg)
           have HG2 := Lib.hid hg
           clear hu hg)
        | (at_builtin
           refine app_row rfl _ _ rfl rfl rfl A.out.1 A.out.2.1 A.out.2.2.1 A.out.2.2.2 A5.out ?_
           intro v' w3 hown' hon'
           have HO3 := Lib.hid hown'; have HN3 := Lib.hid (Only.below' A.out.1 hon' A.out.2.2.2)
           clear hown' hon'))
      go_roundw
      case rel => exact ⟨k + 1, _, by omega, by go_num, by have := HO3.out; rw [HTP.out] at this; exact this, (HB.out.grown HG2.out hsize (by simp)).trans HN3.out⟩
      case measure => simp [intOf]; omega
    · have hkl : P.take k = P := List.take_of_length_le (by have := HPL.out; omega)
      have HK := Lib.hid hkl
      clear hkl
      go_wp2
      go_ret
      exact ⟨_, _, rfl, by have := HO.out; rw [HK.out] at this; exact this, grown_of_below HB.out⟩
set_option maxHeartbeats 1000000 in
theorem ssCopy_any (u : Value) (P : List (List Int)) (w : World) (hu : MatV w u P) (hl : P.length ≤ 1000000) (hll : ∀ row ∈ P, row.length ≤ 1000000) :
    Calls Tryd.prog 89 #[u] w fun e w' => ∃ o vs, e = .returned o ∧ OwnM w.heap.size w' o vs P ∧ w.grownBy w' none := by
  have HU := Lib.hid hu; have HR := Lib.hid hll
  obtain ⟨ua, ucap, rfl⟩ := hu.shape
  obtain ⟨l, hlen⟩ : ∃ l, P.length = l := ⟨_, rfl⟩
  have HLEN := Lib.hid hlen
  rw [hlen] at hl HU ⊢
  clear hu hll hlen
  go_enter Tryd.func89, Tryd.ntmps89
  go_wp2
  go_loopw [3, 5, 8] (fun v _ i wr => ∃ (k : Nat) (vs : List Value), k ≤ l ∧ i = .int .i64 k ∧ OwnM w.heap.size wr v vs (P.take k) ∧ Below w.heap.size w wr) (fun _ _ i _ => l - (intOf i).toNat)
  case atStart => exact ⟨0, [], by omega, rfl, OwnM.start (World.ownsRow_nil _ _ _ _), Below.refl _ _⟩
  case round =>
    obtain ⟨k, vs, hk, rfl, hown, hbel⟩ := hrel
    have HO := Lib.hid hown; have HB := Lib.hid hbel
    have hsize := hbel.size
    clear hown hbel
    by_cases hlt : k < l
    · have hkp : k < P.length := by rw [HLEN.out]; exact hlt
      have hgr := grown_of_below HB.out
      have hrow := (HU.out.carry hgr).row hkp
      obtain ⟨d, r, c, rfl, hs, hd, hcell, hrow⟩ := hrow
      obtain ⟨db, dof, _⟩ := d
      simp only at hs hcell
      subst hs
      have hok := HR.out _ (List.getElem_mem hkp)
      have HC := Lib.hid (l1Own_anyL _ _ wr hrow hok)
      have HTP := Lib.hid (take_push hkp)
      generalize P[k] = y at *
      generalize y.length = zl at *
      have A5 := Lib.hid (show (List.take k P).length ≤ 1000000 by rw [List.length_take]; omega)
      clear hrow hok hgr
      go_wp2_with (first
        | (go_at_call 84
           with_reducible refine HC.out.mono ?_
           rintro e w2 ⟨uu, rfl, hu, hg⟩
           obtain ⟨ua2, uc2, rfl⟩ := own_shape hu
           have A := Lib.hid (after_row HO.out hsize hu hg)
           have HG2 := Lib.hid hg
           clear hu hg)
        | (at_builtin
           refine app_row rfl _ _ rfl rfl rfl A.out.1 A.out.2.1 A.out.2.2.1 A.out.2.2.2 A5.out ?_
           intro v' w3 hown' hon'
           have HO3 := Lib.hid hown'; have HN3 := Lib.hid (Only.below' A.out.1 hon' A.out.2.2.2)
           clear hown' hon'))
      go_roundw
      case rel => exact ⟨k + 1, _, by omega, by go_num, by have := HO3.out; rw [HTP.out] at this; exact this, (HB.out.grown HG2.out hsize (by simp)).trans HN3.out⟩
      case measure => simp [intOf]; omega
    · have hkl : P.take k = P := List.take_of_length_le (by have := HLEN.out; omega)
      have HK := Lib.hid hkl
      clear hkl
      go_wp2
      go_ret
      exact ⟨_, _, rfl, by have := HO.out; rw [HK.out] at this; exact this, grown_of_below HB.out⟩
end Go.Proofs.YtghfifpicklonaaDoor

/-
  Units of the reference. Conditions: the place is within, the length is small.
-/
namespace Go.Proofs.YtghfifpicklonaaDoor
open Go.RowKit
set_option linter.unusedVariables false
set_option maxRecDepth 100000

set_option maxHeartbeats 1000000 in
theorem ssUnit_any (n i : Nat) (w : World) (hl : n ≤ 1000000) (hi : i < n) :
    Calls Tryd.prog 85 #[.int .i64 n, .int .i64 i] w fun e w' => ∃ c, e = .returned (.slice (some ⟨w.heap.size, 0, none⟩) n c) ∧ OwnInts w.heap.size w' (.slice (some ⟨w.heap.size, 0, none⟩) n c) (unitL n i) ∧ w.grownBy w' none := by
  obtain ⟨i0, hi0, hz0, hz1, hz2⟩ := info_parts info_int
  have HI := Lib.hid hi0; have HZ0 := Lib.hid hz0; have HZ1 := Lib.hid hz1; have HZ2 := Lib.hid hz2
  have hlen : (List.replicate n (0 : Int)).length = n := List.length_replicate
  have HLEN := Lib.hid hlen
  have hii : (i : Int) < (n : Int) := by omega
  clear hi0 hz0 hz1 hz2 hlen
  go_enter Tryd.func85, Tryd.ntmps85
  go_wp2_with (at_make; refine wpList_make_full _ rfl _ _ 27 rfl w.heap.size 3 i0 (.int .i64 0) 1 Tryd.underlying27 HI.out HZ0.out HZ1.out _ _ _ _ n rfl rfl rfl rfl (by rw [HZ2.out]; omega) (by unfold maxLen; omega) (Nat.le_refl _) ?_; intro w1 hown' hgr'
               rw [madeCells_int] at hown'
               have ho' : OwnInts w.heap.size w1 (.slice (some ⟨w.heap.size, 0, none⟩) n n) (List.replicate n 0) := by
                 unfold OwnInts; rw [List.length_replicate]; exact hown'
               have HG := Lib.hid hgr'
               have hcell := ho'.cell HLEN.out.symm (j := i) (by rw [HLEN.out]; exact hi)
               have hfree := ho'.free HLEN.out.symm i
               have HP := Lib.hid (ho'.put HLEN.out.symm i 1)
               rw [List.getElem_replicate] at hcell
               have HS := Lib.hid (((Sep.start w).newI hgr' ho').setI HLEN.out.symm i 1)
               clear hown' hgr' ho')
  go_ret
  exact ⟨_, rfl, HS.out.ints, HS.out.tl.hd⟩
end Go.Proofs.YtghfifpicklonaaDoor

/-
  The inverse of the reference. Conditions: the matrix is square and small, its numbers are elements of a field.
-/
namespace Go.Proofs.YtghfifpicklonaaDoor
open Go.RowKit
set_option linter.unusedVariables false
set_option maxRecDepth 100000

/-- The rows with the unit matrix at their right. -/
def augL (L : List (List Int)) : List (List Int) := (List.range L.length).map fun i => L.getD i [] ++ unitL L.length i
theorem own_cap {B : Nat} {w : World} {v : Value} {zs : List Int} (h : OwnInts B w v zs) (hz : 0 < zs.length) : ∃ g cap, v = .slice (some ⟨g, 0, none⟩) zs.length cap ∧ zs.length ≤ cap ∧ g < w.heap.size := by
  rcases h.2 with ⟨_, h0⟩ | ⟨g, cap, cur, rfl, _, hh, hc, _⟩
  · omega
  · exact ⟨g, cap, rfl, by omega, blk_lt hh⟩
theorem ints_half {w : World} {g n c : Nat} {zs : List Int} (h : IntsV w (.slice (some ⟨g, 0, none⟩) (n + n) c) zs) (hl : zs.length = n + n) (c' : Nat) : IntsV w (.slice (some ⟨g, n, none⟩) n c') (zs.drop n) := by
  obtain ⟨a, c0, he, hx⟩ := h
  injection he with he1 _ _
  subst he1
  have hlen : (zs.drop n).length = n := by rw [List.length_drop]; omega
  refine ⟨some ⟨g, n, none⟩, c', by rw [hlen], fun hz => ?_⟩
  have h0 : 0 < (zs.drop n).length := List.length_pos_iff.2 hz
  obtain ⟨d, hd, hs, hb, hi⟩ := hx (by intro h0'; rw [h0'] at hl; simp at hl; omega)
  injection hd with hd
  subst hd
  refine ⟨_, rfl, rfl, hb, fun i hi' => ?_⟩
  have := hi (n + i) (by omega)
  simp only [Nat.zero_add] at this
  rw [this, List.getElem_drop]
theorem augL_len (L : List (List Int)) : (augL L).length = L.length := by simp [augL]
theorem augL_at {L : List (List Int)} {k : Nat} (h : k < (augL L).length) : (augL L)[k] = L.getD k [] ++ unitL L.length k := by simp [augL]
theorem augL_ok {p n : Nat} [NeZero p] {L : List (List Int)} (hp : 1 < p) (hL : RowsOk p n L) (hn : L.length = n) : RowsOk p (n + n) (augL L) := by
  intro r hr
  obtain ⟨i, hi, rfl⟩ := List.mem_map.1 hr
  have hi := List.mem_range.1 hi
  have h1 := hL _ (getD_memL hi)
  have h2 := (idL_ok hp) (unitL n i) (List.mem_map.2 ⟨i, List.mem_range.2 (by omega), rfl⟩)
  rw [hn]
  refine ⟨by rw [List.length_append, h1.1, h2.1], fun z hz => ?_⟩
  rcases List.mem_append.1 hz with hz | hz
  · exact h1.2 z hz
  · exact h2.2 z hz
def invD (p : Int) (L : List (List Int)) : List (List Int) := reducedL p (L.length + L.length) (augL L)
def invB (p : Int) (L : List (List Int)) : Bool := (List.range (invD p L).length).all fun i => decide (leadL ((invD p L).getD i []) = i)
def invR (p : Int) (L : List (List Int)) : List (List Int) := (invD p L).map fun r => r.drop L.length
set_option maxHeartbeats 6000000 in
theorem ssInverse_any (p : Nat) [NeZero p] (n : Nat) (u : Value) (L : List (List Int)) (w : World) (hfld : fldN p = true) (hp2 : p ≤ 1000) (hv : MatV w u L) (hL : RowsOk p n L) (hsq : L.length = n) (hn : n ≤ 100) :
    Calls Tryd.prog 45 #[.int .i64 p, u] w fun e w' => (if invB p L = true then ∃ o vs, e = .returned (.tuple #[o, .bool true]) ∧ OwnM w.heap.size w' o vs (invR p L) else e = .returned (.tuple #[nilS, .bool false])) ∧ w.grownBy w' none := by
  have hp1 := lt_p hfld
  have HU := Lib.hid hv; have HL := Lib.hid hL
  have HA := Lib.hid fun k (hk : k < (augL L).length) => augL_at hk
  have hDe : invD p L = reducedL p (2 * n) (augL L) := by unfold invD; rw [hsq, ← Nat.two_mul]
  obtain ⟨D, hD⟩ : ∃ D, invD p L = D := ⟨_, rfl⟩
  have HRD := Lib.hid fun (u : Value) W (h : MatV W u (augL L)) => show Calls Tryd.prog 86 #[.int .i64 p, .int .i64 (2 * (n : Int)), u] W fun e w' => ∃ v c, e = .returned (.slice v D.length c) ∧ (∃ vs, OwnM W.heap.size w' (.slice v D.length c) vs D) ∧ W.grownBy w' none from by
    have := spReduce_own p (2 * n) u (augL L) W hfld hp2 h (by rw [Nat.two_mul]; exact augL_ok hp1 hL hsq) (by rw [augL_len]; omega) (by omega)
    rw [← hDe, hD] at this
    exact this
  have HUN := Lib.hid fun (i : Nat) (hi : i < n) W => ssUnit_any n i W (by omega) hi
  have HAL := Lib.hid (show (augL L).length = n from by rw [augL_len, hsq])
  obtain ⟨ua, ucap, rfl⟩ := hv.shape
  have HLEN := Lib.hid hsq
  rw [hsq] at HU ⊢
  have HIB := Lib.hid (show invB p L = (List.range D.length).all fun i => decide (leadL (D.getD i []) = i) from by unfold invB; rw [hD])
  have HIR := Lib.hid (show invR p L = D.map fun r => r.drop n from by unfold invR; rw [hD, hsq])
  obtain ⟨bb, hbb⟩ : ∃ bb, ((List.range D.length).all fun i => decide (leadL (D.getD i []) = i)) = bb := ⟨_, rfl⟩
  obtain ⟨D2, hD2⟩ : ∃ D2, (D.map fun r => r.drop n) = D2 := ⟨_, rfl⟩
  have HBB := Lib.hid hbb
  have HD2 := Lib.hid hD2
  rw [HIB.out, HIR.out, hbb, hD2]
  clear hbb hD2
  have HDM := Lib.hid (show D.length ≤ 1000 from by
    rw [← hD, hDe]
    have hok : RowsOk p (2 * n) (augL L) := by rw [Nat.two_mul]; exact augL_ok hp1 hL hsq
    have h1 : (reducedL p (2 * n) (augL L)).length ≤ (augL L).length := by rw [reducedL_len hfld hok]; exact rank_le hfld hok
    rw [augL_len] at h1
    omega)
  have HDN := Lib.hid fun (j : Nat) (hj : j < D.length) => show 0 < n from by
    rcases Nat.eq_zero_or_pos n with h0 | h0
    · exfalso
      subst h0
      have hL0 := List.eq_nil_of_length_eq_zero hsq
      rw [← hD, hDe, hL0] at hj
      simp [augL, reducedL, redTo] at hj
    · exact h0
  have HDL := Lib.hid fun j (hj : j < D.length) => show (D.getD j []).length = n + n from by
    rw [← hD, hDe] at hj ⊢
    have := ((reducedL_red hfld (by rw [Nat.two_mul]; exact augL_ok hp1 hL hsq) : IsRed p (2 * n) (reducedL p (2 * n) (augL L))).1 _ (getD_memL hj)).1
    omega
  clear hv hL hD hDe
  go_enter Tryd.func45, Tryd.ntmps45
  go_wp2
  go_loopw [7, 8, 9, 17] (fun v _ _ i wr => ∃ (k : Nat) (vs : List Value), k ≤ n ∧ i = .int .i64 k ∧ OwnM w.heap.size wr v vs ((augL L).take k) ∧ Below w.heap.size w wr) (fun _ _ _ i _ => n - (intOf i).toNat)
  case atStart => exact ⟨0, [], by omega, rfl, OwnM.start (World.ownsRow_nil _ _ _ _), Below.refl _ _⟩
  case round =>
    obtain ⟨k, vs, hk, rfl, hown, hbel⟩ := hrel
    have HO := Lib.hid hown; have HB := Lib.hid hbel
    have hsize := hbel.size
    clear hown hbel
    by_cases hlt : k < n
    · have hkl : k < L.length := by rw [HLEN.out]; exact hlt
      have hka : k < (augL L).length := by rw [HAL.out]; exact hlt
      have hgr := grown_of_below HB.out
      have hrow := (HU.out.carry hgr).row hkl
      obtain ⟨d, r, c, rfl, hs, hd, hcell, hrow⟩ := hrow
      obtain ⟨db, dof, _⟩ := d
      simp only at hs hcell
      subst hs
      have hrl := (HL.out _ (List.getElem_mem hkl)).1
      have HC := Lib.hid (l1Own_anyL _ _ wr hrow (by omega))
      have HE := Lib.hid (show (augL L)[k] = L[k] ++ unitL n k from by rw [HA.out k hka, List.getD_eq_getElem?_getD, List.getElem?_eq_getElem hkl, HLEN.out]; rfl)
      have HTP := Lib.hid (take_push hka)
      rw [HE.out] at HTP
      have HZL := Lib.hid (show L[k].length ≤ 1000 from by omega)
      have HKU := Lib.hid (HUN.out k hlt)
      have HUL := Lib.hid (show (unitL n k).length = n from by simp [unitL])
      generalize L[k] = y at *
      generalize hzl : y.length = zl at *
      have HYZ := Lib.hid hzl
      clear hzl
      have A5 := Lib.hid (show (List.take k (augL L)).length ≤ 1000000 by rw [List.length_take]; omega)
      clear hrow hgr HA HE hrl
      go_wp2_with (first
        | (go_at_call 84
           with_reducible refine HC.out.mono ?_
           rintro e w2 ⟨uu, rfl, hu, hg⟩
           obtain ⟨ua2, uc2, rfl⟩ := own_shape hu
           have HS2 := Lib.hid ((Sep.start wr).newI hg hu)
           clear hu hg)
        | (go_at_call 85
           with_reducible refine (HKU.out _).mono ?_
           rintro e w3 ⟨c3, rfl, hu, hg⟩
           have HS3 := Lib.hid (HS2.out.grown hg)
           have HR3 := Lib.hid hu.read
           clear hu hg)
        | (at_builtin
           go_loud (refine app_intsS rfl _ _ rfl rfl rfl HS3.out HR3.out (by rw [HUL.out]; have := HZL.out; have := HYZ.out; omega) ?_)
           intro v4 w4 h4
           obtain ⟨ua4, uc4, rfl⟩ := own_shape (show OwnInts 0 w4 _ _ from h4.hd)
           rw [List.length_append, HYZ.out, HUL.out] at h4 ⊢
           have A := Lib.hid (after_row HO.out hsize h4.ints h4.tl.hd)
           have HG4 := Lib.hid (show wr.grownBy w4 none from h4.tl.hd)
           clear h4)
        | (at_builtin
           refine app_row rfl _ _ rfl rfl rfl A.out.1 A.out.2.1 A.out.2.2.1 A.out.2.2.2 A5.out ?_
           intro v' w5 hown' hon'
           have HO3 := Lib.hid hown'; have HN3 := Lib.hid (Only.below' A.out.1 hon' A.out.2.2.2)
           clear hown' hon'))
      go_roundw
      case rel => exact ⟨k + 1, _, by omega, by go_num, by have := HO3.out; rw [HTP.out] at this; exact this, (HB.out.grown HG4.out hsize (by simp)).trans HN3.out⟩
      case measure => simp [intOf]; omega
    · have hkn : n = k := by omega
      subst hkn
      have hta : (augL L).take n = augL L := List.take_of_length_le (by rw [HAL.out]; exact Nat.le_refl _)
      have HC := Lib.hid (HRD.out _ wr (by have := HO.out.read; rw [hta] at this; exact this))
      have hki : ¬ (n : Int) < (n : Int) := by omega
      clear hta
      go_wp2_with (
        go_at_call 86
        with_reducible refine HC.out.mono ?_
        rintro e w2 ⟨dv, dc, rfl, ⟨dvs, hown⟩, hg⟩
        have HDO := Lib.hid hown
        have HB2 := Lib.hid (Below.grown HB.out hg hsize (by simp))
        clear hown hg)
      obtain ⟨da, dcc, hde, hdi, hdc⟩ := own_form HDO.out
      injection hde with hd1 _ hd2
      subst hd1 hd2
      go_loopw [10, 11, 12, 38] (fun ov _ _ i wx => ∃ (j : Nat) (ws : List Value), j ≤ D.length ∧ i = .int .i64 j ∧ OwnM w2.heap.size wx ov ws ((D.map fun r => r.drop n).take j) ∧ Below w2.heap.size w2 wx ∧ ∀ t, t < j → leadL (D.getD t []) = t) (fun _ _ _ i _ => D.length - (intOf i).toNat)
      case atStart => exact ⟨0, [], by omega, rfl, OwnM.start (World.ownsRow_nil _ _ _ _), Below.refl _ _, fun t ht => absurd ht (Nat.not_lt_zero _)⟩
      case round =>
        obtain ⟨j, ws, hj, rfl, hown, hbel, hlead⟩ := hrel
        have HO4 := Lib.hid hown; have HB4 := Lib.hid hbel; have HLD := Lib.hid hlead
        have hsize4 := hbel.size
        clear hown hbel hlead
        by_cases hjt : j < D.length
        · have HJT := Lib.hid hjt
          have HD5 := HDO.out.carry (grown_of_below HB4.out)
          obtain ⟨g, cp, hge, _, hg1, _⟩ := HD5.head (by intro h; rw [h] at hjt; simp at hjt)
          injection hge with hge1 _ hge2
          subst hge1 hge2
          have x0 := HD5.cell rfl (j := j) hjt
          have hro := HD5.row j
          have hlr : (D.getD j []).length = n + n := HDL.out j hjt
          have hn0 := HDN.out j hjt
          obtain ⟨rg, rc, hre, hrc, hrg⟩ := own_cap hro (by omega)
          rw [hre] at x0 hro
          have HR5 := Lib.hid hro.read
          have HSL := Lib.hid (spLead_any _ _ wr HR5.out (by omega))
          have hji : (j : Int) < (D.length : Int) := by omega
          rw [hlr] at x0 HR5 HSL
          clear hro hre HD5
          by_cases hl : leadL (D.getD j []) = j
          · rw [hl] at HSL
            have HC6 := Lib.hid (l1Own_anyL _ _ wr (ints_half HR5.out hlr (rc - n)) (by rw [List.length_drop]; omega))
            have hrn : ¬ rc = n := by omega
            have hrn2 : n ≤ rc := by omega
            have HL6 := Lib.hid (show ∀ t, t < j + 1 → leadL (D.getD t []) = t from fun t ht => by
              rcases Nat.lt_or_ge t j with h | h
              · exact HLD.out t h
              · have : t = j := by omega
                subst this
                exact hl)
            have hjm : j < (D.map fun r => r.drop n).length := by rw [List.length_map]; exact hjt
            have HTP2 := Lib.hid (take_push hjm)
            have hem : (D.map fun r => r.drop n)[j] = (D.getD j []).drop n := by rw [List.getElem_map, List.getD_eq_getElem?_getD, List.getElem?_eq_getElem hjt]; rfl
            rw [hem] at HTP2
            have A6 := Lib.hid (show ((D.map fun r => r.drop n).take j).length ≤ 1000000 from by rw [List.length_take, List.length_map]; have := HDM.out; omega)
            clear hjm hem hl hlr
            generalize D.getD j [] = y at *
            generalize y.drop n = yd at *
            have hjj : ((j : Int) != (j : Int)) = false := by simp
            have hdm := HDM.out
            have hjd := HJT.out
            go_wp2_with (first
              | (go_at_call 87
                 with_reducible refine HSL.out.mono ?_
                 rintro e w3 ⟨rfl, rfl⟩)
              | (go_at_call 84
                 with_reducible refine HC6.out.mono ?_
                 rintro e w3 ⟨uu, rfl, hu, hg⟩
                 obtain ⟨ua2, uc2, rfl⟩ := own_shape hu
                 have A := Lib.hid (after_row HO4.out hsize4 hu hg)
                 have HG2 := Lib.hid hg
                 clear hu hg)
              | (at_builtin
                 refine app_row rfl _ _ rfl rfl rfl A.out.1 A.out.2.1 A.out.2.2.1 A.out.2.2.2 A6.out ?_
                 intro v' w5 hown' hon'
                 have HO6 := Lib.hid hown'; have HN6 := Lib.hid (Only.below' A.out.1 hon' A.out.2.2.2)
                 clear hown' hon'))
            go_roundw
            case rel =>
              exact ⟨j + 1, _, HJT.out, by go_num, by have := HO6.out; rw [HTP2.out] at this; exact this, (HB4.out.grown HG2.out hsize4 (by simp)).trans HN6.out, HL6.out⟩
            case measure =>
              simp [intOf]; omega
          · have hF : ((List.range D.length).all fun i => decide (leadL (D.getD i []) = i)) = false := by
              rw [List.all_eq_false]
              exact ⟨j, List.mem_range.2 hjt, by simpa using hl⟩
            obtain rfl : bb = false := HBB.out.symm.trans hF
            have hne : ((leadL (D.getD j []) : Int) != (j : Int)) = true := by
              rw [bne_iff_ne]
              omega
            generalize leadL (D.getD j []) = ld at *
            have HKF := Lib.hid ((grown_of_below HB2.out).trans (grown_of_below HB4.out))
            clear hF hl hlr
            generalize D.getD j [] = y at *
            have hdm := HDM.out
            have hjd := HJT.out
            go_wp2_with (
              go_at_call 87
              with_reducible refine HSL.out.mono ?_
              rintro e w3 ⟨rfl, rfl⟩)
            go_ret2
            exact ⟨rfl, HKF.out⟩
        · have hjd : j = D.length := by omega
          have hT : ((List.range D.length).all fun i => decide (leadL (D.getD i []) = i)) = true := by
            rw [List.all_eq_true]
            intro t ht
            exact decide_eq_true (HLD.out t (by rw [hjd]; exact List.mem_range.1 ht))
          obtain rfl : bb = true := HBB.out.symm.trans hT
          have HOF := Lib.hid (show OwnM w2.heap.size wr _ ws (D.map fun r => r.drop n) from by
            have := HO4.out
            rw [List.take_of_length_le (by rw [List.length_map]; omega)] at this
            exact this)
          have HKF := Lib.hid ((grown_of_below HB2.out).trans (grown_of_below HB4.out))
          have HWS := Lib.hid HB2.out.size
          have hki : ¬ (j : Int) < (D.length : Int) := by omega
          clear hT
          go_wp2_with fail
          go_ret2
          exact ⟨⟨_, rfl, _, by have := HOF.out.base HWS.out; rw [HD2.out] at this; exact this⟩, HKF.out⟩
end Go.Proofs.YtghfifpicklonaaDoor

/-
  The inverse found by reducing a matrix beside the unit matrix is the one that elimination makes. Plain mathematics. Conditions: the matrix is square, its numbers are elements of a field.
-/
namespace Go.Proofs.YtghfifpicklonaaDoor
open La
set_option linter.unusedVariables false
section inv
variable {p : Nat} [NeZero p]

theorem vec_app (a b : List Int) (j : Nat) : vec p (a ++ b) j = if j < a.length then vec p a j else vec p b (j - a.length) := by
  unfold vec
  simp only [List.getD_eq_getElem?_getD, List.getElem?_append]
  split <;> rfl
theorem mx_aug {n i j : Nat} {L : List (List Int)} (hL : RowsOk p n L) (hl : L.length = n) (hi : i < n) (hj : j < n + n) :
    mx p (augL L) i j = if j < n then mx p L i j else if i = j - n then 1 else 0 := by
  have hi' : i < (augL L).length := by rw [augL_len, hl]; exact hi
  rw [mx_at hi', augL_at hi', vec_app, (hL _ (getD_memL (show i < L.length by omega))).1]
  by_cases h : j < n
  · simp only [h, if_true]; rfl
  · simp only [h, if_false]
    rw [hl, vec_unitL (show j - n < n by omega)]
/-- The unit matrix with K at its right. -/
def besL (n : Nat) (K : List (List Int)) : List (List Int) := (List.range n).map fun i => unitL n i ++ K.getD i []
theorem besL_len (n : Nat) (K : List (List Int)) : (besL n K).length = n := by simp [besL]
theorem besL_at {n i : Nat} (K : List (List Int)) (hi : i < (besL n K).length) : (besL n K)[i] = unitL n i ++ K.getD i [] := by simp [besL]
theorem unitL_len (n i : Nat) : (unitL n i).length = n := by simp [unitL]
omit [NeZero p] in
theorem besL_ok {n : Nat} {K : List (List Int)} (hp : 1 < p) (hK : RowsOk p n K) (hl : K.length = n) : RowsOk p (n + n) (besL n K) := by
  intro r hr
  obtain ⟨i, hi, rfl⟩ := List.mem_map.1 hr
  have hi := List.mem_range.1 hi
  have h1 := hK _ (getD_memL (show i < K.length by omega))
  have h2 : VecOk p n (unitL n i) := unitL_ok hp
  refine ⟨by rw [List.length_append, h1.1, h2.1], fun z hz => ?_⟩
  rcases List.mem_append.1 hz with hz | hz
  · exact h2.2 z hz
  · exact h1.2 z hz
theorem mx_bes {n i j : Nat} {K : List (List Int)} (hl : K.length = n) (hi : i < n) (hj : j < n + n) :
    mx p (besL n K) i j = if j < n then (if i = j then 1 else 0) else mx p K i (j - n) := by
  have hi' : i < (besL n K).length := by rw [besL_len]; exact hi
  rw [mx_at hi', besL_at K hi', vec_app, unitL_len]
  by_cases h : j < n
  · simp only [h, if_true]; rw [vec_unitL h]
  · simp only [h, if_false]; rfl
theorem bes_red {n : Nat} {K : List (List Int)} (hp : 1 < p) (hK : RowsOk p n K) (hl : K.length = n) : RR (besL n K).length (n + n) (mx p (besL n K)) (fun i => i) := by
  rw [besL_len]
  refine ⟨fun i hi => by omega, fun i j h1 h2 => h1, fun i hi => ?_, fun i k hi hk hne => ?_, fun i j hi hj => ?_⟩
  · rw [mx_bes hl hi (by omega)]; simp [hi]
  · rw [mx_bes hl hk (by omega)]; simp [hi, hne]
  · rw [mx_bes hl hi (by omega)]
    have : ¬ i = j := by omega
    simp [show j < n by omega, this]
theorem piv_id : ∀ {n : Nat} {piv : Nat → Nat}, (∀ i, i < n → piv i < n) → (∀ i j, i < j → j < n → piv i < piv j) → ∀ i, i < n → piv i = i := by
  intro n piv h1 h2
  have low : ∀ i, i < n → i ≤ piv i := by
    intro i
    induction i with
    | zero => intro _; omega
    | succ i ih => intro hi; have := ih (by omega); have := h2 i (i + 1) (by omega) hi; omega
  have high : ∀ d i, i < n → n - 1 - i = d → piv i ≤ i := by
    intro d
    induction d with
    | zero => intro i hi hd; have := h1 i hi; omega
    | succ d ih => intro i hi hd; have := ih (i + 1) (by omega) (by omega); have := h2 i (i + 1) (by omega) (by omega); omega
  intro i hi
  have := low i hi; have := high _ i hi rfl; omega
/-- Where elimination makes the unit matrix, what it makes beside it is an inverse at both sides. -/
theorem inv_both {n : Nat} {L : List (List Int)} (hf : fldN p = true) (hL : RowsOk p n L) (hl : L.length = n) (hr : (redTo p L (idL n) n).r = n) :
    (∀ i, i < n → ∀ j, j < n → comb n (mx p (redTo p L (idL n) n).T i) (mx p L) j = if i = j then 1 else 0) ∧ (∀ i, i < n → ∀ j, j < n → comb n (mx p L i) (mx p (redTo p L (idL n) n).T) j = if i = j then 1 else 0) := by
  have g := ge hf hL hl
  have hTM : ∀ i, i < n → ∀ j, j < n → comb n (mx p (redTo p L (idL n) n).T i) (mx p L) j = if i = j then 1 else 0 := by
    intro i hi j hj
    rw [← g.inv.made i hi j hj]
    obtain ⟨piv, hrr, hcol⟩ := g.rr
    rw [hr] at hrr hcol
    have hid := piv_id hrr.lt hrr.inc
    by_cases h : i = j
    · subst h
      have := hrr.one i hi
      rw [hid i hi] at this
      rw [this]; simp
    · have := hcol j i hj hi h
      rw [hid j hj] at this
      rw [this]; simp [h]
  refine ⟨hTM, ?_⟩
  obtain ⟨hCT, _⟩ := left_inverse hf g.okT g.lenT g.inv.indep
  generalize redTo (p : Int) L (idL n) n = s at *
  generalize mx p (redTo (p : Int) s.T (idL n) n).T = C at *
  have hLC : ∀ i, i < n → ∀ j, j < n → mx p L i j = C i j := by
    intro i hi j hj
    rw [← comb_delta' hi (mx p L) j, comb_congr (B := mx p L) (fun t ht => (hCT i hi t ht).symm) (fun _ _ => rfl), comb_comb]
    exact comb_delta hj _ fun t ht => hTM t ht j hj
  intro i hi j hj
  rw [comb_congr (hLC i hi) (fun _ _ => rfl)]
  exact hCT i hi j hj
theorem inv_bes {n : Nat} {L : List (List Int)} (hf : fldN p = true) (hL : RowsOk p n L) (hl : L.length = n) (hr : (redTo p L (idL n) n).r = n) : invD p L = besL n (redTo p L (idL n) n).T := by
  have hp := lt_p hf
  have g := ge hf hL hl
  obtain ⟨h1, h2⟩ := inv_both hf hL hl hr
  unfold invD
  rw [hl]
  have hok := augL_ok hp hL hl
  have hlA : (augL L).length = n := by rw [augL_len, hl]
  have hred : IsRed p (n + n) (besL n (redTo (p : Int) L (idL n) n).T) := ⟨besL_ok hp g.okT g.lenT, _, bes_red hp g.okT g.lenT⟩
  have lT := g.lenT
  generalize (redTo (p : Int) L (idL n) n).T = T at *
  refine red_unique hf (reducedL_red hf hok) hred fun v => (reducedL_span hf hok v).trans ⟨fun h => ?_, fun h => ?_⟩
  · unfold Spn at *
    rw [hlA] at h
    rw [besL_len]
    refine h.trans fun i hi => ⟨mx p L i, fun j hj => ?_⟩
    rw [mx_aug hL hl hi hj]
    by_cases hjn : j < n
    · simp only [hjn, if_true]
      exact (comb_delta hjn _ fun t ht => by rw [mx_bes lT ht hj]; simp [hjn]).symm
    · simp only [hjn, if_false]
      rw [comb_congr (fun _ _ => rfl) (B := fun t _ => mx p T t (j - n)) (fun t ht => by rw [mx_bes lT ht hj]; simp [hjn])]
      exact (h2 i hi (j - n) (by omega)).symm
  · unfold Spn at *
    rw [besL_len] at h
    rw [hlA]
    refine h.trans fun i hi => ⟨mx p T i, fun j hj => ?_⟩
    rw [mx_bes lT hi hj]
    by_cases hjn : j < n
    · simp only [hjn, if_true]
      rw [comb_congr (fun _ _ => rfl) (B := fun t _ => mx p L t j) (fun t ht => by rw [mx_aug hL hl ht hj]; simp [hjn])]
      exact (h1 i hi j hjn).symm
    · simp only [hjn, if_false]
      rw [comb_congr (fun _ _ => rfl) (B := fun t _ => if t = j - n then 1 else 0) (fun t ht => by rw [mx_aug hL hl ht hj]; simp [hjn])]
      unfold comb
      rw [S_one (show j - n < n by omega) (fun t _ ht => by simp [ht, fm0])]
      simp [fm1]
theorem inv_yes {n : Nat} {L : List (List Int)} (hf : fldN p = true) (hL : RowsOk p n L) (hl : L.length = n) (hr : (redTo p L (idL n) n).r = n) : invB p L = true ∧ invR p L = (redTo p L (idL n) n).T := by
  have hp := lt_p hf
  have g := ge hf hL hl
  have e := inv_bes hf hL hl hr
  have lT := g.lenT
  have okT := g.okT
  generalize (redTo (p : Int) L (idL n) n).T = T at *
  constructor
  · unfold invB
    rw [e, List.all_eq_true]
    intro i hi
    have hi := List.mem_range.1 hi
    exact decide_eq_true (lead_piv hf (besL_ok hp okT lT) (bes_red hp okT lT) hi)
  · unfold invR
    rw [e, hl]
    refine List.ext_getElem (by rw [List.length_map, besL_len]; exact lT.symm) fun i h1 h2 => ?_
    have h1' : i < (besL n T).length := by rw [List.length_map] at h1; exact h1
    rw [List.getElem_map, besL_at T h1', List.drop_append, List.drop_of_length_le (by rw [unitL_len]; exact Nat.le_refl _), unitL_len, Nat.sub_self, List.drop_zero, List.nil_append, List.getD_eq_getElem?_getD, List.getElem?_eq_getElem h2]
    rfl
theorem aug_indep {n : Nat} {L : List (List Int)} (hL : RowsOk p n L) (hl : L.length = n) : Indep n (n + n) (mx p (augL L)) := by
  intro x hx i hi
  have := hx (n + i) (by omega)
  rw [comb_congr (fun _ _ => rfl) (B := fun t _ => if t = i then 1 else 0) (fun t ht => by rw [mx_aug hL hl ht (by omega)]; simp [show ¬ n + i < n by omega])] at this
  rw [← this]
  unfold comb
  rw [S_one hi (fun t _ ht => by simp [ht, fm0])]
  simp [fm1]
theorem inv_rank {n : Nat} {L : List (List Int)} (hf : fldN p = true) (hL : RowsOk p n L) (hl : L.length = n) (hb : invB p L = true) : (redTo p L (idL n) n).r = n := by
  have hp := lt_p hf
  have hok := augL_ok hp hL hl
  have hlA : (augL L).length = n := by rw [augL_len, hl]
  have hlen : (invD p L).length = n := by
    unfold invD
    rw [hl, reducedL_len hf hok]
    exact indep_rank hf hok hlA (aug_indep hL hl)
  have hred : IsRed p (n + n) (invD p L) := by unfold invD; rw [hl]; exact reducedL_red hf hok
  have hspan : ∀ v, Spn p (n + n) (invD p L) v → Spn p (n + n) (augL L) v := fun v h => by
    unfold invD at h; rw [hl] at h; exact (reducedL_span hf hok v).1 h
  unfold invB at hb
  generalize invD p L = D at *
  obtain ⟨hDo, piv, hrr⟩ := hred
  have hpiv : ∀ i, i < n → piv i = i := fun i hi => by
    have h1 := List.all_eq_true.1 hb i (List.mem_range.2 (by omega))
    have h2 := lead_piv hf hDo hrr (show i < D.length by omega)
    rw [← h2]
    exact of_decide_eq_true h1
  rw [hlen] at hrr
  have hunit : ∀ i, i < n → Spn p n L (fun j => if i = j then 1 else 0) := fun i hi => by
    have h1 := hspan _ (In.row (n := n + n) (A := mx p D) (show i < D.length by omega))
    obtain ⟨x, hx⟩ := h1
    rw [hlA] at hx
    refine ⟨x, fun j hj => ?_⟩
    have h2 := hx j (by omega)
    rw [comb_congr (fun _ _ => rfl) (B := fun t _ => mx p L t j) (fun t ht => by rw [mx_aug hL hl ht (by omega)]; simp [hj])] at h2
    rw [hl]
    refine Eq.trans ?_ h2
    by_cases h : i = j
    · subst h
      have := hrr.one i hi
      rw [hpiv i hi] at this
      simp [this]
    · have := hrr.col j i hj hi h
      rw [hpiv j hj] at this
      simp [h, this]
  have hide : IsRed p n (idL n) := ⟨idL_ok hp, fun i => i, by
    rw [idL_len]
    refine ⟨fun i hi => hi, fun i j h1 h2 => h1, fun i hi => ?_, fun i k hi hk hne => ?_, fun i j hi hj => ?_⟩
    · rw [mx_idL hi hi]; simp
    · rw [mx_idL hk hi]; simp [hne]
    · rw [mx_idL hi (by omega)]; simp [show ¬ i = j by omega]⟩
  have hall : reducedL p n L = idL n := red_unique hf (reducedL_red hf hL) hide fun v => by
    constructor
    · intro _
      refine ⟨v, fun j hj => ?_⟩
      rw [idL_len]
      exact (comb_delta hj _ fun t ht => mx_idL ht hj).symm
    · intro _
      refine (reducedL_span hf hL v).2 ?_
      have h1 : In n n (mx p (idL n)) v := ⟨v, fun j hj => (comb_delta hj _ fun t ht => mx_idL ht hj).symm⟩
      exact h1.trans fun i hi => (hunit i hi).congr fun j hj => mx_idL hi hj
  have h1 := reducedL_len hf hL
  rw [hall, idL_len, rankL_eq _ _ _ (idL n)] at h1
  exact h1.symm
theorem inv_no {n : Nat} {L : List (List Int)} (hf : fldN p = true) (hL : RowsOk p n L) (hl : L.length = n) (hr : (redTo p L (idL n) n).r < n) : invB p L = false := by
  cases h : invB p L
  · rfl
  · have := inv_rank hf hL hl h; omega
end inv
end Go.Proofs.YtghfifpicklonaaDoor

/-
  A state space copied, and moved by a matrix and its inverse. Conditions: lengths are small; the numbers are elements of a field.
-/
namespace Go.Proofs.YtghfifpicklonaaDoor
open Go.RowKit
set_option linter.unusedVariables false
set_option maxRecDepth 100000

theorem OwnM.sepE {w0 w' : World} {v : Value} {vs : List Value} {L : List (List Int)} {l : List Asrt} (h : OwnM w0.heap.size w' v vs L) (hg : w0.grownBy w' none) (hs : Sep w0 l) : ∃ a c xs, v = .slice a L.length c ∧ rws xs = L ∧ Sep w' (OS v xs :: l) := by
  obtain ⟨a, c, he⟩ := h.read.shape
  obtain ⟨xs, h1, h2⟩ := h.sep hg hs
  exact ⟨a, c, xs, he, h1, h2⟩
/-- The state space whose state is moved by M, K being its inverse. -/
def movedS (p : Int) (n o : Nat) (s : StSp) (M K : List (List Int)) : StSp := ⟨s.S, s.I, s.O, prodL p (prodL p M s.A n) K n, prodL p s.B K n, prodL p M s.C o, s.D⟩
/-- What a valid state space's sizes and numbers are. -/
structure SsK (p : Int) (s : StSp) (nS nI nO : Nat) : Prop where
  es : s.S = nS
  ei : s.I = nI
  eo : s.O = nO
  ls : nS ≤ 24
  li : nI ≤ 8
  lo : nO ≤ 8
  la : s.A.length = nS
  lb : s.B.length = nI
  lc : s.C.length = nS
  ld : s.D.length = nI
  oa : RowsOk p nS s.A
  ob : RowsOk p nS s.B
  oc : RowsOk p nO s.C
  od : RowsOk p nO s.D
theorem ss_k {p : Int} {s : StSp} (h : ssB p s = true) : fldB p = true ∧ ∃ nS nI nO, SsK p s nS nI nO := by
  unfold ssB inB3 tbB vsB vcB at h
  simp only [Bool.and_eq_true, decide_eq_true_iff, List.all_eq_true] at h
  obtain ⟨⟨⟨⟨⟨⟨⟨h0, h1⟩, h2⟩, h3⟩, a1, a2⟩, b1, b2⟩, c1, c2⟩, d1, d2⟩ := h
  refine ⟨h0, s.S.toNat, s.I.toNat, s.O.toNat, ⟨by omega, by omega, by omega, by omega, by omega, by omega, by omega, by omega, by omega, by omega, fun r hr => ⟨?_, fun z hz => ?_⟩, fun r hr => ⟨?_, fun z hz => ?_⟩, fun r hr => ⟨?_, fun z hz => ?_⟩, fun r hr => ⟨?_, fun z hz => ?_⟩⟩⟩
  · have := (a2 r hr).1; omega
  · exact elB_iff.1 ((a2 r hr).2 z hz)
  · have := (b2 r hr).1; omega
  · exact elB_iff.1 ((b2 r hr).2 z hz)
  · have := (c2 r hr).1; omega
  · exact elB_iff.1 ((c2 r hr).2 z hz)
  · have := (d2 r hr).1; omega
  · exact elB_iff.1 ((d2 r hr).2 z hz)
set_option maxHeartbeats 8000000 in
theorem icopy_any (s : StSp) (av bv cv dv : Value) (p : Int) (nS nI nO : Nat) (w : World) (h : RdSs w s av bv cv dv) (hk : SsK p s nS nI nO) :
    Calls Tryd.prog 48 #[.agg #[.int .i64 s.S, .int .i64 s.I, .int .i64 s.O, av, bv, cv, dv]] w (GivesS s w) := by
  have HTA := Lib.hid fun W (hw : w.grownBy W none) => clones_any _ s.A W (h.a.carry hw).mat (by have := hk.la; have := hk.ls; have := hk.li; omega) (fun r hr => by have := (hk.oa r hr).1; have := hk.ls; have := hk.lo; omega)
  have HTB := Lib.hid fun W (hw : w.grownBy W none) => clones_any _ s.B W (h.b.carry hw).mat (by have := hk.lb; have := hk.ls; have := hk.li; omega) (fun r hr => by have := (hk.ob r hr).1; have := hk.ls; have := hk.lo; omega)
  have HTC := Lib.hid fun W (hw : w.grownBy W none) => clones_any _ s.C W (h.c.carry hw).mat (by have := hk.lc; have := hk.ls; have := hk.li; omega) (fun r hr => by have := (hk.oc r hr).1; have := hk.ls; have := hk.lo; omega)
  have HTD := Lib.hid fun W (hw : w.grownBy W none) => clones_any _ s.D W (h.d.carry hw).mat (by have := hk.ld; have := hk.ls; have := hk.li; omega) (fun r hr => by have := (hk.od r hr).1; have := hk.ls; have := hk.lo; omega)
  unfold GivesS
  obtain ⟨sa, ta, rfl⟩ := h.a.shape
  obtain ⟨sb, tb, rfl⟩ := h.b.shape
  obtain ⟨sc, tc, rfl⟩ := h.c.shape
  obtain ⟨sd, td, rfl⟩ := h.d.shape
  clear h hk
  obtain ⟨sS, sI, sO, sA, sB, sC, sD⟩ := s
  simp only at *
  have HSA := Lib.hid fun W vs v (W2 : World) l (h : OwnM W.heap.size W2 v vs sA) (hg : W.grownBy W2 none) (hs : Sep W l) => h.sepE hg hs
  have HSB := Lib.hid fun W vs v (W2 : World) l (h : OwnM W.heap.size W2 v vs sB) (hg : W.grownBy W2 none) (hs : Sep W l) => h.sepE hg hs
  have HSC := Lib.hid fun W vs v (W2 : World) l (h : OwnM W.heap.size W2 v vs sC) (hg : W.grownBy W2 none) (hs : Sep W l) => h.sepE hg hs
  have HSD := Lib.hid fun W vs v (W2 : World) l (h : OwnM W.heap.size W2 v vs sD) (hg : W.grownBy W2 none) (hs : Sep W l) => h.sepE hg hs
  generalize sA.length = nA at *
  generalize sB.length = nB at *
  generalize sC.length = nC at *
  generalize sD.length = nD at *
  have HS0 := Lib.hid (((Sep.start w).boxAt w.heap.size rfl #[.int .i64 sS, .int .i64 sI, .int .i64 sO, .slice sa nA ta, .slice sb nB tb, .slice sc nC tc, .slice sd nD td] 32).boxAt (w.heap.size + 1) (by simp) #[.int .i64 0, .int .i64 0, .int .i64 0, .slice none 0 0, .slice none 0 0, .slice none 0 0, .slice none 0 0] 32).dr
  obtain ⟨q0, q1, q2, q3, q4, q5, q6⟩ := bq7 HS0.out.tl.hd
  go_enter Tryd.func48, Tryd.ntmps48
  go_upto_region 1 with fail
  have HBM := Lib.hid fun (W1 : World) (L : List Asrt) (h : Sep W1 L) (h1 : BxA w.heap.size #[.int .i64 sS, .int .i64 sI, .int .i64 sO, .slice sa nA ta, .slice sb nB tb, .slice sc nC tc, .slice sd nD td] 32 ∈ L) => show W1.cell? ⟨w.heap.size, 3, none⟩ = some (.slice sa nA ta) ∧ W1.cell? ⟨w.heap.size, 4, none⟩ = some (.slice sb nB tb) ∧ W1.cell? ⟨w.heap.size, 5, none⟩ = some (.slice sc nC tc) ∧ W1.cell? ⟨w.heap.size, 6, none⟩ = some (.slice sd nD td) from
    have q := bq7 (show W1.heap[w.heap.size]? = some (.cells #[.int .i64 sS, .int .i64 sI, .int .i64 sO, .slice sa nA ta, .slice sb nB tb, .slice sc nC tc, .slice sd nD td] 32 (0, 0)) from Sep.all h _ h1)
    q.2.2.2
  have X0 := Lib.hid (HBM.out _ _ HS0.out (by simp))
  refine AnyL.start (fun _ => True) (fun W1 => W1.cell? ⟨w.heap.size, 3, none⟩ = some (.slice sa nA ta) ∧ W1.cell? ⟨w.heap.size, 4, none⟩ = some (.slice sb nB tb) ∧ W1.cell? ⟨w.heap.size, 5, none⟩ = some (.slice sc nC tc) ∧ W1.cell? ⟨w.heap.size, 6, none⟩ = some (.slice sd nD td)) 13 (by kernel_rfl) ?_
  clear q0 q1 q2 q3 q4 q5 q6
  refine AnyL.take (i := 0) (v := ?vx1) (by rfl) (by kernel_rfl) (by kernel_rfl) (by kernel_rfl) rfl (by exact fun _ _ _ h => h) (by rfl) ?hyx1 (by exact ⟨trivial, fun _ => X0.out⟩) ?restx1
  case hyx1 => intro W hSW; (try dsimp only at hSW); first | (go_simp; done) | (go_simp; with_reducible rfl)
  try simp only [Act.put, List.setIfInBounds_toArray, List.set_cons_zero, List.set_cons_succ]
  refine AnyL.takeA (i := 1) (v := ?vx2) (by rfl) (by kernel_rfl) (by kernel_rfl) (by kernel_rfl) rfl (by rfl) (by kernel_rfl) (by kernel_rfl) (by exact fun _ _ _ h => h) (by rfl) ?hyx2 (by exact ⟨trivial, fun _ => X0.out⟩) ?restx2
  case hyx2 => intro W hSW; (try dsimp only at hSW); first | (go_simp; done) | (go_simp; with_reducible rfl)
  try simp only [Act.put, List.setIfInBounds_toArray, List.set_cons_zero, List.set_cons_succ]
  refine AnyL.take (i := 3) (v := ?vx3) (by rfl) (by kernel_rfl) (by kernel_rfl) (by kernel_rfl) rfl (by exact fun _ _ _ h => h) (by rfl) ?hyx3 (by exact ⟨trivial, fun _ => X0.out⟩) ?restx3
  case hyx3 => intro W hSW; (try dsimp only at hSW); first | (go_simp; done) | (go_simp; with_reducible rfl)
  try simp only [Act.put, List.setIfInBounds_toArray, List.set_cons_zero, List.set_cons_succ]
  refine AnyL.takeA (i := 4) (v := ?vx4) (by rfl) (by kernel_rfl) (by kernel_rfl) (by kernel_rfl) rfl (by rfl) (by kernel_rfl) (by kernel_rfl) (by exact fun _ _ _ h => h) (by rfl) ?hyx4 (by exact ⟨trivial, fun _ => X0.out⟩) ?restx4
  case hyx4 => intro W hSW; (try dsimp only at hSW); first | (go_simp; done) | (go_simp; with_reducible rfl)
  try simp only [Act.put, List.setIfInBounds_toArray, List.set_cons_zero, List.set_cons_succ]
  refine AnyL.take (i := 6) (v := ?vx5) (by rfl) (by kernel_rfl) (by kernel_rfl) (by kernel_rfl) rfl (by exact fun _ _ _ h => h) (by rfl) ?hyx5 (by exact ⟨trivial, fun _ => X0.out⟩) ?restx5
  case hyx5 => intro W hSW; (try dsimp only at hSW); first | (go_simp; done) | (go_simp; with_reducible rfl)
  try simp only [Act.put, List.setIfInBounds_toArray, List.set_cons_zero, List.set_cons_succ]
  refine AnyL.takeA (i := 7) (v := ?vx6) (by rfl) (by kernel_rfl) (by kernel_rfl) (by kernel_rfl) rfl (by rfl) (by kernel_rfl) (by kernel_rfl) (by exact fun _ _ _ h => h) (by rfl) ?hyx6 (by exact ⟨trivial, fun _ => X0.out⟩) ?restx6
  case hyx6 => intro W hSW; (try dsimp only at hSW); first | (go_simp; done) | (go_simp; with_reducible rfl)
  try simp only [Act.put, List.setIfInBounds_toArray, List.set_cons_zero, List.set_cons_succ]
  refine AnyL.take (i := 9) (v := ?vx7) (by rfl) (by kernel_rfl) (by kernel_rfl) (by kernel_rfl) rfl (by exact fun _ _ _ h => h) (by rfl) ?hyx7 (by exact ⟨trivial, fun _ => X0.out⟩) ?restx7
  case hyx7 => intro W hSW; (try dsimp only at hSW); first | (go_simp; done) | (go_simp; with_reducible rfl)
  try simp only [Act.put, List.setIfInBounds_toArray, List.set_cons_zero, List.set_cons_succ]
  refine AnyL.takeA (i := 10) (v := ?vx8) (by rfl) (by kernel_rfl) (by kernel_rfl) (by kernel_rfl) rfl (by rfl) (by kernel_rfl) (by kernel_rfl) (by exact fun _ _ _ h => h) (by rfl) ?hyx8 (by exact ⟨trivial, fun _ => X0.out⟩) ?restx8
  case hyx8 => intro W hSW; (try dsimp only at hSW); first | (go_simp; done) | (go_simp; with_reducible rfl)
  try simp only [Act.put, List.setIfInBounds_toArray, List.set_cons_zero, List.set_cons_succ]
  refine AnyL.step (i := 2) (by kernel_rfl) (by rfl) (fun K hK => ?_)
  have hkE := (show w.grownBy _ none from HS0.out.tl.tl.hd)
  have HCE := Lib.hid (HTA.out _ hkE)
  clear hkE
  go_simp
  go_at_call 92
  with_reducible refine HCE.out.mono ?_
  rintro e w1 ⟨ua, usa, rfl, ho, hg⟩
  obtain ⟨ga, ca, xa, rfl, hx, hsg⟩ := HSA.out _ _ _ _ _ ho hg HS0.out
  have HXA := Lib.hid hx
  have HS1 := Lib.hid hsg
  clear ho hg hx hsg HCE
  refine hK.out _ _ (by exact trivial) (by exact fun _ => HBM.out _ _ HS1.out (by simp)) ?_
  clear hK K
  try simp only [Act.put, List.setIfInBounds_toArray, List.set_cons_zero, List.set_cons_succ]
  refine AnyL.take (i := 12) (v := ?vx9) (by rfl) (by kernel_rfl) (by kernel_rfl) (by kernel_rfl) rfl (by exact fun _ _ _ h => h) (by rfl) ?hyx9 (by exact ⟨trivial, fun _ => HBM.out _ _ HS1.out (by simp)⟩) ?restx9
  case hyx9 => intro W hSW; (try dsimp only at hSW); first | (go_simp; done) | (go_simp; with_reducible rfl)
  try simp only [Act.put, List.setIfInBounds_toArray, List.set_cons_zero, List.set_cons_succ]
  refine AnyL.step (i := 5) (by kernel_rfl) (by rfl) (fun K hK => ?_)
  have hkE := (show w.grownBy _ none from HS1.out.tl.tl.tl.hd)
  have HCE := Lib.hid (HTB.out _ hkE)
  clear hkE
  go_simp
  go_at_call 92
  with_reducible refine HCE.out.mono ?_
  rintro e w2 ⟨ub, usb, rfl, ho, hg⟩
  obtain ⟨gb, cb, xb, rfl, hx, hsg⟩ := HSB.out _ _ _ _ _ ho hg HS1.out
  have HXB := Lib.hid hx
  have HS2 := Lib.hid hsg
  clear ho hg hx hsg HCE
  refine hK.out _ _ (by exact trivial) (by exact fun _ => HBM.out _ _ HS2.out (by simp)) ?_
  clear hK K
  try simp only [Act.put, List.setIfInBounds_toArray, List.set_cons_zero, List.set_cons_succ]
  refine AnyL.step (i := 8) (by kernel_rfl) (by rfl) (fun K hK => ?_)
  have hkE := (show w.grownBy _ none from HS2.out.tl.tl.tl.tl.hd)
  have HCE := Lib.hid (HTC.out _ hkE)
  clear hkE
  go_simp
  go_at_call 92
  with_reducible refine HCE.out.mono ?_
  rintro e w3 ⟨uc, usc, rfl, ho, hg⟩
  obtain ⟨gc, cc, xc, rfl, hx, hsg⟩ := HSC.out _ _ _ _ _ ho hg HS2.out
  have HXC := Lib.hid hx
  have HS3 := Lib.hid hsg
  clear ho hg hx hsg HCE
  refine hK.out _ _ (by exact trivial) (by exact fun _ => HBM.out _ _ HS3.out (by simp)) ?_
  clear hK K
  try simp only [Act.put, List.setIfInBounds_toArray, List.set_cons_zero, List.set_cons_succ]
  refine AnyL.step (i := 11) (by kernel_rfl) (by rfl) (fun K hK => ?_)
  have hkE := (show w.grownBy _ none from HS3.out.tl.tl.tl.tl.tl.hd)
  have HCE := Lib.hid (HTD.out _ hkE)
  clear hkE
  go_simp
  go_at_call 92
  with_reducible refine HCE.out.mono ?_
  rintro e w4 ⟨ud, usd, rfl, ho, hg⟩
  obtain ⟨gd, cd, xd, rfl, hx, hsg⟩ := HSD.out _ _ _ _ _ ho hg HS3.out
  have HXD := Lib.hid hx
  have HS4 := Lib.hid hsg
  clear ho hg hx hsg HCE
  refine hK.out _ _ (by exact trivial) (by exact fun _ => HBM.out _ _ HS4.out (by simp)) ?_
  clear hK K
  try simp only [Act.put, List.setIfInBounds_toArray, List.set_cons_zero, List.set_cons_succ]
  have hs := Sep.blk (A := [_, _, _, _, _]) (B := [_]) HS4.out
  obtain ⟨f0, f1, f2, f3, f4, f5, f6⟩ := bf7 hs.hd
  have hs1 := hs.setB 3 (.slice ga nA ca)
  have hs2 := hs1.setB 4 (.slice gb nB cb)
  have hs3 := hs2.setB 5 (.slice gc nC cc)
  have hs4 := hs3.setB 6 (.slice gd nD cd)
  obtain ⟨a0, a1, a2, a3, a4, a5, a6⟩ := bq7 hs.hd
  obtain ⟨b0, b1, b2, b3, b4, b5, b6⟩ := bq7 hs1.hd
  obtain ⟨d0, d1, d2, d3, d4, d5, d6⟩ := bq7 hs2.hd
  obtain ⟨k0, k1, k2, k3, k4, k5, k6⟩ := bq7 hs3.hd
  obtain ⟨_, _, _, e0, e1, e2, e3⟩ := bf7 hs1.hd
  obtain ⟨_, _, _, h0, h1, h2, h3⟩ := bf7 hs2.hd
  obtain ⟨_, _, _, i0, i1, i2, i3⟩ := bf7 hs3.hd
  have HS5 := Lib.hid hs4
  clear hs hs1 hs2 hs3 hs4 X0
  refine AnyL.step (i := 13) (by kernel_rfl) (by rfl) (fun K hK => ?_)
  go_simp
  refine hK.out _ _ (by exact trivial) (by exact fun h => noTF (by kernel_rfl) h) ?_
  clear hK K
  try simp only [Act.put, List.setIfInBounds_toArray, List.set_cons_zero, List.set_cons_succ]
  refine AnyL.take (i := 14) (v := ?vx10) (by rfl) (by kernel_rfl) (by kernel_rfl) (by kernel_rfl) rfl (by exact fun _ _ _ h => h) (by rfl) ?hyx10 (by exact ⟨trivial, fun h => noTF (by kernel_rfl) h⟩) ?restx10
  case hyx10 => intro W hSW; (try dsimp only at hSW); first | (go_simp; done) | (go_simp; with_reducible rfl)
  try simp only [Act.put, List.setIfInBounds_toArray, List.set_cons_zero, List.set_cons_succ]
  refine AnyL.step (i := 15) (by kernel_rfl) (by rfl) (fun K hK => ?_)
  go_simp
  refine hK.out _ _ (by exact trivial) (by exact fun h => noTF (by kernel_rfl) h) ?_
  clear hK K
  try simp only [Act.put, List.setIfInBounds_toArray, List.set_cons_zero, List.set_cons_succ]
  refine AnyL.take (i := 16) (v := ?vx11) (by rfl) (by kernel_rfl) (by kernel_rfl) (by kernel_rfl) rfl (by exact fun _ _ _ h => h) (by rfl) ?hyx11 (by exact ⟨trivial, fun h => noTF (by kernel_rfl) h⟩) ?restx11
  case hyx11 => intro W hSW; (try dsimp only at hSW); first | (go_simp; done) | (go_simp; with_reducible rfl)
  try simp only [Act.put, List.setIfInBounds_toArray, List.set_cons_zero, List.set_cons_succ]
  refine AnyL.step (i := 17) (by kernel_rfl) (by rfl) (fun K hK => ?_)
  go_simp
  refine hK.out _ _ (by exact trivial) (by exact fun h => noTF (by kernel_rfl) h) ?_
  clear hK K
  try simp only [Act.put, List.setIfInBounds_toArray, List.set_cons_zero, List.set_cons_succ]
  refine AnyL.take (i := 18) (v := ?vx12) (by rfl) (by kernel_rfl) (by kernel_rfl) (by kernel_rfl) rfl (by exact fun _ _ _ h => h) (by rfl) ?hyx12 (by exact ⟨trivial, fun h => noTF (by kernel_rfl) h⟩) ?restx12
  case hyx12 => intro W hSW; (try dsimp only at hSW); first | (go_simp; done) | (go_simp; with_reducible rfl)
  try simp only [Act.put, List.setIfInBounds_toArray, List.set_cons_zero, List.set_cons_succ]
  refine AnyL.step (i := 19) (by kernel_rfl) (by rfl) (fun K hK => ?_)
  go_simp
  refine hK.out _ _ (by exact trivial) (by exact fun h => noTF (by kernel_rfl) h) ?_
  clear hK K
  try simp only [Act.put, List.setIfInBounds_toArray, List.set_cons_zero, List.set_cons_succ]
  refine AnyL.done (by kernel_rfl) ?_ _
  clear e0 e1 e2 e3 h0 h1 h2 h3 i0 i1 i2 i3 f0 f1 f2 f3 f4 f5 f6 a0 a1 a2 a3 a4 a5 a6 b0 b1 b2 b3 b4 b5 b6 d0 d1 d2 d3 d4 d5 d6 k0 k1 k2 k3 k4 k5 k6
  generalize ((((w4.setCell ⟨w.heap.size, 3, none⟩ (.slice ga nA ca)).setCell ⟨w.heap.size, 4, none⟩ (.slice gb nB cb)).setCell ⟨w.heap.size, 5, none⟩ (.slice gc nC cc)).setCell ⟨w.heap.size, 6, none⟩ (.slice gd nD cd)) = w5 at *
  obtain ⟨q0, q1, q2, q3, q4, q5, q6⟩ := bq7 HS5.out.hd
  have hs6 := Sep.blk (A := [_, _, _, _, _]) (B := [_]) HS5.out
  obtain ⟨r0, r1, r2, r3, r4, r5, r6⟩ := bq7 hs6.hd
  obtain ⟨y0, y1, y2, y3, y4, y5, y6⟩ := bf7 hs6.hd
  have hs7 := (((((((hs6.setB 0 (.int .i64 sS)).setB 1 (.int .i64 sI)).setB 2 (.int .i64 sO)).setB 3 (.slice ga nA ca)).setB 4 (.slice gb nB cb)).setB 5 (.slice gc nC cc)).setB 6 (.slice gd nD cd))
  obtain ⟨k0, k1, k2, k3, k4, k5, k6⟩ := bq7 hs7.hd
  clear hs6
  have hs8 := hs7.tl.tl
  have HSF := Lib.hid (Sep.bag (l := [_, _, _, _]) (show Sep _ [OS (.slice ga nA ca) xa, OS (.slice gb nB cb) xb, OS (.slice gc nC cc) xc, OS (.slice gd nD cd) xd, KeepA w] from Sep.perm (List.Perm.append_right [KeepA w] (List.reverse_perm [OS (.slice ga nA ca) xa, OS (.slice gb nB cb) xb, OS (.slice gc nC cc) xc, OS (.slice gd nD cd) xd])) hs8))
  clear hs7 hs8
  go_wp2_with fail
  refine bodyPost_ret_by (v := .agg #[.int .i64 sS, .int .i64 sI, .int .i64 sO, .slice ga nA ca, .slice gb nB cb, .slice gc nC cc, .slice gd nD cd]) ?_ rfl ⟨_, _, _, _, _, _, _, _, xa, xb, xc, xd, rfl, HXA.out, HXB.out, HXC.out, HXD.out, HSF.out⟩
  simp [results, go_sem, *]
end Go.Proofs.YtghfifpicklonaaDoor

/-
  A state space moved by a matrix and its inverse, in the second writing. Conditions: lengths are small; the numbers are elements of a field.
-/
namespace Go.Proofs.YtghfifpicklonaaDoor
open Go.RowKit
set_option linter.unusedVariables false
set_option maxRecDepth 100000

set_option maxHeartbeats 8000000 in
theorem ssMoved_any (p : Nat) [NeZero p] (s : StSp) (av bv cv dv u v : Value) (M K : List (List Int)) (nS nI nO : Nat) (w : World) (hp : 1 < p) (hp2 : p ≤ 1000) (h : RdSs w s av bv cv dv) (hk : SsK p s nS nI nO) (hu : MatV w u M) (hv : MatV w v K) (hM : RowsOk p nS M) (hK : RowsOk p nS K) (hm : M.length = nS) (hkl : K.length = nS) :
    Calls Tryd.prog 46 #[.int .i64 p, .agg #[.int .i64 s.S, .int .i64 s.I, .int .i64 s.O, av, bv, cv, dv], u, v] w (GivesS (movedS p nS nO s M K) w) := by
  have hls := hk.ls; have hli := hk.li; have hlo := hk.lo
  have HT0 := Lib.hid fun W (hw : w.grownBy W none) => ssTimes_any p u av M s.A nS W hp hp2 (hu.carry hw) (h.a.carry hw).mat (by rw [hk.la]; exact hM) hk.oa (by rw [hk.la]; omega) (by omega) (by omega)
  have HT1 := Lib.hid fun (q : Value) W (hq : MatV W q (prodL p M s.A nS)) (hw : w.grownBy W none) => ssTimes_any p q v (prodL p M s.A nS) K nS W hp hp2 hq (hv.carry hw) (by rw [hkl]; exact prodL_ok hp hk.oa) hK (by omega) (by omega) (by rw [prodL_len]; omega)
  have HT2 := Lib.hid fun W (hw : w.grownBy W none) => ssTimes_any p bv v s.B K nS W hp hp2 (h.b.carry hw).mat (hv.carry hw) (by rw [hkl]; exact hk.ob) hK (by omega) (by omega) (by rw [hk.lb]; omega)
  have HT3 := Lib.hid fun W (hw : w.grownBy W none) => ssTimes_any p u cv M s.C nO W hp hp2 (hu.carry hw) (h.c.carry hw).mat (by rw [hk.lc]; exact hM) hk.oc (by rw [hk.lc]; omega) (by omega) (by omega)
  have HT4 := Lib.hid fun W (hw : w.grownBy W none) => ssCopy_any dv s.D W (h.d.carry hw).mat (by rw [hk.ld]; omega) (fun r hr => by rw [(hk.od r hr).1]; omega)
  obtain ⟨P0, hP0⟩ : ∃ P0, prodL p M s.A nS = P0 := ⟨_, rfl⟩
  have hl0 : P0.length = nS := by rw [← hP0, prodL_len]; exact hm
  obtain ⟨PA, hPA⟩ : ∃ PA, prodL p P0 K nS = PA := ⟨_, rfl⟩
  have hlA : PA.length = nS := by rw [← hPA, prodL_len]; exact hl0
  obtain ⟨PB, hPB⟩ : ∃ PB, prodL p s.B K nS = PB := ⟨_, rfl⟩
  have hlB : PB.length = nI := by rw [← hPB, prodL_len]; exact hk.lb
  obtain ⟨PC, hPC⟩ : ∃ PC, prodL p M s.C nO = PC := ⟨_, rfl⟩
  have hlC : PC.length = nS := by rw [← hPC, prodL_len]; exact hm
  have hlD := hk.ld
  rw [hP0] at HT0 HT1
  rw [hPA] at HT1
  rw [hPB] at HT2
  rw [hPC] at HT3
  obtain ⟨sa, ta, rfl⟩ := h.a.shape
  obtain ⟨sb, tb, rfl⟩ := h.b.shape
  obtain ⟨sc, tc, rfl⟩ := h.c.shape
  obtain ⟨sd, td, rfl⟩ := h.d.shape
  unfold GivesS movedS
  simp only [hP0, hPA, hPB, hPC, hk.es, hk.ei, hk.eo]
  have e1 := hk.la; have e2 := hk.lb; have e3 := hk.lc
  rw [hlA, hlB, hlC]
  rw [e1] at HT0 ⊢
  rw [e2] at HT2 ⊢
  rw [e3] at HT3 ⊢
  rw [hlD] at HT4 ⊢
  have HU := Lib.hid hu.shape
  have HV := Lib.hid hv.shape
  generalize s.D = PD at *
  clear h hk hu hv hM hK hP0 hPA hPB hPC e1 e2 e3
  have HS0 := Lib.hid fun W vs v (W2 : World) l (h : OwnM W.heap.size W2 v vs P0) (hg : W.grownBy W2 none) (hs : Sep W l) => h.sepE hg hs
  have HSA := Lib.hid fun W vs v (W2 : World) l (h : OwnM W.heap.size W2 v vs PA) (hg : W.grownBy W2 none) (hs : Sep W l) => h.sepE hg hs
  have HSB := Lib.hid fun W vs v (W2 : World) l (h : OwnM W.heap.size W2 v vs PB) (hg : W.grownBy W2 none) (hs : Sep W l) => h.sepE hg hs
  have HSC := Lib.hid fun W vs v (W2 : World) l (h : OwnM W.heap.size W2 v vs PC) (hg : W.grownBy W2 none) (hs : Sep W l) => h.sepE hg hs
  have HSD := Lib.hid fun W vs v (W2 : World) l (h : OwnM W.heap.size W2 v vs PD) (hg : W.grownBy W2 none) (hs : Sep W l) => h.sepE hg hs
  rw [hl0] at HS0
  rw [hlA] at HSA
  rw [hlB] at HSB
  rw [hlC] at HSC
  rw [hlD] at HSD
  obtain ⟨ua, uc, rfl⟩ := HU.out
  obtain ⟨va, vc, rfl⟩ := HV.out
  rw [hm] at HT0 HT3 ⊢
  rw [hkl] at HT1 HT2 ⊢
  clear HU HV hl0 hlA hlB hlC hlD hm hkl
  have HS0_ := Lib.hid (((Sep.start w).boxAt w.heap.size rfl #[.int .i64 nS, .int .i64 nI, .int .i64 nO, .slice sa nS ta, .slice sb nI tb, .slice sc nS tc, .slice sd nI td] 32).boxAt (w.heap.size + 1) (by simp) #[.int .i64 0, .int .i64 0, .int .i64 0, .slice none 0 0, .slice none 0 0, .slice none 0 0, .slice none 0 0] 32).dr
  obtain ⟨q0, q1, q2, q3, q4, q5, q6⟩ := bq7 HS0_.out.tl.hd
  go_enter Tryd.func46, Tryd.ntmps46
  go_upto_region 2 with fail
  have HBM := Lib.hid fun (W1 : World) (L : List Asrt) (h : Sep W1 L) (h1 : BxA w.heap.size #[.int .i64 nS, .int .i64 nI, .int .i64 nO, .slice sa nS ta, .slice sb nI tb, .slice sc nS tc, .slice sd nI td] 32 ∈ L) => show W1.cell? ⟨w.heap.size, 1, none⟩ = some (.int .i64 nI) ∧ W1.cell? ⟨w.heap.size, 2, none⟩ = some (.int .i64 nO) ∧ W1.cell? ⟨w.heap.size, 3, none⟩ = some (.slice sa nS ta) ∧ W1.cell? ⟨w.heap.size, 4, none⟩ = some (.slice sb nI tb) ∧ W1.cell? ⟨w.heap.size, 5, none⟩ = some (.slice sc nS tc) ∧ W1.cell? ⟨w.heap.size, 6, none⟩ = some (.slice sd nI td) from
    have q := bq7 (show W1.heap[w.heap.size]? = some (.cells #[.int .i64 nS, .int .i64 nI, .int .i64 nO, .slice sa nS ta, .slice sb nI tb, .slice sc nS tc, .slice sd nI td] 32 (0, 0)) from Sep.all h _ h1)
    q.2
  have X0 := Lib.hid (HBM.out _ _ HS0_.out (by simp))
  refine AnyL.start (fun W1 => W1.cell? ⟨w.heap.size, 1, none⟩ = some (.int .i64 nI) ∧ W1.cell? ⟨w.heap.size, 2, none⟩ = some (.int .i64 nO) ∧ W1.cell? ⟨w.heap.size, 3, none⟩ = some (.slice sa nS ta) ∧ W1.cell? ⟨w.heap.size, 4, none⟩ = some (.slice sb nI tb) ∧ W1.cell? ⟨w.heap.size, 5, none⟩ = some (.slice sc nS tc) ∧ W1.cell? ⟨w.heap.size, 6, none⟩ = some (.slice sd nI td)) (fun _ => True) 99 (by kernel_rfl) ?_
  clear q0 q1 q2 q3 q4 q5 q6
  refine AnyL.take (i := 0) (v := ?vx1) (by rfl) (by kernel_rfl) (by kernel_rfl) (by kernel_rfl) rfl (by exact fun _ _ _ h => h) (by rfl) ?hyx1 (by exact ⟨X0.out, fun _ => trivial⟩) ?restx1
  case hyx1 => intro W hSW; (try dsimp only at hSW); first | (go_simp; done) | (go_simp; with_reducible rfl)
  try simp only [Act.put, List.setIfInBounds_toArray, List.set_cons_zero, List.set_cons_succ]
  refine AnyL.take (i := 1) (v := ?vx2) (by rfl) (by kernel_rfl) (by kernel_rfl) (by kernel_rfl) rfl (by exact fun _ _ _ h => h) (by rfl) ?hyx2 (by exact ⟨X0.out, fun _ => trivial⟩) ?restx2
  case hyx2 => intro W hSW; (try dsimp only at hSW); first | (go_simp; done) | (go_simp; with_reducible rfl)
  try simp only [Act.put, List.setIfInBounds_toArray, List.set_cons_zero, List.set_cons_succ]
  refine AnyL.take (i := 2) (v := ?vx3) (by rfl) (by kernel_rfl) (by kernel_rfl) (by kernel_rfl) rfl (by exact fun _ _ _ h => h) (by rfl) ?hyx3 (by exact ⟨X0.out, fun _ => trivial⟩) ?restx3
  case hyx3 => intro W hSW; (try dsimp only at hSW); first | (go_simp; done) | (go_simp; with_reducible rfl)
  try simp only [Act.put, List.setIfInBounds_toArray, List.set_cons_zero, List.set_cons_succ]
  refine AnyL.take (i := 3) (v := ?vx4) (by rfl) (by kernel_rfl) (by kernel_rfl) (by kernel_rfl) rfl (by exact fun _ _ _ h => h) (by rfl) ?hyx4 (by exact ⟨X0.out, fun _ => trivial⟩) ?restx4
  case hyx4 => intro W hSW; (try dsimp only at hSW); first | (go_simp; done) | (go_simp; with_reducible rfl)
  try simp only [Act.put, List.setIfInBounds_toArray, List.set_cons_zero, List.set_cons_succ]
  refine AnyL.take (i := 4) (v := ?vx5) (by rfl) (by kernel_rfl) (by kernel_rfl) (by kernel_rfl) rfl (by exact fun _ _ _ h => h) (by rfl) ?hyx5 (by exact ⟨X0.out, fun _ => trivial⟩) ?restx5
  case hyx5 => intro W hSW; (try dsimp only at hSW); first | (go_simp; done) | (go_simp; with_reducible rfl)
  try simp only [Act.put, List.setIfInBounds_toArray, List.set_cons_zero, List.set_cons_succ]
  refine AnyL.take (i := 5) (v := ?vx6) (by rfl) (by kernel_rfl) (by kernel_rfl) (by kernel_rfl) rfl (by exact fun _ _ _ h => h) (by rfl) ?hyx6 (by exact ⟨X0.out, fun _ => trivial⟩) ?restx6
  case hyx6 => intro W hSW; (try dsimp only at hSW); first | (go_simp; done) | (go_simp; with_reducible rfl)
  try simp only [Act.put, List.setIfInBounds_toArray, List.set_cons_zero, List.set_cons_succ]
  refine AnyL.take (i := 6) (v := ?vx7) (by rfl) (by kernel_rfl) (by kernel_rfl) (by kernel_rfl) rfl (by exact fun _ _ _ h => h) (by rfl) ?hyx7 (by exact ⟨X0.out, fun _ => trivial⟩) ?restx7
  case hyx7 => intro W hSW; (try dsimp only at hSW); first | (go_simp; done) | (go_simp; with_reducible rfl)
  try simp only [Act.put, List.setIfInBounds_toArray, List.set_cons_zero, List.set_cons_succ]
  refine AnyL.take (i := 7) (v := ?vx8) (by rfl) (by kernel_rfl) (by kernel_rfl) (by kernel_rfl) rfl (by exact fun _ _ _ h => h) (by rfl) ?hyx8 (by exact ⟨X0.out, fun _ => trivial⟩) ?restx8
  case hyx8 => intro W hSW; (try dsimp only at hSW); first | (go_simp; done) | (go_simp; with_reducible rfl)
  try simp only [Act.put, List.setIfInBounds_toArray, List.set_cons_zero, List.set_cons_succ]
  refine AnyL.take (i := 8) (v := ?vx9) (by rfl) (by kernel_rfl) (by kernel_rfl) (by kernel_rfl) rfl (by exact fun _ _ _ h => h) (by rfl) ?hyx9 (by exact ⟨X0.out, fun _ => trivial⟩) ?restx9
  case hyx9 => intro W hSW; (try dsimp only at hSW); first | (go_simp; done) | (go_simp; with_reducible rfl)
  try simp only [Act.put, List.setIfInBounds_toArray, List.set_cons_zero, List.set_cons_succ]
  refine AnyL.take (i := 9) (v := ?vx10) (by rfl) (by kernel_rfl) (by kernel_rfl) (by kernel_rfl) rfl (by exact fun _ _ _ h => h) (by rfl) ?hyx10 (by exact ⟨X0.out, fun _ => trivial⟩) ?restx10
  case hyx10 => intro W hSW; (try dsimp only at hSW); first | (go_simp; done) | (go_simp; with_reducible rfl)
  try simp only [Act.put, List.setIfInBounds_toArray, List.set_cons_zero, List.set_cons_succ]
  refine AnyL.take (i := 10) (v := ?vx11) (by rfl) (by kernel_rfl) (by kernel_rfl) (by kernel_rfl) rfl (by exact fun _ _ _ h => h) (by rfl) ?hyx11 (by exact ⟨X0.out, fun _ => trivial⟩) ?restx11
  case hyx11 => intro W hSW; (try dsimp only at hSW); first | (go_simp; done) | (go_simp; with_reducible rfl)
  try simp only [Act.put, List.setIfInBounds_toArray, List.set_cons_zero, List.set_cons_succ]
  refine AnyL.take (i := 11) (v := ?vx12) (by rfl) (by kernel_rfl) (by kernel_rfl) (by kernel_rfl) rfl (by exact fun _ _ _ h => h) (by rfl) ?hyx12 (by exact ⟨X0.out, fun _ => trivial⟩) ?restx12
  case hyx12 => intro W hSW; (try dsimp only at hSW); first | (go_simp; done) | (go_simp; with_reducible rfl)
  try simp only [Act.put, List.setIfInBounds_toArray, List.set_cons_zero, List.set_cons_succ]
  refine AnyL.take (i := 13) (v := ?vx13) (by rfl) (by kernel_rfl) (by kernel_rfl) (by kernel_rfl) rfl (by exact fun _ _ _ h => h) (by rfl) ?hyx13 (by exact ⟨X0.out, fun _ => trivial⟩) ?restx13
  case hyx13 => intro W hSW; (try dsimp only at hSW); first | (go_simp; done) | (go_simp; with_reducible rfl)
  try simp only [Act.put, List.setIfInBounds_toArray, List.set_cons_zero, List.set_cons_succ]
  refine AnyL.take (i := 15) (v := ?vx14) (by rfl) (by kernel_rfl) (by kernel_rfl) (by kernel_rfl) rfl (by exact fun _ _ _ h => h) (by rfl) ?hyx14 (by exact ⟨X0.out, fun _ => trivial⟩) ?restx14
  case hyx14 => intro W hSW; (try dsimp only at hSW); first | (go_simp; done) | (go_simp; with_reducible rfl)
  try simp only [Act.put, List.setIfInBounds_toArray, List.set_cons_zero, List.set_cons_succ]
  refine AnyL.take (i := 16) (v := ?vx15) (by rfl) (by kernel_rfl) (by kernel_rfl) (by kernel_rfl) rfl (by exact fun _ _ _ h => h) (by rfl) ?hyx15 (by exact ⟨X0.out, fun _ => trivial⟩) ?restx15
  case hyx15 => intro W hSW; (try dsimp only at hSW); first | (go_simp; done) | (go_simp; with_reducible rfl)
  try simp only [Act.put, List.setIfInBounds_toArray, List.set_cons_zero, List.set_cons_succ]
  refine AnyL.take (i := 17) (v := ?vx16) (by rfl) (by kernel_rfl) (by kernel_rfl) (by kernel_rfl) rfl (by exact fun _ _ _ h => h) (by rfl) ?hyx16 (by exact ⟨X0.out, fun _ => trivial⟩) ?restx16
  case hyx16 => intro W hSW; (try dsimp only at hSW); first | (go_simp; done) | (go_simp; with_reducible rfl)
  try simp only [Act.put, List.setIfInBounds_toArray, List.set_cons_zero, List.set_cons_succ]
  refine AnyL.take (i := 18) (v := ?vx17) (by rfl) (by kernel_rfl) (by kernel_rfl) (by kernel_rfl) rfl (by exact fun _ _ _ h => h) (by rfl) ?hyx17 (by exact ⟨X0.out, fun _ => trivial⟩) ?restx17
  case hyx17 => intro W hSW; (try dsimp only at hSW); first | (go_simp; done) | (go_simp; with_reducible rfl)
  try simp only [Act.put, List.setIfInBounds_toArray, List.set_cons_zero, List.set_cons_succ]
  refine AnyL.take (i := 19) (v := ?vx18) (by rfl) (by kernel_rfl) (by kernel_rfl) (by kernel_rfl) rfl (by exact fun _ _ _ h => h) (by rfl) ?hyx18 (by exact ⟨X0.out, fun _ => trivial⟩) ?restx18
  case hyx18 => intro W hSW; (try dsimp only at hSW); first | (go_simp; done) | (go_simp; with_reducible rfl)
  try simp only [Act.put, List.setIfInBounds_toArray, List.set_cons_zero, List.set_cons_succ]
  refine AnyL.take (i := 21) (v := ?vx19) (by rfl) (by kernel_rfl) (by kernel_rfl) (by kernel_rfl) rfl (by exact fun _ _ _ h => h) (by rfl) ?hyx19 (by exact ⟨X0.out, fun _ => trivial⟩) ?restx19
  case hyx19 => intro W hSW; (try dsimp only at hSW); first | (go_simp; done) | (go_simp; with_reducible rfl)
  try simp only [Act.put, List.setIfInBounds_toArray, List.set_cons_zero, List.set_cons_succ]
  refine AnyL.take (i := 22) (v := ?vx20) (by rfl) (by kernel_rfl) (by kernel_rfl) (by kernel_rfl) rfl (by exact fun _ _ _ h => h) (by rfl) ?hyx20 (by exact ⟨X0.out, fun _ => trivial⟩) ?restx20
  case hyx20 => intro W hSW; (try dsimp only at hSW); first | (go_simp; done) | (go_simp; with_reducible rfl)
  try simp only [Act.put, List.setIfInBounds_toArray, List.set_cons_zero, List.set_cons_succ]
  refine AnyL.take (i := 23) (v := ?vx21) (by rfl) (by kernel_rfl) (by kernel_rfl) (by kernel_rfl) rfl (by exact fun _ _ _ h => h) (by rfl) ?hyx21 (by exact ⟨X0.out, fun _ => trivial⟩) ?restx21
  case hyx21 => intro W hSW; (try dsimp only at hSW); first | (go_simp; done) | (go_simp; with_reducible rfl)
  try simp only [Act.put, List.setIfInBounds_toArray, List.set_cons_zero, List.set_cons_succ]
  refine AnyL.take (i := 24) (v := ?vx22) (by rfl) (by kernel_rfl) (by kernel_rfl) (by kernel_rfl) rfl (by exact fun _ _ _ h => h) (by rfl) ?hyx22 (by exact ⟨X0.out, fun _ => trivial⟩) ?restx22
  case hyx22 => intro W hSW; (try dsimp only at hSW); first | (go_simp; done) | (go_simp; with_reducible rfl)
  try simp only [Act.put, List.setIfInBounds_toArray, List.set_cons_zero, List.set_cons_succ]
  refine AnyL.take (i := 25) (v := ?vx23) (by rfl) (by kernel_rfl) (by kernel_rfl) (by kernel_rfl) rfl (by exact fun _ _ _ h => h) (by rfl) ?hyx23 (by exact ⟨X0.out, fun _ => trivial⟩) ?restx23
  case hyx23 => intro W hSW; (try dsimp only at hSW); first | (go_simp; done) | (go_simp; with_reducible rfl)
  try simp only [Act.put, List.setIfInBounds_toArray, List.set_cons_zero, List.set_cons_succ]
  refine AnyL.take (i := 26) (v := ?vx24) (by rfl) (by kernel_rfl) (by kernel_rfl) (by kernel_rfl) rfl (by exact fun _ _ _ h => h) (by rfl) ?hyx24 (by exact ⟨X0.out, fun _ => trivial⟩) ?restx24
  case hyx24 => intro W hSW; (try dsimp only at hSW); first | (go_simp; done) | (go_simp; with_reducible rfl)
  try simp only [Act.put, List.setIfInBounds_toArray, List.set_cons_zero, List.set_cons_succ]
  refine AnyL.take (i := 28) (v := ?vx25) (by rfl) (by kernel_rfl) (by kernel_rfl) (by kernel_rfl) rfl (by exact fun _ _ _ h => h) (by rfl) ?hyx25 (by exact ⟨X0.out, fun _ => trivial⟩) ?restx25
  case hyx25 => intro W hSW; (try dsimp only at hSW); first | (go_simp; done) | (go_simp; with_reducible rfl)
  try simp only [Act.put, List.setIfInBounds_toArray, List.set_cons_zero, List.set_cons_succ]
  refine AnyL.take (i := 29) (v := ?vx26) (by rfl) (by kernel_rfl) (by kernel_rfl) (by kernel_rfl) rfl (by exact fun _ _ _ h => h) (by rfl) ?hyx26 (by exact ⟨X0.out, fun _ => trivial⟩) ?restx26
  case hyx26 => intro W hSW; (try dsimp only at hSW); first | (go_simp; done) | (go_simp; with_reducible rfl)
  try simp only [Act.put, List.setIfInBounds_toArray, List.set_cons_zero, List.set_cons_succ]
  refine AnyL.step (i := 12) (by kernel_rfl) (by rfl) (fun K hK => ?_)
  have hkE := (show w.grownBy _ none from HS0_.out.tl.tl.hd)
  have HCE := Lib.hid (HT0.out _ hkE)
  clear hkE
  go_simp
  go_at_call 88
  with_reducible refine HCE.out.mono ?_
  rintro e w1 ⟨uo, uso, rfl, ho, hg⟩
  obtain ⟨go, co, xo, rfl, hx, hsg⟩ := HS0.out _ _ _ _ _ ho hg HS0_.out
  have HXo := Lib.hid hx
  have HR1 := Lib.hid hsg
  clear ho hg hx hsg HCE
  refine hK.out _ _ (by exact HBM.out _ _ HR1.out (by simp)) (by exact fun _ => trivial) ?_
  clear hK K
  try simp only [Act.put, List.setIfInBounds_toArray, List.set_cons_zero, List.set_cons_succ]
  refine AnyL.step (i := 14) (by kernel_rfl) (by rfl) (fun K hK => ?_)
  have hkE := (show w.grownBy _ none from HR1.out.tl.tl.tl.hd)
  have HCE := Lib.hid (HT1.out _ _ (by have := OS.read HR1.out.hd; rw [HXo.out] at this; exact this.mat) hkE)
  clear hkE
  go_simp
  go_at_call 88
  with_reducible refine HCE.out.mono ?_
  rintro e w2 ⟨ua, usa, rfl, ho, hg⟩
  obtain ⟨ga, ca, xa, rfl, hx, hsg⟩ := HSA.out _ _ _ _ _ ho hg HR1.out
  have HXa := Lib.hid hx
  have HR2 := Lib.hid hsg
  clear ho hg hx hsg HCE
  refine hK.out _ _ (by exact HBM.out _ _ HR2.out (by simp)) (by exact fun _ => trivial) ?_
  clear hK K
  try simp only [Act.put, List.setIfInBounds_toArray, List.set_cons_zero, List.set_cons_succ]
  refine AnyL.step (i := 20) (by kernel_rfl) (by rfl) (fun K hK => ?_)
  have hkE := (show w.grownBy _ none from HR2.out.tl.tl.tl.tl.hd)
  have HCE := Lib.hid (HT2.out _ hkE)
  clear hkE
  go_simp
  go_at_call 88
  with_reducible refine HCE.out.mono ?_
  rintro e w3 ⟨ub, usb, rfl, ho, hg⟩
  obtain ⟨gb, cb, xb, rfl, hx, hsg⟩ := HSB.out _ _ _ _ _ ho hg HR2.out
  have HXb := Lib.hid hx
  have HR3 := Lib.hid hsg
  clear ho hg hx hsg HCE
  refine hK.out _ _ (by exact HBM.out _ _ HR3.out (by simp)) (by exact fun _ => trivial) ?_
  clear hK K
  try simp only [Act.put, List.setIfInBounds_toArray, List.set_cons_zero, List.set_cons_succ]
  refine AnyL.step (i := 27) (by kernel_rfl) (by rfl) (fun K hK => ?_)
  have hkE := (show w.grownBy _ none from HR3.out.tl.tl.tl.tl.tl.hd)
  have HCE := Lib.hid (HT3.out _ hkE)
  clear hkE
  go_simp
  go_at_call 88
  with_reducible refine HCE.out.mono ?_
  rintro e w4 ⟨uc, usc, rfl, ho, hg⟩
  obtain ⟨gc, cc, xc, rfl, hx, hsg⟩ := HSC.out _ _ _ _ _ ho hg HR3.out
  have HXc := Lib.hid hx
  have HR4 := Lib.hid hsg
  clear ho hg hx hsg HCE
  refine hK.out _ _ (by exact HBM.out _ _ HR4.out (by simp)) (by exact fun _ => trivial) ?_
  clear hK K
  try simp only [Act.put, List.setIfInBounds_toArray, List.set_cons_zero, List.set_cons_succ]
  refine AnyL.step (i := 30) (by kernel_rfl) (by rfl) (fun K hK => ?_)
  have hkE := (show w.grownBy _ none from HR4.out.tl.tl.tl.tl.tl.tl.hd)
  have HCE := Lib.hid (HT4.out _ hkE)
  clear hkE
  go_simp
  go_at_call 89
  with_reducible refine HCE.out.mono ?_
  rintro e w5 ⟨ud, usd, rfl, ho, hg⟩
  obtain ⟨gd, cd, xd, rfl, hx, hsg⟩ := HSD.out _ _ _ _ _ ho hg HR4.out
  have HXd := Lib.hid hx
  have HR5 := Lib.hid hsg
  clear ho hg hx hsg HCE
  refine hK.out _ _ (by exact HBM.out _ _ HR5.out (by simp)) (by exact fun _ => trivial) ?_
  clear hK K
  try simp only [Act.put, List.setIfInBounds_toArray, List.set_cons_zero, List.set_cons_succ]
  refine AnyL.take (i := 31) (v := ?vx27) (by rfl) (by kernel_rfl) (by kernel_rfl) (by kernel_rfl) rfl (by exact fun _ _ _ h => h) (by rfl) ?hyx27 (by exact ⟨HBM.out _ _ HR5.out (by simp), fun _ => trivial⟩) ?restx27
  case hyx27 => intro W hSW; (try dsimp only at hSW); first | (go_simp; done) | (go_simp; with_reducible rfl)
  try simp only [Act.put, List.setIfInBounds_toArray, List.set_cons_zero, List.set_cons_succ]
  have hs6 := Sep.blk (A := [_, _, _, _, _]) (B := [_]) HR5.out
  obtain ⟨r0, r1, r2, r3, r4, r5, r6⟩ := bq7 hs6.hd
  obtain ⟨y0, y1, y2, y3, y4, y5, y6⟩ := bf7 hs6.hd
  have hs7 := (((((((hs6.setB 0 (.int .i64 nS)).setB 1 (.int .i64 nI)).setB 2 (.int .i64 nO)).setB 3 (.slice ga nS ca)).setB 4 (.slice gb nI cb)).setB 5 (.slice gc nS cc)).setB 6 (.slice gd nI cd))
  have HR6 := Lib.hid hs7
  obtain ⟨k0, k1, k2, k3, k4, k5, k6⟩ := bq7 hs7.hd
  have hs8 : Sep _ [OS (.slice gd nI cd) xd, OS (.slice gc nS cc) xc, OS (.slice gb nI cb) xb, OS (.slice ga nS ca) xa, KeepA w] := Sep.cutA (X := [_, _, _, _]) (A := [_, _]) (r := [KeepA w]) hs7.tl
  have HSF := Lib.hid (Sep.bag (l := [_, _, _, _]) (show Sep _ [OS (.slice ga nS ca) xa, OS (.slice gb nI cb) xb, OS (.slice gc nS cc) xc, OS (.slice gd nI cd) xd, KeepA w] from Sep.perm (List.Perm.append_right [KeepA w] (List.reverse_perm [OS (.slice ga nS ca) xa, OS (.slice gb nI cb) xb, OS (.slice gc nS cc) xc, OS (.slice gd nI cd) xd])) hs8))
  clear hs6 hs7 hs8
  refine AnyL.step (i := 32) (by kernel_rfl) (by rfl) (fun K hK => ?_)
  go_simp
  refine hK.out _ _ (by exact HBM.out _ _ HR6.out (by simp)) (by exact fun _ => trivial) ?_
  clear hK K
  try simp only [Act.put, List.setIfInBounds_toArray, List.set_cons_zero, List.set_cons_succ]
  refine AnyL.done (by kernel_rfl) ?_ _
  clear r0 r1 r2 r3 r4 r5 r6 y0 y1 y2 y3 y4 y5 y6
  generalize (((((((w5.setCell ⟨w.heap.size + 1, 0, none⟩ (.int .i64 nS)).setCell ⟨w.heap.size + 1, 1, none⟩ (.int .i64 nI)).setCell ⟨w.heap.size + 1, 2, none⟩ (.int .i64 nO)).setCell ⟨w.heap.size + 1, 3, none⟩ (.slice ga nS ca)).setCell ⟨w.heap.size + 1, 4, none⟩ (.slice gb nI cb)).setCell ⟨w.heap.size + 1, 5, none⟩ (.slice gc nS cc)).setCell ⟨w.heap.size + 1, 6, none⟩ (.slice gd nI cd)) = w6 at *
  go_wp2_with fail
  refine bodyPost_ret_by (v := .agg #[.int .i64 nS, .int .i64 nI, .int .i64 nO, .slice ga nS ca, .slice gb nI cb, .slice gc nS cc, .slice gd nI cd]) ?_ rfl ⟨_, _, _, _, _, _, _, _, xa, xb, xc, xd, rfl, HXa.out, HXb.out, HXc.out, HXd.out, HSF.out⟩
  simp [results, go_sem, *]
end Go.Proofs.YtghfifpicklonaaDoor

/-
  The specification's coordinates and sums of vectors. Conditions: the sizes are small.
-/
import Derived.Test.YtpeaeminjbjlnaaDoorMv10
import Derived.Test.YtpeaeminjbjlnaaDoorMv06
import Derived.Test.YtpeaeminjbjlnaaDoorMv07
import Derived.StillTailTactics
import Derived.Test.YtpeaeminjbjlnaaDoorMv05
namespace Go.Proofs.YtpeaeminjbjlnaaDoor
open Go.RowKit
set_option linter.unusedVariables false

set_option maxRecDepth 100000 in
theorem spCoords_any (n : Nat) (u v : Value) (m : List (List Int)) (x : List Int) (w : World) (hu : MatV w u m) (hv : IntsV w v x) (hm : m.length ≤ 1000) (hn : n ≤ 1000) (hx : x.length = n) (hrow : ∀ row ∈ m, row.length = n) (hld : ∀ i, i < m.length → leadL (m.getD i []) < n) :
    Calls Tryd.prog 201 #[u, v] w fun e w' => ∃ o, e = .returned o ∧ OwnInts w.heap.size w' o (coordsL m x) ∧ w.grownBy w' none := by
  have HU := Lib.hid hu; have HV := Lib.hid hv; have HROW := Lib.hid hrow; have HLD := Lib.hid hld
  obtain ⟨ua, uc, rfl⟩ := hu.shape
  obtain ⟨va, vc, rfl, hvx⟩ := hv
  have HCLN := Lib.hid (show (coordsL m x).length = m.length by simp [coordsL])
  rw [hx] at HV
  have HX := Lib.hid hx
  rw [hx]
  clear hu hrow hld hvx hx
  generalize hml : m.length = l at *
  have HML := Lib.hid hml
  clear hml
  go_enter Tryd.func201, Tryd.ntmps201
  go_wp2
  go_loopw [5, 10] (fun out i wr => ∃ k : Nat, k ≤ l ∧ i = .int .i64 k ∧ Sep wr [OI out ((coordsL m x).take k), KeepA w]) (fun _ i _ => l - (intOf i).toNat)
  case atStart => exact ⟨0, by omega, rfl, (Sep.start w).nilI⟩
  case round =>
    obtain ⟨k, hk, rfl, hs⟩ := hrel
    have HS := Lib.hid hs
    clear hs
    by_cases hlt : k < l
    · have hkl : k < m.length := by rw [HML.out]; exact hlt
      obtain ⟨b, o, cap, ml, r, rc, he, hcell, hrow0⟩ := HU.out.rowK HS.out.s2.hd hkl
      cases he
      have hrl := HROW.out _ (getD_mem hkl)
      have hll := HLD.out k hlt
      have HSN := Lib.hid (take_snocD 0 (show k < (coordsL m x).length by rw [HCLN.out]; exact hlt))
      have HAT := Lib.hid (coordsL_at (v := x) hkl)
      rw [hrl] at hcell hrow0
      have hrow := hrow0.carry HS.out.s2.hd
      have HLD2 := Lib.hid (spLead_any _ _ wr hrow (by rw [hrl]; omega))
      have hvw := HV.out.carry HS.out.s2.hd
      have A5 := Lib.hid (show ((coordsL m x).take k).length ≤ 1000000000 by rw [List.length_take]; omega)
      clear hrl hrow0 hrow hkl
      generalize hld : leadL (m.getD k []) = ld at *
      obtain ⟨d, rfl, hs2, hd2, hc2⟩ := hvw.at (show ld < x.length by rw [HX.out]; exact hll)
      obtain ⟨db, dof, _⟩ := d
      simp only at hs2 hc2
      subst hs2
      rw [← getD_lt (by rw [HX.out]; exact hll)] at hc2
      generalize hz : x.getD ld 0 = z at *
      have l0 : ((ld : Nat) : Int) < (n : Int) := by omega
      clear hld hvw hd2
      go_wp2_with (first
        | (go_at_call 276
           with_reducible refine HLD2.out.mono ?_
           rintro e w' ⟨rfl, rfl⟩)
        | (at_builtin
           refine app_intS rfl _ _ rfl rfl rfl HS.out A5.out ?_
           intro g2 cap2 w2 hs2
           have HS2 := Lib.hid hs2
           clear hs2))
      go_roundw
      case rel => exact ⟨k + 1, by omega, by go_num, by have h := HS2.out; rw [List.length_take] at h; rw [HSN.out, HAT.out]; exact h⟩
      case measure => simp [intOf]; omega
    · have ht : (coordsL m x).take k = coordsL m x := List.take_of_length_le (by rw [HCLN.out]; omega)
      have HTK := Lib.hid ht
      clear ht
      go_wp2
      go_ret
      exact ⟨_, rfl, by have := HS.out; rw [HTK.out] at this; exact this.ints, HS.out.s2.hd⟩

set_option maxRecDepth 100000 in
set_option maxHeartbeats 1000000 in
theorem spSum_any (p : Nat) [NeZero p] (n : Nat) (u v : Value) (L : List (List Int)) (x : List Int) (w : World) (hp1 : 1 < p) (hp2 : p ≤ 1000) (hu : MatV w u L) (hv : IntsV w v x) (hL : RowsOk p n L) (hx : x.length = L.length) (hxb : ∀ z ∈ x, 0 ≤ z ∧ z < p) (hm : L.length ≤ 1000) (hn : n ≤ 1000) :
    Calls Tryd.prog 271 #[.int .i64 p, .int .i64 n, u, v] w fun e w' => ∃ o, e = .returned o ∧ OwnInts w.heap.size w' o (combTo p x L n L.length) ∧ w.grownBy w' none := by
  obtain ⟨i0, hi, hz0, hz1, hz2⟩ := info_parts info_int
  have HI := Lib.hid hi; have HZ0 := Lib.hid hz0; have HZ1 := Lib.hid hz1; have HZ2 := Lib.hid hz2
  have HU := Lib.hid hu; have HV := Lib.hid hv; have HL := Lib.hid hL; have HXB := Lib.hid hxb
  have HCO := Lib.hid fun k (hk : k ≤ L.length) => combTo_ok (x := x) hp1 hL k hk
  obtain ⟨ua, uc, rfl⟩ := hu.shape
  obtain ⟨va, vc, rfl, hvx⟩ := hv
  have HX := Lib.hid hx
  rw [hx] at HV ⊢
  clear hu hL hxb hvx hx hi hz0 hz1 hz2
  generalize hml : L.length = l at *
  have HML := Lib.hid hml
  clear hml
  go_enter Tryd.func271, Tryd.ntmps271
  go_wp2_with (at_make; refine wpList_make_full _ rfl _ _ 24 rfl w.heap.size 3 i0 (.int .i64 0) 1 Tryd.underlying24 HI.out HZ0.out HZ1.out _ _ _ _ n rfl rfl rfl rfl (by rw [HZ2.out]; omega) (by unfold maxLen; omega) (Nat.le_refl _) ?_; intro w1 hown' hgr'
               have H1 := Lib.hid hown'; have H2 := Lib.hid hgr'
               clear hown' hgr')
  have ho := H1.out
  rw [madeCells_int] at ho
  have ho' : OwnInts w.heap.size w1 (.slice (some ⟨w.heap.size, 0, none⟩) n n) (List.replicate n 0) := by
    unfold OwnInts; rw [List.length_replicate]; exact ho
  have HS := Lib.hid ((Sep.start w).newI H2.out ho')
  clear ho ho' H1 H2 HI HZ0 HZ1 HZ2
  generalize w.heap.size = g at *
  go_loopw [18] (fun i wr => ∃ k : Nat, k ≤ l ∧ i = .int .i64 k ∧ Sep wr [OI (.slice (some ⟨g, 0, none⟩) n n) (combTo p x L n k), KeepA w]) (fun i _ => l - (intOf i).toNat)
  case atStart => exact ⟨0, by omega, rfl, HS.out⟩
  case round =>
    obtain ⟨k, hk, rfl, hs⟩ := hrel
    have HS := Lib.hid hs
    clear hs
    by_cases hlt : k < l
    · have hkl : k < L.length := by rw [HML.out]; exact hlt
      obtain ⟨b, o, cap, ml, r, rc, he, hcell, hrow0⟩ := HU.out.rowK HS.out.s2.hd hkl
      cases he
      have hro := HL.out _ (getD_mem hkl)
      rw [hro.1] at hcell hrow0
      have HROW := Lib.hid hrow0; have HRO := Lib.hid hro
      have hco := HCO.out k hk
      have HCK := Lib.hid hco
      have hnx : combTo p x L n (k + 1) = addT p (combTo p x L n k) (x.getD k 0) (L.getD k []) := rfl
      have HNX := Lib.hid hnx
      have hxk := HXB.out _ (List.getElem_mem (show k < x.length by rw [HX.out]; exact hlt))
      rw [← getD_lt (by rw [HX.out]; exact hlt)] at hxk
      clear hrow0 hro hco hnx hkl
      generalize combTo p x L n k = cb at *
      generalize L.getD k [] = row at *
      go_wp2_with fail
      obtain ⟨w2, hw2⟩ : ∃ w2, w2 = wr := ⟨_, rfl⟩
      subst hw2
      clear hcell
      go_loopw [25] (fun i wx => ∃ (q : Nat) (zs : List Int), q ≤ n ∧ i = .int .i64 q ∧ zs.length = n ∧ (∀ t, t < q → zs.getD t 0 = (cb.getD t 0 + x.getD k 0 * row.getD t 0) % p) ∧ (∀ t, q ≤ t → zs.getD t 0 = cb.getD t 0) ∧ Sep wx [OI (.slice (some ⟨g, 0, none⟩) n n) zs, KeepA w]) (fun i _ => n - (intOf i).toNat)
      case atStart => exact ⟨0, cb, by omega, rfl, HCK.out.1, fun _ h => absurd h (by omega), fun _ _ => rfl, HS.out⟩
      case round =>
        obtain ⟨q, zs, hq, rfl, hz1, hz2, hz3, hsx⟩ := hrel
        have HZL := Lib.hid hz1; have HZ2 := Lib.hid hz2; have HZ3 := Lib.hid hz3; have HSX := Lib.hid hsx
        clear hz1 hz2 hz3 hsx
        by_cases hqn : q < n
        · obtain ⟨d, rfl, hs1, hd1, hc1⟩ := (HROW.out.carry HSX.out.s2.hd).at (show q < row.length by rw [HRO.out.1]; exact hqn)
          obtain ⟨d2, rfl, hs2, hd2, hc2⟩ := (HV.out.carry HSX.out.s2.hd).at (show k < x.length by rw [HX.out]; exact hlt)
          obtain ⟨db, dof, _⟩ := d
          obtain ⟨db2, dof2, _⟩ := d2
          simp only at hs1 hc1 hs2 hc2
          subst hs1 hs2
          have hc3 := HSX.out.hd.cell HZL.out.symm (show q < zs.length by rw [HZL.out]; exact hqn)
          have hf3 := HSX.out.hd.free HZL.out.symm q
          have HP := Lib.hid fun y => HSX.out.setI HZL.out.symm q y
          rw [← getD_lt (by rw [HX.out]; exact hlt)] at hc2
          have hbx := HRO.out.2 _ (List.getElem_mem (show q < row.length by rw [HRO.out.1]; exact hqn))
          rw [← getD_lt (by rw [HRO.out.1]; exact hqn)] at hbx hc1
          rw [← getD_lt (by rw [HZL.out]; exact hqn), HZ3.out q (Nat.le_refl _)] at hc3
          have hbc := HCK.out.2 _ (List.getElem_mem (show q < cb.length by rw [HCK.out.1]; exact hqn))
          rw [← getD_lt (by rw [HCK.out.1]; exact hqn)] at hbc
          generalize hxk' : x.getD k 0 = xk at *
          generalize hrq : row.getD q 0 = rq at *
          generalize hcq : cb.getD q 0 = cq at *
          have HXK := Lib.hid hxk'; have HRQ := Lib.hid hrq; have HCQ := Lib.hid hcq
          have b3 := mul_bd2 (a := xk) (b := rq) (A := 1000) (B := 1000) ⟨by omega, by omega⟩ (show 0 ≤ rq ∧ rq ≤ 1000 by omega) (by omega) (by omega)
          have b4 := Int.mul_nonneg hxk.1 hbx.1
          have q0 : (0 : Int) ≤ (q : Int) := by omega
          have q1 : (q : Int) < (n : Int) := by omega
          have q2 : (0 : Int) ≤ (k : Int) := by omega
          have q3 : (k : Int) < (l : Int) := by omega
          have q4 : (0 : Int) < (p : Int) := by omega
          clear hxk' hrq hcq hd1 hd2
          go_wp2_with fail
          go_region
          all_goals
            go_wp2
            go_roundw
            case rel =>
              refine ⟨q + 1, zs.set q ((cq + xk * rq) % p), by omega, by go_num, by rw [List.length_set]; exact HZL.out, fun t ht => ?_, fun t ht => ?_, (HP.out _).dr⟩
              · by_cases htq : q = t
                · subst htq
                  rw [getD_set_self (by rw [HZL.out]; exact hqn), HRQ.out, HCQ.out]
                · rw [getD_set_ne htq]
                  exact HZ2.out t (by omega)
              · rw [getD_set_ne (by omega)]
                exact HZ3.out t (by omega)
            case measure => simp [intOf]; omega
        · have hzs : zs = addT p cb (x.getD k 0) row := by
            refine list_ext_getD (by rw [HZL.out]; have h1 := HCK.out.1; have h2 := HRO.out.1; simp only [addT, List.length_zipWith]; omega) fun t ht => ?_
            have ht' : t < n := by have := HZL.out; omega
            rw [addT_getD (by rw [HCK.out.1, HRO.out.1]) (by rw [HCK.out.1]; exact ht')]
            exact HZ2.out t (by omega)
          have HZS := Lib.hid hzs
          clear hzs
          go_wp2
          go_roundw
          case rel => exact ⟨k + 1, by omega, by go_num, by rw [HNX.out, ← HZS.out]; exact HSX.out⟩
          case measure => simp [intOf]; omega
    · have hkl : k = l := by omega
      subst hkl
      go_wp2
      go_ret
      exact ⟨_, rfl, HS.out.ints, HS.out.s2.hd⟩
end Go.Proofs.YtpeaeminjbjlnaaDoor

/-
  The specification's answers on spans, vectors and coordinates. Conditions: the sizes are small.
-/
namespace Go.Proofs.YtpeaeminjbjlnaaDoor
open Go.RowKit
set_option linter.unusedVariables false

theorem coordsL_bd {p : Int} {m : List (List Int)} {x : List Int} {n : Nat} (hx : VecOk p n x) (hld : ∀ i, i < m.length → leadL (m.getD i []) < n) : ∀ z ∈ coordsL m x, 0 ≤ z ∧ z < p := by
  intro z hz
  obtain ⟨i, hi, rfl⟩ := List.getElem_of_mem hz
  have hi' : i < m.length := by simpa [coordsL] using hi
  rw [← getD_lt hi, coordsL_at hi', getD_lt (by rw [hx.1]; exact hld i hi')]
  exact hx.2 _ (List.getElem_mem _)

set_option maxRecDepth 100000 in
theorem spHas_any (p n : Nat) [NeZero p] (u v : Value) (m : List (List Int)) (x : List Int) (w : World) (hf : fldN p = true) (hp2 : p ≤ 1000) (hu : MatV w u m) (hv : IntsV w v x) (hr : IsRed p n m) (hx : VecOk p n x) (hm : m.length ≤ 1000) (hn : n ≤ 1000) :
    Calls Tryd.prog 200 #[.int .i64 p, u, v] w fun e w' => e = .returned (.bool (hasB p n m x)) ∧ w.grownBy w' none := by
  have hxl := hx.1
  subst hxl
  have hld := fun i (hi : i < m.length) => lead_lt hf hr hi
  have HC := Lib.hid (spCoords_any x.length u v m x w hu hv hm hn hx.1 (fun row hrow => (hr.1 row hrow).1) hld)
  have HSM := Lib.hid fun w' o (hg : w.grownBy w' none) (ho : IntsV w' o (coordsL m x)) => spSum_any p x.length u o m (coordsL m x) w' (lt_p hf) hp2 (hu.carry hg) ho hr.1 (by simp [coordsL]) (coordsL_bd hx hld) hm hn
  have HSA := Lib.hid fun w' o (hg : w.grownBy w' none) (ho : IntsV w' o (combTo p (coordsL m x) m x.length m.length)) => l1Same_q o v _ x w' ho (hv.carry hg) (by rw [(combTo_ok (lt_p hf) hr.1 _ (Nat.le_refl _)).1]; omega) (by rw [hx.1]; omega)
  have HH := Lib.hid (show (combTo p (coordsL m x) m x.length m.length == x) = hasB p x.length m x from rfl)
  rw [HH.out] at HSA
  have hcl := (combTo_ok (x := coordsL m x) (lt_p hf) hr.1 _ (Nat.le_refl _)).1
  have HCL := Lib.hid hcl
  have HCC := Lib.hid (show (coordsL m x).length = m.length by simp [coordsL])
  obtain ⟨ua, uc, rfl⟩ := hu.shape
  obtain ⟨va, vc, rfl, hvx⟩ := hv
  clear hu hvx hr hx hld hcl
  generalize hasB p x.length m x = hb at *
  generalize combTo p (coordsL m x) m x.length m.length = cs at *
  generalize x.length = n at *
  generalize coordsL m x = co at *
  generalize m.length = l at *
  go_enter Tryd.func200, Tryd.ntmps200
  go_wp2_with (first
    | (go_at_call 201
       with_reducible refine HC.out.mono ?_
       rintro e w1 ⟨o, rfl, ho, hg⟩
       obtain ⟨oa, oc, rfl⟩ := own_shape ho
       have HO := Lib.hid ho.read; have HG := Lib.hid hg
       clear ho hg)
    | (go_at_call 271
       with_reducible refine (HSM.out _ _ HG.out HO.out).mono ?_
       rintro e w2 ⟨o2, rfl, ho, hg⟩
       obtain ⟨oa2, oc2, rfl⟩ := own_shape ho
       have HO2 := Lib.hid ho.read; have HG2 := Lib.hid (HG.out.trans hg)
       clear ho hg)
    | (go_at_call 280
       with_reducible refine (HSA.out _ _ HG2.out HO2.out).mono ?_
       rintro e w3 ⟨rfl, q3, rfl⟩))
  go_ret
  exact ⟨rfl, HG2.out.trans (grown_drewN _ _)⟩

section
variable (p n : Int) (u v : Value) (L : List (List Int)) (x : List Int) (w : World) (hu : MatV w u L) (hv : IntsV w v x) (hl : L.length ≤ 1000000) (hll : ∀ row ∈ L, row.length ≤ 1000000) (hxl : x.length ≤ 1000000) (hp0 : -1000 ≤ p) (hp1 : p ≤ 1000)
include hu hv hl hll hxl hp0 hp1
set_option maxRecDepth 100000 in
theorem spVector_any : Calls Tryd.prog 197 #[.int .i64 p, mxV n u, v] w fun e w' => e = .returned (.bool (vectorB p n L x)) ∧ w.grownBy w' none := by
  have HS := Lib.hid fun w' (hg : w.grownBy w' none) => spGood_any p n u L w' (hu.carry hg) hl hll hp0 hp1
  have HX := Lib.hid fun w' (hg : w.grownBy w' none) => fdIn_any p v x w' (hv.carry hg) hxl (by omega) (by omega)
  unfold mxV at *
  obtain ⟨a, c, rfl⟩ := hu.shape
  obtain ⟨xa, xc, rfl, hvx⟩ := hv
  have e0 := Lib.hid (alloc_heap_new w (.cells #[.int .i64 n, .slice a L.length c] 74))
  clear hu hvx hll
  cases h1 : spaceB p n L <;> cases h2 : x.all (elB p) <;> by_cases h3 : (x.length : Int) = n
  all_goals
    rw [h1] at HS
    rw [h2] at HX
    have HF := Lib.hid (show vectorB p n L x = (spaceB p n L && (decide ((x.length : Int) = n) && x.all (elB p))) from rfl)
    rw [h1, h2] at HF
    first
      | (have hd3 : decide ((x.length : Int) = n) = true := decide_eq_true h3
         have hb3 : ((x.length : Int) == n) = true := by rw [beq_iff_eq]; exact h3
         rw [hd3] at HF
         clear hd3)
      | (have hd3 : decide ((x.length : Int) = n) = false := decide_eq_false h3
         have hb3 : ((x.length : Int) == n) = false := by rw [beq_eq_false_iff_ne]; exact h3
         rw [hd3] at HF
         clear hd3)
    clear h1 h2 h3
    generalize L.length = l at *
    generalize x.length = xl at *
    go_enter Tryd.func197, Tryd.ntmps197
    go_wp2_with (first
      | (go_at_call 176
         with_reducible refine (HS.out _ (grownBy_alloc _ _ none)).mono ?_
         rintro e w1 ⟨rfl, hg⟩
         obtain ⟨c0, c1, f0, f1⟩ := bx (bx_on e0.out hg)
         have HG := Lib.hid ((grownBy_alloc w _ none).trans hg)
         clear hg)
      | (go_at_call 192; with_reducible refine (HX.out _ HG.out).mono ?_; rintro e w' ⟨rfl, rfl⟩))
    go_ret
    exact ⟨by rw [HF.out]; rfl, HG.out⟩

set_option maxRecDepth 100000 in
theorem sHasVector_no (hno : vectorB p n L x = false) : Calls Tryd.prog 74 #[.int .i64 p, mxV n u, v] w fun e w' => e = .returned (.tuple #[.bool false, .bool false]) ∧ w.grownBy w' none := by
  have HS := fun w' (hg : w.grownBy w' none) => spVector_any p n u v L x w' (hu.carry hg) (hv.carry hg) hl hll hxl hp0 hp1
  rw [hno] at HS
  have HS := Lib.hid HS
  unfold mxV at *
  obtain ⟨a, c, rfl⟩ := hu.shape
  obtain ⟨xa, xc, rfl, hvx⟩ := hv
  clear hu hvx hll hno
  generalize L.length = l at *
  generalize x.length = xl at *
  go_enter Tryd.func74, Tryd.ntmps74
  go_wp2_with (go_at_call 197
               with_reducible refine (HS.out _ (grownBy_alloc _ _ none)).mono ?_
               rintro e w1 ⟨rfl, hg⟩
               have HG := Lib.hid ((grownBy_alloc w _ none).trans hg)
               clear hg)
  go_ret2
  exact ⟨rfl, HG.out⟩
set_option maxRecDepth 100000 in
theorem sHasVector_yes (hb : vectorB p n L x = true) : Calls Tryd.prog 74 #[.int .i64 p, mxV n u, v] w fun e w' => e = .returned (.tuple #[.bool (hasB p n.toNat L x), .bool true]) ∧ w.grownBy w' none := by
  have HS := fun w' (hg : w.grownBy w' none) => spVector_any p n u v L x w' (hu.carry hg) (hv.carry hg) hl hll hxl hp0 hp1
  rw [hb] at HS
  have HS := Lib.hid HS
  obtain ⟨q, i, m, rfl, rfl, h1, h2, h3, h4, h5, h6, h7⟩ := vectorB_nat hb
  rw [Int.toNat_natCast]
  have HC := Lib.hid fun w' (hg : w.grownBy w' none) => spHas_any q m u v L x w' h1 (by omega) (hu.carry hg) (hv.carry hg) h5 h7 (by omega) (by omega)
  unfold mxV at *
  obtain ⟨a, c, rfl⟩ := hu.shape
  obtain ⟨xa, xc, rfl, hvx⟩ := hv
  have e0 := Lib.hid (alloc_heap_new w (.cells #[.int .i64 m, .slice a L.length c] 74))
  clear hu hvx hll hb h1 h5 h6 h7
  generalize hasB q m L x = hb at *
  generalize L.length = l at *
  generalize x.length = xl at *
  go_enter Tryd.func74, Tryd.ntmps74
  go_wp2_with (first
    | (go_at_call 197
       with_reducible refine (HS.out _ (grownBy_alloc _ _ none)).mono ?_
       rintro e w1 ⟨rfl, hg⟩
       obtain ⟨c0, c1, f0, f1⟩ := bx (bx_on e0.out hg)
       have HG := Lib.hid ((grownBy_alloc w _ none).trans hg)
       clear hg)
    | (go_at_call 200
       with_reducible refine (HC.out _ HG.out).mono ?_
       rintro e w2 ⟨rfl, hg⟩
       have HG2 := Lib.hid (HG.out.trans hg)
       clear hg))
  go_ret2
  exact ⟨rfl, HG2.out⟩
end
end Go.Proofs.YtpeaeminjbjlnaaDoor

/-
  The specification's coordinates and spans, checked. Conditions: the sizes are small.
-/
namespace Go.Proofs.YtpeaeminjbjlnaaDoor
open Go.RowKit
set_option linter.unusedVariables false

section
variable (p n : Int) (u v : Value) (L : List (List Int)) (x : List Int) (w : World) (hu : MatV w u L) (hv : IntsV w v x) (hl : L.length ≤ 1000000) (hll : ∀ row ∈ L, row.length ≤ 1000000) (hxl : x.length ≤ 1000000) (hp0 : -1000 ≤ p) (hp1 : p ≤ 1000)
include hu hv hl hll hxl hp0 hp1
set_option maxRecDepth 100000 in
theorem sCoordinatesOf_no (hno : vectorB p n L x = false) : Calls Tryd.prog 76 #[.int .i64 p, mxV n u, v] w fun e w' => e = .returned (.tuple #[nilS, .bool false]) ∧ w.grownBy w' none := by
  have HS := fun w' (hg : w.grownBy w' none) => spVector_any p n u v L x w' (hu.carry hg) (hv.carry hg) hl hll hxl hp0 hp1
  rw [hno] at HS
  have HS := Lib.hid HS
  unfold mxV at *
  unfold nilS
  obtain ⟨a, c, rfl⟩ := hu.shape
  obtain ⟨xa, xc, rfl, hvx⟩ := hv
  clear hu hvx hll hno
  generalize L.length = l at *
  generalize x.length = xl at *
  go_enter Tryd.func76, Tryd.ntmps76
  go_wp2_with (go_at_call 197
               with_reducible refine (HS.out _ (grownBy_alloc _ _ none)).mono ?_
               rintro e w1 ⟨rfl, hg⟩
               have HG := Lib.hid ((grownBy_alloc w _ none).trans hg)
               clear hg)
  go_ret2
  exact ⟨rfl, HG.out⟩
set_option maxRecDepth 100000 in
theorem sCoordinatesOf_yes (hb : vectorB p n L x = true) : Calls Tryd.prog 76 #[.int .i64 p, mxV n u, v] w fun e w' => ∃ o, e = .returned (.tuple #[o, .bool (hasB p n.toNat L x)]) ∧ OwnInts w.heap.size w' o (if hasB p n.toNat L x then coordsL L x else []) ∧ w.grownBy w' none := by
  have HS := fun w' (hg : w.grownBy w' none) => spVector_any p n u v L x w' (hu.carry hg) (hv.carry hg) hl hll hxl hp0 hp1
  rw [hb] at HS
  have HS := Lib.hid HS
  obtain ⟨q, i, m, rfl, rfl, h1, h2, h3, h4, h5, h6, h7⟩ := vectorB_nat hb
  rw [Int.toNat_natCast]
  have HC := Lib.hid fun w' (hg : w.grownBy w' none) => spHas_any q m u v L x w' h1 (by omega) (hu.carry hg) (hv.carry hg) h5 h7 (by omega) (by omega)
  have HD := Lib.hid fun w' (hg : w.grownBy w' none) => spCoords_any m u v L x w' (hu.carry hg) (hv.carry hg) (by omega) (by omega) h7.1 (fun row hrow => (h6 row hrow).1) (fun i hi => lead_lt h1 h5 hi)
  unfold mxV at *
  obtain ⟨a, c, rfl⟩ := hu.shape
  obtain ⟨xa, xc, rfl, hvx⟩ := hv
  have e0 := Lib.hid (alloc_heap_new w (.cells #[.int .i64 m, .slice a L.length c] 74))
  clear hu hvx hll hb h1 h5 h6 h7
  generalize coordsL L x = co at *
  generalize L.length = l at *
  generalize x.length = xl at *
  cases hbb : hasB q m L x
  all_goals
    rw [hbb] at HC
    clear hbb
    go_enter Tryd.func76, Tryd.ntmps76
    go_wp2_with (first
      | (go_at_call 197
         with_reducible refine (HS.out _ (grownBy_alloc _ _ none)).mono ?_
         rintro e w1 ⟨rfl, hg⟩
         obtain ⟨c0, c1, f0, f1⟩ := bx (bx_on e0.out hg)
         have E1 := Lib.hid (bx_on e0.out hg)
         have HG := Lib.hid ((grownBy_alloc w _ none).trans hg)
         clear hg)
      | (go_at_call 200
         with_reducible refine (HC.out _ HG.out).mono ?_
         rintro e w2 ⟨rfl, hg⟩
         obtain ⟨d0, d1, g0, g1⟩ := bx (bx_on E1.out hg)
         have HG2 := Lib.hid (HG.out.trans hg)
         clear hg)
      | (go_at_call 201
         with_reducible refine (HD.out _ HG2.out).mono ?_
         rintro e w3 ⟨o, rfl, ho, hg⟩
         have HG3 := Lib.hid (HG2.out.trans hg); have HO := Lib.hid ho
         clear ho hg))
    go_ret2
    first
      | exact ⟨nilS, rfl, OwnInts.nil _ _, HG2.out⟩
      | exact ⟨o, rfl, HO.out.base HG2.out.size, HG3.out⟩
end

set_option maxRecDepth 100000 in
theorem sSpanOf_no (p n : Int) (v : Value) (L : List (List Int)) (w : World) (hv : MatV w v L) (hl : L.length ≤ 1000000) (hll : ∀ row ∈ L, row.length ≤ 1000000) (hp0 : -1000 ≤ p) (hp1 : p ≤ 1000) (hno : spanB p n L = false) :
    Calls Tryd.prog 80 #[.int .i64 p, .int .i64 n, v] w fun e w' => e = .returned (.tuple #[mxV 0 nilS, .bool false]) ∧ w.grownBy w' none := by
  have hgr := grownBy_alloc w (.cells #[.int .i64 0, .slice none 0 0] 74) none
  have HT := Lib.hid fun w' => fdGood_any p w' hp0 hp1
  have HA := Lib.hid (spRows_any p n v L _ (hv.carry hgr) hl hll hp0 hp1)
  have HW := Lib.hid fun w' => l1In_any n 0 24 w'
  have HG := Lib.hid hgr
  unfold spanB at hno
  unfold mxV nilS
  obtain ⟨a, c, rfl⟩ := hv.shape
  clear hv hll hgr
  cases h1 : fldB p <;> cases h2 : decide (0 ≤ n ∧ n ≤ 24) <;> cases h4 : rowsB p n L <;> by_cases h3 : L.length ≤ 48
  all_goals
    rw [h1] at HT
    rw [h2] at HW
    rw [h4] at HA
    first
      | (exfalso; rw [h1, h2, h4, decide_eq_true h3] at hno; exact absurd hno (by decide))
      | (clear h1 h2 h4 hno
         generalize L.length = l at *
         try (have h3i : (48 : Int) < (l : Int) := by omega)
         go_enter Tryd.func80, Tryd.ntmps80
         go_wp2_with (first
           | (go_at_call 206; with_reducible refine (HT.out _).mono ?_; rintro e w' ⟨rfl, rfl⟩)
           | (go_at_call 137; with_reducible refine (HW.out _).mono ?_; rintro e w' ⟨rfl, rfl⟩)
           | (go_at_call 207; with_reducible refine HA.out.mono ?_; rintro e w' ⟨rfl, rfl⟩))
         refine bodyPost_ret_by (v := .tuple #[.agg #[.int .i64 0, .slice none 0 0], .bool false]) ?_ rfl ⟨rfl, HG.out⟩
         simp [results, go_sem, *])
set_option maxRecDepth 100000 in
theorem sSpanOf_yes (p n : Int) (v : Value) (L : List (List Int)) (w : World) (hv : MatV w v L) (hb : spanB p n L = true) :
    Calls Tryd.prog 80 #[.int .i64 p, .int .i64 n, v] w fun e w' => ∃ o, e = .returned (.tuple #[mxV n o, .bool true]) ∧ Pre w.heap.size w' o (reducedL p n.toNat L) ∧ w.grownBy w' none := by
  unfold spanB at hb
  simp only [Bool.and_eq_true, decide_eq_true_eq] at hb
  obtain ⟨h1, ⟨h2, h2'⟩, h3, h4⟩ := hb
  obtain ⟨b1, b2⟩ := fldB_bd h1
  obtain ⟨q, rfl⟩ := Int.eq_ofNat_of_zero_le (show 0 ≤ p by omega)
  obtain ⟨m, rfl⟩ := Int.eq_ofNat_of_zero_le h2
  haveI : NeZero q := ⟨by omega⟩
  rw [Int.toNat_natCast]
  have hok := rowsB_ok.1 h4
  have hgr := grownBy_alloc w (.cells #[.int .i64 0, .slice none 0 0] 74) none
  have hs : (w.alloc (.cells #[.int .i64 0, .slice none 0 0] 74)).heap.size = w.heap.size + 1 := by simp
  have HT := fun w' => fdGood_any q w' (by omega) (by omega)
  have HA := spRows_any q m v L _ (hv.carry hgr) (by omega) (fun row hrow => by rw [(hok row hrow).1]; omega) (by omega) (by omega)
  rw [h1] at HT
  rw [h4] at HA
  have HT := Lib.hid HT; have HA := Lib.hid HA
  have HW := l1In_any m 0 24
  rw [decide_eq_true (show (0 : Int) ≤ m ∧ (m : Int) ≤ 24 by omega)] at HW
  have HW := Lib.hid HW
  rw [fldB_nat] at h1
  have HR := Lib.hid (spReduce_any q m v L _ h1 (by omega) (hv.carry hgr) hok (by omega) (by omega))
  have HS := Lib.hid hs
  unfold mxV at *
  obtain ⟨a, c, rfl⟩ := hv.shape
  clear hv hgr hs h4 hok h1 b1
  have hl3 : ¬ (48 : Int) < (L.length : Int) := by omega
  generalize reducedL q m L = red at *
  generalize L.length = l at *
  go_enter Tryd.func80, Tryd.ntmps80
  go_wp2_with (first
    | (go_at_call 206; with_reducible refine (HT.out _).mono ?_; rintro e w' ⟨rfl, rfl⟩)
    | (go_at_call 137; with_reducible refine (HW.out _).mono ?_; rintro e w' ⟨rfl, rfl⟩)
    | (go_at_call 207; with_reducible refine HA.out.mono ?_; rintro e w' ⟨rfl, rfl⟩)
    | (go_at_call 168
       with_reducible refine HR.out.mono ?_
       rintro e w1 ⟨ra, rc, rfl, hp, hg⟩
       obtain ⟨hbl, hgw⟩ := box1 w _ _ hg
       have HP := Lib.hid hp; have HG := Lib.hid hgw
       have HZ := Lib.hid hg.size
       obtain ⟨c0, c1, f0, f1⟩ := bx hbl
       clear hp hg hbl hgw))
  refine bodyPost_ret_by (v := .tuple #[.agg #[.int .i64 m, .slice ra red.length rc], .bool true]) ?_ rfl ?_
  · simp [results, go_sem, *]
  · have hp := HP.out
    have hz := HZ.out
    rw [HS.out] at hp hz
    exact ⟨_, rfl, (hp.only (one_set (w := w1) w.heap.size (.int .i64 m) (.slice ra red.length rc)) (fun k hk => by have : k = w.heap.size := hk; omega)).base (by omega), box_end _ _ HG.out (by omega)⟩
end Go.Proofs.YtpeaeminjbjlnaaDoor

/-
  Sums of spaces. Conditions: small sizes.
-/
namespace Go.Proofs.YtpeaeminjbjlnaaDoor
open Go.RowKit
set_option linter.unusedVariables false

theorem spJoin_any (u v : Value) (A M : List (List Int)) (w : World) (hu : MatV w u A) (hv : MatV w v M) (ha : A.length ≤ 100000) (hm : M.length ≤ 100000) :
    Calls Tryd.prog 169 #[u, v] w fun e w' => ∃ o, e = .returned o ∧ MatV w' o (A ++ M) ∧ w.grownBy w' none := by
  have HU := Lib.hid hu; have HV := Lib.hid hv
  have HE := Lib.hid (((Sep.start w).emptyM).mat.mixed (w0 := w))
  have hgr := grownBy_alloc w (.cells #[] 24) none
  have hsz : w.heap.size ≤ (w.alloc (.cells #[] 24)).heap.size := by simp
  have HGR := Lib.hid hgr
  obtain ⟨ua, uc, rfl⟩ := hu.shape
  obtain ⟨va, vc, rfl⟩ := hv.shape
  clear hu hv hgr
  go_enter Tryd.func169, Tryd.ntmps169
  go_wp2_with (
    at_builtin
    first
      | (go_loud (refine app_rows rfl _ _ rfl rfl rfl HE.out HU.out (Nat.le_refl _) hsz HGR.out (Nat.zero_le _) (by omega) ?_)
         intro a1 c1 us1 w1 h1 h2 h3
         simp only [List.nil_append, List.length_nil, Nat.zero_add] at h1 ⊢
         have H1 := Lib.hid h1; have G1 := Lib.hid h3
         clear h1 h3)
      | (go_loud (refine app_rows rfl _ _ rfl rfl rfl H1.out HV.out (Nat.le_refl _) h2 G1.out (by omega) (by omega) ?_)
         intro a2 c2 us2 w2 h3 h4 h5
         have H2 := Lib.hid h3; have G2 := Lib.hid h5
         clear h3 h5))
  go_ret
  exact ⟨_, rfl, H2.out.read G2.out, G2.out⟩
def twoB (p n : Int) (A : List (List Int)) (m : Int) (M : List (List Int)) : Bool := spaceB p n A && (spaceB p m M && n == m)
set_option maxRecDepth 100000 in
theorem twoSpaces_any (p n m : Int) (u v : Value) (A M : List (List Int)) (w : World) (ht : Tab w) (hu : MatV w u A) (hv : MatV w v M) (ha : A.length ≤ 1000000) (haa : ∀ row ∈ A, row.length ≤ 1000000) (hm : M.length ≤ 1000000) (hmm : ∀ row ∈ M, row.length ≤ 1000000) :
    Calls Tryd.prog 165 #[.int .i64 p, mxV n u, mxV m v] w fun e w' => e = .returned (.bool (twoB p n A m M)) ∧ w.grownBy w' none := by
  have H1 := fun W (hg : w.grownBy W none) => isSpace_any p n u A W (ht.grown hg) (hu.carry hg) ha haa
  have H2 := fun W (hg : w.grownBy W none) => isSpace_any p m v M W (ht.grown hg) (hv.carry hg) hm hmm
  obtain ⟨ua, uc, rfl⟩ := hu.shape
  obtain ⟨va, vc, rfl⟩ := hv.shape
  unfold mxV at *
  generalize A.length = la at *
  generalize M.length = lm at *
  have hg0 := (grownBy_alloc w (.cells #[.int .i64 n, .slice ua la uc] 74) none).trans (grownBy_alloc (w.alloc (.cells #[.int .i64 n, .slice ua la uc] 74)) (.cells #[.int .i64 m, .slice va lm vc] 74) none)
  have e0 := (alloc_heap_old (w.alloc (.cells #[.int .i64 n, .slice ua la uc] 74)) (.cells #[.int .i64 m, .slice va lm vc] 74) w.heap.size (by simp)).trans (alloc_heap_new w _)
  have e1 := alloc_heap_new (w.alloc (.cells #[.int .i64 n, .slice ua la uc] 74)) (.cells #[.int .i64 m, .slice va lm vc] 74)
  rw [show (w.alloc (.cells #[.int .i64 n, .slice ua la uc] 74)).heap.size = w.heap.size + 1 by simp] at e1
  have HG0 := Lib.hid hg0; have E0 := Lib.hid e0; have E1 := Lib.hid e1
  clear hu hv haa hmm hg0 e0 e1
  cases h1 : spaceB p n A <;> cases h2 : spaceB p m M <;> by_cases h3 : n = m
  all_goals
    have HF := Lib.hid (show twoB p n A m M = _ by unfold twoB; rw [h1, h2])
    rw [h1] at H1
    rw [h2] at H2
    have HA := Lib.hid H1; have HB := Lib.hid H2
    clear H1 H2 h1 h2
    try subst h3
    go_enter Tryd.func165, Tryd.ntmps165
    go_wp2_with (
      go_at_call 171
      first
        | (with_reducible refine (HA.out _ HG0.out).mono ?_
           rintro e w1 ⟨rfl, g1⟩
           have HG1 := Lib.hid (HG0.out.trans g1)
           obtain ⟨x0, x1, _, _⟩ := bx (bx_on E0.out g1)
           obtain ⟨x2, x3, _, _⟩ := bx (bx_on E1.out g1)
           have E2 := Lib.hid (bx_on E0.out g1); have E3 := Lib.hid (bx_on E1.out g1)
           clear g1)
        | (with_reducible refine (HB.out _ HG1.out).mono ?_
           rintro e w2 ⟨rfl, g2⟩
           have HG2 := Lib.hid (HG1.out.trans g2)
           obtain ⟨x4, x5, _, _⟩ := bx (bx_on E2.out g2)
           obtain ⟨x6, x7, _, _⟩ := bx (bx_on E3.out g2)
           clear g2))
    go_ret
    first
      | (refine ⟨?_, HG2.out⟩; rw [HF.out]; simp; done)
      | (refine ⟨?_, HG2.out⟩; rw [HF.out]; simp [h3]; done)
      | (refine ⟨?_, HG1.out⟩; rw [HF.out]; simp; done)
set_option maxRecDepth 100000 in
theorem spTwo_any (p n m : Int) (u v : Value) (A M : List (List Int)) (w : World) (hu : MatV w u A) (hv : MatV w v M) (ha : A.length ≤ 1000000) (haa : ∀ row ∈ A, row.length ≤ 1000000) (hm : M.length ≤ 1000000) (hmm : ∀ row ∈ M, row.length ≤ 1000000) (hp0 : -1000 ≤ p) (hp1 : p ≤ 1000) :
    Calls Tryd.prog 167 #[.int .i64 p, mxV n u, mxV m v] w fun e w' => e = .returned (.bool (twoB p n A m M)) ∧ w.grownBy w' none := by
  have H1 := fun W (hg : w.grownBy W none) => spGood_any p n u A W (hu.carry hg) ha haa hp0 hp1
  have H2 := fun W (hg : w.grownBy W none) => spGood_any p m v M W (hv.carry hg) hm hmm hp0 hp1
  obtain ⟨ua, uc, rfl⟩ := hu.shape
  obtain ⟨va, vc, rfl⟩ := hv.shape
  unfold mxV at *
  generalize A.length = la at *
  generalize M.length = lm at *
  have hg0 := (grownBy_alloc w (.cells #[.int .i64 n, .slice ua la uc] 74) none).trans (grownBy_alloc (w.alloc (.cells #[.int .i64 n, .slice ua la uc] 74)) (.cells #[.int .i64 m, .slice va lm vc] 74) none)
  have e0 := (alloc_heap_old (w.alloc (.cells #[.int .i64 n, .slice ua la uc] 74)) (.cells #[.int .i64 m, .slice va lm vc] 74) w.heap.size (by simp)).trans (alloc_heap_new w _)
  have e1 := alloc_heap_new (w.alloc (.cells #[.int .i64 n, .slice ua la uc] 74)) (.cells #[.int .i64 m, .slice va lm vc] 74)
  rw [show (w.alloc (.cells #[.int .i64 n, .slice ua la uc] 74)).heap.size = w.heap.size + 1 by simp] at e1
  have HG0 := Lib.hid hg0; have E0 := Lib.hid e0; have E1 := Lib.hid e1
  clear hu hv haa hmm hg0 e0 e1
  cases h1 : spaceB p n A <;> cases h2 : spaceB p m M <;> by_cases h3 : n = m
  all_goals
    have HF := Lib.hid (show twoB p n A m M = _ by unfold twoB; rw [h1, h2])
    rw [h1] at H1
    rw [h2] at H2
    have HA := Lib.hid H1; have HB := Lib.hid H2
    clear H1 H2 h1 h2
    try subst h3
    go_enter Tryd.func167, Tryd.ntmps167
    go_wp2_with (
      go_at_call 176
      first
        | (with_reducible refine (HA.out _ HG0.out).mono ?_
           rintro e w1 ⟨rfl, g1⟩
           have HG1 := Lib.hid (HG0.out.trans g1)
           obtain ⟨x0, x1, _, _⟩ := bx (bx_on E0.out g1)
           obtain ⟨x2, x3, _, _⟩ := bx (bx_on E1.out g1)
           have E2 := Lib.hid (bx_on E0.out g1); have E3 := Lib.hid (bx_on E1.out g1)
           clear g1)
        | (with_reducible refine (HB.out _ HG1.out).mono ?_
           rintro e w2 ⟨rfl, g2⟩
           have HG2 := Lib.hid (HG1.out.trans g2)
           obtain ⟨x4, x5, _, _⟩ := bx (bx_on E2.out g2)
           obtain ⟨x6, x7, _, _⟩ := bx (bx_on E3.out g2)
           clear g2))
    go_ret
    first
      | (refine ⟨?_, HG2.out⟩; rw [HF.out]; simp; done)
      | (refine ⟨?_, HG2.out⟩; rw [HF.out]; simp [h3]; done)
      | (refine ⟨?_, HG1.out⟩; rw [HF.out]; simp; done)
end Go.Proofs.YtpeaeminjbjlnaaDoor

/-
  Sums of spaces: the two functions that return them. Conditions: small sizes.
-/
namespace Go.Proofs.YtpeaeminjbjlnaaDoor
open Go.RowKit
set_option linter.unusedVariables false

theorem Sep.end3 {w w' : World} {k4 k5 k6 : Nat} {c4 c5 c6 : Array Value} {t : TypeId} (h : Sep w' [BxA k6 c6 t, BxA k5 c5 t, BxA k4 c4 t, KeepA w]) : w.grownBy w' none := h.tl.tl.tl.hd
set_option maxRecDepth 100000 in
theorem sumOf_no (p n m : Int) (u v : Value) (A M : List (List Int)) (w : World) (ht : Tab w) (hu : MatV w u A) (hv : MatV w v M) (ha : A.length ≤ 1000000) (haa : ∀ row ∈ A, row.length ≤ 1000000) (hm : M.length ≤ 1000000) (hmm : ∀ row ∈ M, row.length ≤ 1000000) (hno : twoB p n A m M = false) :
    Calls Tryd.prog 51 #[.int .i64 p, mxV n u, mxV m v] w fun e w' => e = .returned (.tuple #[mxV 0 nilS, .bool false]) ∧ w.grownBy w' none := by
  have H1 := fun W (hg : w.grownBy W none) => twoSpaces_any p n m u v A M W (ht.grown hg) (hu.carry hg) (hv.carry hg) ha haa hm hmm
  rw [hno] at H1
  have H1 := Lib.hid H1
  obtain ⟨ua, uc, rfl⟩ := hu.shape
  obtain ⟨va, vc, rfl⟩ := hv.shape
  unfold mxV nilS at *
  generalize A.length = la at *
  generalize M.length = lm at *
  have HS := Lib.hid ((((Sep.start w).box #[.int .i64 n, .slice ua la uc] 74).box #[.int .i64 m, .slice va lm vc] 74).box #[.int .i64 0, .slice none 0 0] 74)
  have HG := Lib.hid HS.out.end3
  simp only [show ∀ (W : World) o, (W.alloc o).heap.size = W.heap.size + 1 from fun W o => by simp] at HS
  obtain ⟨y0, y1, y2, y3⟩ := bx HS.out.s3.hd
  obtain ⟨z0, z1, z2, z3⟩ := bx HS.out.s2.hd
  clear hu hv haa hmm hno
  go_enter Tryd.func51, Tryd.ntmps51
  go_wp2_with (
    go_at_call 165
    go_loud (with_reducible refine (H1.out _ HG.out).mono ?_)
    rintro e w1 ⟨rfl, g1⟩
    have HS1 := Lib.hid (HS.out.grown g1)
    obtain ⟨x0, x1, x2, x3⟩ := bx HS1.out.hd
    clear g1)
  refine bodyPost_ret_by (v := .tuple #[.agg #[.int .i64 0, .slice none 0 0], .bool false]) ?_ rfl ?_
  · simp [results, go_sem, *]
  · have h := (HS1.out.setB 0 (.int .i64 0)).setB 1 (.slice none 0 0)
    exact ⟨rfl, h.end3⟩
set_option maxRecDepth 100000 in
theorem sSumOf_no (p n m : Int) (u v : Value) (A M : List (List Int)) (w : World) (hu : MatV w u A) (hv : MatV w v M) (ha : A.length ≤ 1000000) (haa : ∀ row ∈ A, row.length ≤ 1000000) (hm : M.length ≤ 1000000) (hmm : ∀ row ∈ M, row.length ≤ 1000000) (hp0 : -1000 ≤ p) (hp1 : p ≤ 1000) (hno : twoB p n A m M = false) :
    Calls Tryd.prog 52 #[.int .i64 p, mxV n u, mxV m v] w fun e w' => e = .returned (.tuple #[mxV 0 nilS, .bool false]) ∧ w.grownBy w' none := by
  have H1 := fun W (hg : w.grownBy W none) => spTwo_any p n m u v A M W (hu.carry hg) (hv.carry hg) ha haa hm hmm hp0 hp1
  rw [hno] at H1
  have H1 := Lib.hid H1
  obtain ⟨ua, uc, rfl⟩ := hu.shape
  obtain ⟨va, vc, rfl⟩ := hv.shape
  unfold mxV nilS at *
  generalize A.length = la at *
  generalize M.length = lm at *
  have HS := Lib.hid ((((Sep.start w).box #[.int .i64 n, .slice ua la uc] 74).box #[.int .i64 m, .slice va lm vc] 74).box #[.int .i64 0, .slice none 0 0] 74)
  have HG := Lib.hid HS.out.end3
  simp only [show ∀ (W : World) o, (W.alloc o).heap.size = W.heap.size + 1 from fun W o => by simp] at HS
  obtain ⟨y0, y1, y2, y3⟩ := bx HS.out.s3.hd
  obtain ⟨z0, z1, z2, z3⟩ := bx HS.out.s2.hd
  clear hu hv haa hmm hno
  go_enter Tryd.func52, Tryd.ntmps52
  go_wp2_with (
    go_at_call 167
    go_loud (with_reducible refine (H1.out _ HG.out).mono ?_)
    rintro e w1 ⟨rfl, g1⟩
    have HS1 := Lib.hid (HS.out.grown g1)
    obtain ⟨x0, x1, x2, x3⟩ := bx HS1.out.hd
    clear g1)
  refine bodyPost_ret_by (v := .tuple #[.agg #[.int .i64 0, .slice none 0 0], .bool false]) ?_ rfl ?_
  · simp [results, go_sem, *]
  · have h := (HS1.out.setB 0 (.int .i64 0)).setB 1 (.slice none 0 0)
    exact ⟨rfl, h.end3⟩
theorem twoB_nat {p n m : Int} {A M : List (List Int)} (h : twoB p n A m M = true) : ∃ (q : Nat) (_ : NeZero q) (k : Nat), p = q ∧ n = k ∧ m = k ∧ fldN q = true ∧ q ≤ 97 ∧ k ≤ 24 ∧ A.length ≤ k ∧ M.length ≤ k ∧ IsRed q k A ∧ IsRed q k M ∧ RowsOk q k A ∧ RowsOk q k M := by
  unfold twoB at h
  simp only [Bool.and_eq_true, beq_iff_eq] at h
  obtain ⟨h1, h2, rfl⟩ := h
  obtain ⟨q, i, k, rfl, rfl, a1, a2, a3, a4, a5, a6⟩ := spaceB_nat h1
  obtain ⟨q', i', k', e1, e2, b1, b2, b3, b4, b5, b6⟩ := spaceB_nat h2
  obtain rfl : q = q' := by omega
  obtain rfl : k = k' := by omega
  exact ⟨q, i, k, rfl, rfl, rfl, a1, a2, a3, a4, b4, a5, b5, a6, b6⟩
set_option maxRecDepth 100000 in
set_option maxHeartbeats 1000000 in
theorem sumOf_yes (p n m : Int) (u v : Value) (A M : List (List Int)) (w : World) (ht : Tab w) (hu : MatV w u A) (hv : MatV w v M) (hb : twoB p n A m M = true) :
    Calls Tryd.prog 51 #[.int .i64 p, mxV n u, mxV m v] w fun e w' => ∃ o, e = .returned (.tuple #[mxV n o, .bool true]) ∧ MatV w' o (sumL p n.toNat A M) ∧ w.grownBy w' none := by
  have hb' := hb
  obtain ⟨q, iq, k, rfl, rfl, rfl, hf, hq, hk, hla, hlm, _, _, hA, hM⟩ := twoB_nat hb'
  rw [Int.toNat_natCast]
  have H1 := fun W (hg : w.grownBy W none) => twoSpaces_any q k k u v A M W (ht.grown hg) (hu.carry hg) (hv.carry hg) (by omega) (fun row hr => by rw [(hA row hr).1]; omega) (by omega) (fun row hr => by rw [(hM row hr).1]; omega)
  rw [hb] at H1
  have H1 := Lib.hid H1
  have H2 := Lib.hid fun W (hg : w.grownBy W none) => clones_any u A W (hu.carry hg) (by omega) (fun row hr => by rw [(hA row hr).1]; omega)
  have H3 := Lib.hid fun W o (h : MatV W o (A ++ M)) => span_any q k o (A ++ M) W hf (by omega) h (app_ok hA hM) (by rw [List.length_append]; omega) (by omega)
  have HV := Lib.hid fun W (hg : w.grownBy W none) => hv.carry hg
  obtain ⟨ua, uc, rfl⟩ := hu.shape
  obtain ⟨va, vc, rfl⟩ := hv.shape
  unfold mxV at *
  generalize hal : A.length = la at *
  generalize hml : M.length = lm at *
  have HAL := Lib.hid hal; have HML := Lib.hid hml
  have HS := Lib.hid ((((Sep.start w).box #[.int .i64 k, .slice ua la uc] 74).box #[.int .i64 k, .slice va lm vc] 74).box #[.int .i64 0, .slice none 0 0] 74)
  have HG := Lib.hid HS.out.end3
  simp only [show ∀ (W : World) o, (W.alloc o).heap.size = W.heap.size + 1 from fun W o => by simp] at HS
  obtain ⟨y0, y1, y2, y3⟩ := bx HS.out.s3.hd
  obtain ⟨z0, z1, z2, z3⟩ := bx HS.out.s2.hd
  clear hu hv hA hM hb hb' hal hml
  go_enter Tryd.func51, Tryd.ntmps51
  go_wp2_with (
    go_at_call 165
    go_loud (with_reducible refine (H1.out _ HG.out).mono ?_)
    rintro e w1 ⟨rfl, g1⟩
    have HS1 := Lib.hid (HS.out.grown g1)
    clear g1)
  have HSF := Lib.hid fun W (h : w1.grownBy W none) => HS1.out.grown h
  have HG1 := Lib.hid HS1.out.end3
  have hgd : w1.grownBy w1.drew none := ⟨rfl, rfl, rfl, Nat.le_refl _, fun _ _ _ => rfl⟩
  have HGD := Lib.hid hgd
  have HGW := Lib.hid (HG1.out.trans hgd)
  obtain ⟨p0, p1, p2, p3⟩ := bx (HSF.out _ hgd).s3.hd
  obtain ⟨p4, p5, p6, p7⟩ := bx (HSF.out _ hgd).s2.hd
  clear hgd
  go_wp2_with fail
  go_region_law (first
    | (try go_simp
       go_at_call 118
       go_loud (refine (H2.out _ HGW.out).mono ?_)
       rintro e w2 ⟨o, vs, rfl, ho, g2⟩
       obtain ⟨oa, oc, hoe, _, _⟩ := own_form ho
       subst hoe
       rw [HAL.out] at ho ⊢
       have HO := Lib.hid ho
       have HG2 := Lib.hid g2
       obtain ⟨q0, q1, q2, q3⟩ := bx (HSF.out _ (HGD.out.trans g2)).s3.hd
       obtain ⟨q4, q5, q6, q7⟩ := bx (HSF.out _ (HGD.out.trans g2)).s2.hd
       clear ho g2)
    | (go_loud (refine step_app_rows rfl _ _ rfl rfl rfl (HO.out.mixed (w0 := w1.drew)) (HV.out _ HGW.out) (Nat.le_refl _) HG2.out.size HG2.out (by rw [HAL.out]; omega) (by rw [HML.out]; omega) ?_)
       intro a3 c3 us3 w3 hmx hbz g3
       have HMX := Lib.hid (hmx.read g3)
       rw [HAL.out, HML.out] at HMX ⊢
       have HG3 := Lib.hid (HGW.out.trans g3)
       have HGE := Lib.hid (HGD.out.trans g3)
       have hsz := lt_of_blk (HSF.out _ (HGD.out.trans g3)).hd
       obtain ⟨r0, r1, r2, r3⟩ := bx (HSF.out _ (HGD.out.trans g3)).s3.hd
       obtain ⟨r4, r5, r6, r7⟩ := bx (HSF.out _ (HGD.out.trans g3)).s2.hd
       clear hmx hbz g3)
    | (try go_simp
       go_at_call 166
       go_loud (with_reducible refine (H3.out _ _ HMX.out).mono ?_)
       rintro e w4 ⟨o4, rfl, hp, g4⟩
       obtain ⟨ra, rc, rfl⟩ := hp.shape
       have HS4 := Lib.hid (HSF.out _ (HGE.out.trans g4))
       have HP := Lib.hid hp
       obtain ⟨t0, t1, t2, t3⟩ := bx (HSF.out _ (HGE.out.trans g4)).hd
       clear hp g4))
  all_goals
    have HE := Lib.hid ((HS4.out.setB 0 (.int .i64 k)).setB 1 (.slice ra (reducedL q k (A ++ M)).length rc)).end3
    have HM := Lib.hid ((HP.out.only (one_set (w := w4) (w.heap.size + 1 + 1) (.int .i64 k) (.slice ra (reducedL q k (A ++ M)).length rc)) (fun k' hk' => by have : k' = w.heap.size + 1 + 1 := hk'; omega)).read)
    generalize (reducedL q k (A ++ M)).length = rl at *
    go_wp2
    refine bodyPost_ret_by (v := .tuple #[.agg #[.int .i64 k, .slice ra rl rc], .bool true]) ?_ rfl ⟨_, rfl, HM.out, HE.out⟩
    simp [results, go_sem, *]
end Go.Proofs.YtpeaeminjbjlnaaDoor

/-
  Preimages that are refused. Conditions: small sizes.
-/
namespace Go.Proofs.YtpeaeminjbjlnaaDoor
open Go.RowKit
set_option linter.unusedVariables false

def preB (p n : Int) (A : List (List Int)) (c : Int) (M : List (List Int)) : Bool := spaceB p n A && (matB p c M && c == n)
set_option maxRecDepth 100000 in
theorem preimageOf_no (p n m : Int) (u v : Value) (A M : List (List Int)) (w : World) (ht : Tab w) (hu : MatV w u A) (hv : MatV w v M) (ha : A.length ≤ 1000000) (haa : ∀ row ∈ A, row.length ≤ 1000000) (hm : M.length ≤ 1000000) (hmm : ∀ row ∈ M, row.length ≤ 1000000) (hno : preB p n A m M = false) :
    Calls Tryd.prog 58 #[.int .i64 p, mxV n u, mxV m v] w fun e w' => e = .returned (.tuple #[mxV 0 nilS, .bool false]) ∧ w.grownBy w' none := by
  have H1 := fun W (hg : w.grownBy W none) => isSpace_any p n u A W (ht.grown hg) (hu.carry hg) ha haa
  have H2 := fun W (hg : w.grownBy W none) => isMatrix_any p m v M W (ht.grown hg) (hv.carry hg) hm hmm
  obtain ⟨ua, uc, rfl⟩ := hu.shape
  obtain ⟨va, vc, rfl⟩ := hv.shape
  unfold mxV nilS at *
  unfold preB at hno
  generalize A.length = la at *
  generalize M.length = lm at *
  have HS := Lib.hid ((((Sep.start w).box #[.int .i64 n, .slice ua la uc] 74).box #[.int .i64 m, .slice va lm vc] 39).box #[.int .i64 0, .slice none 0 0] 74)
  have HG := Lib.hid (show w.grownBy _ none from HS.out.tl.tl.tl.hd)
  simp only [show ∀ (W : World) o, (W.alloc o).heap.size = W.heap.size + 1 from fun W o => by simp] at HS
  obtain ⟨y0, y1, y2, y3⟩ := bx HS.out.s3.hd
  obtain ⟨z0, z1, z2, z3⟩ := bx HS.out.s2.hd
  obtain ⟨z4, z5, z6, z7⟩ := bx HS.out.hd
  clear hu hv haa hmm
  cases h1 : spaceB p n A <;> cases h2 : matB p m M <;> by_cases h3 : m = n
  all_goals
    rw [h1] at H1
    rw [h2] at H2
    first
      | (exfalso; rw [h1, h2] at hno; simp [h3] at hno; done)
      | (have HA := Lib.hid H1; have HB := Lib.hid H2
         clear H1 H2 h1 h2 hno
         try subst h3
         go_enter Tryd.func58, Tryd.ntmps58
         go_wp2_with (first
           | (go_at_call 171
              with_reducible refine (HA.out _ HG.out).mono ?_
              rintro e w1 ⟨rfl, g1⟩
              have HS1 := Lib.hid (HS.out.grown g1)
              have HG1 := Lib.hid (HG.out.trans g1)
              obtain ⟨x0, x1, x2, x3⟩ := bx HS1.out.hd
              obtain ⟨a0, a1, a2, a3⟩ := bx HS1.out.s3.hd
              obtain ⟨b0, b1, b2, b3⟩ := bx HS1.out.s2.hd
              have HQ := Lib.hid ((HS1.out.setB 0 (.int .i64 0)).setB 1 (.slice none 0 0))
              clear g1)
           | (go_at_call 117
              with_reducible refine (HB.out _ HG1.out).mono ?_
              rintro e w2 ⟨rfl, g2⟩
              have HS2 := Lib.hid (HS1.out.grown g2)
              obtain ⟨d0, d1, d2, d3⟩ := bx HS2.out.hd
              obtain ⟨e0, e1, e2, e3⟩ := bx HS2.out.s3.hd
              obtain ⟨f0, f1, f2, f3⟩ := bx HS2.out.s2.hd
              have HQ := Lib.hid ((HS2.out.setB 0 (.int .i64 0)).setB 1 (.slice none 0 0))
              clear g2))
         refine bodyPost_ret_by (v := .tuple #[.agg #[.int .i64 0, .slice none 0 0], .bool false]) ?_ rfl ?_
         · simp [results, go_sem, *]
         · exact ⟨rfl, HQ.out.tl.tl.tl.hd⟩)
set_option maxRecDepth 100000 in
theorem sPreimageOf_no (p n m : Int) (u v : Value) (A M : List (List Int)) (w : World) (hu : MatV w u A) (hv : MatV w v M) (ha : A.length ≤ 1000000) (haa : ∀ row ∈ A, row.length ≤ 1000000) (hm : M.length ≤ 1000000) (hmm : ∀ row ∈ M, row.length ≤ 1000000) (hp0 : -1000 ≤ p) (hp1 : p ≤ 1000) (hno : preB p n A m M = false) :
    Calls Tryd.prog 59 #[.int .i64 p, mxV n u, mxV m v] w fun e w' => e = .returned (.tuple #[mxV 0 nilS, .bool false]) ∧ w.grownBy w' none := by
  have H1 := fun W (hg : w.grownBy W none) => spGood_any p n u A W (hu.carry hg) ha haa hp0 hp1
  have H2 := fun W (hg : w.grownBy W none) => mxGood_any p m v M W (hv.carry hg) hm hmm hp0 hp1
  obtain ⟨ua, uc, rfl⟩ := hu.shape
  obtain ⟨va, vc, rfl⟩ := hv.shape
  unfold mxV nilS at *
  unfold preB at hno
  generalize A.length = la at *
  generalize M.length = lm at *
  have HS := Lib.hid ((((Sep.start w).box #[.int .i64 n, .slice ua la uc] 74).box #[.int .i64 m, .slice va lm vc] 39).box #[.int .i64 0, .slice none 0 0] 74)
  have HG := Lib.hid (show w.grownBy _ none from HS.out.tl.tl.tl.hd)
  simp only [show ∀ (W : World) o, (W.alloc o).heap.size = W.heap.size + 1 from fun W o => by simp] at HS
  obtain ⟨y0, y1, y2, y3⟩ := bx HS.out.s3.hd
  obtain ⟨z0, z1, z2, z3⟩ := bx HS.out.s2.hd
  obtain ⟨z4, z5, z6, z7⟩ := bx HS.out.hd
  clear hu hv haa hmm
  cases h1 : spaceB p n A <;> cases h2 : matB p m M <;> by_cases h3 : m = n
  all_goals
    rw [h1] at H1
    rw [h2] at H2
    first
      | (exfalso; rw [h1, h2] at hno; simp [h3] at hno; done)
      | (have HA := Lib.hid H1; have HB := Lib.hid H2
         clear H1 H2 h1 h2 hno
         try subst h3
         go_enter Tryd.func59, Tryd.ntmps59
         go_wp2_with (first
           | (go_at_call 176
              with_reducible refine (HA.out _ HG.out).mono ?_
              rintro e w1 ⟨rfl, g1⟩
              have HS1 := Lib.hid (HS.out.grown g1)
              have HG1 := Lib.hid (HG.out.trans g1)
              obtain ⟨x0, x1, x2, x3⟩ := bx HS1.out.hd
              obtain ⟨a0, a1, a2, a3⟩ := bx HS1.out.s3.hd
              obtain ⟨b0, b1, b2, b3⟩ := bx HS1.out.s2.hd
              have HQ := Lib.hid ((HS1.out.setB 0 (.int .i64 0)).setB 1 (.slice none 0 0))
              clear g1)
           | (go_at_call 121
              with_reducible refine (HB.out _ HG1.out).mono ?_
              rintro e w2 ⟨rfl, g2⟩
              have HS2 := Lib.hid (HS1.out.grown g2)
              obtain ⟨d0, d1, d2, d3⟩ := bx HS2.out.hd
              obtain ⟨e0, e1, e2, e3⟩ := bx HS2.out.s3.hd
              obtain ⟨f0, f1, f2, f3⟩ := bx HS2.out.s2.hd
              have HQ := Lib.hid ((HS2.out.setB 0 (.int .i64 0)).setB 1 (.slice none 0 0))
              clear g2))
         refine bodyPost_ret_by (v := .tuple #[.agg #[.int .i64 0, .slice none 0 0], .bool false]) ?_ rfl ?_
         · simp [results, go_sem, *]
         · exact ⟨rfl, HQ.out.tl.tl.tl.hd⟩)
end Go.Proofs.YtpeaeminjbjlnaaDoor

/-
  Preimages and images of spaces, for lists of lists of integers. Plain mathematics. Conditions: the number of elements is a field of the program's kind; rows of one length with elements.
-/
namespace Go.Proofs.YtpeaeminjbjlnaaDoor
open La
set_option linter.unusedVariables false
section pre
variable {p : Nat} [NeZero p]

/-- the program's rows of the preimage, before they are reduced -/
def preRows (p : Int) (n : Nat) (R M : List (List Int)) : List (List Int) := (kernelL p n (R ++ M)).map fun x => x.take R.length
def preL (p : Int) (n : Nat) (R M : List (List Int)) : List (List Int) := reducedL p R.length (preRows p n R M)
/-- the specification's conditions -/
def condRow (p : Int) (R : List (List Int)) (w : List Int) : List Int := R.map fun r => dotP p r w
def condsL (p : Int) (n : Nat) (R M : List (List Int)) : List (List Int) := (orthL p M n).map (condRow p R)
def imageL (p : Int) (n : Nat) (K R : List (List Int)) : List (List Int) := reducedL p n (timesL p K R n)

omit [NeZero p] in
theorem take_ok' {n k : Nat} {x : List Int} (h : VecOk p n x) (hk : k ≤ n) : VecOk p k (x.take k) :=
  ⟨by rw [List.length_take, h.1]; omega, fun z hz => h.2 z (List.mem_of_mem_take hz)⟩
theorem preRows_ok {n : Nat} {R M : List (List Int)} (hf : fldN p = true) (hR : RowsOk p n R) (hM : RowsOk p n M) : RowsOk p R.length (preRows p n R M) := by
  intro r hr
  obtain ⟨x, hx, rfl⟩ := List.mem_map.1 hr
  have := (kernelL_red hf (app_ok hR hM)).1 x hx
  exact take_ok' this (by rw [List.length_append]; omega)
theorem mx_preRows {n : Nat} {R M : List (List Int)} {i j : Nat} (hi : i < (kernelL p n (R ++ M)).length) (hj : j < R.length) : mx p (preRows p n R M) i j = mx p (kernelL p n (R ++ M)) i j := by
  rw [mx_at (by unfold preRows; rw [List.length_map]; exact hi), mx_at hi]
  simp only [preRows, List.getElem_map]
  exact vec_take hj
theorem preRows_span {n : Nat} {R M : List (List Int)} (hf : fldN p = true) (hR : RowsOk p n R) (hM : RowsOk p n M) (v : Vec p) : Spn p R.length (preRows p n R M) v ↔ Spn p n M (comb R.length v (mx p R)) := by
  have hk := kernelL_span hf (app_ok hR hM)
  have hlen : (preRows p n R M).length = (kernelL p n (R ++ M)).length := by simp [preRows]
  constructor
  · rintro ⟨y, hy⟩
    have h1 := (hk (comb (kernelL p n (R ++ M)).length y (mx p (kernelL p n (R ++ M))))).1 ⟨y, fun _ _ => rfl⟩
    refine ⟨fun k => - comb (kernelL p n (R ++ M)).length y (mx p (kernelL p n (R ++ M))) (R.length + k), fun j hj => ?_⟩
    have h2 := h1 j hj
    rw [comb_app] at h2
    rw [comb_neg]
    have e : comb R.length v (mx p R) j = comb R.length (comb (kernelL p n (R ++ M)).length y (mx p (kernelL p n (R ++ M)))) (mx p R) j := by
      refine S_congr fun i hi => ?_
      rw [hy i hi, hlen]
      congr 1
      exact S_congr fun k hk => by rw [mx_preRows hk hi]
    rw [e]
    grind
  · rintro ⟨c, hc⟩
    let x : Vec p := fun i => if i < R.length then v i else - c (i - R.length)
    have hx : Spn p (R ++ M).length (kernelL p n (R ++ M)) x := by
      rw [hk]
      intro j hj
      rw [comb_app]
      have e1 : comb R.length x (mx p R) j = comb R.length v (mx p R) j := S_congr fun i hi => by simp only [x, hi, if_true]
      have e2 : comb M.length (fun i => x (R.length + i)) (mx p M) j = - comb R.length v (mx p R) j := by
        rw [hc j hj, ← comb_neg]
        exact S_congr fun i hi => by simp only [x, show ¬ R.length + i < R.length by omega, if_false, show R.length + i - R.length = i by omega]
      rw [e1, e2]
      grind
    obtain ⟨y, hy⟩ := hx
    refine ⟨y, fun j hj => ?_⟩
    rw [hlen]
    have h1 := hy j (by rw [List.length_append]; omega)
    simp only [x, hj, if_true] at h1
    rw [h1]
    exact S_congr fun i hi => by rw [mx_preRows hi hj]
theorem pre_span {n : Nat} {R M : List (List Int)} (hf : fldN p = true) (hR : RowsOk p n R) (hM : RowsOk p n M) (v : Vec p) : Spn p R.length (preL p n R M) v ↔ Spn p n M (comb R.length v (mx p R)) := by
  unfold preL
  rw [reducedL_span hf (preRows_ok hf hR hM), preRows_span hf hR hM]
theorem pre_red {n : Nat} {R M : List (List Int)} (hf : fldN p = true) (hR : RowsOk p n R) (hM : RowsOk p n M) : IsRed p R.length (preL p n R M) := reducedL_red hf (preRows_ok hf hR hM)
theorem condRow_ok (R : List (List Int)) (w : List Int) : VecOk p R.length (condRow p R w) := by
  refine ⟨by simp [condRow], fun x hx => ?_⟩
  obtain ⟨r, _, rfl⟩ := List.mem_map.1 hx
  exact dotP_bd _ _
theorem conds_ok {n : Nat} {R M : List (List Int)} : RowsOk p R.length (condsL p n R M) := by
  intro r hr
  obtain ⟨w, _, rfl⟩ := List.mem_map.1 hr
  exact condRow_ok _ _
theorem vec_condRow {n j : Nat} {R : List (List Int)} {w : List Int} (hR : RowsOk p n R) (hj : j < R.length) : vec p (condRow p R w) j = S n (fun c => mx p R j c * vec p w c) := by
  rw [vec_at (by simpa [condRow] using hj)]
  simp only [condRow, List.getElem_map]
  rw [toF_dotP, (hR _ (List.getElem_mem hj)).1, mx_at hj]
/-- The program's preimage is the specification's. -/
theorem pre_eq {n : Nat} {R M : List (List Int)} (hf : fldN p = true) (hR : RowsOk p n R) (hM : IsRed p n M) : preL p n R M = orthL p (condsL p n R M) R.length := by
  refine red_unique hf (pre_red hf hR hM.1) (orth_red hf conds_ok) fun v => ?_
  rw [pre_span hf hR hM.1, orth_span hf conds_ok, sep_exists hf hM]
  have hl : (condsL p n R M).length = (orthL p M n).length := by simp [condsL]
  have key : ∀ w : List Int, S R.length (fun j => v j * vec p (condRow p R w) j) = S n (fun j => vec p w j * comb R.length v (mx p R) j) := by
    intro w
    have e1 : ∀ j, j < R.length → v j * vec p (condRow p R w) j = S n (fun c => v j * (mx p R j c * vec p w c)) := fun j hj => by rw [vec_condRow hR hj, S_mul]
    rw [S_congr e1, S_comm]
    refine S_congr fun c hc => ?_
    unfold comb
    rw [← S_mul]
    exact S_congr fun j hj => by grind
  unfold Perp
  constructor
  · intro h i hi
    rw [hl] at hi
    rw [mx_at (by rw [hl]; exact hi)]
    simp only [condsL, List.getElem_map]
    rw [key]
    exact h _ (List.getElem_mem hi)
  · intro h w hw
    obtain ⟨i, hi, rfl⟩ := List.getElem_of_mem hw
    have := h i (by rw [hl]; exact hi)
    rw [mx_at (by rw [hl]; exact hi)] at this
    simp only [condsL, List.getElem_map] at this
    rw [key] at this
    exact this
/-- The image of the preimage lies in the space. -/
theorem image_in {n : Nat} {R M : List (List Int)} (hf : fldN p = true) (hR : RowsOk p n R) (hM : IsRed p n M) {v : Vec p} (hv : Spn p n (imageL p n (preL p n R M) R) v) : Spn p n M v := by
  unfold imageL at hv
  rw [reducedL_span hf (timesL_ok (lt_p hf) hR)] at hv
  refine In.trans hv fun i hi => ?_
  rw [timesL_len] at hi
  have h1 := (pre_span hf hR hM.1 (mx p (preL p n R M) i)).1 (In.row hi)
  exact h1.congr fun j hj => mx_timesL (lt_p hf) hR hi hj
theorem has_row {n : Nat} {M K : List (List Int)} (hf : fldN p = true) (hM : IsRed p n M) (hK : RowsOk p n K) (h : ∀ v, Spn p n K v → Spn p n M v) {i : Nat} (hi : i < K.length) : hasB p n M (K.getD i []) = true := by
  rw [hasB_iff hf hM (hK _ (getD_mem hi))]
  exact h _ (In.row (A := mx p K) hi)
end pre
end Go.Proofs.YtpeaeminjbjlnaaDoor

/-
  Identities, combinations, products, inverses. Conditions: lengths are small.
-/
import Derived.Test.YtpeaeminjbjlnaaDoorMatFn4
namespace Go.Proofs.YtpeaeminjbjlnaaDoor
open Go.RowKit
set_option linter.unusedVariables false

def combTo (p : Int) (x : List Int) (L : List (List Int)) (n : Nat) : Nat → List Int
  | 0 => List.replicate n 0
  | k + 1 => addT p (combTo p x L n k) (x.getD k 0) (L.getD k [])
theorem combTo_ok {p n : Nat} [NeZero p] {x : List Int} {L : List (List Int)} (hp : 1 < p) (hL : RowsOk p n L) : ∀ k, k ≤ L.length → VecOk p n (combTo p x L n k) := by
  intro k
  induction k with
  | zero =>
    intro _
    refine ⟨by simp [combTo], fun z hz => ?_⟩
    have := List.eq_of_mem_replicate hz
    omega
  | succ k ih =>
    intro hk
    exact addT_ok _ (ih (by omega)).1 (hL _ (getD_mem (show k < L.length by omega))).1

set_option maxRecDepth 100000 in
set_option maxHeartbeats 1000000 in
theorem combine_any (p : Nat) [NeZero p] (u v : Value) (x : List Int) (L : List (List Int)) (n : Nat) (w : World) (hp : 1 < p) (hp2 : p ≤ 1000) (hu : IntsV w u x) (hv : MatV w v L) (hxl : x.length = L.length) (hx : ∀ z ∈ x, 0 ≤ z ∧ z < p) (hL : RowsOk p n L) (hm : L.length ≤ 1000) (hn : n ≤ 1000) :
    Calls Tryd.prog 170 #[.int .i64 p, u, v, .int .i64 n] w fun e w' => ∃ o, e = .returned o ∧ OwnInts w.heap.size w' o (combTo p x L n L.length) ∧ w.grownBy w' none := by
  have HU := Lib.hid hu; have HV := Lib.hid hv; have HX := Lib.hid hx; have HL := Lib.hid hL
  have HOK := Lib.hid (combTo_ok (x := x) hp hL)
  obtain ⟨ua, uc, rfl, hui⟩ := hu
  obtain ⟨va, vc, rfl⟩ := hv.shape
  clear hv hx hL hui
  have HXL := Lib.hid hxl
  rw [hxl]
  clear hxl
  generalize hlen : L.length = m at *
  have HLEN := Lib.hid hlen
  clear hlen
  go_enter Tryd.func170, Tryd.ntmps170
  go_wp2_with (
    go_at_call 243
    refine (zeros_any n w (by omega)).mono ?_
    rintro e w1 ⟨o, rfl, ho, hg⟩
    obtain ⟨oa, oc, hoe⟩ := own_shape ho
    rw [List.length_replicate] at hoe
    subst hoe
    have HO1 := Lib.hid ho; have HG1 := Lib.hid hg
    clear ho hg)
  go_loopw [16] (fun i wr => ∃ k : Nat, k ≤ m ∧ i = .int .i64 k ∧ OwnInts w.heap.size wr (.slice oa n oc) (combTo p x L n k) ∧ Below w.heap.size w wr) (fun i _ => m - (intOf i).toNat)
  case atStart => exact ⟨0, by omega, rfl, HO1.out, Below.grown (Below.refl _ w) HG1.out (Nat.le_refl _) (by simp)⟩
  case round =>
    obtain ⟨k, hk, rfl, ho, hb⟩ := hrel
    have HO := Lib.hid ho; have HB := Lib.hid hb
    clear ho hb
    by_cases hlt : k < m
    · have hkl : k < L.length := by rw [HLEN.out]; exact hlt
      obtain ⟨d, r, c, rfl, hs, hd, hcell, hrow⟩ := HV.out.row hkl
      have hcell2 := (HB.out.cell (p := ⟨d.block, d.off + k, none⟩) hd).trans hcell
      clear hcell
      obtain ⟨db, dof, _⟩ := d
      simp only at hs hcell2
      subst hs
      have hkx : k < x.length := by rw [HXL.out]; exact hlt
      obtain ⟨xd, rfl, hs, hxd, hxc⟩ := HU.out.at hkx
      have hxc := (HB.out.cell (p := ⟨xd.block, xd.off + k, none⟩) hxd).trans hxc
      obtain ⟨xb, xof, _⟩ := xd
      simp only at hs hxc
      subst hs
      have hrok := HL.out _ (List.getElem_mem hkl)
      rw [hrok.1] at hcell2 hrow
      have hxz := HX.out _ (List.getElem_mem hkx)
      have hnext : combTo p x L n (k + 1) = addT p (combTo p x L n k) x[k] L[k] := by
        show addT p (combTo p x L n k) (x.getD k 0) (L.getD k []) = _
        rw [getD_lt hkx, getD_row hkl]
      have HN := Lib.hid hnext
      have hcok := HOK.out k hk
      have A := Lib.hid (addTimes_any p x[k] _ _ _ _ w.heap.size wr HO.out (hrow.carry (grown_of_below HB.out)) (fun hne q h1 h2 => by
        have h3 := (HO.out.lt q h1).1
        obtain ⟨d', hd', _, hlt', _⟩ : ∃ d' : Addr, r = some d' ∧ d'.spot = none ∧ d'.block < w.heap.size ∧ True := by
          obtain ⟨a', c', he, hi⟩ := hrow
          cases he
          have hne' : L[k] ≠ [] := by
            intro h
            exact hne (List.eq_nil_of_length_eq_zero (hcok.1.trans (by rw [h]; rfl)))
          obtain ⟨d', h4, h5, h6, _⟩ := hi hne'
          exact ⟨d', h4, h5, h6, trivial⟩
        subst hd'
        simp only [Value.blk', Option.some.injEq] at h2
        omega) (by rw [hcok.1, hrok.1]) (by rw [hcok.1]; omega) (by omega) (by omega) (by omega) (by omega) (fun z hz => by have := hcok.2 z hz; omega) (fun z hz => by have := hrok.2 z hz; omega))
      clear hnext hcok hrow hrok
      generalize x[k] = xk at *
      go_wp2_with (
        go_at_call 244
        with_reducible refine A.out.mono ?_
        rintro e w2 ⟨rfl, h1, h2⟩
        have H1 := Lib.hid h1; have H2 := Lib.hid h2
        clear h1 h2)
      go_roundw
      case rel => exact ⟨k + 1, by omega, by go_num, by rw [HN.out]; exact H1.out, HB.out.trans (H2.out.below HB.out.size fun q hq => (HO.out.lt q hq).1)⟩
      case measure => simp [intOf]; omega
    · have hkm : k = m := by omega
      subst hkm
      go_wp2
      go_ret
      exact ⟨_, rfl, HO.out, grown_of_below HB.out⟩

end Go.Proofs.YtpeaeminjbjlnaaDoor
